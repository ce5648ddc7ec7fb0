/- The relation between the interpreter's state and the machine's, and how it is kept. -/
import Derived.Test.YtmobgcpamblhhaaViDef
set_option linter.unusedVariables false
set_option linter.unusedSimpArgs false
namespace Go.Vi

/-- Nothing that was there has turned, but for the blocks of X. -/
structure Fr (w w' : World) (X : Nat → Prop) : Prop where
  os : w'.os = w.os
  tape : w'.tape = w.tape
  output : w'.output = w.output
  size : w.heap.size ≤ w'.heap.size
  heap : ∀ b, b < w.heap.size → ¬ X b → w'.heap[b]? = w.heap[b]?
  shape : ∀ b x, w.shape? b = some x → w'.shape? b = some x

theorem Fr.refl (w : World) (X : Nat → Prop) : Fr w w X := ⟨rfl, rfl, rfl, Nat.le_refl _, fun _ _ _ => rfl, fun _ _ h => h⟩
theorem Fr.trans {a b c : World} {X : Nat → Prop} (h : Fr a b X) (k : Fr b c (fun i => X i ∨ a.heap.size ≤ i)) : Fr a c X :=
  ⟨k.os.trans h.os, k.tape.trans h.tape, k.output.trans h.output, Nat.le_trans h.size k.size,
   fun i hi hx => (k.heap i (Nat.lt_of_lt_of_le hi h.size) (by rintro (h1 | h1); exact hx h1; omega)).trans (h.heap i hi hx), fun i x hx => k.shape i x (h.shape i x hx)⟩
theorem Fr.mono {a b : World} {X Y : Nat → Prop} (h : Fr a b X) (hxy : ∀ i, i < a.heap.size → X i → Y i) : Fr a b Y :=
  ⟨h.os, h.tape, h.output, h.size, fun i hi hy => h.heap i hi fun hx => hy (hxy i hi hx), h.shape⟩

structure Inv (W0 : World) (X : Nat → Prop) (ok0 : CellOk) (nt : Nat) (s : St) (a : Act) (w : World) (ok : CellOk) (loc : Loc) : Prop where
  fr : Fr W0 w X
  okold : ∀ b o, b < W0.heap.size → ok b o → ok0 b o ∨ X b
  ok0 : ∀ b o, ok0 b o → ok b o
  own : Own w ok loc s.σ
  lnew : ∀ i b, loc i = some b → W0.heap.size ≤ b ∨ X b
  slots : ∀ t, VRel w ok loc (s.slots t) (a.tmps.getD t undef)
  defers : a.defers = []
  nt : a.tmps.size = nt

theorem cell_of_heap {w w' : World} {b : Nat} (h : w'.heap[b]? = w.heap[b]?) (o : Nat) : w'.cell? ⟨b, o, none⟩ = w.cell? ⟨b, o, none⟩ := by
  simp only [World.cell?, h]
theorem shape_of_heap {w w' : World} {b : Nat} (h : w'.heap[b]? = w.heap[b]?) : w'.shape? b = w.shape? b := by
  simp only [World.shape?, h]
theorem lt_of_cell {w : World} {b o : Nat} {v : Value} (h : w.cell? ⟨b, o, none⟩ = some v) : b < w.heap.size := World.block_lt_of_cell? w _ h
theorem lt_of_shape {w : World} {b : Nat} {x} (h : w.shape? b = some x) : b < w.heap.size := by
  unfold World.shape? at h
  cases hb : w.heap[b]? with
  | none => simp [hb] at h
  | some o => exact (Array.getElem?_eq_some_iff.1 hb).1
theorem lt_of_heap {w : World} {b : Nat} {x} (h : w.heap[b]? = some x) : b < w.heap.size := (Array.getElem?_eq_some_iff.1 h).1

/-- What is not owned has not turned: all that is known of it stands. -/
theorem Ext.of_heap {w w' : World} {ok : CellOk} {loc : Loc} (hs : ∀ b, b < w.heap.size → (∃ k, ok b k) → w'.heap[b]? = w.heap[b]?) (hsh : ∀ b x, w.shape? b = some x → w'.shape? b = some x) :
    Ext w ok loc w' ok loc where
  keep := ⟨fun b o v ho hc => by rw [cell_of_heap (hs b (lt_of_cell hc) ⟨o, ho⟩)]; exact hc, fun b es c ho hc => by rw [hs b (lt_of_heap hc) ⟨0, ho⟩]; exact hc, fun _ _ h => h⟩
  loc := fun _ _ h => h
  shape := hsh

theorem ORel.lt {w ok loc o b} (r : ORel w ok loc o b) : b < w.heap.size := by
  cases r <;> exact lt_of_heap (by assumption)

/-- New things are known; those that are known stay. -/
theorem Ext.grow {w w' : World} {ok : CellOk} {loc loc' : Loc} (h : Ext w ok loc w' ok loc) (hl : ∀ i b, loc i = some b → loc' i = some b) : Ext w ok loc w' ok loc' :=
  ⟨h.keep, hl, h.shape⟩

section
variable {W0 : World} {X : Nat → Prop} {ok0 : CellOk} {nt : Nat} {s : St} {a : Act} {w : World} {ok : CellOk} {loc : Loc}

/-- The heap is as it was. -/
theorem Inv.same (h : Inv W0 X ok0 nt s a w ok loc) {w' : World} (hh : w'.heap = w.heap) (ho : w'.os = w.os) (ht : w'.tape = w.tape) (hp : w'.output = w.output) : Inv W0 X ok0 nt s a w' ok loc := by
  have hb : ∀ b : Nat, w'.heap[b]? = w.heap[b]? := fun b => by rw [hh]
  have e : Ext w ok loc w' ok loc := Ext.of_heap (fun b _ _ => hb b) (fun b x hx => by rw [shape_of_heap (hb b)]; exact hx)
  refine ⟨⟨ho.trans h.fr.os, ht.trans h.fr.tape, hp.trans h.fr.output, by rw [hh]; exact h.fr.size, fun b hlt hx => by rw [hb]; exact h.fr.heap b hlt hx, fun b x hx => by rw [shape_of_heap (hb b)]; exact h.fr.shape b x hx⟩,
    h.okold, h.ok0, ⟨fun i o hi hg => ?_, h.own.ex, h.own.inj, h.own.dom, fun b o hk => by rw [hh]; exact h.own.bd b o hk, fun i b hk => by rw [hh]; exact h.own.lbd i b hk⟩, h.lnew, fun t => (h.slots t).mono e, h.defers, h.nt⟩
  rcases h.own.rel i o hi hg with h0 | ⟨b, hlb, hr⟩
  · exact .inl h0
  · exact .inr ⟨b, hlb, hr.keep e (hb b)⟩

/-- A value is put. -/
theorem Inv.put (h : Inv W0 X ok0 nt s a w ok loc) {d : Option Tmp} {x : AV} {v : Value} (hd : ∀ t, d = some t → t < nt) (hr : VRel w ok loc x v) : Inv W0 X ok0 nt (s.put d x) (a.put d v) w ok loc := by
  cases d with
  | none => exact ⟨h.fr, h.okold, h.ok0, h.own, h.lnew, h.slots, h.defers, h.nt⟩
  | some d =>
    refine ⟨h.fr, h.okold, h.ok0, h.own, h.lnew, fun t => ?_, h.defers, by simpa [Act.put] using h.nt⟩
    have hlt : d < a.tmps.size := by rw [h.nt]; exact hd d rfl
    simp only [St.put, upd, Act.put]
    split
    · rename_i e
      subst e
      simp [Array.getD_eq_getD_getElem?, Array.getElem?_setIfInBounds, hlt]
      exact hr
    · rename_i e
      have : (a.tmps.setIfInBounds d v).getD t undef = a.tmps.getD t undef := by
        have e' : ¬ d = t := fun hh => e hh.symm
        simp [Array.getD_eq_getD_getElem?, Array.getElem?_setIfInBounds, e']
      rw [this]
      exact h.slots t

/-- A new block, a new object. -/
theorem Inv.alloc (h : Inv W0 X ok0 nt s a w ok loc) (ob : Obj) (o : LObj)
    (hr : ∀ (loc' : Loc), Ext w ok loc (w.alloc ob) ok loc' → loc' s.σ.length = some w.heap.size → ORel (w.alloc ob) ok loc' o w.heap.size) :
    ∃ loc', loc' s.σ.length = some w.heap.size ∧ Ext w ok loc (w.alloc ob) ok loc' ∧ Inv W0 X ok0 nt ⟨s.slots, s.σ ++ [o]⟩ a (w.alloc ob) ok loc' := by
  let loc' : Loc := fun i => if i = s.σ.length then some w.heap.size else loc i
  have hb : ∀ b : Nat, b < w.heap.size → (w.alloc ob).heap[b]? = w.heap[b]? := fun b hb => heap_alloc_old w ob b hb
  have hl : ∀ i b, loc i = some b → loc' i = some b := by
    intro i b hi
    have : i ≠ s.σ.length := fun e => by rw [e, h.own.dom _ (Nat.le_refl _)] at hi; cases hi
    simp [loc', this, hi]
  have e : Ext w ok loc (w.alloc ob) ok loc' := (Ext.of_heap (fun b hlt _ => hb b hlt) (fun b x hx => by rw [shape_of_heap (hb b (lt_of_shape hx))]; exact hx)).grow hl
  have hnew : loc' s.σ.length = some w.heap.size := by simp [loc']
  have hor := hr loc' e hnew
  have hcase : ∀ i x, (s.σ ++ [o])[i]? = some x → (i < s.σ.length ∧ s.σ[i]? = some x) ∨ (i = s.σ.length ∧ x = o) := by
    intro i x hi
    rcases Nat.lt_trichotomy i s.σ.length with hlt | heq | hgt
    · exact .inl ⟨hlt, by rw [List.getElem?_append_left hlt] at hi; exact hi⟩
    · subst heq; simp at hi; exact .inr ⟨rfl, hi.symm⟩
    · rw [List.getElem?_eq_none (by simp; omega)] at hi; cases hi
  have hold : ∀ i b, i < s.σ.length → loc' i = some b → loc i = some b := by
    intro i b hi hb'
    have : i ≠ s.σ.length := by omega
    simpa [loc', this] using hb'
  refine ⟨loc', hnew, e, ⟨⟨h.fr.os, h.fr.tape, h.fr.output, by simp; exact Nat.le_succ_of_le h.fr.size, fun b hlt hx => by rw [hb b (Nat.lt_of_lt_of_le hlt h.fr.size)]; exact h.fr.heap b hlt hx, fun b x hx => e.shape _ _ (h.fr.shape b x hx)⟩,
    h.okold, h.ok0, ⟨fun i x hi hg => ?_, fun i x b hi hx hlb k => ?_, fun i j oi oj b hi hj hei hej hli hlj => ?_, fun i hi => ?_, fun b k hk => by simp; exact Nat.lt_succ_of_lt (h.own.bd b k hk), fun i b hlb => ?_⟩,
    fun i b hlb => ?_, fun t => (h.slots t).mono e, h.defers, h.nt⟩⟩
  · rcases hcase i x hi with ⟨hlt, hi'⟩ | ⟨rfl, rfl⟩
    · rcases h.own.rel i x hi' hg with ⟨h0, h1⟩ | ⟨b, hlb, hrr⟩
      · refine .inl ⟨h0, ?_⟩
        have : i ≠ s.σ.length := by omega
        simp [loc', this, h1]
      · exact .inr ⟨b, hl _ _ hlb, hrr.keep e (hb b hrr.lt)⟩
    · exact .inr ⟨_, hnew, hor⟩
  · rcases hcase i x hi with ⟨hlt, hi'⟩ | ⟨rfl, rfl⟩
    · exact h.own.ex i x b hi' hx (hold i b hlt hlb) k
    · rw [hnew] at hlb
      cases hlb
      exact fun hk => Nat.lt_irrefl _ (h.own.bd _ _ hk)
  · rcases hcase i oi hi with ⟨hlt, hi'⟩ | ⟨rfl, rfl⟩ <;> rcases hcase j oj hj with ⟨hlt', hj'⟩ | ⟨rfl, rfl⟩
    · exact h.own.inj i j oi oj b hi' hj' hei hej (hold i b hlt hli) (hold j b hlt' hlj)
    · have := h.own.lbd i b (hold i b hlt hli)
      rw [hnew] at hlj
      cases hlj
      omega
    · have := h.own.lbd j b (hold j b hlt' hlj)
      rw [hnew] at hli
      cases hli
      omega
    · rfl
  · simp at hi
    have : i ≠ s.σ.length := by omega
    simp [loc', this]
    exact h.own.dom i (by omega)
  · by_cases hi : i = s.σ.length
    · rw [hi, hnew] at hlb; cases hlb; simp
    · have : loc i = some b := by simpa [loc', hi] using hlb
      simp; exact Nat.lt_succ_of_lt (h.own.lbd i b this)
  · by_cases hi : i = s.σ.length
    · rw [hi, hnew] at hlb; cases hlb; exact .inl h.fr.size
    · exact h.lnew i b (by simpa [loc', hi] using hlb)

/-- An owned object is turned, in its block. -/
theorem Inv.turn (h : Inv W0 X ok0 nt s a w ok loc) {i b : Nat} {o o' : LObj} (hi : s.σ[i]? = some o) (he : o.excl = true) (hlb : loc i = some b) (he' : o'.excl = true) {w' : World}
    (ho : w'.os = w.os) (ht : w'.tape = w.tape) (hp : w'.output = w.output) (hz : w'.heap.size = w.heap.size) (hh : ∀ k, k ≠ b → w'.heap[k]? = w.heap[k]?) (hs : ∀ x, w.shape? b = some x → w'.shape? b = some x)
    (hr : Ext w ok loc w' ok loc → ORel w' ok loc o' b) : Ext w ok loc w' ok loc ∧ Inv W0 X ok0 nt ⟨s.slots, s.σ.set i o'⟩ a w' ok loc := by
  have hno := h.own.ex i o b hi he hlb
  have e : Ext w ok loc w' ok loc := Ext.of_heap (fun k hk ⟨j, hj⟩ => hh k fun ek => hno j (ek ▸ hj)) (fun k x hx => by
    by_cases ek : k = b
    · subst ek; exact hs x hx
    · rw [shape_of_heap (hh k ek)]; exact hx)
  have hor := hr e
  have hlt : i < s.σ.length := (List.getElem?_eq_some_iff.1 hi).1
  have hcase : ∀ j x, (s.σ.set i o')[j]? = some x → (j ≠ i ∧ s.σ[j]? = some x) ∨ (j = i ∧ x = o') := by
    intro j x hj
    rw [List.getElem?_set] at hj
    split at hj
    · rename_i ej; subst ej; simp [hlt] at hj; exact .inr ⟨rfl, hj.symm⟩
    · rename_i ej; exact .inl ⟨fun e => ej e.symm, hj⟩
  refine ⟨e, ⟨⟨ho.trans h.fr.os, ht.trans h.fr.tape, hp.trans h.fr.output, by rw [hz]; exact h.fr.size, fun k hk hx => ?_, fun k x hx => e.shape _ _ (h.fr.shape k x hx)⟩,
    h.okold, h.ok0, ⟨fun j x hj hg => ?_, fun j x k hj hx hlk => ?_, fun j j' oj oj' k hj hj' h1 h2 h3 h4 => ?_, fun j hj => h.own.dom j (by simpa using hj), fun k m hk => by rw [hz]; exact h.own.bd k m hk, fun j k hk => by rw [hz]; exact h.own.lbd j k hk⟩,
    h.lnew, fun t => (h.slots t).mono e, h.defers, h.nt⟩⟩
  · have : k ≠ b := by
      rintro rfl
      rcases h.lnew i k hlb with h1 | h1
      · omega
      · exact hx h1
    rw [hh k this]; exact h.fr.heap k hk hx
  · rcases hcase j x hj with ⟨hne, hj'⟩ | ⟨rfl, rfl⟩
    · rcases h.own.rel j x hj' hg with h0 | ⟨k, hlk, hrr⟩
      · exact .inl h0
      refine .inr ?_
      by_cases hxe : x.excl = true
      · have hkb : k ≠ b := by
          rintro rfl
          exact hne (h.own.inj j i x o k hj' hi hxe he hlk hlb)
        exact ⟨k, hlk, hrr.keep e (hh k hkb)⟩
      · refine ⟨k, hlk, ?_⟩
        cases hrr with
        | cells => simp [LObj.excl] at hxe
        | arr => simp [LObj.excl] at hxe
        | map => simp [LObj.excl] at hxe
        | frz sz xs b' vs ty fr h1 h2 h3 h5 h4 =>
          by_cases hkb : k = b
          · subst hkb
            have hsz : xs.length * sz = 0 := by
              rcases Nat.eq_zero_or_pos (xs.length * sz) with h0 | h0
              · exact h0
              · exact absurd (h5 0 h0) (hno 0)
            obtain ⟨vs', ty', fr', hv'⟩ : ∃ vs' ty' fr', w'.heap[k]? = some (.cells vs' ty' fr') := by
              have := hs (ty, vs.size) (by simp [World.shape?, h1])
              unfold World.shape? at this
              split at this
              · rename_i c el _ hk; exact ⟨_, _, _, hk⟩
              · cases this
            refine .frz sz xs k vs' ty' fr' hv' h2 (by omega) (fun k' hk' => by omega) fun i' j' es x' v hx hj' hv => ?_
            have hil : i' < xs.length := (List.getElem?_eq_some_iff.1 hx).1
            have hjl : j' < es.length := (List.getElem?_eq_some_iff.1 hj').1
            have := (h2 es (List.mem_of_getElem? hx)).1
            have : 0 < xs.length * sz := Nat.mul_pos (by omega) (by omega)
            omega
          · exact (ORel.frz sz xs k vs ty fr h1 h2 h3 h5 h4).keep e (hh k hkb)
    · exact .inr ⟨b, hlb, hor⟩
  · rcases hcase j x hj with ⟨hne, hj'⟩ | ⟨rfl, rfl⟩
    · exact h.own.ex j x k hj' hx hlk
    · exact h.own.ex j o k hi he hlk
  · rcases hcase j oj hj with ⟨hne, hj1⟩ | ⟨rfl, rfl⟩ <;> rcases hcase j' oj' hj' with ⟨hne', hj1'⟩ | ⟨rfl, rfl⟩
    · exact h.own.inj j j' oj oj' k hj1 hj1' h1 h2 h3 h4
    · exact h.own.inj j j' oj o k hj1 hi h1 he h3 h4
    · exact h.own.inj j j' o oj' k hi hj1' he h2 h3 h4
    · rfl

/-- A new row of no element; an object that is gone: nothing in memory. -/
theorem Inv.void (h : Inv W0 X ok0 nt s a w ok loc) {o : LObj} (hv : o.void = true ∨ o = .gone) : Inv W0 X ok0 nt ⟨s.slots, s.σ ++ [o]⟩ a w ok loc := by
  have hcase : ∀ i x, (s.σ ++ [o])[i]? = some x → (i < s.σ.length ∧ s.σ[i]? = some x) ∨ (i = s.σ.length ∧ x = o) := by
    intro i x hi
    rcases Nat.lt_trichotomy i s.σ.length with hlt | heq | hgt
    · exact .inl ⟨hlt, by rw [List.getElem?_append_left hlt] at hi; exact hi⟩
    · subst heq; simp at hi; exact .inr ⟨rfl, hi.symm⟩
    · rw [List.getElem?_eq_none (by simp; omega)] at hi; cases hi
  have hnone := h.own.dom s.σ.length (Nat.le_refl _)
  refine ⟨h.fr, h.okold, h.ok0, ⟨fun i x hi hg => ?_, fun i x b hi hx hlb k => ?_, fun i j oi oj b hi hj hei hej hli hlj => ?_, fun i hi => h.own.dom i (by simp at hi; omega), h.own.bd, h.own.lbd⟩, h.lnew, h.slots, h.defers, h.nt⟩
  · rcases hcase i x hi with ⟨hlt, hi'⟩ | ⟨rfl, rfl⟩
    · exact h.own.rel i x hi' hg
    · exact .inl ⟨hv.resolve_right hg, hnone⟩
  · rcases hcase i x hi with ⟨hlt, hi'⟩ | ⟨rfl, rfl⟩
    · exact h.own.ex i x b hi' hx hlb k
    · rw [hnone] at hlb; cases hlb
  · rcases hcase i oi hi with ⟨hlt, hi'⟩ | ⟨rfl, rfl⟩
    · rcases hcase j oj hj with ⟨hlt', hj'⟩ | ⟨rfl, rfl⟩
      · exact h.own.inj i j oi oj b hi' hj' hei hej hli hlj
      · rw [hnone] at hlj; cases hlj
    · rw [hnone] at hli; cases hli

/-- An object is let go of. -/
theorem Inv.drop (h : Inv W0 X ok0 nt s a w ok loc) (i : Nat) {o : LObj} (ho : o = .gone ∨ (o.excl = false ∧ o.void = true ∧ loc i = none)) : Inv W0 X ok0 nt ⟨s.slots, s.σ.set i o⟩ a w ok loc := by
  have hcase : ∀ j x, (s.σ.set i o)[j]? = some x → (s.σ[j]? = some x) ∨ (j = i ∧ x = o) := by
    intro j x hj
    rw [List.getElem?_set] at hj
    split at hj
    · rename_i ej
      subst ej
      split at hj
      · simp at hj; exact .inr ⟨rfl, hj.symm⟩
      · cases hj
    · exact .inl hj
  have hexc : o.excl = false := by rcases ho with rfl | ⟨h, _⟩; exact rfl; exact h
  refine ⟨h.fr, h.okold, h.ok0, ⟨fun j x hj hg => ?_, fun j x b hj hx hlb k => ?_, fun j j' oj oj' b hj hj' h1 h2 h3 h4 => ?_, fun j hj => h.own.dom j (by simpa using hj), h.own.bd, h.own.lbd⟩, h.lnew, h.slots, h.defers, h.nt⟩
  · rcases hcase j x hj with hj' | ⟨rfl, rfl⟩
    · exact h.own.rel j x hj' hg
    · rcases ho with h0 | ⟨_, h1, h2⟩
      · exact absurd h0 hg
      · exact .inl ⟨h1, h2⟩
  · rcases hcase j x hj with hj' | ⟨rfl, rfl⟩
    · exact h.own.ex j x b hj' hx hlb k
    · rw [hexc] at hx; cases hx
  · rcases hcase j oj hj with hj1 | ⟨rfl, rfl⟩
    · rcases hcase j' oj' hj' with hj1' | ⟨rfl, rfl⟩
      · exact h.own.inj j j' oj oj' b hj1 hj1' h1 h2 h3 h4
      · rw [hexc] at h2; cases h2
    · rw [hexc] at h1; cases h1
end
end Go.Vi
