/- What is given away: owned rows and maps that become immutable. -/
import Derived.Test.YtmobgcpamblhhaaViInv
set_option linter.unusedVariables false
set_option linter.unusedSimpArgs false
namespace Go.Vi
section
variable {W0 : World} {X : Nat → Prop} {ok0 : CellOk} {nt : Nat} {s : St} {a : Act} {w : World} {ok : CellOk} {loc : Loc}

theorem Ext.wider {w : World} {ok ok' : CellOk} {loc : Loc} (h : ∀ b o, ok b o → ok' b o) : Ext w ok loc w ok' loc :=
  ⟨⟨fun _ _ _ _ h => h, fun _ _ _ _ h => h, h⟩, fun _ _ h => h, fun _ _ h => h⟩

theorem ORel.wider {w : World} {ok ok' : CellOk} {loc : Loc} {o b} (h : ∀ b o, ok b o → ok' b o) (r : ORel w ok loc o b) : ORel w ok' loc o b :=
  r.keep (Ext.wider h) rfl

/-- An object is let go of; cells of its block are immutable from now on. -/
theorem Inv.letgo (h : Inv W0 X ok0 nt s a w ok loc) {i b : Nat} {o o' : LObj} (hi : s.σ[i]? = some o) (he : o.excl = true) (hlb : loc i = some b) (he' : o'.excl = false) (cell : Nat → Prop) (hb : b < w.heap.size)
    (hr : ∀ ok' : CellOk, (∀ x k, ok x k → ok' x k) → (∀ k, cell k → ok' b k) → o' ≠ .gone → ORel w ok' loc o' b) :
    ∃ ok', (∀ x k, ok x k → ok' x k) ∧ (∀ k, cell k → ok' b k) ∧ Inv W0 X ok0 nt ⟨s.slots, s.σ.set i o'⟩ a w ok' loc := by
  let ok' : CellOk := fun x k => ok x k ∨ (x = b ∧ cell k)
  have hw : ∀ x k, ok x k → ok' x k := fun _ _ h => .inl h
  have hlt : i < s.σ.length := (List.getElem?_eq_some_iff.1 hi).1
  have hcase : ∀ j x, (s.σ.set i o')[j]? = some x → (j ≠ i ∧ s.σ[j]? = some x) ∨ (j = i ∧ x = o') := by
    intro j x hj
    rw [List.getElem?_set] at hj
    split at hj
    · rename_i ej; subst ej; simp [hlt] at hj; exact .inr ⟨rfl, hj.symm⟩
    · rename_i ej; exact .inl ⟨fun e => ej e.symm, hj⟩
  refine ⟨ok', hw, fun k hk => .inr ⟨rfl, hk⟩, ⟨h.fr, fun x k hx hk => ?_, fun x k hk => .inl (h.ok0 x k hk), ⟨fun j x hj hg => ?_, fun j x k hj hx hlk m hm => ?_, fun j j' oj oj' k hj hj' h1 h2 h3 h4 => ?_, fun j hj => h.own.dom j (by simpa using hj), fun x k hk => ?_, h.own.lbd⟩,
    h.lnew, fun t => (h.slots t).mono (Ext.wider hw), h.defers, h.nt⟩⟩
  · rcases hk with hk | ⟨rfl, hk⟩
    · exact h.okold x k hx hk
    · rcases h.lnew i x hlb with h1 | h1
      · omega
      · exact .inr h1
  · rcases hcase j x hj with ⟨hne, hj'⟩ | ⟨rfl, rfl⟩
    · rcases h.own.rel j x hj' hg with h0 | ⟨k, hlk, hrr⟩
      · exact .inl h0
      · exact .inr ⟨k, hlk, hrr.wider hw⟩
    · exact .inr ⟨b, hlb, hr ok' hw (fun k hk => .inr ⟨rfl, hk⟩) hg⟩
  · rcases hcase j x hj with ⟨hne, hj'⟩ | ⟨rfl, rfl⟩
    · rcases hm with hm | ⟨rfl, hm⟩
      · exact h.own.ex j x k hj' hx hlk m hm
      · exact hne (h.own.inj j i x o k hj' hi hx he hlk hlb)
    · rw [he'] at hx; cases hx
  · rcases hcase j oj hj with ⟨hne, hj1⟩ | ⟨rfl, rfl⟩
    · rcases hcase j' oj' hj' with ⟨hne', hj1'⟩ | ⟨rfl, rfl⟩
      · exact h.own.inj j j' oj oj' k hj1 hj1' h1 h2 h3 h4
      · rw [he'] at h2; cases h2
    · rw [he'] at h1; cases h1
  · rcases hk with hk | ⟨rfl, hk⟩
    · exact h.own.bd x k hk
    · exact hb

/-- What an object that is given away leads to. -/
def Given (w : World) (loc : Loc) (σ : List LObj) (okk : CellOk) (o : Nat) : Prop :=
  (∀ z xs b, (σ[o]? = some (.arr z xs) ∨ σ[o]? = some (.frz z xs)) → loc o = some b → ∀ k, k < xs.length * z → okk b k) ∧
  (∀ es b, σ[o]? = some (.map es) → loc o = some b → okk b 0)

theorem Inv.frzO (h : Inv W0 X ok0 nt s a w ok loc) (o : Nat) :
    ∃ ok', (∀ x k, ok x k → ok' x k) ∧ Inv W0 X ok0 nt ⟨s.slots, frzO s.σ o⟩ a w ok' loc ∧ Given w loc s.σ ok' o := by
  unfold Vi.frzO
  cases hi : s.σ[o]? with
  | none => exact ⟨ok, fun _ _ h => h, h, fun z xs b h1 => by rw [hi] at h1; simp at h1, fun es b h1 => by rw [hi] at h1; cases h1⟩
  | some x =>
    cases x with
    | cells cs => exact ⟨ok, fun _ _ h => h, h, fun z xs b h1 => by rw [hi] at h1; simp at h1, fun es b h1 => by rw [hi] at h1; cases h1⟩
    | gone => exact ⟨ok, fun _ _ h => h, h, fun z xs b h1 => by rw [hi] at h1; simp at h1, fun es b h1 => by rw [hi] at h1; cases h1⟩
    | frz z xs =>
      refine ⟨ok, fun _ _ h => h, h, fun z' xs' b h1 hb k hk => ?_, fun es b h1 => by rw [hi] at h1; cases h1⟩
      rw [hi] at h1
      simp at h1
      obtain ⟨rfl, rfl⟩ := h1
      have hr := h.own.at hi (by simp) hb
      cases hr with
      | frz _ _ _ vs ty fr h1 h2 h3 h5 h4 => exact h5 k hk
    | arr z xs =>
      rcases h.own.rel o _ hi (by simp) with ⟨hv, hn⟩ | ⟨b, hlb, hr⟩
      · have hxs : xs = [] := by cases xs with | nil => rfl | cons => simp [LObj.void] at hv
        subst hxs
        exact ⟨ok, fun _ _ h => h, h.drop o (.inr ⟨rfl, rfl, hn⟩), ⟨fun z' xs' b h1 hb => (by rw [hn] at hb; cases hb), fun es b h1 => (by rw [hi] at h1; cases h1)⟩⟩
      cases hr with
      | arr _ _ _ vs ty h1 h2 h3 h4 =>
        obtain ⟨ok', hw, hc, hI⟩ := h.letgo (o' := .frz z xs) hi rfl hlb rfl (fun k => k < xs.length * z) (lt_of_heap h1) (fun ok' hw hc _ =>
          .frz z xs b vs ty (0, 0) h1 h2 h3 hc fun i j es x v hx hj hv => (h4 i j es x v hx hj hv).mono (Ext.wider (loc := loc) hw).keep)
        refine ⟨ok', hw, hI, fun z' xs' b' h1' hb k hk => ?_, fun es b h1 => by rw [hi] at h1; cases h1⟩
        rw [hi] at h1'
        simp at h1'
        obtain ⟨rfl, rfl⟩ := h1'
        rw [hlb] at hb
        cases hb
        exact hc k hk
    | map es =>
      obtain ⟨b, hlb, hr⟩ := h.own.at_ hi (by simp) rfl
      have hlt := hr.lt
      obtain ⟨ok', hw, hc, hI⟩ := h.letgo (o' := .gone) hi rfl hlb rfl (fun k => k = 0) hlt (fun ok' hw hc hg => absurd rfl hg)
      refine ⟨ok', hw, hI, fun z' xs' b' h1' => by rw [hi] at h1'; simp at h1', fun es b' h1 hb => ?_⟩
      rw [hlb] at hb
      cases hb
      exact hc 0 rfl

theorem frzO_kept (σ : List LObj) (o i : Nat) (hne : i ≠ o) : (frzO σ o)[i]? = σ[i]? := by
  unfold frzO
  split <;> first | rfl | (rw [List.getElem?_set_ne (Ne.symm hne)])

theorem Given.wider {σ : List LObj} {okk okk' : CellOk} {o} (h : Given w loc σ okk o) (hw : ∀ x k, okk x k → okk' x k) : Given w loc σ okk' o :=
  ⟨fun z xs b h1 hb k hk => hw _ _ (h.1 z xs b h1 hb k hk), fun es b h1 hb => hw _ _ (h.2 es b h1 hb)⟩

/-- What was frozen once is known for good. -/
theorem given_frzO {σ : List LObj} {okk : CellOk} {o p : Nat} (h : Given w loc (frzO σ p) okk o) (hp : Given w loc σ okk p) : Given w loc σ okk o := by
  by_cases e : o = p
  · subst e; exact hp
  · refine ⟨fun z xs b h1 => h.1 z xs b (by rw [frzO_kept _ _ _ e]; exact h1), fun es b h1 => h.2 es b (by rw [frzO_kept _ _ _ e]; exact h1)⟩

theorem Inv.frzL (ids : List Nat) : ∀ {s : St} {ok : CellOk} (h : Inv W0 X ok0 nt s a w ok loc), 
    ∃ ok', (∀ x k, ok x k → ok' x k) ∧ Inv W0 X ok0 nt ⟨s.slots, frzL s.σ ids⟩ a w ok' loc ∧ ∀ o ∈ ids, Given w loc s.σ ok' o := by
  induction ids with
  | nil => intro s ok h; exact ⟨ok, fun _ _ h => h, h, fun o ho => by cases ho⟩
  | cons i ids ih =>
    intro s ok h
    obtain ⟨ok1, hw1, h1, g1⟩ := h.frzO i
    obtain ⟨ok2, hw2, h2, g2⟩ := ih (s := ⟨s.slots, Vi.frzO s.σ i⟩) h1
    refine ⟨ok2, fun x k hk => hw2 _ _ (hw1 _ _ hk), h2, fun o ho => ?_⟩
    rcases List.mem_cons.1 ho with rfl | ho
    · exact g1.wider hw2
    · exact given_frzO (g2 o ho) (g1.wider hw2)

/-- The rows of a part of an owned row. -/
theorem sub_getElem? (off len i : Nat) (xs : List (List AV)) (es : List AV) (h : (sub off len xs)[i]? = some es) : i < len ∧ xs[off + i]? = some es := by
  unfold sub at h
  have hi : i < len := by
    have := (List.getElem?_eq_some_iff.1 h).1
    simp at this; omega
  rw [List.getElem?_take_of_lt hi, List.getElem?_drop] at h
  exact ⟨hi, h⟩
theorem sub_length (off len : Nat) (xs : List (List AV)) (h : off + len ≤ xs.length) : (sub off len xs).length = len := by
  unfold sub; simp; omega

theorem deepC_sound (hO : Own w ok loc s.σ) {okk : CellOk} (hw : ∀ x k, ok x k → okk x k) {v : AV} {d : AV} {val : Value} (hr : VRel w ok loc v val) (hd : deepC s.σ v = some d) (hg : ∀ o ∈ idC v, Given w loc s.σ okk o) : VDeep w okk d val := by
  have e : Keep w ok w okk := (Ext.wider (loc := loc) hw).keep
  cases v with
  | junk => simp [deepC] at hd
  | bool b => simp [deepC] at hd; subst hd; cases hr with | deep _ _ h => exact h.mono e
  | int k n => simp [deepC] at hd; subst hd; cases hr with | deep _ _ h => exact h.mono e
  | str s => simp [deepC] at hd; subst hd; cases hr with | deep _ _ h => exact h.mono e
  | ptr o =>
    cases o with
    | none => simp [deepC] at hd; subst hd; cases hr with | deep _ _ h => exact h.mono e
    | some p => simp [deepC] at hd
  | aptr => simp [deepC] at hd
  | ep => simp [deepC] at hd
  | sl z f xs => simp [deepC] at hd; subst hd; cases hr with | deep _ _ h => exact h.mono e
  | mv es => simp [deepC] at hd; subst hd; cases hr with | deep _ _ h => exact h.mono e
  | nilfn => simp [deepC] at hd; subst hd; cases hr with | deep _ _ h => exact h.mono e
  | nilif => simp [deepC] at hd; subst hd; cases hr with | deep _ _ h => exact h.mono e
  | agg => simp [deepC] at hd
  | tup => simp [deepC] at hd
  | fn f cap =>
    cases cap with
    | nil =>
      simp [deepC] at hd; subst hd
      cases hr with
      | deep _ _ h => exact h.mono e
      | fn _ _ vs h1 h2 => exact .fn f [] vs h1 (fun j x v hx => by simp at hx)
    | cons _ _ => simp [deepC] at hd
  | mp o =>
    cases o with
    | none => simp [deepC] at hd; subst hd; cases hr with | deep _ _ h => exact h.mono e
    | some o =>
      cases hr with
      | deep _ _ h => cases h
      | mp _ b hb =>
        simp only [deepC] at hd
        split at hd
        · rename_i es hes
          simp at hd; subst hd
          have hr := hO.at hes (by simp) hb
          cases hr with
          | map _ _ entries clock h1 h2 h3 h4 =>
            exact .mv es b entries clock h1 ((hg o (by simp [idC])).2 es b hes hb) h2 (fun i x en hx he => (h3 i x en hx he).mono e) (fun i x en hx he => (h4 i x en hx he).mono e)
        · cases hd
  | msl o z off len =>
    cases hr with
    | deep _ _ h => cases h
    | mslE _ _ _ a =>
      have : d = .sl z false [] := by
        simp only [deepC] at hd
        split at hd
        · split at hd
          · rename_i hc; simp [sub] at hd; rw [← hd]
          · cases hd
        · split at hd
          · rename_i hc; simp [sub] at hd; rw [← hd]
          · cases hd
        · cases hd
      subst this
      exact .emp _ _ _ _ (by simp)
    | msl _ _ _ _ b c ety n hb hs h1 h2 =>
      have key : ∀ (xs : List (List AV)), (s.σ[o]? = some (.arr z xs) ∨ s.σ[o]? = some (.frz z xs)) → off + len ≤ xs.length → VDeep w okk (.sl z false (sub off len xs)) (.slice (some ⟨b, off * z, none⟩) len c) := by
        intro xs hxs hle
        have hcells : ∃ (vs : Array Value) (ty : TypeId) (fr : Nat × Nat), w.heap[b]? = some (.cells vs ty fr) ∧ (∀ es ∈ xs, Fit z es) ∧ xs.length * z ≤ vs.size ∧
            (∀ (i j : Nat) (es : List AV) (x : AV) (v : Value), xs[i]? = some es → es[j]? = some x → vs[i * z + j]? = some v → VDeep w ok x v) := by
          rcases hxs with hxs | hxs <;>
          · have hr := hO.at hxs (by simp) hb
            cases hr
            exact ⟨_, _, _, by assumption, by assumption, by assumption, by assumption⟩
        obtain ⟨vs, ty, fr, hv1, hv2, hv3, hv4⟩ := hcells
        have hlen := sub_length off len xs hle
        have hidx : ∀ i j es x, (sub off len xs)[i]? = some es → es[j]? = some x → ∃ v, vs[(off + i) * z + j]? = some v ∧ off * z + i * z + j = (off + i) * z + j ∧ (off + i) * z + j < xs.length * z ∧ VDeep w ok x v := by
          intro i j es x hi hj
          obtain ⟨hil, hi'⟩ := sub_getElem? off len i xs es hi
          have hjl : j < z := by have := (hv2 es (List.mem_of_getElem? hi')).1; rw [← this]; exact (List.getElem?_eq_some_iff.1 hj).1
          have hio : off + i < xs.length := (List.getElem?_eq_some_iff.1 hi').1
          have hlt : (off + i) * z + j < xs.length * z := by
            have : (off + i + 1) * z ≤ xs.length * z := Nat.mul_le_mul_right _ (by omega)
            rw [Nat.add_mul] at this
            omega
          have hlt' : (off + i) * z + j < vs.size := by omega
          exact ⟨vs[(off + i) * z + j], Array.getElem?_eq_getElem hlt', by rw [Nat.add_mul], hlt, hv4 (off + i) j es x _ hi' hj (Array.getElem?_eq_getElem hlt')⟩
        have := VDeep.sl (w := w) (ok := okk) z false (sub off len xs) b (off * z) c (fun i j => vs.getD ((off + i) * z + j) undef) (by omega) (by simp)
          (fun es hes => by
            obtain ⟨i, hi⟩ := List.mem_iff_getElem?.1 hes
            exact hv2 es (List.mem_of_getElem? (sub_getElem? off len i xs es hi).2))
          (fun i j es x hi hj => by
            obtain ⟨v, hv, he, hlt, _⟩ := hidx i j es x hi hj
            refine ⟨?_, (hg o (by simp [idC])).1 z xs b hxs hb _ (by rw [he]; exact hlt)⟩
            rw [he, cell_of_row w b _ vs ty fr hv1, hv]
            simp [Array.getD_eq_getD_getElem?, hv])
          (fun i j es x hi hj => by
            obtain ⟨v, hv, he, hlt, hd⟩ := hidx i j es x hi hj
            have : vs.getD ((off + i) * z + j) undef = v := by simp [Array.getD_eq_getD_getElem?, hv]
            rw [this]
            exact hd.mono e)
        rw [hlen] at this
        exact this
      simp only [deepC] at hd
      split at hd
      · rename_i z' xs hx
        split at hd
        · rename_i hc
          obtain ⟨rfl, hle⟩ := hc
          simp at hd; subst hd
          exact key xs (.inl hx) hle
        · cases hd
      · rename_i z' xs hx
        split at hd
        · rename_i hc
          obtain ⟨rfl, hle⟩ := hc
          simp at hd; subst hd
          exact key xs (.inr hx) hle
        · cases hd
      · cases hd

theorem deepL_get {σ : List LObj} : ∀ {cs ds : List AV}, deepL σ cs = some ds → ds.length = cs.length ∧ ∀ (j : Nat) (d : AV), ds[j]? = some d → ∃ x, cs[j]? = some x ∧ deepC σ x = some d
  | [], ds, h => by simp [deepL] at h; subst h; exact ⟨rfl, fun j d h => by simp at h⟩
  | x :: xs, ds, h => by
    simp only [deepL] at h
    cases hx : deepC σ x with
    | none => simp [hx] at h
    | some y =>
      cases hxs : deepL σ xs with
      | none => simp [hx, hxs] at h
      | some ys =>
        simp [hx, hxs] at h
        subst h
        obtain ⟨hl, hg⟩ := deepL_get hxs
        refine ⟨by simp [hl], fun j d hj => ?_⟩
        cases j with
        | zero => simp at hj; subst hj; exact ⟨x, rfl, hx⟩
        | succ j => simp at hj; obtain ⟨x', h1, h2⟩ := hg j d hj; exact ⟨x', by simpa using h1, h2⟩

theorem deepA_sound (hO : Own w ok loc s.σ) {okk : CellOk} (hw : ∀ x k, ok x k → okk x k) {v : AV} {d : AV} {val : Value} (hr : VRel w ok loc v val) (hd : deepA s.σ v = some d) (hg : ∀ o ∈ idA v, Given w loc s.σ okk o) : VDeep w okk d val := by
  by_cases hv : ∃ cs, v = .agg cs
  · obtain ⟨cs, rfl⟩ := hv
    simp only [deepA] at hd
    cases hds : deepL s.σ cs with
    | none => simp [hds] at hd
    | some ds =>
      simp [hds] at hd
      subst hd
      obtain ⟨hl, hget⟩ := deepL_get hds
      have : ∃ vs : Array Value, val = .agg vs ∧ vs.size = cs.length ∧ ∀ (j : Nat) (x : AV) (v : Value), cs[j]? = some x → vs[j]? = some v → VRel w ok loc x v := by
        cases hr with
        | deep _ _ h => cases h with | agg _ vs h1 h2 => exact ⟨vs, rfl, h1, fun j x v hx hv => .deep _ _ (h2 j x v hx hv)⟩
        | agg _ vs h1 h2 => exact ⟨vs, rfl, h1, h2⟩
      obtain ⟨vs, rfl, h1, h2⟩ := this
      refine .agg ds vs (by rw [hl, h1]) fun j x v hx hv => ?_
      obtain ⟨y, hy, hyd⟩ := hget j x hx
      exact deepC_sound hO hw (h2 j y v hy hv) hyd fun o ho => hg o (by simp only [idA, List.mem_flatMap]; exact ⟨y, List.mem_of_getElem? hy, ho⟩)
  · have e1 : deepA s.σ v = deepC s.σ v := by cases v <;> first | rfl | exact absurd ⟨_, rfl⟩ hv
    have e2 : idA v = idC v := by cases v <;> first | rfl | exact absurd ⟨_, rfl⟩ hv
    rw [e1] at hd
    rw [e2] at hg
    exact deepC_sound hO hw hr hd hg

theorem deepAs_get {σ : List LObj} : ∀ {cs ds : List AV}, deepAs σ cs = some ds → ds.length = cs.length ∧ ∀ (j : Nat) (d : AV), ds[j]? = some d → ∃ x, cs[j]? = some x ∧ deepA σ x = some d
  | [], ds, h => by simp [deepAs] at h; subst h; exact ⟨rfl, fun j d h => by simp at h⟩
  | x :: xs, ds, h => by
    simp only [deepAs] at h
    cases hx : deepA σ x with
    | none => simp [hx] at h
    | some y =>
      cases hxs : deepAs σ xs with
      | none => simp [hx, hxs] at h
      | some ys =>
        simp [hx, hxs] at h
        subst h
        obtain ⟨hl, hg⟩ := deepAs_get hxs
        refine ⟨by simp [hl], fun j d hj => ?_⟩
        cases j with
        | zero => simp at hj; subst hj; exact ⟨x, rfl, hx⟩
        | succ j => simp at hj; obtain ⟨x', h1, h2⟩ := hg j d hj; exact ⟨x', by simpa using h1, h2⟩

theorem given_all (hO : Own w ok loc s.σ) (o : Nat) : Given w loc s.σ (fun b _ => b < w.heap.size) o :=
  ⟨fun z xs b _ hb k _ => hO.lbd o b hb, fun es b _ hb => hO.lbd o b hb⟩
end
end Go.Vi
