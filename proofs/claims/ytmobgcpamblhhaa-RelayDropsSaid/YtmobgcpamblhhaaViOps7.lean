/- Structs and slices that are built out of parts. -/
import Derived.Test.YtmobgcpamblhhaaViOps6
import Derived.Laws.Tables
import Derived.Great.BuildSlice
set_option linter.unusedVariables false
set_option linter.unusedSimpArgs false
namespace Go.Vi
section
variable {P : Program} {te : TE} {W0 : World} {X : Nat → Prop} {ok0 : CellOk} {nt : Nat} {s : St} {a : Act} {w : World} {ok : CellOk} {loc : Loc} {v : Value}

theorem foldl_set_get : ∀ (l : List Value) (k off : Nat) (cs : Array Value), (((l.zipIdx k).foldl (fun cs (p : Value × Nat) => cs.setIfInBounds (off + p.2) p.1) cs).size = cs.size) ∧
    ∀ j : Nat, ((l.zipIdx k).foldl (fun cs (p : Value × Nat) => cs.setIfInBounds (off + p.2) p.1) cs)[j]? = if off + k ≤ j ∧ j < off + k + l.length ∧ j < cs.size then l[j - (off + k)]? else cs[j]?
  | [], k, off, cs => ⟨rfl, fun j => by
      simp only [List.zipIdx_nil, List.foldl_nil, List.length_nil, Nat.add_zero]
      rw [if_neg (by omega)]⟩
  | x :: l, k, off, cs => by
    obtain ⟨h1, h2⟩ := foldl_set_get l (k + 1) off (cs.setIfInBounds (off + k) x)
    refine ⟨by simp only [List.zipIdx_cons, List.foldl_cons]; rw [h1]; simp, fun j => ?_⟩
    simp only [List.zipIdx_cons, List.foldl_cons, List.length_cons]
    rw [h2 j]
    simp only [Array.size_setIfInBounds]
    by_cases c1 : off + (k + 1) ≤ j ∧ j < off + (k + 1) + l.length ∧ j < cs.size
    · rw [if_pos c1, if_pos (by omega)]
      rw [show j - (off + k) = (j - (off + (k + 1))) + 1 by omega]
      simp
    · rw [if_neg c1, Array.getElem?_setIfInBounds]
      by_cases c2 : off + k = j
      · subst c2
        by_cases c3 : off + k < cs.size
        · rw [if_pos rfl, if_pos c3, if_pos (by omega)]; simp
        · rw [if_pos rfl, if_neg c3, if_neg (by omega)]
          rw [Array.getElem?_eq_none (by omega)]
      · rw [if_neg c2, if_neg (by omega)]

/-- Cells that are related. -/
structure CRel (w : World) (ok : CellOk) (loc : Loc) (cs : List AV) (vs : Array Value) : Prop where
  len : vs.size = cs.length
  rel : ∀ (j : Nat) (x : AV) (v : Value), cs[j]? = some x → vs[j]? = some v → VRel w ok loc x v

theorem solid_ne {x : AV} (h : x.solid = true) : x ≠ .junk := by rintro rfl; cases h

theorem fill_sound (place : Nat → Option (Nat × Nat)) : ∀ (parts : List (Nat × AV)) (vparts : List (Nat × Value)) (cs : List AV) (vs : Array Value) (cs' : List AV), CRel w ok loc cs vs →
    vparts.length = parts.length → (∀ (j : Nat) (p : Nat × AV) (q : Nat × Value), parts[j]? = some p → vparts[j]? = some q → p.1 = q.1 ∧ VRel w ok loc p.2 q.2) → fillD place cs parts = some cs' →
    ∃ vs', Instr.fill place vs vparts = some vs' ∧ CRel w ok loc cs' vs'
  | [], vparts, cs, vs, cs', hc, hl, hp, h => by
    have : vparts = [] := List.eq_nil_of_length_eq_zero (by simpa using hl)
    subst this
    simp [fillD] at h
    subst h
    exact ⟨vs, rfl, hc⟩
  | (i, x) :: parts, vparts, cs, vs, cs', hc, hl, hp, h => by
    cases vparts with
    | nil => simp at hl
    | cons q vparts =>
      obtain ⟨i', v⟩ := q
      obtain ⟨rfl, hxv⟩ := hp 0 (i, x) (i', v) rfl rfl
      simp only [fillD] at h
      cases hpl : place i with
      | none => simp [hpl] at h
      | some p =>
        simp only [hpl, Option.bind_some] at h
        split at h
        · rename_i hcond
          obtain ⟨c1, c2, c3⟩ := hcond
          obtain ⟨g1, g2⟩ := flat_rel hxv (solid_ne c1)
          obtain ⟨f1, f2⟩ := foldl_set_get v.cells.toList 0 p.1 vs
          have hrec := fill_sound place parts vparts (over cs p.1 x.flat) (v.cells.zipIdx.foldl (fun cs (c, j) => cs.setIfInBounds (p.1 + j) c) vs) cs' ?_ (by simpa using hl) (fun j p q hj hq => hp (j + 1) p q (by simpa using hj) (by simpa using hq)) h
          · obtain ⟨vs', h1, h2⟩ := hrec
            refine ⟨vs', ?_, h2⟩
            obtain ⟨p1, p2⟩ := p
            simp only [Instr.fill, hpl]
            have : (v.cells.size ≠ p2 || decide (p1 + v.cells.size > vs.size)) = false := by
              have := hc.len
              have g1' : v.cells.size = x.flat.length := g1
              have c2' : x.flat.length = p2 := c2
              have c3' : p1 + p2 ≤ cs.length := c3
              simp
              omega
            simp only [this, Bool.false_eq_true, if_false]
            exact h1
          · have e : v.cells.zipIdx.foldl (fun cs (c, j) => cs.setIfInBounds (p.1 + j) c) vs = (v.cells.toList.zipIdx 0).foldl (fun cs (p' : Value × Nat) => cs.setIfInBounds (p.1 + p'.2) p'.1) vs := by
              rw [← Array.foldl_toList, Array.toList_zipIdx]
            rw [e]
            have hle : p.1 + x.flat.length ≤ cs.length := by omega
            refine ⟨by rw [f1, hc.len]; unfold over; exact (over_len cs x.flat p.1 hle).symm, fun j y c hy hcj => ?_⟩
            rw [f2 j] at hcj
            have hy' : (cs.take p.1 ++ x.flat ++ cs.drop (p.1 + x.flat.length))[j]? = some y := hy
            rw [over_get _ _ _ _ hle] at hy'
            have hvl : v.cells.toList.length = x.flat.length := by simp; omega
            have := hc.len
            by_cases k1 : j < p.1
            · rw [if_pos k1] at hy'
              rw [if_neg (by omega)] at hcj
              exact hc.rel j y c hy' hcj
            · rw [if_neg k1] at hy'
              by_cases k2 : j < p.1 + x.flat.length
              · rw [if_pos k2] at hy'
                rw [if_pos (by omega)] at hcj
                exact g2 _ y c hy' (by simpa using hcj)
              · rw [if_neg k2] at hy'
                rw [if_neg (by omega)] at hcj
                exact hc.rel j y c hy' hcj
        · cases h

theorem placesD_sound (hte : TEOK P te) : ∀ {fs : List (Nat × TypeId)} {fields : List Field} {pl : List (Nat × Nat)}, fieldsOk fs fields = true → placesD te fs = some pl → fields.mapM (fun f => (P.info? f.type).map fun i => (f.offset, i.size)) = some pl
  | [], [], pl, _, h => by simp [placesD] at h; subst h; rfl
  | p :: ps, f :: fs, pl, hf, h => by
    simp only [fieldsOk, Bool.and_eq_true, decide_eq_true_eq] at hf
    simp only [placesD] at h
    cases hti : te p.2 with
    | none => simp [hti] at h
    | some i =>
      cases hr : placesD te ps with
      | none => simp [hti, hr] at h
      | some r =>
        simp [hti, hr] at h
        subst h
        obtain ⟨inf, hi, hs, _⟩ := (hte _ _ hti).inf
        have := placesD_sound hte hf.2 hr
        simp [List.mapM_cons, hf.1.1.1, hf.1.1.2, hi, hs, this]
  | [], _ :: _, _, h, _ => by simp [fieldsOk] at h
  | _ :: _, [], _, h, _ => by simp [fieldsOk] at h

theorem buildD_sound (hte : TEOK P te) {t : TypeId} {parts : List (Nat × AV)} {vparts : Array (Nat × Value)} (hl : vparts.toList.length = parts.length) (hp : ∀ (j : Nat) (p : Nat × AV) (q : Nat × Value), parts[j]? = some p → vparts.toList[j]? = some q → p.1 = q.1 ∧ VRel w ok loc p.2 q.2)
    {r : AV} (h : buildD te t parts = some r) : ∃ rv, (Instr.build t vparts).run P w = .ok rv w ∧ VRel w ok loc r rv := by
  unfold buildD at h
  cases hti : te t with
  | none => simp [hti] at h
  | some i =>
    have hi := hte t i hti
    simp only [hti, Option.bind_some] at h
    split at h
    · rename_i hsol
      obtain ⟨inf, hinf, _, _, z, hz, hzr⟩ := hi.inf
      have hzc : CRel w ok loc i.zero.flat z.cells := by
        obtain ⟨h1, h2⟩ := flat_rel (VRel.deep (loc := loc) _ _ (hzr w ok)) (solid_ne hsol)
        exact ⟨h1, h2⟩
      split at h
      · rename_i fs hd
        cases hpl : placesD te fs with
        | none => simp [hpl] at h
        | some pl =>
          cases hf : fillD (fun j => pl[j]?) i.zero.flat parts with
          | none => simp [hpl, hf] at h
          | some cs =>
            simp [hpl, hf] at h
            subst h
            obtain ⟨vs, h1, h2⟩ := fill_sound _ parts vparts.toList _ _ cs hzc hl hp hf
            obtain ⟨fields, hu, hfs, _⟩ := hi.struct hd
            refine ⟨.agg vs, run_build w t vparts vs ?_, .agg _ _ h2.len h2.rel⟩
            simp only [Program.built, hinf, hu, hz, placesD_sound hte hfs hpl]
            rw [← h1]
            congr 1
            funext j
            simp
      · rename_i n e hd
        cases hte' : te e with
        | none => simp [hte'] at h
        | some ei =>
          cases hf : fillD (fun j => some (j * ei.size, ei.size)) i.zero.flat parts with
          | none => simp [hte', hf] at h
          | some cs =>
            simp [hte', hf] at h
            subst h
            obtain ⟨vs, h1, h2⟩ := fill_sound _ parts vparts.toList _ _ cs hzc hl hp hf
            obtain ⟨einf, heinf, hes, _⟩ := (hte e ei hte').inf
            refine ⟨.agg vs, run_build w t vparts vs ?_, .agg _ _ h2.len h2.rel⟩
            simp only [Program.built, hinf, hi.array hd, hz, heinf, hes]
            exact h1
      · cases h
    · cases h

/-- A new block that nobody will write. -/
theorem Inv.allocRO (h : Inv W0 X ok0 nt s a w ok loc) (ob : Obj) :
    ∃ ok', (∀ b k, ok b k → ok' b k) ∧ (∀ k, ok' w.heap.size k) ∧ Ext w ok loc (w.alloc ob) ok' loc ∧ Inv W0 X ok0 nt s a (w.alloc ob) ok' loc := by
  have hb : ∀ b : Nat, b < w.heap.size → (w.alloc ob).heap[b]? = w.heap[b]? := fun b hb => heap_alloc_old w ob b hb
  let ok' : CellOk := fun b k => ok b k ∨ b = w.heap.size
  have e : Ext w ok loc (w.alloc ob) ok' loc := by
    have e1 : Ext w ok loc (w.alloc ob) ok loc := Ext.of_heap (fun b hlt _ => hb b hlt) (fun b x hx => by rw [shape_of_heap (hb b (lt_of_shape hx))]; exact hx)
    exact e1.trans (Ext.wider fun _ _ h => .inl h)
  refine ⟨ok', fun _ _ h => .inl h, fun k => .inr rfl, e, ⟨⟨h.fr.os, h.fr.tape, h.fr.output, by simp; exact Nat.le_succ_of_le h.fr.size, fun b hlt hx => by rw [hb b (Nat.lt_of_lt_of_le hlt h.fr.size)]; exact h.fr.heap b hlt hx, fun b x hx => e.shape _ _ (h.fr.shape b x hx)⟩,
    fun b k hlt hk => ?_, fun b k hk => .inl (h.ok0 b k hk), ⟨fun i x hi hg => ?_, fun i x b hi hx hlb k hk => ?_, h.own.inj, h.own.dom, fun b k hk => ?_, fun i b hlb => by simp; exact Nat.lt_succ_of_lt (h.own.lbd i b hlb)⟩, h.lnew, fun t => (h.slots t).mono e, h.defers, h.nt⟩⟩
  · rcases hk with hk | rfl
    · exact h.okold b k hlt hk
    · have := h.fr.size; omega
  · rcases h.own.rel i x hi hg with h0 | ⟨b, hlb, hrr⟩
    · exact .inl h0
    · exact .inr ⟨b, hlb, hrr.keep e (hb b hrr.lt)⟩
  · rcases hk with hk | rfl
    · exact h.own.ex i x b hi hx hlb k hk
    · have := h.own.lbd i _ hlb; omega
  · rcases hk with hk | rfl
    · simp; exact Nat.lt_succ_of_lt (h.own.bd b k hk)
    · simp

theorem chunks_get (z : Nat) : ∀ (n : Nat) (cs : List AV) (i : Nat) (es : List AV), (chunks z n cs)[i]? = some es → i < n ∧ es = (cs.drop (i * z)).take z
  | 0, cs, i, es, h => by simp [chunks] at h
  | n + 1, cs, i, es, h => by
    cases i with
    | zero => simp [chunks] at h; subst h; simp
    | succ i =>
      simp [chunks] at h
      obtain ⟨h1, h2⟩ := chunks_get z n _ i es h
      refine ⟨by omega, ?_⟩
      rw [h2, List.drop_drop, Nat.succ_mul, Nat.add_comm]
theorem chunks_len (z : Nat) : ∀ (n : Nat) (cs : List AV), (chunks z n cs).length = n
  | 0, _ => rfl
  | n + 1, cs => by simp [chunks, chunks_len z n]
theorem fillD_len (place) : ∀ {parts : List (Nat × AV)} {cs cs' : List AV}, fillD place cs parts = some cs' → cs'.length = cs.length
  | [], cs, cs', h => by simp [fillD] at h; subst h; rfl
  | (i, x) :: parts, cs, cs', h => by
    simp only [fillD] at h
    cases hpl : place i with
    | none => simp [hpl] at h
    | some p =>
      simp only [hpl, Option.bind_some] at h
      split at h
      · rename_i hc
        rw [fillD_len place h]
        unfold over
        exact over_len cs x.flat p.1 (by omega)
      · cases h
theorem reps_len (n : Nat) (z : List AV) : (reps n z).length = n * z.length := by
  induction n with
  | zero => simp [reps]
  | succ n ih => simp [reps, ih, Nat.succ_mul, Nat.add_comm]
theorem reps_get (z : List AV) : ∀ (n j : Nat), j < n * z.length → (reps n z)[j]? = z[j % z.length]?
  | 0, j, h => by simp at h
  | n + 1, j, h => by
    simp only [reps]
    by_cases hj : j < z.length
    · rw [List.getElem?_append_left hj, Nat.mod_eq_of_lt hj]
    · rw [List.getElem?_append_right (by omega), reps_get z n (j - z.length) (by rw [Nat.succ_mul] at h; omega)]
      rw [← Nat.mod_eq_sub_mod (by omega)]

theorem run_buildSlice0 (w : World) (t e : TypeId) (parts : Array (Nat × Value)) (hu : P.underlying t = some (.slice e)) {i : TyI} (hi : TyOK P e i) (hp : parts.toList = []) :
    (Instr.buildSlice t 0 parts).run P w = .ok (.slice (some ⟨w.heap.size, 0, none⟩) 0 0) (w.alloc (.cells #[] e)) := by
  obtain ⟨inf, hinf, _⟩ := hi.inf
  have e0 : Array.range 0 = #[] := rfl
  simp [Instr.buildSlice, run_underlying hu, sizeOf, typeInfo, hinf, hp, Instr.fill, newRow, e0]

theorem buildSlD_gives (hte : TEOK P te) (h : Inv W0 X ok0 nt s a w ok loc) {t : TypeId} {n : Nat} {parts : List (Nat × AV)} {vparts : Array (Nat × Value)} (hl : vparts.toList.length = parts.length)
    (hp : ∀ (j : Nat) (p : Nat × AV) (q : Nat × Value), parts[j]? = some p → vparts.toList[j]? = some q → p.1 = q.1 ∧ VRel w ok loc p.2 q.2) {r : AV} {σ' : List LObj} (hd : buildSlD te s.σ t n parts = some (r, σ')) :
    Gives P W0 X ok0 nt s a w ok loc (Instr.buildSlice t n vparts) r σ' := by
  unfold buildSlD at hd
  cases hti : te t with
  | none => simp [hti] at hd
  | some i =>
    have hi := hte t i hti
    simp only [hti, Option.bind_some] at hd
    split at hd
    · rename_i e hdesc
      have hu := hi.slice hdesc
      cases hte' : te e with
      | none => simp [hte'] at hd
      | some ei =>
        have hei := hte e ei hte'
        simp only [hte', Option.bind_some] at hd
        split at hd
        · rename_i hc
          obtain ⟨c1, c2, c3, c4⟩ := hc
          cases hf : fillD (fun j => some (j * ei.size, ei.size)) (reps n ei.zero.flat) parts with
          | none => simp [hf] at hd
          | some cs =>
            cases hds : deepL s.σ cs with
            | none => simp [hf, hds] at hd
            | some ds =>
              simp [hf, hds] at hd
              obtain ⟨rfl, rfl⟩ := hd
              obtain ⟨dl, dget⟩ := deepL_get hds
              obtain ⟨einf, heinf, hes, _, z, hz, hzr⟩ := hei.inf
              obtain ⟨z1, z2⟩ := flat_rel (VRel.deep (loc := loc) _ _ (hzr w ok)) (solid_ne c3)
              have hcs : cs.length = n * ei.size := by rw [fillD_len _ hf, reps_len, c4]
              -- the run
              have hrun : ∃ vs : Array Value, (Instr.buildSlice t n vparts).run P w = .ok (.slice (some ⟨w.heap.size, 0, none⟩) n n) (w.alloc (.cells vs e)) ∧ CRel w ok loc cs vs := by
                by_cases hn : n = 0
                · subst hn
                  have hparts : parts = [] := by
                    cases parts with
                    | nil => rfl
                    | cons p ps =>
                      obtain ⟨j, x⟩ := p
                      simp only [fillD, reps, List.length_nil, Option.bind_some] at hf
                      exfalso
                      have hz' : ei.size ≠ 0 := by omega
                      simp [hz'] at hf
                  have hvp : vparts.toList = [] := List.eq_nil_of_length_eq_zero (by rw [hl, hparts]; rfl)
                  refine ⟨#[], run_buildSlice0 w t e vparts hu hei hvp, ?_⟩
                  have : cs = [] := List.eq_nil_of_length_eq_zero (by rw [hcs]; simp)
                  subst this
                  exact ⟨rfl, fun j x v hx => by simp at hx⟩
                · have hbase : CRel w ok loc (reps n ei.zero.flat) ((Array.range (n * einf.size)).map (z.cells[· % z.cells.size]!)) := by
                    refine ⟨by simp [reps_len, c4, hes], fun j x v hx hv => ?_⟩
                    have hj : j < n * ei.zero.flat.length := by have := (List.getElem?_eq_some_iff.1 hx).1; rwa [reps_len] at this
                    rw [reps_get _ _ _ hj] at hx
                    have hj' : j < n * einf.size := by rw [hes, ← c4]; exact hj
                    have hv' : v = z.cells[j % z.cells.size]! := by
                      simp [Array.getElem?_map, Array.getElem?_range, hj'] at hv
                      exact hv.symm
                    have hpos : 0 < z.cells.size := by omega
                    have hlt : j % z.cells.size < z.cells.size := Nat.mod_lt _ hpos
                    refine z2 _ x v hx ?_
                    rw [← z1, hv', Array.getElem?_eq_getElem hlt, getElem!_pos z.cells (j % z.cells.size) hlt]
                  obtain ⟨vs, h1, h2⟩ := fill_sound _ parts vparts.toList _ _ cs hbase hl hp hf
                  have hne : ¬ n * einf.size = 0 := by
                    rw [hes]
                    exact Nat.ne_of_gt (Nat.mul_pos (by omega) c2)
                  refine ⟨vs, run_buildSlice w t e n vparts vs einf z hu heinf hz (by rw [hes]; omega) hne ?_, h2⟩
                  rw [← h1]
                  simp only [hes]
              obtain ⟨vs, hrun, hcr⟩ := hrun
              obtain ⟨ok1, hw1, hI1, hG1⟩ := h.frzL (cs.flatMap idC)
              obtain ⟨ok2, hw2, hn2, e2, hI2⟩ := hI1.allocRO (.cells vs e)
              have e1 : Ext w ok loc w ok1 loc := Ext.wider hw1
              have hdeep : ∀ (k : Nat) (x : AV) (c : Value), ds[k]? = some x → vs[k]? = some c → VDeep (w.alloc (.cells vs e)) ok2 x c := by
                intro k x c hx hc
                obtain ⟨y, hy, hd⟩ := dget k x hx
                exact (deepC_sound h.own hw1 (hcr.rel k y c hy hc) hd fun o ho => hG1 o (by rw [List.mem_flatMap]; exact ⟨y, List.mem_of_getElem? hy, ho⟩)).mono e2.keep
              refine ⟨_, _, ok2, loc, hrun, e1.trans e2, hI2, .deep _ _ ?_⟩
              have hidx : ∀ (i' j : Nat) (es : List AV) (x : AV), (chunks ei.size n ds)[i']? = some es → es[j]? = some x → i' < n ∧ j < ei.size ∧ ds[i' * ei.size + j]? = some x ∧ i' * ei.size + j < vs.size := by
                intro i' j es x hx hj
                obtain ⟨h1, rfl⟩ := chunks_get _ _ _ _ _ hx
                have hjl : j < ei.size := by
                  have := (List.getElem?_eq_some_iff.1 hj).1
                  simp at this; omega
                rw [List.getElem?_take_of_lt hjl, List.getElem?_drop] at hj
                refine ⟨h1, hjl, hj, ?_⟩
                have := (List.getElem?_eq_some_iff.1 hj).1
                rw [hcr.len, ← dl]; exact this
              have := VDeep.sl (w := w.alloc (.cells vs e)) (ok := ok2) ei.size true (chunks ei.size n ds) w.heap.size 0 n (fun i' j => vs.getD (i' * ei.size + j) undef) (by rw [chunks_len]; exact Nat.le_refl _) (fun _ => (chunks_len _ _ _).symm)
                (fun es hes' => by
                  obtain ⟨i', hi'⟩ := List.mem_iff_getElem?.1 hes'
                  obtain ⟨h1, h2⟩ := chunks_get _ _ _ _ _ hi'
                  refine ⟨?_, fun x hx => ?_⟩
                  · rw [h2]
                    simp
                    rw [dl, hcs]
                    have : (i' + 1) * ei.size ≤ n * ei.size := Nat.mul_le_mul_right _ (by omega)
                    rw [Nat.add_mul] at this
                    omega
                  · rw [h2] at hx
                    have hx := List.mem_of_mem_drop (List.mem_of_mem_take hx)
                    obtain ⟨k, hk⟩ := List.mem_iff_getElem?.1 hx
                    obtain ⟨y, _, hd⟩ := dget k x hk
                    exact deepC_one hd)
                (fun i' j es x hx hj => by
                  obtain ⟨h1, h2, h3, h4⟩ := hidx i' j es x hx hj
                  refine ⟨?_, hn2 _⟩
                  rw [Nat.zero_add, cell_of_row _ _ _ vs e (0, 0) (heap_alloc_new w _)]
                  simp [Array.getD_eq_getD_getElem?, h4])
                (fun i' j es x hx hj => by
                  obtain ⟨h1, h2, h3, h4⟩ := hidx i' j es x hx hj
                  refine hdeep _ x _ h3 ?_
                  simp [Array.getD_eq_getD_getElem?, h4])
              rw [chunks_len] at this
              exact this
        · cases hd
    · cases hd
end
end Go.Vi
