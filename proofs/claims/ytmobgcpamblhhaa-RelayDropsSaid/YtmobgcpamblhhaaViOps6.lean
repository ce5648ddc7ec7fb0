/- What makes or writes memory: variables, stores, structs, literals of slices. -/
import Derived.Test.YtmobgcpamblhhaaViOps5
import Derived.Laws.CopyRow
set_option linter.unusedVariables false
set_option linter.unusedSimpArgs false
namespace Go.Vi

theorem over_get {α : Type} (cs new : List α) (off j : Nat) (h : off + new.length ≤ cs.length) :
    (cs.take off ++ new ++ cs.drop (off + new.length))[j]? = if j < off then cs[j]? else if j < off + new.length then new[j - off]? else cs[j]? := by
  have h1 : (cs.take off).length = off := by simp; omega
  by_cases hj : j < off
  · rw [if_pos hj, List.append_assoc, List.getElem?_append_left (by omega), List.getElem?_take_of_lt hj]
  · rw [if_neg hj]
    by_cases hj2 : j < off + new.length
    · rw [if_pos hj2, List.append_assoc, List.getElem?_append_right (by omega), h1, List.getElem?_append_left (by omega)]
    · rw [if_neg hj2, List.getElem?_append_right (by simp; omega), List.getElem?_drop]
      congr 1
      simp [h1]
      omega
theorem over_len {α : Type} (cs new : List α) (off : Nat) (h : off + new.length ≤ cs.length) : (cs.take off ++ new ++ cs.drop (off + new.length)).length = cs.length := by
  simp; omega

section
variable {P : Program} {te : TE} {W0 : World} {X : Nat → Prop} {ok0 : CellOk} {nt : Nat} {s : St} {a : Act} {w : World} {ok : CellOk} {loc : Loc} {v : Value}

def Gives (P : Program) (W0 : World) (X : Nat → Prop) (ok0 : CellOk) (nt : Nat) (s : St) (a : Act) (w : World) (ok : CellOk) (loc : Loc) (m : Sem Value) (r : AV) (σ' : List LObj) : Prop :=
  ∃ v w' ok' loc', m.run P w = .ok v w' ∧ Ext w ok loc w' ok' loc' ∧ Inv W0 X ok0 nt ⟨s.slots, σ'⟩ a w' ok' loc' ∧ VRel w' ok' loc' r v
def GivesU (P : Program) (W0 : World) (X : Nat → Prop) (ok0 : CellOk) (nt : Nat) (s : St) (a : Act) (w : World) (ok : CellOk) (loc : Loc) (m : Sem Unit) (σ' : List LObj) : Prop :=
  ∃ w' ok' loc', m.run P w = .ok () w' ∧ Ext w ok loc w' ok' loc' ∧ Inv W0 X ok0 nt ⟨s.slots, σ'⟩ a w' ok' loc'

theorem Gives.value {m : Sem Value} {r : AV} (h : Inv W0 X ok0 nt s a w ok loc) (hr : ∃ v, m.run P w = .ok v w ∧ VRel w ok loc r v) : Gives P W0 X ok0 nt s a w ok loc m r s.σ := by
  obtain ⟨v, h1, h2⟩ := hr
  exact ⟨v, w, ok, loc, h1, Ext.refl _ _ _, h, h2⟩

theorem cells_one {x : AV} {c : Value} (h : VRel w ok loc x c) (h1 : x.one = true) : c.oneCell' = true ∧ c.cells = #[c] := by
  cases h with
  | junk => simp [AV.one] at h1
  | deep _ _ h => cases h <;> first | (simp [AV.one] at h1; done) | exact ⟨rfl, rfl⟩
  | agg => simp [AV.one] at h1
  | tup => simp [AV.one] at h1
  | _ => exact ⟨rfl, rfl⟩
theorem flat_rel {x : AV} {v : Value} (h : VRel w ok loc x v) (hj : x ≠ .junk) : v.cells.size = x.flat.length ∧ ∀ (j : Nat) (y : AV) (c : Value), x.flat[j]? = some y → v.cells[j]? = some c → VRel w ok loc y c := by
  by_cases ha : ∃ cs, x = .agg cs
  · obtain ⟨cs, rfl⟩ := ha
    obtain ⟨vs, rfl, h1, h2⟩ := inv_agg h
    exact ⟨h1, h2⟩
  · have hf : x.flat = [x] := by cases x <;> first | rfl | exact absurd ⟨_, rfl⟩ ha
    have hc : v.cells = #[v] := by
      cases h with
      | junk => exact absurd rfl hj
      | deep _ _ h => cases h <;> first | rfl | exact absurd ⟨_, rfl⟩ ha
      | agg => exact absurd ⟨_, rfl⟩ ha
      | _ => rfl
    rw [hf, hc]
    refine ⟨rfl, fun j y c hy hc => ?_⟩
    cases j with
    | zero => simp at hy hc; subst hy; subst hc; exact h
    | succ j => simp at hy

theorem deepC_one {σ : List LObj} {x y : AV} (h : deepC σ x = some y) : y.one = true := by
  unfold deepC at h
  split at h <;> first | (simp at h; subst h; rfl) | skip
  · split at h
    · split at h
      · simp at h; subst h; rfl
      · cases h
    · split at h
      · simp at h; subst h; rfl
      · cases h
    · cases h
  · split at h
    · simp at h; subst h; rfl
    · cases h
  · cases h
theorem idC_flat {y x : AV} {k o : Nat} (h : y.flat[k]? = some x) (ho : o ∈ idC x) : o ∈ idA y := by
  by_cases ha : ∃ cs, y = .agg cs
  · obtain ⟨cs, rfl⟩ := ha
    simp only [idA, List.mem_flatMap]
    exact ⟨x, List.mem_of_getElem? h, ho⟩
  · have hf : y.flat = [y] := by cases y <;> first | rfl | exact absurd ⟨_, rfl⟩ ha
    rw [hf] at h
    cases k with
    | zero => simp at h; subst h; cases y <;> first | exact ho | exact absurd ⟨_, rfl⟩ ha
    | succ k => simp at h

/-! ### Variables -/
theorem newVar_gives (h : Inv W0 X ok0 nt s a w ok loc) {t : TypeId} {x : AV} (hx : VRel w ok loc x v) (hj : x ≠ .junk) (m : Sem Value) (hm : m.run P w = (newVar t v >>= fun r => pure (Value.pointer (some r)) : Sem Value).run P w) :
    Gives P W0 X ok0 nt s a w ok loc m (.ptr (some (s.σ.length, 0))) (s.σ ++ [.cells x.flat]) := by
  obtain ⟨h1, h2⟩ := flat_rel hx hj
  obtain ⟨loc', hl, e, hI⟩ := h.alloc (.cells v.cells t) (.cells x.flat) (fun loc' e hl => .cells _ _ v.cells t (heap_alloc_new w _) h1 fun j y c hy hc => (h2 j y c hy hc).mono e)
  refine ⟨.pointer (some ⟨w.heap.size, 0, none⟩), w.alloc (.cells v.cells t), ok, loc', ?_, e, hI, .ptr _ _ _ hl⟩
  rw [hm]
  simp [newVar, newRow]

theorem alloc_gives (hte : TEOK P te) (h : Inv W0 X ok0 nt s a w ok loc) {t : TypeId} {i : TyI} (hti : te t = some i) (hz : i.zero ≠ .junk) :
    Gives P W0 X ok0 nt s a w ok loc (Instr.alloc t true (.tuple #[])) (.ptr (some (s.σ.length, 0))) (s.σ ++ [.cells i.zero.flat]) := by
  obtain ⟨z, hrun, hz'⟩ := (hte t i hti).run_zero w
  refine newVar_gives h (v := z) (.deep _ _ (hz' w ok)) hz _ (t := t) ?_
  simp [Instr.alloc, hrun]
theorem box_gives (h : Inv W0 X ok0 nt s a w ok loc) {t : TypeId} {x : AV} (hx : VRel w ok loc x v) (hj : x ≠ .junk) :
    Gives P W0 X ok0 nt s a w ok loc (Instr.box t v) (.ptr (some (s.σ.length, 0))) (s.σ ++ [.cells x.flat]) :=
  newVar_gives h hx hj _ (t := t) (by simp [Instr.box])

/-! ### Stores -/
theorem setRow_heap_other (w : World) (g : Nat) (cs : Array Value) (k : Nat) (h : k ≠ g) : (w.setRow g cs).heap[k]? = w.heap[k]? := by
  simp only [World.setRow, Array.getElem?_modify]
  rw [if_neg (fun e => h e.symm)]

theorem store_run {t : TypeId} {i : TyI} (hi : TyOK P t i) {b off : Nat} {cur : Array Value} {ty : TypeId} (hb : w.heap[b]? = some (.cells cur ty (0, 0))) {x : AV} (hx : VRel w ok loc x v) (hl : x.flat.length = i.size) (h1 : x.flat.all AV.one = true) (hj : x ≠ .junk)
    (hle : off + i.size ≤ cur.size) : (Instr.storeAt t (.pointer (some ⟨b, off, none⟩)) v).run P w = .ok () (w.setRow b (cur.toList.take off ++ v.cells.toList ++ cur.toList.drop (off + v.cells.toList.length)).toArray) := by
  obtain ⟨g1, g2⟩ := flat_rel hx hj
  have hone : ∀ c ∈ v.cells.toList, c.oneCell' = true := by
    intro c hc
    obtain ⟨j, hjc⟩ := List.mem_iff_getElem?.1 hc
    have hlt : j < x.flat.length := by have := (List.getElem?_eq_some_iff.1 hjc).1; simp at this; omega
    have hxj : x.flat[j]? = some x.flat[j] := List.getElem?_eq_getElem hlt
    exact (cells_one (g2 j _ c hxj (by simpa using hjc)) (List.all_eq_true.1 h1 _ (List.mem_of_getElem? hxj))).1
  have hs : v.cells.size = i.size := by omega
  have := run_storeCells_at P b off ty v.cells.toList 0 cur w hb (by simp; omega) hone
  simp only [Nat.add_zero] at this
  have e : (Instr.storeAt t (.pointer (some ⟨b, off, none⟩)) v).run P w = (storeCells ⟨b, off, none⟩ v.cells.toList).run P w := by
    simp [Instr.storeAt, Instr.sureAddr, storeVar, hi.run_size, hs]
  rw [e]
  exact this

theorem storeD_gives (hte : TEOK P te) (h : Inv W0 X ok0 nt s a w ok loc) {t : TypeId} {x y : AV} {vx vy : Value} (hx : VRel w ok loc x vx) (hy : VRel w ok loc y vy) {σ' : List LObj} (hd : storeD te s.σ t x y = some σ') :
    GivesU P W0 X ok0 nt s a w ok loc (Instr.storeAt t vx vy) σ' := by
  unfold storeD at hd
  cases hti : te t with
  | none => simp [hti] at hd
  | some i =>
    have hi := hte t i hti
    simp only [hti, Option.bind_some] at hd
    split at hd
    · rename_i hc
      obtain ⟨hl, h1⟩ := hc
      have hj : y ≠ .junk := by rintro rfl; simp [AV.flat, AV.one] at h1
      obtain ⟨g1, g2⟩ := flat_rel hy hj
      split at hd
      · rename_i o off
        obtain ⟨b, hb, rfl⟩ := inv_ptr hx
        split at hd
        · rename_i cs hcs
          split at hd
          · rename_i hle
            simp at hd; subst hd
            have hr := h.own.at hcs (by simp) hb
            cases hr with
            | cells _ _ cur ty q1 q2 q3 =>
              have hrun := store_run (off := off) hi q1 hy hl h1 hj (by omega)
              have hh := setRow_heap w b cur (cur.toList.take off ++ vy.cells.toList ++ cur.toList.drop (off + vy.cells.toList.length)).toArray ty (0, 0) q1
              have hlen : off + vy.cells.toList.length ≤ cur.toList.length := by simp; omega
              obtain ⟨e, hI⟩ := h.turn hcs rfl hb (o' := .cells (over cs off y.flat)) rfl (w' := w.setRow b (cur.toList.take off ++ vy.cells.toList ++ cur.toList.drop (off + vy.cells.toList.length)).toArray) rfl rfl rfl (by simp)
                (fun k hk => setRow_heap_other w b _ k hk)
                (fun x' hx' => by
                  have h5 := over_len cur.toList vy.cells.toList off hlen
                  simp only [World.shape?, q1] at hx'
                  simp only [World.shape?, hh]
                  rw [← hx', List.size_toArray, h5]
                  rfl)
                (fun e => by
                  refine .cells _ _ _ ty hh ?_ fun j z c hz hcj => ?_
                  · have h5 := over_len cur.toList vy.cells.toList off hlen
                    have h6 := over_len cs y.flat off (by omega)
                    show (cur.toList.take off ++ vy.cells.toList ++ cur.toList.drop (off + vy.cells.toList.length)).toArray.size = (cs.take off ++ y.flat ++ cs.drop (off + y.flat.length)).length
                    rw [List.size_toArray, h5, h6, ← q2]
                    simp
                  · have hz' : (cs.take off ++ y.flat ++ cs.drop (off + y.flat.length))[j]? = some z := hz
                    rw [over_get _ _ _ _ (by omega)] at hz'
                    have hc' : (cur.toList.take off ++ vy.cells.toList ++ cur.toList.drop (off + vy.cells.toList.length))[j]? = some c := by simpa using hcj
                    rw [over_get _ _ _ _ hlen] at hc'
                    have hll : vy.cells.toList.length = y.flat.length := by simp; omega
                    rw [hll] at hc'
                    split at hz'
                    · rename_i hjo
                      rw [if_pos hjo] at hc'
                      exact (q3 j z c hz' (by simpa using hc')).mono e
                    · rename_i hjo
                      rw [if_neg hjo] at hc'
                      split at hz'
                      · rename_i hjo2
                        rw [if_pos hjo2] at hc'
                        exact (g2 _ z c hz' (by simpa using hc')).mono e
                      · rename_i hjo2
                        rw [if_neg hjo2] at hc'
                        exact (q3 j z c hz' (by simpa using hc')).mono e)
              exact ⟨_, ok, loc, hrun, e, hI⟩
          · cases hd
        · cases hd
      · rename_i o z e' j
        obtain ⟨b, hb, rfl⟩ := inv_aptr hx
        obtain ⟨ok1, hw1, hI1, hG1⟩ := h.frzL (idA y)
        have hw1e : Ext w ok loc w ok1 loc := Ext.wider hw1
        split at hd
        · rename_i z' xs hcs
          split at hd
          · rename_i hz
            subst hz
            cases hes : xs[e']? with
            | none => simp [hes] at hd
            | some es =>
              cases hds : deepL s.σ y.flat with
              | none => simp [hes, hds] at hd
              | some ds =>
                simp only [hes, hds, Option.bind_some] at hd
                split at hd
                · rename_i hle
                  simp at hd; subst hd
                  obtain ⟨dl, dget⟩ := deepL_get hds
                  have hr := hI1.own.at hcs (by simp) hb
                  cases hr with
                  | arr _ _ _ cur ty q1 q2 q3 q4 =>
                    obtain ⟨qf1, qf2⟩ := q2 es (List.mem_of_getElem? hes)
                    have hel : e' < xs.length := (List.getElem?_eq_some_iff.1 hes).1
                    have hpos : e' * z' + z' ≤ xs.length * z' := by
                      have : (e' + 1) * z' ≤ xs.length * z' := Nat.mul_le_mul_right _ (by omega)
                      rwa [Nat.add_mul, Nat.one_mul] at this
                    have hrun := store_run (off := e' * z' + j) hi q1 hy hl h1 hj (by omega)
                    have hh := setRow_heap w b cur (cur.toList.take (e' * z' + j) ++ vy.cells.toList ++ cur.toList.drop (e' * z' + j + vy.cells.toList.length)).toArray ty (0, 0) q1
                    have hlen : e' * z' + j + vy.cells.toList.length ≤ cur.toList.length := by simp; omega
                    have hll : vy.cells.toList.length = ds.length := by simp; omega
                    have hdone : ∀ x ∈ ds, x.one = true := by
                      intro x hx
                      obtain ⟨k, hk⟩ := List.mem_iff_getElem?.1 hx
                      obtain ⟨y', _, hd⟩ := dget k x hk
                      exact deepC_one hd
                    have hdeep : ∀ (k : Nat) (x : AV) (c : Value), ds[k]? = some x → vy.cells[k]? = some c → VDeep w ok1 x c := by
                      intro k x c hx hc
                      obtain ⟨y', hy', hd⟩ := dget k x hx
                      refine deepC_sound h.own hw1 (g2 k y' c hy' hc) hd fun o' ho' => hG1 o' ?_
                      exact idC_flat hy' ho'
                    obtain ⟨e, hI⟩ := hI1.turn hcs rfl hb (o' := .arr z' (xs.set e' (over es j ds))) rfl (w' := w.setRow b (cur.toList.take (e' * z' + j) ++ vy.cells.toList ++ cur.toList.drop (e' * z' + j + vy.cells.toList.length)).toArray) rfl rfl rfl (by simp)
                      (fun k hk => setRow_heap_other w b _ k hk)
                      (fun x' hx' => by
                        have h5 := over_len cur.toList vy.cells.toList (e' * z' + j) hlen
                        simp only [World.shape?, q1] at hx'
                        simp only [World.shape?, hh]
                        rw [← hx', List.size_toArray, h5]
                        rfl)
                      (fun e => by
                        have hol : (over es j ds).length = z' := by
                          have := over_len es ds j (by omega)
                          unfold over; omega
                        refine .arr _ _ _ _ ty hh (fun es' hes' => ?_) ?_ fun i' j' es' x' v' hx hj' hv => ?_
                        · rcases List.mem_or_eq_of_mem_set hes' with hm | rfl
                          · exact q2 es' hm
                          · refine ⟨hol, fun x hx => ?_⟩
                            unfold over at hx
                            rcases List.mem_append.1 hx with hx | hx
                            · rcases List.mem_append.1 hx with hx | hx
                              · exact qf2 x (List.mem_of_mem_take hx)
                              · exact hdone x hx
                            · exact qf2 x (List.mem_of_mem_drop hx)
                        · have h5 := over_len cur.toList vy.cells.toList (e' * z' + j) hlen
                          rw [List.size_toArray, h5, List.length_set]
                          simpa using q3
                        · have hv' : (cur.toList.take (e' * z' + j) ++ vy.cells.toList ++ cur.toList.drop (e' * z' + j + vy.cells.toList.length))[i' * z' + j']? = some v' := by simpa using hv
                          rw [over_get _ _ _ _ hlen, hll] at hv'
                          by_cases hie : i' = e'
                          · subst hie
                            rw [List.getElem?_set_self hel] at hx
                            cases hx
                            have hj2 : (es.take j ++ ds ++ es.drop (j + ds.length))[j']? = some x' := hj'
                            rw [over_get _ _ _ _ (by omega)] at hj2
                            by_cases c1 : j' < j
                            · rw [if_pos c1] at hj2
                              rw [if_pos (by omega)] at hv'
                              exact (q4 i' j' es x' v' hes hj2 (by simpa using hv')).mono e.keep
                            · rw [if_neg c1] at hj2
                              rw [if_neg (by omega)] at hv'
                              by_cases c2 : j' < j + ds.length
                              · rw [if_pos c2] at hj2
                                rw [if_pos (by omega)] at hv'
                                rw [show i' * z' + j' - (i' * z' + j) = j' - j by omega] at hv'
                                exact (hdeep _ _ _ hj2 (by simpa using hv')).mono e.keep
                              · rw [if_neg c2] at hj2
                                rw [if_neg (by omega)] at hv'
                                exact (q4 i' j' es x' v' hes hj2 (by simpa using hv')).mono e.keep
                          · rw [List.getElem?_set_ne (Ne.symm hie)] at hx
                            have hjz : j' < z' := by have := (q2 es' (List.mem_of_getElem? hx)).1; rw [← this]; exact (List.getElem?_eq_some_iff.1 hj').1
                            have : ¬ (e' * z' + j ≤ i' * z' + j' ∧ i' * z' + j' < e' * z' + j + ds.length) := by
                              rintro ⟨l1, l2⟩
                              rcases Nat.lt_or_gt_of_ne hie with hlt | hgt
                              · have : (i' + 1) * z' ≤ e' * z' := Nat.mul_le_mul_right _ (by omega)
                                rw [Nat.add_mul] at this
                                omega
                              · have : (e' + 1) * z' ≤ i' * z' := Nat.mul_le_mul_right _ (by omega)
                                rw [Nat.add_mul] at this
                                omega
                            by_cases c1 : i' * z' + j' < e' * z' + j
                            · rw [if_pos c1] at hv'
                              exact (q4 i' j' es' x' v' hx hj' (by simpa using hv')).mono e.keep
                            · rw [if_neg c1, if_neg (by omega)] at hv'
                              exact (q4 i' j' es' x' v' hx hj' (by simpa using hv')).mono e.keep)
                    exact ⟨_, ok1, loc, hrun, hw1e.trans e, hI⟩
                · cases hd
          · cases hd
        · cases hd
      · cases hd
    · cases hd
end
end Go.Vi
