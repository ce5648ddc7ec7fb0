/- Loads, indexes, cuts, lengths. -/
import Derived.Test.YtmobgcpamblhhaaViOps3
set_option linter.unusedVariables false
set_option linter.unusedSimpArgs false
namespace Go.Vi
section
variable {P : Program} {te : TE} {σ : List LObj} {w : World} {ok : CellOk} {loc : Loc} {v : Value}

theorem add_at (b p j : Nat) : (⟨b, p, none⟩ : Addr).add j = ⟨b, p + j, none⟩ := by unfold Addr.add; split <;> simp_all

theorem load_at {t : TypeId} {i : TyI} (hi : TyOK P t i) {b p q : Nat} {cs : List AV} (hc : ∀ (j : Nat) (x : AV), cs[q + j]? = some x → ∃ v, w.cell? ⟨b, p + j, none⟩ = some v ∧ VRel w ok loc x v) {r : AV} (h : part i cs q = some r) :
    ∃ rv, (Instr.loadAt t (.pointer (some ⟨b, p, none⟩))).run P w = .ok rv w ∧ VRel w ok loc r rv := by
  unfold part at h
  simp only [Instr.loadAt, Instr.sureAddr, Sem.run_bind, Sem.run_pure, Result.andThen_ok, loadVar, hi.run_agg, Sem.run_ite]
  split at h
  · rename_i ha
    rw [if_pos ha]
    split at h
    · rename_i hle
      simp at h; subst h
      have hv : ∀ j, j < i.size → ∃ v, w.cell? ⟨b, p + j, none⟩ = some v ∧ ∀ x, cs[q + j]? = some x → VRel w ok loc x v := by
        intro j hj
        have hlt : q + j < cs.length := by omega
        obtain ⟨v, h1, h2⟩ := hc j _ (List.getElem?_eq_getElem hlt)
        exact ⟨v, h1, fun x hx => by rw [List.getElem?_eq_getElem hlt] at hx; cases hx; exact h2⟩
      obtain ⟨f, hf⟩ : ∃ f : Nat → Value, ∀ j, j < i.size → w.cell? ⟨b, p + j, none⟩ = some (f j) ∧ ∀ x, cs[q + j]? = some x → VRel w ok loc x (f j) := by
        refine ⟨fun j => if h : j < i.size then (hv j h).choose else undef, fun j hj => ?_⟩
        simp only [hj, dif_pos]
        exact (hv j hj).choose_spec
      have hrun := run_loadCells (P := P) w ⟨b, p, none⟩ i.size f (fun j hj => by rw [add_at]; exact (hf j hj).1)
      simp only [Sem.run_bind, hi.run_size, Result.andThen_ok, hrun, Sem.run_pure]
      refine ⟨_, rfl, .agg _ _ (by simp; omega) fun j x v hx hvj => ?_⟩
      have hj : j < i.size := by
        have := (List.getElem?_eq_some_iff.1 hx).1
        simp at this; omega
      rw [List.getElem?_take_of_lt hj, List.getElem?_drop] at hx
      simp [hj] at hvj
      subst hvj
      exact (hf j hj).2 x hx
    · cases h
  · rename_i ha
    rw [if_neg ha]
    obtain ⟨v, h1, h2⟩ := hc 0 r (by simpa using h)
    refine ⟨v, ?_, h2⟩
    simp only [run_load]
    simp only [Nat.add_zero] at h1
    simp [h1]

theorem loadD_sound (hte : TEOK P te) (hO : Own w ok loc σ) {t : TypeId} {x : AV} (hx : VRel w ok loc x v) {r : AV} (h : loadD te σ t x = some r) : ∃ rv, (Instr.loadAt t v).run P w = .ok rv w ∧ VRel w ok loc r rv := by
  unfold loadD at h
  cases hti : te t with
  | none => simp [hti] at h
  | some i =>
    have hi := hte t i hti
    simp only [hti, Option.bind_some] at h
    split at h
    · rename_i o off
      obtain ⟨b, hb, rfl⟩ := inv_ptr hx
      split at h
      · rename_i cs hcs
        have hr := hO.at hcs (by simp) hb
        cases hr with
        | cells _ _ vs ty h1 h2 h3 =>
          refine load_at hi (fun j x hx => ?_) h
          have hlt : off + j < vs.size := by rw [h2]; exact (List.getElem?_eq_some_iff.1 hx).1
          exact ⟨vs[off + j], by rw [cell_of_row w b _ vs ty _ h1]; exact Array.getElem?_eq_getElem hlt, h3 _ _ _ hx (Array.getElem?_eq_getElem hlt)⟩
      · cases h
    · rename_i o z e j
      obtain ⟨b, hb, rfl⟩ := inv_aptr hx
      have key : ∀ xs es, (σ[o]? = some (.arr z xs) ∨ σ[o]? = some (.frz z xs)) → xs[e]? = some es → part i es j = some r →
          ∃ rv, (Instr.loadAt t (.pointer (some ⟨b, e * z + j, none⟩))).run P w = .ok rv w ∧ VRel w ok loc r rv := by
        intro xs es hxs hes hp
        obtain ⟨vs, ty, fr, hv1, hv2, hv3, hv4⟩ := arr_cells hO hxs hb
        refine load_at hi (fun k x hk => ?_) hp
        obtain ⟨_, _, _, v, hv⟩ := arr_at hv2 hv3 hes hk
        exact ⟨v, by rw [cell_of_row w b _ vs ty fr hv1, Nat.add_assoc]; exact hv, .deep _ _ (hv4 _ _ _ _ _ hes hk hv)⟩
      split at h
      · rename_i z' xs hxs
        split at h
        · rename_i hz
          subst hz
          cases hes : xs[e]? with
          | none => simp [hes] at h
          | some es => simp only [hes, Option.bind_some] at h; exact key xs es (.inl hxs) hes h
        · cases h
      · rename_i z' xs hxs
        split at h
        · rename_i hz
          subst hz
          cases hes : xs[e]? with
          | none => simp [hes] at h
          | some es => simp only [hes, Option.bind_some] at h; exact key xs es (.inr hxs) hes h
        · cases h
      · cases h
    · rename_i cs j
      obtain ⟨b, o, val, rfl, h1, h2⟩ := inv_ep hx
      refine load_at hi (fun k x hk => ⟨val (j + k), ?_, .deep _ _ (h2 _ _ hk)⟩) h
      rw [Nat.add_assoc]; exact (h1 _ _ hk).1
    · cases h

theorem indexAddrD_sound (hte : TEOK P te) {t : TypeId} {x ix : AV} {vi : Value} (hx : VRel w ok loc x v) (hix : VRel w ok loc ix vi) {r : AV} (h : indexAddrD te t x ix = some r) : ∃ rv, (Instr.indexAt t v vi).run P w = .ok rv w ∧ VRel w ok loc r rv := by
  unfold indexAddrD at h
  split at h
  · rename_i e _ i hte1
    have hu := (hte _ _ hte1).slice rfl
    rw [inv_int hix]
    cases hti : te e with
    | none => simp [hti] at h
    | some ei =>
      have hsz := (hte _ _ hti).run_size w
      simp only [hti, Option.bind_some] at h
      split at h
      · rename_i z f xs
        split at h
        · rename_i hr
          split at h
          · rename_i hz
            subst hz
            cases hes : xs[i.toNat]? with
            | none => simp [hes] at h
            | some es =>
              simp [hes] at h; subst h
              obtain ⟨A, c, rfl, h1, h2, h3, h4⟩ := inv_sl hx
              have hne : xs ≠ [] := by rintro rfl; simp at hes
              obtain ⟨b, o, val, rfl, h5, h6⟩ := h4 hne
              refine ⟨.pointer (some ⟨b, o + i.toNat * ei.size + 0, none⟩), ?_, .ep _ _ b (o + i.toNat * ei.size) (fun j => val i.toNat j) (fun j y hy => ?_) (fun j y hy => h6 _ _ _ _ hes hy)⟩
              · simp only [Instr.indexAt, asIntOf, Sem.run_bind, Sem.run_pure, Result.andThen_ok, run_underlying hu, Sem.run_ite]
                rw [if_pos hr, hsz]
                simp [add_at]
              · have := h5 _ _ _ _ hes hy
                exact this
          · cases h
        · cases h
      · rename_i o z off len
        split at h
        · rename_i hr
          split at h
          · rename_i hz
            subst hz
            simp at h; subst h
            rcases inv_msl hx with ⟨rfl, a, rfl⟩ | ⟨b, c, e', n, hb, hs, h1, h2, rfl⟩
            · omega
            refine ⟨.pointer (some ⟨b, (off + i.toNat) * ei.size + 0, none⟩), ?_, .aptr _ _ _ _ b hb⟩
            simp only [Instr.indexAt, asIntOf, Sem.run_bind, Sem.run_pure, Result.andThen_ok, run_underlying hu, Sem.run_ite]
            rw [if_pos hr, hsz]
            simp [add_at, Nat.add_mul]
          · cases h
        · cases h
      · cases h
  · cases h

theorem indexD_sound (hte : TEOK P te) {t : TypeId} {x ix : AV} {vi : Value} (hx : VRel w ok loc x v) (hix : VRel w ok loc ix vi) {r : AV} (h : indexD te t x ix = some r) : ∃ rv, (Instr.index t v vi).run P w = .ok rv w ∧ VRel w ok loc r rv := by
  unfold indexD at h
  split at h
  · rename_i s k i hte1
    have hu := (hte _ _ hte1).string rfl
    rw [inv_int hix, inv_str hx]
    split at h
    · rename_i h0
      cases hs : s[i.toNat]? with
      | none => simp [hs] at h
      | some b =>
        simp [hs] at h; subst h
        refine ⟨.int .u8 b.toNat, ?_, .mkInt _ _⟩
        simp only [Instr.index, asIntOf, Sem.run_bind, Sem.run_pure, Result.andThen_ok, run_underlying hu, if_pos h0, hs]
    · cases h
  · rename_i n e cs k i hte1
    have hu := (hte _ _ hte1).array rfl
    rw [inv_int hix]
    obtain ⟨vs, rfl, hl, hr⟩ := inv_agg hx
    split at h
    · rename_i h0
      cases hti : te e with
      | none => simp [hti] at h
      | some ei =>
        simp only [hti, Option.bind_some] at h
        obtain ⟨rv, hrun, hrel⟩ := part_sound (hte _ _ hti) hl hr h w
        refine ⟨rv, ?_, hrel⟩
        simp only [Instr.index, asIntOf, Sem.run_bind, Sem.run_pure, Result.andThen_ok, run_underlying hu, Sem.run_ite, if_pos h0, (hte _ _ hti).run_size, hrun]
    · cases h
  · cases h

theorem lenD_sound (hte : TEOK P te) (hO : Own w ok loc σ) {t : TypeId} (ty : TypeId) {x : AV} (hx : VRel w ok loc x v) {r : AV} (h : lenD te σ t x = some r) :
    ∃ rv, (Builtin.len_ #[t] ty #[v]).run P w = .ok rv w ∧ VRel w ok loc r rv := by
  unfold lenD at h
  cases hti : te t with
  | none => simp [hti] at h
  | some i =>
    have hi := hte t i hti
    simp only [hti, Option.bind_some] at h
    split at h
    · rename_i s hd
      simp at h; subst h
      rw [inv_str hx]
      exact ⟨_, by simp [Builtin.len_, run_underlying (hi.string hd), goInt], .mkInt _ _⟩
    · rename_i e z f xs hd
      simp at h; subst h
      obtain ⟨A, c, rfl, _⟩ := inv_sl hx
      exact ⟨_, by simp [Builtin.len_, run_underlying (hi.slice hd), goInt], .mkInt _ _⟩
    · rename_i e o z off len hd
      simp at h; subst h
      rcases inv_msl hx with ⟨rfl, a, rfl⟩ | ⟨b, c, e', n, hb, hs, h1, h2, rfl⟩
      · exact ⟨.int .i64 ((0 : Nat) : Int), by simp [Builtin.len_, run_underlying (hi.slice hd), goInt], .mkInt _ _⟩
      · exact ⟨_, by simp [Builtin.len_, run_underlying (hi.slice hd), goInt], .mkInt _ _⟩
    · rename_i hd
      simp at h; subst h
      rw [inv_mp0 hx]
      exact ⟨_, by simp [Builtin.len_, run_underlying (hi.map hd), goInt], .mkInt _ _⟩
    · rename_i o hd
      obtain ⟨b, hb, rfl⟩ := inv_mp hx
      cases hes : σ[o]? with
      | none => simp [hes] at h
      | some ob =>
        cases ob with
        | map es =>
          simp [hes] at h; subst h
          have hr := hO.at hes (by simp) hb
          cases hr with
          | map _ _ entries clock h1 h2 h3 h4 =>
            refine ⟨.int .i64 entries.size, ?_, by rw [h2]; exact .mkInt _ _⟩
            simp [Builtin.len_, run_underlying (hi.map hd), goInt, getObj, Sem.run, h1]
        | _ => simp [hes] at h
    · rename_i es hd
      simp at h; subst h
      obtain ⟨b, entries, clock, rfl, h1, h2, _⟩ := inv_mv hx
      refine ⟨.int .i64 entries.size, ?_, by rw [h2]; exact .mkInt _ _⟩
      simp [Builtin.len_, run_underlying (hi.map hd), goInt, getObj, Sem.run, h1]
    · rename_i n e hd
      simp at h; subst h
      exact ⟨_, by simp [Builtin.len_, run_underlying (hi.array hd), goInt], .mkInt _ _⟩
    · cases h
end
end Go.Vi
