/- Reading: lists, cells, fields, indexes, cuts. -/
import Derived.Test.YtmobgcpamblhhaaViOps2
import Derived.Laws.BytesArg
set_option linter.unusedVariables false
set_option linter.unusedSimpArgs false
namespace Go.Vi
section
variable {P : Program} {te : TE} {σ : List LObj} {w : World} {ok : CellOk} {loc : Loc} {v : Value}

/-- A slice's elements, where they lie. -/
structure SlC (w : World) (ok : CellOk) (A : Option Addr) (z : Nat) (xs : List (List AV)) : Prop where
  len : ∀ es ∈ xs, Fit z es
  cell : xs ≠ [] → ∃ b o, A = some ⟨b, o, none⟩ ∧ ∀ (i j : Nat) (es : List AV) (x : AV), xs[i]? = some es → es[j]? = some x → ∃ v, w.cell? ⟨b, o + i * z + j, none⟩ = some v ∧ VDeep w ok x v

theorem arr_cells (hO : Own w ok loc σ) {o z b : Nat} {xs : List (List AV)} (h : σ[o]? = some (.arr z xs) ∨ σ[o]? = some (.frz z xs)) (hb : loc o = some b) :
    ∃ (vs : Array Value) (ty : TypeId) (fr : Nat × Nat), w.heap[b]? = some (.cells vs ty fr) ∧ (∀ es ∈ xs, Fit z es) ∧ xs.length * z ≤ vs.size ∧
      (∀ (i j : Nat) (es : List AV) (x : AV) (v : Value), xs[i]? = some es → es[j]? = some x → vs[i * z + j]? = some v → VDeep w ok x v) := by
  rcases h with h | h <;>
  · have hr := hO.at h (by simp) hb
    cases hr
    exact ⟨_, _, _, by assumption, by assumption, by assumption, by assumption⟩

/-- Where cell j of element i of an owned row lies. -/
theorem arr_at {vs : Array Value} {z : Nat} {xs : List (List AV)} (hl : ∀ es ∈ xs, Fit z es) (hs : xs.length * z ≤ vs.size) {i j : Nat} {es : List AV} {x : AV} (hi : xs[i]? = some es) (hj : es[j]? = some x) :
    i < xs.length ∧ j < z ∧ i * z + j < xs.length * z ∧ ∃ v, vs[i * z + j]? = some v := by
  have hil : i < xs.length := (List.getElem?_eq_some_iff.1 hi).1
  have hjl : j < z := by have := (hl es (List.mem_of_getElem? hi)).1; rw [← this]; exact (List.getElem?_eq_some_iff.1 hj).1
  have hlt : i * z + j < xs.length * z := by
    have : (i + 1) * z ≤ xs.length * z := Nat.mul_le_mul_right _ (by omega)
    rw [Nat.add_mul] at this
    omega
  exact ⟨hil, hjl, hlt, _, Array.getElem?_eq_getElem (by omega)⟩

theorem listOf_sound (hO : Own w ok loc σ) {x : AV} (hx : VRel w ok loc x v) {z : Nat} {xs : List (List AV)} (h : listOf σ x = some (z, xs)) :
    (∃ A c, v = .slice A xs.length c ∧ SlC w ok A z xs) ∨ (∃ s, x = .str s ∧ v = .string s ∧ z = 1 ∧ xs = bytesOf s) := by
  unfold listOf at h
  split at h
  · rename_i z' f xs'
    simp at h
    obtain ⟨rfl, rfl⟩ := h
    obtain ⟨A, c, rfl, h1, h2, h3, h4⟩ := inv_sl hx
    refine .inl ⟨A, c, rfl, h3, fun hne => ?_⟩
    obtain ⟨b, o, val, rfl, h5, h6⟩ := h4 hne
    exact ⟨b, o, rfl, fun i j es x hi hj => ⟨_, (h5 i j es x hi hj).1, h6 i j es x hi hj⟩⟩
  · rename_i o z' off len
    rcases inv_msl hx with ⟨rfl, a, rfl⟩ | ⟨b, c, e, n, hb, hs, h1, h2, rfl⟩
    · have : xs = [] := by
        split at h
        · split at h
          · simp [sub] at h; exact h.2
          · cases h
        · split at h
          · simp [sub] at h; exact h.2
          · cases h
        · cases h
      subst this
      exact .inl ⟨a, 0, rfl, ⟨fun es hes => (by cases hes), fun h => absurd rfl h⟩⟩
    have key : ∀ ys, (σ[o]? = some (.arr z' ys) ∨ σ[o]? = some (.frz z' ys)) → off + len ≤ ys.length → z = z' → xs = sub off len ys →
        ∃ A c', (Value.slice (some ⟨b, off * z', none⟩) len c) = .slice A xs.length c' ∧ SlC w ok A z xs := by
      rintro ys hys hle rfl rfl
      obtain ⟨vs, ty, fr, hv1, hv2, hv3, hv4⟩ := arr_cells hO hys hb
      refine ⟨some ⟨b, off * z, none⟩, c, by rw [sub_length off len ys hle], fun es hes => ?_, fun _ => ⟨b, off * z, rfl, fun i j es x hi hj => ?_⟩⟩
      · obtain ⟨i, hi⟩ := List.mem_iff_getElem?.1 hes
        exact hv2 es (List.mem_of_getElem? (sub_getElem? off len i ys es hi).2)
      · obtain ⟨_, hi'⟩ := sub_getElem? off len i ys es hi
        obtain ⟨_, _, _, v, hv⟩ := arr_at hv2 hv3 hi' hj
        refine ⟨v, ?_, hv4 _ _ _ _ _ hi' hj hv⟩
        rw [show off * z + i * z + j = (off + i) * z + j by rw [Nat.add_mul], cell_of_row w b _ vs ty fr hv1, hv]
    split at h
    · rename_i z2 ys hys
      split at h
      · rename_i hc
        simp at h
        obtain ⟨rfl, rfl⟩ := h
        obtain ⟨rfl, hle⟩ := hc
        exact .inl (key ys (.inl hys) hle rfl rfl)
      · cases h
    · rename_i z2 ys hys
      split at h
      · rename_i hc
        simp at h
        obtain ⟨rfl, rfl⟩ := h
        obtain ⟨rfl, hle⟩ := hc
        exact .inl (key ys (.inr hys) hle rfl rfl)
      · cases h
    · cases h
  · rename_i s
    simp at h
    obtain ⟨rfl, rfl⟩ := h
    exact .inr ⟨s, rfl, inv_str hx, rfl, rfl⟩
  · cases h

theorem convD_sound (hte : TEOK P te) (hO : Own w ok loc σ) {src dst : TypeId} {x : AV} (hx : VRel w ok loc x v) {r : AV} (h : convD te σ src dst x = some r) : ∃ rv, (convert src dst v).run P w = .ok rv w ∧ VRel w ok loc r rv := by
  unfold convD at h
  split at h
  · rename_i h1 h2
    simp at h; subst h
    rw [inv_int hx]
    have e1 := (hte _ _ h1).int rfl
    have e2 := (hte _ _ h2).int rfl
    exact ⟨_, by simp [convert, run_underlying e1, run_underlying e2, Conv.intToInt], .mkInt _ _⟩
  · rename_i h1 h2
    simp at h; subst h
    rw [inv_str hx]
    have e1 := (hte _ _ h1).string rfl
    have e2 := (hte _ _ h2).string rfl
    exact ⟨_, by simp [convert, run_underlying e1, run_underlying e2], .mkStr _⟩
  · rename_i x _ _ _ _ _ _ e _ _ _ h1 h2
    have e1 := (hte _ _ h1).slice rfl
    have e2 := (hte _ _ h2).string rfl
    split at h
    · rename_i h3 his
      have e3 := (hte _ _ h3).int rfl
      cases hl : listOf σ x with
      | none => simp [hl] at h
      | some p =>
        obtain ⟨z, xs⟩ := p
        simp only [hl, Option.bind_some] at h
        split at h
        · rename_i hall
          simp at h; subst h
          rcases listOf_sound hO hx hl with ⟨A, c, rfl, hc⟩ | ⟨s, rfl, _⟩
          · let ns : List Int := xs.map fun es => match es with | [.int _ n] => n | _ => 0
            have hb : ∀ es ∈ xs, ∃ n, es = [.int .u8 n] := by
              intro es hes
              have := List.all_eq_true.1 hall es hes
              unfold isByte at this
              split at this
              · exact ⟨_, rfl⟩
              · cases this
            have hns : strOfNums ns = ⟨(xs.map byteOf).toArray⟩ := by
              unfold strOfNums
              congr 2
              simp only [ns, List.map_map]
              refine List.map_congr_left fun es hes => ?_
              obtain ⟨n, rfl⟩ := hb es hes
              rfl
            rw [← hns]
            cases xs with
            | nil =>
              cases A with
              | none => exact ⟨_, run_convert_bytes_nil w src e e1 e3 _ _ dst e2, .mkStr _⟩
              | some a =>
                refine ⟨_, ?_, .mkStr _⟩
                rw [run_convert_bytes_string w src dst e _ _ _ e1 e3 e2]
                simp [Conv.bytesToString, loadCells, loadCellsFrom, ns, strOfNums]
                rfl
            | cons y ys =>
              obtain ⟨b, o, rfl, hcell⟩ := hc.cell (by simp)
              refine ⟨_, run_convert_bytes_arg w src e e1 e3 b o (y :: ys).length c ns (by simp [ns]) (fun i hi => ?_) dst e2, .mkStr _⟩
              have hes : (y :: ys)[i]? = some (y :: ys)[i] := List.getElem?_eq_getElem hi
              obtain ⟨n, hn⟩ := hb _ (List.mem_of_getElem? hes)
              obtain ⟨v, hv, hd⟩ := hcell i 0 _ (.int .u8 n) hes (by rw [hn]; rfl)
              have hz : z = 1 := by have := (hc.len _ (List.mem_of_getElem? hes)).1; rw [hn] at this; simpa using this.symm
              subst hz
              cases hd
              have : ns.getD i 0 = n := by
                rw [List.getD_eq_getElem?_getD]
                show ((List.map _ (y :: ys))[i]?).getD 0 = n
                rw [List.getElem?_map, hes, hn]
                rfl
              rw [this]
              simpa using hv
          · simp [AV.isIS] at his
        · cases h
    · cases h
  · cases h

theorem fieldD_sound (hte : TEOK P te) {t : TypeId} {x : AV} (hx : VRel w ok loc x v) {f : Nat} {r : AV} (h : fieldD te t x f = some r) : ∃ rv, (Instr.field t v f).run P w = .ok rv w ∧ VRel w ok loc r rv := by
  unfold fieldD at h
  split at h
  · rename_i fs cs h1
    obtain ⟨fields, hu, hfs, _, _⟩ := (hte _ _ h1).struct rfl
    obtain ⟨hl, hget⟩ := fieldsOk_get hfs
    obtain ⟨vs, rfl, hs, hr⟩ := inv_agg hx
    cases hp : fs[f]? with
    | none => simp [hp] at h
    | some p =>
      obtain ⟨fd, hfd, ho, hty, _⟩ := hget f p hp
      cases hti : te p.2 with
      | none => simp [hp, hti] at h
      | some i =>
        simp only [hp, hti, Option.bind_some] at h
        obtain ⟨rv, hrun, hrel⟩ := part_sound (hte _ _ hti) hs hr h w
        refine ⟨rv, ?_, hrel⟩
        have hfd' : fields[f]? = some fd := by simpa using hfd
        simp only [Instr.field, Sem.run_bind, run_underlying hu, Result.andThen_ok, hfd', asAgg, Sem.run_pure, hty, ho, hrun]
  · cases h

theorem fieldAddrD_sound (hte : TEOK P te) {t : TypeId} {x : AV} (hx : VRel w ok loc x v) {f : Nat} {r : AV} (h : fieldAddrD te t x f = some r) : ∃ rv, (Instr.fieldAt t v f).run P w = .ok rv w ∧ VRel w ok loc r rv := by
  unfold fieldAddrD at h
  split at h
  · rename_i fs h1
    obtain ⟨fields, hu, hfs, _, _⟩ := (hte _ _ h1).struct rfl
    obtain ⟨hl, hget⟩ := fieldsOk_get hfs
    cases hp : fs[f]? with
    | none => simp [hp] at h
    | some p =>
      obtain ⟨fd, hfd, ho, hty, _⟩ := hget f p hp
      have hfd' : fields[f]? = some fd := by simpa using hfd
      cases hti : te p.2 with
      | none => simp [hp, hti] at h
      | some i =>
        simp only [hp, hti, Option.bind_some] at h
        split at h
        · cases h
        · rename_i hz
          have hsz := (hte _ _ hti).run_size w
          have key : ∀ a : Addr, a.spot = none → v = .pointer (some a) → (Instr.fieldAt t v f).run P w = .ok (.pointer (some ⟨a.block, a.off + p.1, none⟩)) w := by
            rintro ⟨b, o, sp⟩ hsp rfl
            simp at hsp; subst hsp
            simp only [Instr.fieldAt, Sem.run_bind, run_underlying hu, Result.andThen_ok, hfd', Instr.sureAddr, Sem.run_pure, fieldPlace, hty, hsz, if_neg hz, ho, Addr.add, Sem.run_ite, Result.andThen_ite]
            by_cases h0 : p.1 = 0 <;> simp [h0, hz]
          split at h
          · rename_i o off
            simp at h; subst h
            obtain ⟨b, hb, rfl⟩ := inv_ptr hx
            exact ⟨_, key _ rfl rfl, .ptr _ _ b hb⟩
          · rename_i o z i' j
            simp at h; subst h
            obtain ⟨b, hb, rfl⟩ := inv_aptr hx
            exact ⟨_, key _ rfl rfl, by rw [Nat.add_assoc]; exact .aptr _ _ _ _ b hb⟩
          · rename_i cs j
            simp at h; subst h
            obtain ⟨b, o, val, rfl, h1, h2⟩ := inv_ep hx
            exact ⟨_, key _ rfl rfl, by rw [Nat.add_assoc]; exact .ep _ _ b o val h1 h2⟩
          · cases h
  · cases h
end
end Go.Vi
