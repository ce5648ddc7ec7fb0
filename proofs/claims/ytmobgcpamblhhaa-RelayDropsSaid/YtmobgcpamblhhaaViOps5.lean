/- Cuts, least and greatest, structs that are built. -/
import Derived.Test.YtmobgcpamblhhaaViOps4
set_option linter.unusedVariables false
set_option linter.unusedSimpArgs false
namespace Go.Vi
section
variable {P : Program} {te : TE} {σ : List LObj} {w : World} {ok : CellOk} {loc : Loc} {v : Value}

def ORelO (w : World) (ok : CellOk) (loc : Loc) : Option AV → Option Value → Prop
  | none, none => True
  | some a, some v => VRel w ok loc a v
  | _, _ => False

theorem numOf_sound {a : Option AV} {o : Option Value} (h : ORelO w ok loc a o) {n : Option Int} (hn : numOf a = some n) : (n = none ∧ o = none) ∨ ∃ k m, n = some m ∧ o = some (.int k m) := by
  unfold numOf at hn
  split at hn
  · simp at hn
    cases o with
    | none => exact .inl ⟨hn.symm, rfl⟩
    | some v => exact h.elim
  · rename_i k m
    simp at hn
    cases o with
    | none => exact h.elim
    | some v => exact .inr ⟨k, m, hn.symm, by rw [inv_int h]⟩
  · cases hn

theorem run_bound {k : IntKind} {i : Int} {y : Nat} (h : 0 ≤ i ∧ i ≤ y) (code : BoundsCode) : (Instr.sliceBound (.int k i) y code).run P w = .ok i.toNat w := by
  simp [Instr.sliceBound, asIntOf, h]

theorem run_bounds (isS : Bool) (len cap : Nat) {l h : Option Int} {lo hi : Option Value} (hlo : (l = none ∧ lo = none) ∨ ∃ k m, l = some m ∧ lo = some (.int k m)) (hhi : (h = none ∧ hi = none) ∨ ∃ k m, h = some m ∧ hi = some (.int k m))
    (h0 : 0 ≤ l.getD 0) (h1 : l.getD 0 ≤ h.getD len) (h2 : h.getD len ≤ len) (hc : len ≤ cap) :
    (Instr.sliceBounds isS len cap lo hi none).run P w = .ok ((l.getD 0).toNat, (h.getD len).toNat, cap) w := by
  rcases hlo with ⟨rfl, rfl⟩ | ⟨k, m, rfl, rfl⟩ <;> rcases hhi with ⟨rfl, rfl⟩ | ⟨k', m', rfl, rfl⟩ <;> simp only [Option.getD_none, Option.getD_some] at h0 h1 h2
  · simp [Instr.sliceBounds]
  · have e1 : 0 ≤ m' ∧ m' ≤ cap := ⟨by omega, by omega⟩
    simp [Instr.sliceBounds, run_bound e1]
  · have e1 : 0 ≤ m ∧ m ≤ len := ⟨by omega, by omega⟩
    simp [Instr.sliceBounds, run_bound e1]
  · have e1 : 0 ≤ m' ∧ m' ≤ cap := ⟨by omega, by omega⟩
    have e2 : 0 ≤ m ∧ m ≤ (m'.toNat : Int) := ⟨by omega, by omega⟩
    simp [Instr.sliceBounds, run_bound e1, run_bound e2]

theorem run_bounds3 (len cap : Nat) {l : Option Int} {h : Int} {lo : Option Value} {k k' : IntKind} (hlo : (l = none ∧ lo = none) ∨ ∃ k m, l = some m ∧ lo = some (.int k m))
    (h0 : 0 ≤ l.getD 0) (h1 : l.getD 0 ≤ h) (h2 : h ≤ len) (hc : len ≤ cap) :
    (Instr.sliceBounds true len cap lo (some (.int k h)) (some (.int k' h))).run P w = .ok ((l.getD 0).toNat, h.toNat, h.toNat) w := by
  have e1 : 0 ≤ h ∧ h ≤ cap := ⟨by omega, by omega⟩
  have e2 : 0 ≤ h ∧ h ≤ (h.toNat : Int) := ⟨by omega, by omega⟩
  rcases hlo with ⟨rfl, rfl⟩ | ⟨k, m, rfl, rfl⟩ <;> simp only [Option.getD_none, Option.getD_some] at h0 h1
  · simp [Instr.sliceBounds, run_bound e1, run_bound e2]
  · have e3 : 0 ≤ m ∧ m ≤ (h.toNat : Int) := ⟨by omega, by omega⟩
    simp [Instr.sliceBounds, run_bound e1, run_bound e2, run_bound e3]

theorem sliceAt_slice {t e : TypeId} (hu : P.underlying t = some (.slice e)) (v : Value) (lo hi mx : Option Value) : (Instr.sliceAt t v lo hi mx).run P w = (Instr.slice t v lo hi mx).run P w := by
  simp [Instr.sliceAt, run_underlying hu]
theorem sliceAt_string {t : TypeId} (hu : P.underlying t = some .string) (v : Value) (lo hi mx : Option Value) : (Instr.sliceAt t v lo hi mx).run P w = (Instr.slice t v lo hi mx).run P w := by
  simp [Instr.sliceAt, run_underlying hu]

/-- A cut of a slice, where it lies. -/
theorem cut_sl {z : Nat} {f f' : Bool} {xs : List (List AV)} {A : Option Addr} {c l n m : Nat} (hx : VRel w ok loc (.sl z f xs) (.slice A xs.length c)) (hle : l + n ≤ xs.length) (hm : l + n ≤ m) (hmc : m ≤ c) (hf : f' = true → m = l + n) :
    VRel w ok loc (.sl z f' (sub l n xs)) (.slice (if m = l then A else A.map (·.add (l * z))) n (m - l)) := by
  obtain ⟨A', c', he, h1, h2, h3, h4⟩ := inv_sl hx
  cases he
  have hlen := sub_length l n xs hle
  by_cases h0 : n = 0
  · subst h0
    have : sub l 0 xs = [] := List.eq_nil_of_length_eq_zero hlen
    rw [this]
    exact .deep _ _ (.emp _ _ _ _ (fun e => by have := hf e; omega))
  · have hne : xs ≠ [] := by rintro rfl; simp at hle; omega
    obtain ⟨b, o, val, rfl, h5, h6⟩ := h4 hne
    have hml : ¬ m = l := by omega
    rw [if_neg hml]
    simp only [Option.map_some, add_at]
    have := VDeep.sl (w := w) (ok := ok) z f' (sub l n xs) b (o + l * z) (m - l) (fun i j => val (l + i) j) (by omega) (fun e => by have := hf e; omega)
      (fun es hes => by
        obtain ⟨i, hi⟩ := List.mem_iff_getElem?.1 hes
        exact h3 es (List.mem_of_getElem? (sub_getElem? l n i xs es hi).2))
      (fun i j es x hi hj => by
        obtain ⟨_, hi'⟩ := sub_getElem? l n i xs es hi
        rw [show o + l * z + i * z + j = o + (l + i) * z + j by rw [Nat.add_mul]; omega]
        exact h5 _ _ _ _ hi' hj)
      (fun i j es x hi hj => h6 _ _ _ _ (sub_getElem? l n i xs es hi).2 hj)
    rw [hlen] at this
    exact .deep _ _ this

theorem sliceD_sound (hte : TEOK P te) {t : TypeId} {x : AV} {lo hi mx : Option AV} {vlo vhi vmx : Option Value} (hx : VRel w ok loc x v) (h1 : ORelO w ok loc lo vlo) (h2 : ORelO w ok loc hi vhi) (h3 : ORelO w ok loc mx vmx)
    {r : AV} (h : sliceD te t x lo hi mx = some r) : ∃ rv, (Instr.sliceAt t v vlo vhi vmx).run P w = .ok rv w ∧ VRel w ok loc r rv := by
  unfold sliceD at h
  split at h
  · rename_i l hh hte1 hl hh' hm
    have hu := (hte _ _ hte1).string rfl
    rw [sliceAt_string hu]
    have a1 := numOf_sound h1 hl
    have a2 := numOf_sound h2 hh'
    have a3 := numOf_sound h3 hm
    rcases a3 with ⟨_, rfl⟩ | ⟨_, _, e, _⟩
    · split at h
      · rename_i s
        split at h
        · rename_i hc
          simp at h; subst h
          rw [inv_str hx]
          refine ⟨_, ?_, .mkStr _⟩
          simp only [Instr.slice, Sem.run_bind, run_underlying hu, Result.andThen_ok, Option.isSome_none, Bool.false_eq_true, if_false, run_bounds false s.size s.size a1 a2 hc.1 hc.2.1 hc.2.2 (Nat.le_refl _), Sem.run_pure]
        · cases h
      · cases h
    · cases e
  · rename_i e l hh m hte1 hl hh' hm
    have hu := (hte _ _ hte1).slice rfl
    rw [sliceAt_slice hu]
    have a1 := numOf_sound h1 hl
    have a2 := numOf_sound h2 hh'
    have a3 := numOf_sound h3 hm
    cases hti : te e with
    | none => simp [hti] at h
    | some ei =>
      have hsz := (hte _ _ hti).run_size w
      simp only [hti, Option.bind_some] at h
      split at h
      · rename_i z f xs
        split at h
        · rename_i hc
          obtain ⟨c0, c1, c2, c3, rfl⟩ := hc
          simp at h; subst h
          obtain ⟨A, c, rfl, g1, g2, g3, g4⟩ := inv_sl hx
          have hln : (l.getD 0).toNat + ((hh.getD xs.length).toNat - (l.getD 0).toNat) = (hh.getD xs.length).toNat := by omega
          rcases a3 with ⟨rfl, rfl⟩ | ⟨k', m', rfl, rfl⟩
          · refine ⟨_, by simp only [Instr.slice, Sem.run_bind, run_underlying hu, Result.andThen_ok, run_bounds true xs.length c a1 a2 c0 c1 c2 g1, hsz, Sem.run_pure]; rfl, ?_⟩
            refine cut_sl hx (by omega) (by omega) (Nat.le_refl _) (fun hf => ?_)
            simp only [Option.isSome_none, Bool.false_or, Bool.and_eq_true] at hf
            have : hh = none := by simpa using hf.2
            subst this
            simp only [Option.getD_none] at *
            have := g2 hf.1
            omega
          · have : hh = some m' := (c3 rfl).symm
            subst this
            rcases a2 with ⟨e, _⟩ | ⟨k, m, e, rfl⟩
            · cases e
            · cases e
              simp only [Option.getD_some] at c1 c2
              refine ⟨_, by simp only [Instr.slice, Sem.run_bind, run_underlying hu, Result.andThen_ok, run_bounds3 xs.length c a1 c0 c1 c2 g1, hsz, Sem.run_pure]; rfl, ?_⟩
              refine cut_sl hx (by simp only [Option.getD_some] at *; omega) (by simp only [Option.getD_some] at *; omega) (by omega) (fun hf => by simp only [Option.getD_some]; omega)
        · cases h
      · rename_i o z off len
        split at h
        · rename_i hc
          obtain ⟨c0, c1, c2, c3, rfl⟩ := hc
          simp at h; subst h
          have : m = none := by simpa using c3
          subst this
          rcases a3 with ⟨_, rfl⟩ | ⟨_, _, e, _⟩
          · rcases inv_msl hx with ⟨rfl, a, rfl⟩ | ⟨b, c, e', n, hb, hs, g1, g2, rfl⟩
            · have e0 : (l.getD 0).toNat = 0 := by omega
              have e1 : (hh.getD ((0 : Nat) : Int)).toNat = 0 := by omega
              refine ⟨_, by simp only [Instr.slice, Sem.run_bind, run_underlying hu, Result.andThen_ok, run_bounds true 0 0 a1 a2 c0 c1 c2 (Nat.le_refl _), hsz, Sem.run_pure]; rfl, ?_⟩
              rw [e0, e1]
              exact .mslE _ _ _ _
            refine ⟨_, by simp only [Instr.slice, Sem.run_bind, run_underlying hu, Result.andThen_ok, run_bounds true len c a1 a2 c0 c1 c2 g2, hsz, Sem.run_pure]; rfl, ?_⟩
            have hlc : (l.getD 0).toNat ≤ c := by omega
            by_cases hcl : c = (l.getD 0).toNat
            · rw [if_pos hcl]
              have e0 : (hh.getD (len : Int)).toNat - (l.getD 0).toNat = 0 := by omega
              rw [e0, hcl, Nat.sub_self]
              exact .mslE _ _ _ _
            · rw [if_neg hcl]
              simp only [Option.map_some, add_at]
              have := VRel.msl (w := w) (ok := ok) (loc := loc) o ei.size (off + (l.getD 0).toNat) ((hh.getD len).toNat - (l.getD 0).toNat) b (c - (l.getD 0).toNat) e' n hb hs (by rw [show off + (l.getD 0).toNat + (c - (l.getD 0).toNat) = off + c by omega]; exact g1) (by omega)
              rw [Nat.add_mul] at this
              exact this
          · cases e
        · cases h
      · cases h
  · cases h
end
end Go.Vi
