/- Typed cells, decoded. -/
import Derived.Test.YtmobgcpamblhhaaViRow
import Derived.Test.YtmobgcpamblhhaaViSpec
set_option linter.unusedVariables false
set_option linter.unusedSimpArgs false
namespace Go.Vi
theorem rows_enc {α : Type} {A : EL α} {P : α → Prop} : ∀ {rows : List (List AV)}, (∀ r ∈ rows, ∃ a, r = A.enc a ∧ P a) → ∃ l : List α, rows = l.map A.enc ∧ ∀ a ∈ l, P a
  | [], _ => ⟨[], rfl, fun a ha => by simp at ha⟩
  | r :: rows, h => by
    obtain ⟨a, ha, hp⟩ := h r (by simp)
    obtain ⟨l, hl, hq⟩ := rows_enc (rows := rows) fun x hx => h x (by simp [hx])
    refine ⟨a :: l, by simp [ha, hl], fun b hb => ?_⟩
    rcases List.mem_cons.1 hb with rfl | hb
    · exact hp
    · exact hq b hb
section
variable {te : TE} {n : Nat} {t : TypeId} {xs : List AV} {s y : Nat} {z : AV}
theorem TyC.int {k : IntKind} (ht : te t = some ⟨s, y, z, .int k⟩) (h : TyC te (n + 1) t xs) : ∃ m, xs = [.int k m] ∧ (Lit.int k m).wf = true := by
  simp only [TyC, ht] at h
  exact h
theorem TyC.bool (ht : te t = some ⟨s, y, z, .bool⟩) (h : TyC te (n + 1) t xs) : ∃ m, xs = [.bool m] := by
  simp only [TyC, ht] at h
  exact h
theorem TyC.string (ht : te t = some ⟨s, y, z, .string⟩) (h : TyC te (n + 1) t xs) : ∃ m, xs = [.str m] ∧ m.size ≤ 140737488351232 := by
  simp only [TyC, ht] at h
  exact h
theorem TyC.slice {e : TypeId} {s' y' : Nat} {z' : AV} {d : TyD} (ht : te t = some ⟨s, y, z, .slice e⟩) (he : te e = some ⟨s', y', z', d⟩) (h : TyC te (n + 1) t xs) : ∃ rows, xs = [.sl s' false rows] ∧ rows.length * y' ≤ 140737488351232 ∧ ∀ r ∈ rows, TyC te n e r := by
  simp only [TyC, ht, he] at h
  exact h
theorem TyC.struct {fs} (ht : te t = some ⟨s, y, z, .struct fs⟩) (h : TyC te (n + 1) t xs) : TyS (TyC te n) fs xs := by
  simp only [TyC, ht] at h
  exact h
theorem TyA.struct {fs} {x : AV} (ht : te t = some ⟨s, y, z, .struct fs⟩) (h : TyA te n t x) : ∃ xs, x = .agg xs ∧ TyC te n t xs := by
  simp only [TyA, ht] at h
  exact h
theorem TyA.leaf {x : AV} {d : TyD} (hd : ∀ fs, d ≠ .struct fs) (ht : te t = some ⟨s, y, z, d⟩) (h : TyA te n t x) : TyC te n t [x] := by
  simp only [TyA, ht] at h
  cases d <;> first | exact h | exact absurd rfl (hd _)
theorem TyS.cons {R : TypeId → List AV → Prop} {p} {ps} (h : TyS R (p :: ps) xs) : ∃ ys zs, xs = ys ++ zs ∧ R p.2 ys ∧ TyS R ps zs := h
theorem TyS.nil {R : TypeId → List AV → Prop} (h : TyS R [] xs) : xs = [] := h
end
end Go.Vi
