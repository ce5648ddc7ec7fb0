/- The seat's typed values. -/
import Derived.Test.YtmobgcpamblhhaaViTyp
import Derived.Test.YtmobgcpamblhhaaViPt
import Derived.Test.YtmobgcpamblhhaaTeA
set_option linter.unusedVariables false
set_option linter.unusedSimpArgs false
namespace Go.Proofs.Ytmobgcpamblhhaa
open Go.Vi
variable {n : Nat} {xs : List AV} {x : AV}
theorem ty_int (h : TyC te (n + 1) 3 xs) : ∃ m : Int, xs = [.int .i64 m] := by
  obtain ⟨m, h, _⟩ := TyC.int te_3 h
  exact ⟨m, h⟩
theorem ty_pt (h : TyC te (n + 2) 25 xs) : ∃ p : Pt, xs = ePt.enc p := by
  obtain ⟨a, r, rfl, h1, h⟩ := (TyC.struct te_25 h).cons
  obtain ⟨b, r, rfl, h2, h⟩ := h.cons
  obtain ⟨c, r, rfl, h3, h⟩ := h.cons
  obtain ⟨d, r, rfl, h4, h⟩ := h.cons
  have := h.nil
  subst this
  obtain ⟨a, rfl⟩ := ty_int h1
  obtain ⟨b, rfl⟩ := ty_int h2
  obtain ⟨c, rfl⟩ := ty_int h3
  obtain ⟨d, rfl, _⟩ := TyC.int te_23 h4
  exact ⟨⟨a, b, c, d⟩, rfl⟩
theorem ty_hop (h : TyC te (n + 3) 37 xs) : ∃ p : Hop, xs = eHop.enc p := by
  obtain ⟨a, r, rfl, h1, h⟩ := (TyC.struct te_37 h).cons
  obtain ⟨b, r, rfl, h2, h⟩ := h.cons
  have := h.nil
  subst this
  obtain ⟨a, rfl⟩ := ty_int h1
  obtain ⟨p, rfl⟩ := ty_pt h2
  exact ⟨⟨a, p⟩, rfl⟩
theorem ty_hops (h : TyC te (n + 4) 33 xs) : ∃ l : List Hop, xs = [.sl 5 false (l.map eHop.enc)] := by
  obtain ⟨rows, rfl, hl, h⟩ := TyC.slice te_33 te_37 h
  obtain ⟨l, rfl, _⟩ := rows_enc (A := eHop) (P := fun _ => True) fun r hr => by
    obtain ⟨p, hp⟩ := ty_hop (h r hr)
    exact ⟨p, hp, trivial⟩
  exact ⟨l, rfl⟩
theorem ty_act (h : TyC te (n + 6) 81 xs) : ∃ a : Act', xs = eAct.enc a := by
  obtain ⟨a, r, rfl, h1, h⟩ := (TyC.struct te_81 h).cons
  obtain ⟨b, r, rfl, h2, h⟩ := h.cons
  have := h.nil
  subst this
  obtain ⟨a, rfl⟩ := TyC.bool te_4 h1
  obtain ⟨c, r, rfl, h3, h⟩ := (TyC.struct te_35 h2).cons
  obtain ⟨d, r, rfl, h4, h⟩ := h.cons
  have := h.nil
  subst this
  obtain ⟨c, rfl⟩ := ty_int h3
  obtain ⟨d, rfl⟩ := ty_hops h4
  exact ⟨⟨a, c, false, d⟩, rfl⟩
theorem tya_int (h : TyA te 8 3 x) : ∃ m : Int, x = .int .i64 m := by
  obtain ⟨m, h⟩ := ty_int (TyA.leaf (by simp) te_3 h)
  exact ⟨m, by simpa using h⟩
theorem tya_pt (h : TyA te 8 25 x) : ∃ p : Pt, x = .agg (ePt.enc p) := by
  obtain ⟨xs, rfl, h2⟩ := TyA.struct te_25 h
  obtain ⟨p, rfl⟩ := ty_pt (n := 6) h2
  exact ⟨p, rfl⟩
theorem tya_acts (h : TyA te 8 22 x) : ∃ l : List Act', x = .sl 3 false (l.map eAct.enc) ∧ l.length * 40 ≤ 140737488351232 := by
  obtain ⟨rows, h0, hl, h⟩ := TyC.slice te_22 te_81 (TyA.leaf (by simp) te_22 h)
  obtain ⟨l, rfl, _⟩ := rows_enc (A := eAct) (P := fun _ => True) fun r hr => by
    obtain ⟨p, hp⟩ := ty_act (h r hr)
    exact ⟨p, hp, trivial⟩
  exact ⟨l, by simpa using h0, by simpa using hl⟩
theorem tya_pts (h : TyA te 8 43 x) : ∃ l : List Pt, x = .sl 4 false (l.map ePt.enc) ∧ l.length * 32 ≤ 140737488351232 := by
  obtain ⟨rows, h0, hl, h⟩ := TyC.slice te_43 te_25 (TyA.leaf (by simp) te_43 h)
  obtain ⟨l, rfl, _⟩ := rows_enc (A := ePt) (P := fun _ => True) fun r hr => by
    obtain ⟨p, hp⟩ := ty_pt (h r hr)
    exact ⟨p, hp, trivial⟩
  exact ⟨l, by simpa using h0, by simpa using hl⟩
end Go.Proofs.Ytmobgcpamblhhaa
