import Derived.Test.YtmobgcpamblhhaaProg
import Derived.Test.YtmobgcpamblhhaaTeA
import Derived.Test.YtmobgcpamblhhaaViPt
set_option maxRecDepth 100000
set_option linter.unusedSimpArgs false
set_option linter.unusedVariables false
namespace Go.Proofs.Ytmobgcpamblhhaa
open Go.Vi

theorem mixed : Try.prog.follows .mixedOrders = true := by kernel_rfl

noncomputable def F11 : List AV → Option AV := sp (e1 (eAgg ePt)) (fun _ => True) (fun p => .bool p.may)
@[simp] theorem F11_app {l : List AV} : F11 l = ((e1 (eAgg ePt)).dec l).bind fun a => @ite _ ((fun _ => True) a) (Classical.propDecidable _) (some ((fun p => .bool p.may) a)) none := rfl
/-! 11: garner/garnerref04.May -/
abbrev m11_r1 : List MOp := [
  ⟨some 1, Op.box 25 (Operand.tmp 0), none⟩,
  ⟨some 2, Op.assign (Operand.const (Value.bool false)), none⟩]
abbrev m11_r2 : List MOp := [
  ⟨some 3, Op.fieldAddr 25 (Operand.tmp 1) 0, none⟩,
  ⟨some 4, Op.load 3 (Operand.tmp 3), none⟩,
  ⟨some 5, Op.binOp BinOp.geq 3 (Operand.tmp 4) (Operand.const (Value.int IntKind.i64 1)) 3, none⟩,
  ⟨some 6, Op.move (Operand.tmp 5), none⟩,
  ⟨some 7, Op.fieldAddr 25 (Operand.tmp 1) 0, some (6, true)⟩,
  ⟨some 8, Op.load 3 (Operand.tmp 7), some (6, true)⟩,
  ⟨some 9, Op.binOp BinOp.leq 3 (Operand.tmp 8) (Operand.const (Value.int IntKind.i64 2147483647)) 3, some (6, true)⟩,
  ⟨some 10, Op.pick (Operand.tmp 6) (Operand.tmp 9) (Operand.const (Value.bool false)), none⟩,
  ⟨some 11, Op.move (Operand.tmp 10), none⟩,
  ⟨some 12, Op.fieldAddr 25 (Operand.tmp 1) 1, some (11, true)⟩,
  ⟨some 13, Op.load 3 (Operand.tmp 12), some (11, true)⟩,
  ⟨some 14, Op.binOp BinOp.geq 3 (Operand.tmp 13) (Operand.const (Value.int IntKind.i64 0)) 3, some (11, true)⟩,
  ⟨some 15, Op.pick (Operand.tmp 11) (Operand.tmp 14) (Operand.const (Value.bool false)), none⟩,
  ⟨some 16, Op.move (Operand.tmp 15), none⟩,
  ⟨some 17, Op.fieldAddr 25 (Operand.tmp 1) 1, some (16, true)⟩,
  ⟨some 18, Op.load 3 (Operand.tmp 17), some (16, true)⟩,
  ⟨some 19, Op.binOp BinOp.leq 3 (Operand.tmp 18) (Operand.const (Value.int IntKind.i64 2147483647)) 3, some (16, true)⟩,
  ⟨some 20, Op.pick (Operand.tmp 16) (Operand.tmp 19) (Operand.const (Value.bool false)), none⟩,
  ⟨some 21, Op.move (Operand.tmp 20), none⟩,
  ⟨some 22, Op.fieldAddr 25 (Operand.tmp 1) 2, some (21, true)⟩,
  ⟨some 23, Op.load 3 (Operand.tmp 22), some (21, true)⟩,
  ⟨some 24, Op.binOp BinOp.geq 3 (Operand.tmp 23) (Operand.const (Value.int IntKind.i64 0)) 3, some (21, true)⟩,
  ⟨some 25, Op.pick (Operand.tmp 21) (Operand.tmp 24) (Operand.const (Value.bool false)), none⟩,
  ⟨some 26, Op.move (Operand.tmp 25), none⟩,
  ⟨some 27, Op.fieldAddr 25 (Operand.tmp 1) 2, some (26, true)⟩,
  ⟨some 28, Op.load 3 (Operand.tmp 27), some (26, true)⟩,
  ⟨some 29, Op.binOp BinOp.leq 3 (Operand.tmp 28) (Operand.const (Value.int IntKind.i64 4096)) 3, some (26, true)⟩,
  ⟨some 30, Op.pick (Operand.tmp 26) (Operand.tmp 29) (Operand.const (Value.bool false)), none⟩,
  ⟨some 2, Op.assign (Operand.tmp 30), none⟩]
abbrev m11_c3 : MC := .seq (.region m11_r2) .ret
abbrev m11_c4 : MC := .seq (.region m11_r1) m11_c3
abbrev m11 : MC := m11_c4
theorem m11_eq : Try.f11.body.map (mcF []) = some m11 := by kernel_rfl
set_option maxHeartbeats 4000000 in
theorem f11_ok : SpOK Try.prog 11 (.pure F11) := by
  refine pureOf (K := kl []) mixed te_ok KS.nil Try.func11 m11_eq (by kernel_rfl) (nt := 31) rfl (rs := [.tmp 2]) rfl (np := 1) (by decide) (fun a => by first | rfl | simp) (by kernel_rfl) ?_
  rintro ⟨a, b, c, d⟩ _ Q hQ
  repeat' first
    | with_reducible refine Ex.seq ?_
    | with_reducible refine Ex.ops ?_
    | with_reducible refine ExO.cons ?_
    | with_reducible refine ExO.nil ?_
    | with_reducible refine ExS.some ?_
    | with_reducible refine Ex.retS ?_
    | with_reducible refine Ex.condV ?_
    | with_reducible refine Ex.skip ?_
    | with_reducible refine Ex.block ?_
    | with_reducible refine Ex.inBlock ?_
    | with_reducible refine Ex.exit rfl ?_
    | with_reducible refine ExC.tt ?_
    | with_reducible refine ExC.ff ?_
    | (with_reducible refine ExC.id ?_; simp (disch := omega) only [wrap_i64])
    | (with_reducible refine ExS.id ?_; simp (disch := omega) only [wrap_i64])
    | (with_reducible refine ExS.req (by omega) ?_)
    | (with_reducible refine ExC.dec ?_ ?_ <;> intro h he <;> first | (exfalso; omega) | (simp [he]; clear he) | clear he)
    | (with_reducible refine ExS.iteB ?_ ?_ <;> intro h <;> try simp [h])
    | (with_reducible refine ExS.ite ?_ ?_ <;> intro h he <;> first | (exfalso; omega) | (simp [he]; clear he) | clear he)
    | (with_reducible refine ExC.ndec ?_ ?_ <;> intro h he <;> first | (exfalso; omega) | (simp [he]; clear he) | clear he)
    | (with_reducible refine ExC.sym ?_ ?_ <;> intro h <;> try simp [h])
    | (with_reducible refine hQ _ _ ?_)
    | (with_reducible refine hQ _ _ ?_ ?_)
    | simp
  all_goals first | (simp [Pt.may, *]; done) | (simp [Pt.may]; omega)

noncomputable def F43 : List AV → Option AV := sp (e1 (eAgg ePt)) (fun _ => True) (fun p => .int .i64 (if p.may then 0 else 1))
@[simp] theorem F43_app {l : List AV} : F43 l = ((e1 (eAgg ePt)).dec l).bind fun a => @ite _ ((fun _ => True) a) (Classical.propDecidable _) (some ((fun p => .int .i64 (if p.may then 0 else 1)) a)) none := rfl
/-! 43: garner/point.Check -/
abbrev m43_r1 : List MOp := [
  ⟨some 1, Op.box 25 (Operand.tmp 0), none⟩,
  ⟨some 2, Op.assign (Operand.const (Value.int IntKind.i64 0)), none⟩]
abbrev m43_r2 : List MOp := [
  ⟨some 3, Op.fieldAddr 25 (Operand.tmp 1) 0, none⟩,
  ⟨some 4, Op.load 3 (Operand.tmp 3), none⟩,
  ⟨some 5, Op.binOp BinOp.lss 3 (Operand.tmp 4) (Operand.const (Value.int IntKind.i64 1)) 3, none⟩,
  ⟨some 6, Op.move (Operand.tmp 5), none⟩,
  ⟨some 7, Op.fieldAddr 25 (Operand.tmp 1) 0, some (6, false)⟩,
  ⟨some 8, Op.load 3 (Operand.tmp 7), some (6, false)⟩,
  ⟨some 9, Op.binOp BinOp.gtr 3 (Operand.tmp 8) (Operand.const (Value.int IntKind.i64 2147483647)) 3, some (6, false)⟩,
  ⟨some 10, Op.pick (Operand.tmp 6) (Operand.const (Value.bool true)) (Operand.tmp 9), none⟩,
  ⟨some 11, Op.move (Operand.tmp 10), none⟩,
  ⟨some 12, Op.fieldAddr 25 (Operand.tmp 1) 1, some (11, false)⟩,
  ⟨some 13, Op.load 3 (Operand.tmp 12), some (11, false)⟩,
  ⟨some 14, Op.binOp BinOp.lss 3 (Operand.tmp 13) (Operand.const (Value.int IntKind.i64 0)) 3, some (11, false)⟩,
  ⟨some 15, Op.pick (Operand.tmp 11) (Operand.const (Value.bool true)) (Operand.tmp 14), none⟩,
  ⟨some 16, Op.move (Operand.tmp 15), none⟩,
  ⟨some 17, Op.fieldAddr 25 (Operand.tmp 1) 1, some (16, false)⟩,
  ⟨some 18, Op.load 3 (Operand.tmp 17), some (16, false)⟩,
  ⟨some 19, Op.binOp BinOp.gtr 3 (Operand.tmp 18) (Operand.const (Value.int IntKind.i64 2147483647)) 3, some (16, false)⟩,
  ⟨some 20, Op.pick (Operand.tmp 16) (Operand.const (Value.bool true)) (Operand.tmp 19), none⟩,
  ⟨some 21, Op.move (Operand.tmp 20), none⟩,
  ⟨some 22, Op.fieldAddr 25 (Operand.tmp 1) 2, some (21, false)⟩,
  ⟨some 23, Op.load 3 (Operand.tmp 22), some (21, false)⟩,
  ⟨some 24, Op.binOp BinOp.lss 3 (Operand.tmp 23) (Operand.const (Value.int IntKind.i64 0)) 3, some (21, false)⟩,
  ⟨some 25, Op.pick (Operand.tmp 21) (Operand.const (Value.bool true)) (Operand.tmp 24), none⟩,
  ⟨some 26, Op.move (Operand.tmp 25), none⟩,
  ⟨some 27, Op.fieldAddr 25 (Operand.tmp 1) 2, some (26, false)⟩,
  ⟨some 28, Op.load 3 (Operand.tmp 27), some (26, false)⟩,
  ⟨some 29, Op.binOp BinOp.gtr 3 (Operand.tmp 28) (Operand.const (Value.int IntKind.i64 4096)) 3, some (26, false)⟩,
  ⟨some 30, Op.pick (Operand.tmp 26) (Operand.const (Value.bool true)) (Operand.tmp 29), none⟩]
abbrev m43_r3 : List MOp := [
  ⟨some 2, Op.assign (Operand.const (Value.int IntKind.i64 1)), none⟩]
abbrev m43_c4 : MC := .seq (.region m43_r3) .ret
abbrev m43_c5 : MC := .cond (Operand.tmp 30) m43_c4 .skip
abbrev m43_c6 : MC := .seq (.region m43_r2) m43_c5
abbrev m43_r7 : List MOp := [
  ⟨some 2, Op.assign (Operand.const (Value.int IntKind.i64 0)), none⟩]
abbrev m43_c8 : MC := .seq (.region m43_r7) .ret
abbrev m43_c9 : MC := .seq m43_c6 m43_c8
abbrev m43_c10 : MC := .seq (.region m43_r1) m43_c9
abbrev m43 : MC := m43_c10
theorem m43_eq : Try.f43.body.map (mcF []) = some m43 := by kernel_rfl
set_option maxHeartbeats 4000000 in
theorem f43_ok : SpOK Try.prog 43 (.pure F43) := by
  refine pureOf (K := kl []) mixed te_ok KS.nil Try.func43 m43_eq (by kernel_rfl) (nt := 31) rfl (rs := [.tmp 2]) rfl (np := 1) (by decide) (fun a => by first | rfl | simp) (by kernel_rfl) ?_
  rintro ⟨a, b, c, d⟩ _ Q hQ
  repeat' first
    | with_reducible refine Ex.seq ?_
    | with_reducible refine Ex.ops ?_
    | with_reducible refine ExO.cons ?_
    | with_reducible refine ExO.nil ?_
    | with_reducible refine ExS.some ?_
    | with_reducible refine Ex.retS ?_
    | with_reducible refine Ex.condV ?_
    | with_reducible refine Ex.skip ?_
    | with_reducible refine Ex.block ?_
    | with_reducible refine Ex.inBlock ?_
    | with_reducible refine Ex.exit rfl ?_
    | with_reducible refine ExC.tt ?_
    | with_reducible refine ExC.ff ?_
    | (with_reducible refine ExC.id ?_; simp (disch := omega) only [wrap_i64])
    | (with_reducible refine ExS.id ?_; simp (disch := omega) only [wrap_i64])
    | (with_reducible refine ExS.req (by omega) ?_)
    | (with_reducible refine ExC.dec ?_ ?_ <;> intro h he <;> first | (exfalso; omega) | (simp [he]; clear he) | clear he)
    | (with_reducible refine ExS.iteB ?_ ?_ <;> intro h <;> try simp [h])
    | (with_reducible refine ExS.ite ?_ ?_ <;> intro h he <;> first | (exfalso; omega) | (simp [he]; clear he) | clear he)
    | (with_reducible refine ExC.ndec ?_ ?_ <;> intro h he <;> first | (exfalso; omega) | (simp [he]; clear he) | clear he)
    | (with_reducible refine ExC.sym ?_ ?_ <;> intro h <;> try simp [h])
    | (with_reducible refine hQ _ _ ?_)
    | (with_reducible refine hQ _ _ ?_ ?_)
    | simp
  all_goals first | (simp [Pt.may, *]; done) | (simp [Pt.may]; omega)
end Go.Proofs.Ytmobgcpamblhhaa
