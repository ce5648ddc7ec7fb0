import Derived.Test.YtmobgcpamblhhaaP4
set_option maxRecDepth 100000
set_option linter.unusedSimpArgs false
set_option linter.unusedVariables false
namespace Go.Proofs.Ytmobgcpamblhhaa
open Go.Vi

theorem awake_find : rfind [(1, [(2, ⟨3, 9, 0, 0⟩)])] 2147483647 ⟨1, 2, 0, 0⟩ 0 = (⟨3, 9, 0, 0⟩, 1, 0) := by
  rw [rfind_succ (by omega)]
  simp only [lk, if_true]
  rw [if_neg (by simp), rfind_succ (by omega)]
  simp [lk]

noncomputable def F12 : List AV → Option AV := sp (eL0) (fun _ => True) (fun _ => .bool true)
@[simp] theorem F12_app {l : List AV} : F12 l = ((eL0).dec l).bind fun a => @ite _ ((fun _ => True) a) (Classical.propDecidable _) (some ((fun _ => .bool true) a)) none := rfl
/-! 12: garner/garnerlaw21.awake -/
abbrev m12_r1 : List MOp := [
  ⟨some 0, Op.assign (Operand.const (Value.bool false)), none⟩]
abbrev m12_r2 : List MOp := [
  ⟨some 6, Op.call { callee := Callee.value (Operand.func 33), args := #[], argTypes := #[] }, none⟩,
  ⟨some 1, Op.assign (Operand.tmp 6), none⟩]
abbrev m12_r3 : List MOp := [
  ⟨some 7, Op.move (Operand.tmp 1), none⟩,
  ⟨some 8, Op.build 25 #[(0, Operand.const (Value.int IntKind.i64 3)), (1, Operand.const (Value.int IntKind.i64 9))], none⟩,
  ⟨some 9, Op.build 37 #[(0, Operand.const (Value.int IntKind.i64 2)), (1, Operand.tmp 8)], none⟩,
  ⟨some 10, Op.buildSlice 33 1 #[(0, Operand.tmp 9)], none⟩,
  ⟨some 11, Op.call { callee := Callee.value (Operand.func 37), args := #[Operand.tmp 7, Operand.const (Value.int IntKind.i64 1), Operand.tmp 10], argTypes := #[29, 3, 33] }, none⟩,
  ⟨some 2, Op.assign (Operand.tmp 11), none⟩]
abbrev m12_r4 : List MOp := [
  ⟨some 13, Op.move (Operand.tmp 1), none⟩,
  ⟨some 14, Op.build 25 #[(0, Operand.const (Value.int IntKind.i64 1)), (1, Operand.const (Value.int IntKind.i64 2))], none⟩,
  ⟨some 15, Op.call { callee := Callee.value (Operand.func 14), args := #[Operand.tmp 13, Operand.tmp 14], argTypes := #[29, 25] }, none⟩,
  ⟨some 12, Op.move (Operand.tmp 15), none⟩,
  ⟨some 16, Op.extract (Operand.tmp 12) 0, none⟩,
  ⟨some 17, Op.extract (Operand.tmp 12) 1, none⟩,
  ⟨some 18, Op.extract (Operand.tmp 12) 2, none⟩,
  ⟨some 3, Op.alloc 25, none⟩,
  ⟨none, Op.store 25 (Operand.tmp 3) (Operand.tmp 16), none⟩,
  ⟨some 4, Op.assign (Operand.tmp 17), none⟩,
  ⟨some 5, Op.assign (Operand.tmp 18), none⟩]
abbrev m12_r5 : List MOp := [
  ⟨some 19, Op.move (Operand.tmp 2), none⟩,
  ⟨some 20, Op.binOp BinOp.eql 38 (Operand.tmp 19) (Operand.const (Value.int IntKind.i64 0)) 38, none⟩,
  ⟨some 21, Op.move (Operand.tmp 20), none⟩,
  ⟨some 22, Op.move (Operand.tmp 5), some (21, true)⟩,
  ⟨some 23, Op.binOp BinOp.eql 38 (Operand.tmp 22) (Operand.const (Value.int IntKind.i64 0)) 38, some (21, true)⟩,
  ⟨some 24, Op.pick (Operand.tmp 21) (Operand.tmp 23) (Operand.const (Value.bool false)), none⟩,
  ⟨some 25, Op.move (Operand.tmp 24), none⟩,
  ⟨some 26, Op.move (Operand.tmp 4), some (25, true)⟩,
  ⟨some 27, Op.binOp BinOp.eql 3 (Operand.tmp 26) (Operand.const (Value.int IntKind.i64 1)) 3, some (25, true)⟩,
  ⟨some 28, Op.pick (Operand.tmp 25) (Operand.tmp 27) (Operand.const (Value.bool false)), none⟩,
  ⟨some 29, Op.move (Operand.tmp 28), none⟩,
  ⟨some 30, Op.load 25 (Operand.tmp 3), some (29, true)⟩,
  ⟨some 31, Op.build 25 #[(0, Operand.const (Value.int IntKind.i64 3)), (1, Operand.const (Value.int IntKind.i64 9))], some (29, true)⟩,
  ⟨some 32, Op.binOp BinOp.eql 25 (Operand.tmp 30) (Operand.tmp 31) 25, some (29, true)⟩,
  ⟨some 33, Op.pick (Operand.tmp 29) (Operand.tmp 32) (Operand.const (Value.bool false)), none⟩,
  ⟨some 0, Op.assign (Operand.tmp 33), none⟩]
abbrev m12_c6 : MC := .seq (.region m12_r5) .ret
abbrev m12_c7 : MC := .seq (.region m12_r4) m12_c6
abbrev m12_c8 : MC := .seq (.region m12_r3) m12_c7
abbrev m12_c9 : MC := .seq (.region m12_r2) m12_c8
abbrev m12_c10 : MC := .seq (.region m12_r1) m12_c9
abbrev m12 : MC := m12_c10
theorem m12_eq : Try.f12.body.map (mcF []) = some m12 := by kernel_rfl
set_option maxHeartbeats 4000000 in
theorem f12_ok : SpOK Try.prog 12 (.pure F12) := by
  refine pureOf (K := kl [(14, .eff F14), (33, .eff F33), (37, .eff F37)]) mixed te_ok (KS.cons f14_ok (KS.cons f33_ok (KS.cons f37_ok KS.nil))) Try.func12 m12_eq (by kernel_rfl) (nt := 34) rfl (rs := [.tmp 0]) rfl (np := 0) (by decide) (fun a => by first | rfl | simp) (by kernel_rfl) ?_
  rintro u _ Q hQ
  have hm : mayL 1 [⟨2, ⟨3, 9, 0, 0⟩⟩] = true := by simp [mayL, riseB, Pt.may]
  have hg : Rel.good [(1, [(2, ⟨3, 9, 0, 0⟩)])] := by simp [Rel.good, Pt.may]
  repeat' first
    | with_reducible refine Ex.seq ?_
    | with_reducible refine Ex.ops ?_
    | with_reducible refine ExO.cons ?_
    | with_reducible refine ExO.nil ?_
    | with_reducible refine ExS.some ?_
    | with_reducible refine Ex.retS ?_
    | with_reducible refine Ex.condV ?_
    | with_reducible refine Ex.skip ?_
    | with_reducible refine Ex.block ?_
    | with_reducible refine Ex.inBlock ?_
    | with_reducible refine Ex.exit rfl ?_
    | with_reducible refine ExC.tt ?_
    | with_reducible refine ExC.ff ?_
    | (with_reducible refine ExC.id ?_; simp (disch := omega) only [wrap_i64])
    | (with_reducible refine ExS.id ?_; simp (disch := omega) only [wrap_i64])
    | (with_reducible refine ExS.req (by omega) ?_)
    | (with_reducible refine ExC.dec ?_ ?_ <;> intro h he <;> first | (exfalso; omega) | (simp [he, hm, hg, awake_find, ins, hp, Pt.may, decM, eHops_dec]; clear he) | clear he)
    | (with_reducible refine ExS.iteB ?_ ?_ <;> intro h <;> try simp [h, hm, hg, awake_find, ins, hp, Pt.may, decM, eHops_dec])
    | (with_reducible refine ExS.ite ?_ ?_ <;> intro h he <;> first | (exfalso; omega) | (simp [he, hm, hg, awake_find, ins, hp, Pt.may, decM, eHops_dec]; clear he) | clear he)
    | (with_reducible refine ExC.ndec ?_ ?_ <;> intro h he <;> first | (exfalso; omega) | (simp [he, hm, hg, awake_find, ins, hp, Pt.may, decM, eHops_dec]; clear he) | clear he)
    | (with_reducible refine ExC.sym ?_ ?_ <;> intro h <;> try simp [h, hm, hg, awake_find, ins, hp, Pt.may, decM, eHops_dec])
    | (with_reducible refine hQ _ _ ?_)
    | (with_reducible refine hQ _ _ ?_ ?_)
    | simp [hm, hg, awake_find, ins, hp, Pt.may, decM, eHops_dec]
  all_goals first | (simp ; done) | omega | (simp ; omega) | (simp ; intros; omega) | (simp_all ; done) | (simp_all ; omega) | (refine ⟨?_, ?_⟩ <;> first | omega | (simp_all ; done) | (simp ; omega)) | skip

noncomputable def F13 : List AV → List LObj → Option (AV × List LObj) := spE (eArgs (e1 (eSl 3 eAct))) (fun p => p.2.length ≤ 30 ∧ ∀ a ∈ p.2, a.hops.length ≤ 40) (fun p => (.tup [.ptr (some (1, 0)), (eSl 2 eMove).enc (playL p.2).2, .bool true], [.map (encM (eInt .i64) eHops (playL p.2).1), .cells [.mp (some 0)]]))
@[simp] theorem F13_app {l : List AV} {σ : List LObj} : F13 l σ = ((eArgs (e1 (eSl 3 eAct))).dec l σ).bind fun a => @ite _ ((fun p => p.2.length ≤ 30 ∧ ∀ a ∈ p.2, a.hops.length ≤ 40) a) (Classical.propDecidable _) (some ((fun p => (.tup [.ptr (some (1, 0)), (eSl 2 eMove).enc (playL p.2).2, .bool true], [.map (encM (eInt .i64) eHops (playL p.2).1), .cells [.mp (some 0)]])) a)) none := rfl
/-! 13: garner/garnerlaw21.play -/
abbrev m13_r1 : List MOp := [
  ⟨some 2, Op.assign (Operand.const (Value.pointer none)), none⟩,
  ⟨some 3, Op.assign (Operand.const (Value.slice none 0 0)), none⟩,
  ⟨some 4, Op.assign (Operand.const (Value.bool false)), none⟩]
abbrev m13_r2 : List MOp := [
  ⟨some 11, Op.call { callee := Callee.value (Operand.func 33), args := #[], argTypes := #[] }, none⟩,
  ⟨some 5, Op.assign (Operand.tmp 11), none⟩]
abbrev m13_r3 : List MOp := [
  ⟨some 12, Op.buildSlice 30 0 #[], none⟩,
  ⟨some 6, Op.assign (Operand.tmp 12), none⟩]
abbrev m13_r4 : List MOp := [
  ⟨some 7, Op.assign (Operand.const (Value.int IntKind.i64 0)), none⟩]
abbrev m13_r5 : List MOp := [
  ⟨some 13, Op.move (Operand.tmp 7), none⟩,
  ⟨some 14, Op.move (Operand.tmp 0), none⟩,
  ⟨some 15, Op.call { callee := Callee.builtin Builtin.len, args := #[Operand.tmp 14], argTypes := #[22] }, none⟩,
  ⟨some 16, Op.binOp BinOp.lss 3 (Operand.tmp 13) (Operand.tmp 15) 3, none⟩]
abbrev m13_c6 : MC := .cond (Operand.tmp 16) .skip (.exit 0)
abbrev m13_c7 : MC := .seq (.region m13_r5) m13_c6
abbrev m13_r8 : List MOp := [
  ⟨some 19, Op.move (Operand.tmp 0), none⟩,
  ⟨some 20, Op.move (Operand.tmp 7), none⟩,
  ⟨some 21, Op.indexAddr 22 (Operand.tmp 19) (Operand.tmp 20), none⟩,
  ⟨some 22, Op.load 81 (Operand.tmp 21), none⟩,
  ⟨some 8, Op.alloc 81, none⟩,
  ⟨none, Op.store 81 (Operand.tmp 8) (Operand.tmp 22), none⟩]
abbrev m13_r9 : List MOp := [
  ⟨some 23, Op.fieldAddr 81 (Operand.tmp 8) 0, none⟩,
  ⟨some 24, Op.load 4 (Operand.tmp 23), none⟩]
abbrev m13_r10 : List MOp := [
  ⟨some 26, Op.move (Operand.tmp 6), none⟩,
  ⟨some 27, Op.fieldAddr 81 (Operand.tmp 8) 1, none⟩,
  ⟨some 28, Op.fieldAddr 35 (Operand.tmp 27) 0, none⟩,
  ⟨some 29, Op.load 3 (Operand.tmp 28), none⟩,
  ⟨some 30, Op.call { callee := Callee.value (Operand.func 40), args := #[Operand.tmp 26, Operand.tmp 29], argTypes := #[30, 3] }, none⟩,
  ⟨some 25, Op.move (Operand.tmp 30), none⟩,
  ⟨some 31, Op.extract (Operand.tmp 25) 0, none⟩,
  ⟨some 32, Op.extract (Operand.tmp 25) 1, none⟩,
  ⟨some 9, Op.assign (Operand.tmp 31), none⟩,
  ⟨some 10, Op.assign (Operand.tmp 32), none⟩]
abbrev m13_r11 : List MOp := [
  ⟨some 33, Op.move (Operand.tmp 9), none⟩,
  ⟨some 6, Op.assign (Operand.tmp 33), none⟩]
abbrev m13_r12 : List MOp := [
  ⟨some 34, Op.move (Operand.tmp 5), none⟩,
  ⟨some 35, Op.fieldAddr 81 (Operand.tmp 8) 1, none⟩,
  ⟨some 36, Op.fieldAddr 35 (Operand.tmp 35) 0, none⟩,
  ⟨some 37, Op.load 3 (Operand.tmp 36), none⟩,
  ⟨some 38, Op.call { callee := Callee.value (Operand.func 15), args := #[Operand.tmp 34, Operand.tmp 37], argTypes := #[29, 3] }, none⟩,
  ⟨some 39, Op.binOp BinOp.eql 38 (Operand.tmp 38) (Operand.const (Value.int IntKind.i64 0)) 38, none⟩,
  ⟨some 40, Op.move (Operand.tmp 10), none⟩,
  ⟨some 41, Op.binOp BinOp.neq 4 (Operand.tmp 39) (Operand.tmp 40) 4, none⟩]
abbrev m13_r13 : List MOp := [
  ⟨some 42, Op.move (Operand.tmp 5), none⟩,
  ⟨some 43, Op.move (Operand.tmp 6), none⟩,
  ⟨some 2, Op.assign (Operand.tmp 42), none⟩,
  ⟨some 3, Op.assign (Operand.tmp 43), none⟩,
  ⟨some 4, Op.assign (Operand.const (Value.bool false)), none⟩]
abbrev m13_c14 : MC := .seq (.region m13_r13) .ret
abbrev m13_c15 : MC := .cond (Operand.tmp 41) m13_c14 .skip
abbrev m13_c16 : MC := .seq (.region m13_r12) m13_c15
abbrev m13_c17 : MC := .seq m13_c16 (.exit 1)
abbrev m13_c18 : MC := .seq (.region m13_r11) m13_c17
abbrev m13_c19 : MC := .seq (.region m13_r10) m13_c18
abbrev m13_c20 : MC := .cond (Operand.tmp 24) m13_c19 .skip
abbrev m13_c21 : MC := .seq (.region m13_r9) m13_c20
abbrev m13_r22 : List MOp := [
  ⟨some 44, Op.move (Operand.tmp 5), none⟩,
  ⟨some 45, Op.fieldAddr 81 (Operand.tmp 8) 1, none⟩,
  ⟨some 46, Op.fieldAddr 35 (Operand.tmp 45) 0, none⟩,
  ⟨some 47, Op.load 3 (Operand.tmp 46), none⟩,
  ⟨some 48, Op.fieldAddr 81 (Operand.tmp 8) 1, none⟩,
  ⟨some 49, Op.fieldAddr 35 (Operand.tmp 48) 1, none⟩,
  ⟨some 50, Op.load 33 (Operand.tmp 49), none⟩,
  ⟨some 51, Op.call { callee := Callee.value (Operand.func 37), args := #[Operand.tmp 44, Operand.tmp 47, Operand.tmp 50], argTypes := #[29, 3, 33] }, none⟩,
  ⟨some 52, Op.binOp BinOp.eql 38 (Operand.tmp 51) (Operand.const (Value.int IntKind.i64 0)) 38, none⟩,
  ⟨some 53, Op.fieldAddr 81 (Operand.tmp 8) 1, none⟩,
  ⟨some 54, Op.load 35 (Operand.tmp 53), none⟩,
  ⟨some 55, Op.call { callee := Callee.value (Operand.func 41), args := #[Operand.tmp 54], argTypes := #[35] }, none⟩,
  ⟨some 56, Op.binOp BinOp.neq 4 (Operand.tmp 52) (Operand.tmp 55) 4, none⟩]
abbrev m13_r22p : List (List Nat) := [[], [], [1], [2], [], [4], [5], [0, 3, 6], [7], [], [9], [10, 7], [8, 11]]
abbrev m13_r23 : List MOp := [
  ⟨some 57, Op.move (Operand.tmp 5), none⟩,
  ⟨some 58, Op.move (Operand.tmp 6), none⟩,
  ⟨some 2, Op.assign (Operand.tmp 57), none⟩,
  ⟨some 3, Op.assign (Operand.tmp 58), none⟩,
  ⟨some 4, Op.assign (Operand.const (Value.bool false)), none⟩]
abbrev m13_c24 : MC := .seq (.region m13_r23) .ret
abbrev m13_c25 : MC := .cond (Operand.tmp 56) m13_c24 .skip
abbrev m13_c26 : MC := .seq (.any m13_r22 m13_r22p) m13_c25
abbrev m13_r27 : List MOp := [
  ⟨some 59, Op.fieldAddr 81 (Operand.tmp 8) 1, none⟩,
  ⟨some 60, Op.load 35 (Operand.tmp 59), none⟩,
  ⟨some 61, Op.call { callee := Callee.value (Operand.func 41), args := #[Operand.tmp 60], argTypes := #[35] }, none⟩]
abbrev m13_r28 : List MOp := [
  ⟨some 62, Op.move (Operand.tmp 6), none⟩,
  ⟨some 63, Op.fieldAddr 81 (Operand.tmp 8) 1, none⟩,
  ⟨some 64, Op.load 35 (Operand.tmp 63), none⟩,
  ⟨some 65, Op.call { callee := Callee.value (Operand.func 38), args := #[Operand.tmp 62, Operand.tmp 64], argTypes := #[30, 35] }, none⟩,
  ⟨some 6, Op.assign (Operand.tmp 65), none⟩]
abbrev m13_c29 : MC := .cond (Operand.tmp 61) (.region m13_r28) .skip
abbrev m13_c30 : MC := .seq (.region m13_r27) m13_c29
abbrev m13_c31 : MC := .seq m13_c26 m13_c30
abbrev m13_c32 : MC := .seq m13_c21 m13_c31
abbrev m13_c33 : MC := .seq (.region m13_r8) m13_c32
abbrev m13_c34 : MC := .block 1 m13_c33
abbrev m13_r35 : List MOp := [
  ⟨some 17, Op.move (Operand.tmp 7), none⟩,
  ⟨some 18, Op.binOp BinOp.add 3 (Operand.tmp 17) (Operand.const (Value.int IntKind.i64 1)) 3, none⟩,
  ⟨some 7, Op.assign (Operand.tmp 18), none⟩]
abbrev m13_c36 : MC := .seq m13_c34 (.region m13_r35)
abbrev m13_c37 : MC := .seq m13_c7 m13_c36
abbrev m13_b38 : MC := m13_c37
abbrev m13_c39 : MC := .loop m13_b38
abbrev m13_c40 : MC := .block 0 m13_c39
abbrev m13_c41 : MC := .seq (.region m13_r4) m13_c40
abbrev m13_r42 : List MOp := [
  ⟨some 66, Op.move (Operand.tmp 5), none⟩,
  ⟨some 67, Op.move (Operand.tmp 6), none⟩,
  ⟨some 68, Op.move (Operand.tmp 5), none⟩,
  ⟨some 69, Op.binOp BinOp.neq 29 (Operand.tmp 68) (Operand.const (Value.pointer none)) 29, none⟩,
  ⟨some 2, Op.assign (Operand.tmp 66), none⟩,
  ⟨some 3, Op.assign (Operand.tmp 67), none⟩,
  ⟨some 4, Op.assign (Operand.tmp 69), none⟩]
abbrev m13_c43 : MC := .seq (.region m13_r42) .ret
abbrev m13_c44 : MC := .seq m13_c41 m13_c43
abbrev m13_c45 : MC := .seq (.region m13_r3) m13_c44
abbrev m13_c46 : MC := .seq (.region m13_r2) m13_c45
abbrev m13_c47 : MC := .seq (.region m13_r1) m13_c46
abbrev m13 : MC := m13_c47
theorem m13_eq : Try.f13.body.map (mcF [12]) = some m13 := by kernel_rfl
set_option maxHeartbeats 4000000 in
theorem f13_ok : SpOK Try.prog 13 (.eff F13) := by
  refine effOf (K := kl [(15, .eff F15), (33, .eff F33), (37, .eff F37), (38, .pure F38), (40, .pure F40), (41, .pure F41)]) mixed te_ok (KS.cons f15_ok (KS.cons f33_ok (KS.cons f37_ok (KS.cons f38_ok (KS.cons f40_ok (KS.cons f41_ok KS.nil)))))) Try.func13 m13_eq (by kernel_rfl) (nt := 70) rfl (rs := [.tmp 2, .tmp 3, .tmp 4]) rfl (np := 1) (by decide) (fun a => by first | rfl | simp) (by kernel_rfl) ?_ ?_
  · rintro ⟨z, l⟩ _
    simp
  · rintro ⟨z, l⟩ ⟨hl, hl2⟩ Q hQ
    simp only [] at hl hl2
    repeat' first
      | with_reducible refine Ex.seq ?_
      | with_reducible refine Ex.ops ?_
      | with_reducible refine ExO.cons ?_
      | with_reducible refine ExO.nil ?_
      | with_reducible refine ExS.some ?_
      | with_reducible refine Ex.retS ?_
      | with_reducible refine Ex.condV ?_
      | with_reducible refine Ex.skip ?_
      | with_reducible refine Ex.block ?_
      | with_reducible refine Ex.inBlock ?_
      | with_reducible refine Ex.exit rfl ?_
      | with_reducible refine ExC.tt ?_
      | with_reducible refine ExC.ff ?_
      | (with_reducible refine ExC.id ?_; simp (disch := omega) only [wrap_i64])
      | (with_reducible refine ExS.id ?_; simp (disch := omega) only [wrap_i64])
      | (with_reducible refine ExS.req (by omega) ?_)
      | (with_reducible refine ExC.dec ?_ ?_ <;> intro h he <;> first | (exfalso; omega) | (simp [he]; clear he) | clear he)
      | (with_reducible refine ExS.iteB ?_ ?_ <;> intro h <;> try simp [h])
      | (with_reducible refine ExS.ite ?_ ?_ <;> intro h he <;> first | (exfalso; omega) | (simp [he]; clear he) | clear he)
      | (with_reducible refine ExC.ndec ?_ ?_ <;> intro h he <;> first | (exfalso; omega) | (simp [he]; clear he) | clear he)
      | (with_reducible refine ExC.sym ?_ ?_ <;> intro h <;> try simp [h])
      | (with_reducible refine hQ _ _ ?_)
      | (with_reducible refine hQ _ _ ?_ ?_)
      | (with_reducible refine ExAS.some ?_)
      | (with_reducible refine Ex.anyR (l := m13_r22) (p := m13_r22p) 13 (by kernel_rfl) ?_)
      | (with_reducible refine ExA.fin (by decide +kernel) ?_)
      | (refine ExA.one 0 (by decide +kernel) rfl ?_)
      | (refine ExA.one 1 (by decide +kernel) rfl ?_)
      | (refine ExA.one 2 (by decide +kernel) rfl ?_)
      | (refine ExA.one 3 (by decide +kernel) rfl ?_)
      | (refine ExA.one 4 (by decide +kernel) rfl ?_)
      | (refine ExA.one 5 (by decide +kernel) rfl ?_)
      | (refine ExA.one 6 (by decide +kernel) rfl ?_)
      | (refine ExA.one 7 (by decide +kernel) rfl ?_)
      | (refine ExA.one 8 (by decide +kernel) rfl ?_)
      | (refine ExA.one 9 (by decide +kernel) rfl ?_)
      | (refine ExA.one 10 (by decide +kernel) rfl ?_)
      | (refine ExA.one 11 (by decide +kernel) rfl ?_)
      | (refine ExA.one 12 (by decide +kernel) rfl ?_)
      | (refine ExA.two 3 7 (by decide +kernel) rfl rfl ?_ ?_)
      | (refine ExA.two 6 7 (by decide +kernel) rfl rfl ?_ ?_)
      | (refine ExA.two 7 10 (by decide +kernel) rfl rfl ?_ ?_)
      | (refine ExA.two 7 11 (by decide +kernel) rfl rfl ?_ ?_)
      | (refine ExA.two 10 11 (by decide +kernel) rfl rfl ?_ ?_)
      | (with_reducible refine ExAS.id ?_; simp (disch := omega) only [wrap_i64])
      | (with_reducible refine ExAS.req (by omega) ?_)
      | (with_reducible refine ExAS.iteB ?_ ?_ <;> intro h <;> try simp [h])
      | (with_reducible refine ExAS.ite ?_ ?_ <;> intro h he <;> first | (exfalso; omega) | (simp [he]; clear he) | clear he)
      | simp
    refine Ex.loopI (fun i : Nat => [(0, .sl 3 z (l.map eAct.enc)), (5, .ptr (some (1, 0))), (6, (eSl 2 eMove).enc (playL (l.take i)).2), (7, .int .i64 i)]) (fun i => [.map (encM (eInt .i64) eHops (playL (l.take i)).1), .cells [.mp (some 0)]]) (fun i => l.length - i) (fun i => i ≤ l.length) 0 (by simp) ⟨by simp [playL], by simp [playL], by simp, by simp⟩ ?_
    rintro i hi ih
    rcases get_or l i with ⟨a, ha, hlt⟩ | ⟨ha, hge⟩
    · have hI := RInv.play (l.take i)
      have hn := play_length (l.take i)
      have hs := play_snoc ha
      have ih := ih (i + 1)
      simp only [hs] at ih
      clear hs
      generalize playL (l.take i) = s at *
      obtain ⟨es, f, w⟩ := s
      obtain ⟨d, seg, g, hops⟩ := a
      have hb : hops.length ≤ 40 := hl2 _ (List.mem_of_getElem? ha)
      have hu : uniq es := hI.uniq
      have hlk := hI.look seg
      have hh := has_fm seg w
      simp only [List.length_take] at hn
      cases d with
      | true =>
        simp only [stepR, if_true] at ih
        simp only [] at hlk
        cases hf : fm seg w with
        | none =>
          rw [hf] at hlk hh
          simp only [Option.map_none, Option.isSome_none] at hlk hh
          repeat' first
            | with_reducible refine Ex.seq ?_
            | with_reducible refine Ex.ops ?_
            | with_reducible refine ExO.cons ?_
            | with_reducible refine ExO.nil ?_
            | with_reducible refine ExS.some ?_
            | with_reducible refine Ex.retS ?_
            | with_reducible refine Ex.condV ?_
            | with_reducible refine Ex.skip ?_
            | with_reducible refine Ex.block ?_
            | with_reducible refine Ex.inBlock ?_
            | with_reducible refine Ex.exit rfl ?_
            | with_reducible refine ExC.tt ?_
            | with_reducible refine ExC.ff ?_
            | (with_reducible refine ExC.id ?_; simp (disch := omega) only [wrap_i64])
            | (with_reducible refine ExS.id ?_; simp (disch := omega) only [wrap_i64])
            | (with_reducible refine ExS.req (by omega) ?_)
            | (with_reducible refine ExC.dec ?_ ?_ <;> intro h he <;> first | (exfalso; omega) | (simp [he, ha, hu, hlk, hh]; clear he) | clear he)
            | (with_reducible refine ExS.iteB ?_ ?_ <;> intro h <;> try simp [h, ha, hu, hlk, hh])
            | (with_reducible refine ExS.ite ?_ ?_ <;> intro h he <;> first | (exfalso; omega) | (simp [he, ha, hu, hlk, hh]; clear he) | clear he)
            | (with_reducible refine ExC.ndec ?_ ?_ <;> intro h he <;> first | (exfalso; omega) | (simp [he, ha, hu, hlk, hh]; clear he) | clear he)
            | (with_reducible refine ExC.sym ?_ ?_ <;> intro h <;> try simp [h, ha, hu, hlk, hh])
            | (with_reducible refine hQ _ _ ?_)
            | (with_reducible refine hQ _ _ ?_ ?_)
            | (with_reducible refine ExAS.some ?_)
            | (with_reducible refine Ex.anyR (l := m13_r22) (p := m13_r22p) 13 (by kernel_rfl) ?_)
            | (with_reducible refine ExA.fin (by decide +kernel) ?_)
            | (refine ExA.one 0 (by decide +kernel) rfl ?_)
            | (refine ExA.one 1 (by decide +kernel) rfl ?_)
            | (refine ExA.one 2 (by decide +kernel) rfl ?_)
            | (refine ExA.one 3 (by decide +kernel) rfl ?_)
            | (refine ExA.one 4 (by decide +kernel) rfl ?_)
            | (refine ExA.one 5 (by decide +kernel) rfl ?_)
            | (refine ExA.one 6 (by decide +kernel) rfl ?_)
            | (refine ExA.one 7 (by decide +kernel) rfl ?_)
            | (refine ExA.one 8 (by decide +kernel) rfl ?_)
            | (refine ExA.one 9 (by decide +kernel) rfl ?_)
            | (refine ExA.one 10 (by decide +kernel) rfl ?_)
            | (refine ExA.one 11 (by decide +kernel) rfl ?_)
            | (refine ExA.one 12 (by decide +kernel) rfl ?_)
            | (refine ExA.two 3 7 (by decide +kernel) rfl rfl ?_ ?_)
            | (refine ExA.two 6 7 (by decide +kernel) rfl rfl ?_ ?_)
            | (refine ExA.two 7 10 (by decide +kernel) rfl rfl ?_ ?_)
            | (refine ExA.two 7 11 (by decide +kernel) rfl rfl ?_ ?_)
            | (refine ExA.two 10 11 (by decide +kernel) rfl rfl ?_ ?_)
            | (with_reducible refine ExAS.id ?_; simp (disch := omega) only [wrap_i64])
            | (with_reducible refine ExAS.req (by omega) ?_)
            | (with_reducible refine ExAS.iteB ?_ ?_ <;> intro h <;> try simp [h, ha, hu, hlk, hh])
            | (with_reducible refine ExAS.ite ?_ ?_ <;> intro h he <;> first | (exfalso; omega) | (simp [he, ha, hu, hlk, hh]; clear he) | clear he)
            | simp [ha, hu, hlk, hh]
          any_goals refine ih _ (by first | omega | (simp; omega)) ?_ ⟨(by first | rfl | (simp; done) | (simp; simp (disch := omega) [wrap_i64]; done) | (simp; simp (disch := omega) only [wrap_i64]; omega) | (simp; omega)), (by first | rfl | (simp; done) | (simp; simp (disch := omega) [wrap_i64]; done) | (simp; simp (disch := omega) only [wrap_i64]; omega) | (simp; omega)), (by first | rfl | (simp; done) | (simp; simp (disch := omega) [wrap_i64]; done) | (simp; simp (disch := omega) only [wrap_i64]; omega) | (simp; omega)), (by first | rfl | (simp; done) | (simp; simp (disch := omega) [wrap_i64]; done) | (simp; simp (disch := omega) only [wrap_i64]; omega) | (simp; omega))⟩
          all_goals omega
        | some m =>
          rw [hf] at hlk hh
          simp only [Option.map_some, Option.isSome_some] at hlk hh
          repeat' first
            | with_reducible refine Ex.seq ?_
            | with_reducible refine Ex.ops ?_
            | with_reducible refine ExO.cons ?_
            | with_reducible refine ExO.nil ?_
            | with_reducible refine ExS.some ?_
            | with_reducible refine Ex.retS ?_
            | with_reducible refine Ex.condV ?_
            | with_reducible refine Ex.skip ?_
            | with_reducible refine Ex.block ?_
            | with_reducible refine Ex.inBlock ?_
            | with_reducible refine Ex.exit rfl ?_
            | with_reducible refine ExC.tt ?_
            | with_reducible refine ExC.ff ?_
            | (with_reducible refine ExC.id ?_; simp (disch := omega) only [wrap_i64])
            | (with_reducible refine ExS.id ?_; simp (disch := omega) only [wrap_i64])
            | (with_reducible refine ExS.req (by omega) ?_)
            | (with_reducible refine ExC.dec ?_ ?_ <;> intro h he <;> first | (exfalso; omega) | (simp [he, ha, hu, hlk, hh]; clear he) | clear he)
            | (with_reducible refine ExS.iteB ?_ ?_ <;> intro h <;> try simp [h, ha, hu, hlk, hh])
            | (with_reducible refine ExS.ite ?_ ?_ <;> intro h he <;> first | (exfalso; omega) | (simp [he, ha, hu, hlk, hh]; clear he) | clear he)
            | (with_reducible refine ExC.ndec ?_ ?_ <;> intro h he <;> first | (exfalso; omega) | (simp [he, ha, hu, hlk, hh]; clear he) | clear he)
            | (with_reducible refine ExC.sym ?_ ?_ <;> intro h <;> try simp [h, ha, hu, hlk, hh])
            | (with_reducible refine hQ _ _ ?_)
            | (with_reducible refine hQ _ _ ?_ ?_)
            | (with_reducible refine ExAS.some ?_)
            | (with_reducible refine Ex.anyR (l := m13_r22) (p := m13_r22p) 13 (by kernel_rfl) ?_)
            | (with_reducible refine ExA.fin (by decide +kernel) ?_)
            | (refine ExA.one 0 (by decide +kernel) rfl ?_)
            | (refine ExA.one 1 (by decide +kernel) rfl ?_)
            | (refine ExA.one 2 (by decide +kernel) rfl ?_)
            | (refine ExA.one 3 (by decide +kernel) rfl ?_)
            | (refine ExA.one 4 (by decide +kernel) rfl ?_)
            | (refine ExA.one 5 (by decide +kernel) rfl ?_)
            | (refine ExA.one 6 (by decide +kernel) rfl ?_)
            | (refine ExA.one 7 (by decide +kernel) rfl ?_)
            | (refine ExA.one 8 (by decide +kernel) rfl ?_)
            | (refine ExA.one 9 (by decide +kernel) rfl ?_)
            | (refine ExA.one 10 (by decide +kernel) rfl ?_)
            | (refine ExA.one 11 (by decide +kernel) rfl ?_)
            | (refine ExA.one 12 (by decide +kernel) rfl ?_)
            | (refine ExA.two 3 7 (by decide +kernel) rfl rfl ?_ ?_)
            | (refine ExA.two 6 7 (by decide +kernel) rfl rfl ?_ ?_)
            | (refine ExA.two 7 10 (by decide +kernel) rfl rfl ?_ ?_)
            | (refine ExA.two 7 11 (by decide +kernel) rfl rfl ?_ ?_)
            | (refine ExA.two 10 11 (by decide +kernel) rfl rfl ?_ ?_)
            | (with_reducible refine ExAS.id ?_; simp (disch := omega) only [wrap_i64])
            | (with_reducible refine ExAS.req (by omega) ?_)
            | (with_reducible refine ExAS.iteB ?_ ?_ <;> intro h <;> try simp [h, ha, hu, hlk, hh])
            | (with_reducible refine ExAS.ite ?_ ?_ <;> intro h he <;> first | (exfalso; omega) | (simp [he, ha, hu, hlk, hh]; clear he) | clear he)
            | simp [ha, hu, hlk, hh]
          any_goals refine ih _ (by first | omega | (simp; omega)) ?_ ⟨(by first | rfl | (simp; done) | (simp; simp (disch := omega) [wrap_i64]; done) | (simp; simp (disch := omega) only [wrap_i64]; omega) | (simp; omega)), (by first | rfl | (simp; done) | (simp; simp (disch := omega) [wrap_i64]; done) | (simp; simp (disch := omega) only [wrap_i64]; omega) | (simp; omega)), (by first | rfl | (simp; done) | (simp; simp (disch := omega) [wrap_i64]; done) | (simp; simp (disch := omega) only [wrap_i64]; omega) | (simp; omega)), (by first | rfl | (simp; done) | (simp; simp (disch := omega) [wrap_i64]; done) | (simp; simp (disch := omega) only [wrap_i64]; omega) | (simp; omega))⟩
          all_goals omega
      | false =>
        cases hm : mayL seg hops with
        | true =>
          simp [stepR, hm, Mv.of] at ih
          repeat' first
            | with_reducible refine Ex.seq ?_
            | with_reducible refine Ex.ops ?_
            | with_reducible refine ExO.cons ?_
            | with_reducible refine ExO.nil ?_
            | with_reducible refine ExS.some ?_
            | with_reducible refine Ex.retS ?_
            | with_reducible refine Ex.condV ?_
            | with_reducible refine Ex.skip ?_
            | with_reducible refine Ex.block ?_
            | with_reducible refine Ex.inBlock ?_
            | with_reducible refine Ex.exit rfl ?_
            | with_reducible refine ExC.tt ?_
            | with_reducible refine ExC.ff ?_
            | (with_reducible refine ExC.id ?_; simp (disch := omega) only [wrap_i64])
            | (with_reducible refine ExS.id ?_; simp (disch := omega) only [wrap_i64])
            | (with_reducible refine ExS.req (by omega) ?_)
            | (with_reducible refine ExC.dec ?_ ?_ <;> intro h he <;> first | (exfalso; omega) | (simp [he, ha, hm]; clear he) | clear he)
            | (with_reducible refine ExS.iteB ?_ ?_ <;> intro h <;> try simp [h, ha, hm])
            | (with_reducible refine ExS.ite ?_ ?_ <;> intro h he <;> first | (exfalso; omega) | (simp [he, ha, hm]; clear he) | clear he)
            | (with_reducible refine ExC.ndec ?_ ?_ <;> intro h he <;> first | (exfalso; omega) | (simp [he, ha, hm]; clear he) | clear he)
            | (with_reducible refine ExC.sym ?_ ?_ <;> intro h <;> try simp [h, ha, hm])
            | (with_reducible refine hQ _ _ ?_)
            | (with_reducible refine hQ _ _ ?_ ?_)
            | (with_reducible refine ExAS.some ?_)
            | (with_reducible refine Ex.anyR (l := m13_r22) (p := m13_r22p) 13 (by kernel_rfl) ?_)
            | (with_reducible refine ExA.fin (by decide +kernel) ?_)
            | (refine ExA.one 0 (by decide +kernel) rfl ?_)
            | (refine ExA.one 1 (by decide +kernel) rfl ?_)
            | (refine ExA.one 2 (by decide +kernel) rfl ?_)
            | (refine ExA.one 3 (by decide +kernel) rfl ?_)
            | (refine ExA.one 4 (by decide +kernel) rfl ?_)
            | (refine ExA.one 5 (by decide +kernel) rfl ?_)
            | (refine ExA.one 6 (by decide +kernel) rfl ?_)
            | (refine ExA.one 7 (by decide +kernel) rfl ?_)
            | (refine ExA.one 8 (by decide +kernel) rfl ?_)
            | (refine ExA.one 9 (by decide +kernel) rfl ?_)
            | (refine ExA.one 10 (by decide +kernel) rfl ?_)
            | (refine ExA.one 11 (by decide +kernel) rfl ?_)
            | (refine ExA.one 12 (by decide +kernel) rfl ?_)
            | (refine ExA.two 3 7 (by decide +kernel) rfl rfl ?_ ?_)
            | (refine ExA.two 6 7 (by decide +kernel) rfl rfl ?_ ?_)
            | (refine ExA.two 7 10 (by decide +kernel) rfl rfl ?_ ?_)
            | (refine ExA.two 7 11 (by decide +kernel) rfl rfl ?_ ?_)
            | (refine ExA.two 10 11 (by decide +kernel) rfl rfl ?_ ?_)
            | (with_reducible refine ExAS.id ?_; simp (disch := omega) only [wrap_i64])
            | (with_reducible refine ExAS.req (by omega) ?_)
            | (with_reducible refine ExAS.iteB ?_ ?_ <;> intro h <;> try simp [h, ha, hm])
            | (with_reducible refine ExAS.ite ?_ ?_ <;> intro h he <;> first | (exfalso; omega) | (simp [he, ha, hm]; clear he) | clear he)
            | simp [ha, hm]
          any_goals refine ih _ (by first | omega | (simp; omega)) ?_ ⟨(by first | rfl | (simp; done) | (simp; simp (disch := omega) [wrap_i64]; done) | (simp; simp (disch := omega) only [wrap_i64]; omega) | (simp; omega)), (by first | rfl | (simp; done) | (simp; simp (disch := omega) [wrap_i64]; done) | (simp; simp (disch := omega) only [wrap_i64]; omega) | (simp; omega)), (by first | rfl | (simp; done) | (simp; simp (disch := omega) [wrap_i64]; done) | (simp; simp (disch := omega) only [wrap_i64]; omega) | (simp; omega)), (by first | rfl | (simp; done) | (simp; simp (disch := omega) [wrap_i64]; done) | (simp; simp (disch := omega) only [wrap_i64]; omega) | (simp; omega))⟩
          all_goals omega
        | false =>
          simp [stepR, hm, Mv.of] at ih
          repeat' first
            | with_reducible refine Ex.seq ?_
            | with_reducible refine Ex.ops ?_
            | with_reducible refine ExO.cons ?_
            | with_reducible refine ExO.nil ?_
            | with_reducible refine ExS.some ?_
            | with_reducible refine Ex.retS ?_
            | with_reducible refine Ex.condV ?_
            | with_reducible refine Ex.skip ?_
            | with_reducible refine Ex.block ?_
            | with_reducible refine Ex.inBlock ?_
            | with_reducible refine Ex.exit rfl ?_
            | with_reducible refine ExC.tt ?_
            | with_reducible refine ExC.ff ?_
            | (with_reducible refine ExC.id ?_; simp (disch := omega) only [wrap_i64])
            | (with_reducible refine ExS.id ?_; simp (disch := omega) only [wrap_i64])
            | (with_reducible refine ExS.req (by omega) ?_)
            | (with_reducible refine ExC.dec ?_ ?_ <;> intro h he <;> first | (exfalso; omega) | (simp [he, ha, hm]; clear he) | clear he)
            | (with_reducible refine ExS.iteB ?_ ?_ <;> intro h <;> try simp [h, ha, hm])
            | (with_reducible refine ExS.ite ?_ ?_ <;> intro h he <;> first | (exfalso; omega) | (simp [he, ha, hm]; clear he) | clear he)
            | (with_reducible refine ExC.ndec ?_ ?_ <;> intro h he <;> first | (exfalso; omega) | (simp [he, ha, hm]; clear he) | clear he)
            | (with_reducible refine ExC.sym ?_ ?_ <;> intro h <;> try simp [h, ha, hm])
            | (with_reducible refine hQ _ _ ?_)
            | (with_reducible refine hQ _ _ ?_ ?_)
            | (with_reducible refine ExAS.some ?_)
            | (with_reducible refine Ex.anyR (l := m13_r22) (p := m13_r22p) 13 (by kernel_rfl) ?_)
            | (with_reducible refine ExA.fin (by decide +kernel) ?_)
            | (refine ExA.one 0 (by decide +kernel) rfl ?_)
            | (refine ExA.one 1 (by decide +kernel) rfl ?_)
            | (refine ExA.one 2 (by decide +kernel) rfl ?_)
            | (refine ExA.one 3 (by decide +kernel) rfl ?_)
            | (refine ExA.one 4 (by decide +kernel) rfl ?_)
            | (refine ExA.one 5 (by decide +kernel) rfl ?_)
            | (refine ExA.one 6 (by decide +kernel) rfl ?_)
            | (refine ExA.one 7 (by decide +kernel) rfl ?_)
            | (refine ExA.one 8 (by decide +kernel) rfl ?_)
            | (refine ExA.one 9 (by decide +kernel) rfl ?_)
            | (refine ExA.one 10 (by decide +kernel) rfl ?_)
            | (refine ExA.one 11 (by decide +kernel) rfl ?_)
            | (refine ExA.one 12 (by decide +kernel) rfl ?_)
            | (refine ExA.two 3 7 (by decide +kernel) rfl rfl ?_ ?_)
            | (refine ExA.two 6 7 (by decide +kernel) rfl rfl ?_ ?_)
            | (refine ExA.two 7 10 (by decide +kernel) rfl rfl ?_ ?_)
            | (refine ExA.two 7 11 (by decide +kernel) rfl rfl ?_ ?_)
            | (refine ExA.two 10 11 (by decide +kernel) rfl rfl ?_ ?_)
            | (with_reducible refine ExAS.id ?_; simp (disch := omega) only [wrap_i64])
            | (with_reducible refine ExAS.req (by omega) ?_)
            | (with_reducible refine ExAS.iteB ?_ ?_ <;> intro h <;> try simp [h, ha, hm])
            | (with_reducible refine ExAS.ite ?_ ?_ <;> intro h he <;> first | (exfalso; omega) | (simp [he, ha, hm]; clear he) | clear he)
            | simp [ha, hm]
          any_goals refine ih _ (by first | omega | (simp; omega)) ?_ ⟨(by first | rfl | (simp; done) | (simp; simp (disch := omega) [wrap_i64]; done) | (simp; simp (disch := omega) only [wrap_i64]; omega) | (simp; omega)), (by first | rfl | (simp; done) | (simp; simp (disch := omega) [wrap_i64]; done) | (simp; simp (disch := omega) only [wrap_i64]; omega) | (simp; omega)), (by first | rfl | (simp; done) | (simp; simp (disch := omega) [wrap_i64]; done) | (simp; simp (disch := omega) only [wrap_i64]; omega) | (simp; omega)), (by first | rfl | (simp; done) | (simp; simp (disch := omega) [wrap_i64]; done) | (simp; simp (disch := omega) only [wrap_i64]; omega) | (simp; omega))⟩
          all_goals omega
    · have e : l.take i = l := List.take_of_length_le hge
      rw [e]
      repeat' first
        | with_reducible refine Ex.seq ?_
        | with_reducible refine Ex.ops ?_
        | with_reducible refine ExO.cons ?_
        | with_reducible refine ExO.nil ?_
        | with_reducible refine ExS.some ?_
        | with_reducible refine Ex.retS ?_
        | with_reducible refine Ex.condV ?_
        | with_reducible refine Ex.skip ?_
        | with_reducible refine Ex.block ?_
        | with_reducible refine Ex.inBlock ?_
        | with_reducible refine Ex.exit rfl ?_
        | with_reducible refine ExC.tt ?_
        | with_reducible refine ExC.ff ?_
        | (with_reducible refine ExC.id ?_; simp (disch := omega) only [wrap_i64])
        | (with_reducible refine ExS.id ?_; simp (disch := omega) only [wrap_i64])
        | (with_reducible refine ExS.req (by omega) ?_)
        | (with_reducible refine ExC.dec ?_ ?_ <;> intro h he <;> first | (exfalso; omega) | (simp [he]; clear he) | clear he)
        | (with_reducible refine ExS.iteB ?_ ?_ <;> intro h <;> try simp [h])
        | (with_reducible refine ExS.ite ?_ ?_ <;> intro h he <;> first | (exfalso; omega) | (simp [he]; clear he) | clear he)
        | (with_reducible refine ExC.ndec ?_ ?_ <;> intro h he <;> first | (exfalso; omega) | (simp [he]; clear he) | clear he)
        | (with_reducible refine ExC.sym ?_ ?_ <;> intro h <;> try simp [h])
        | (with_reducible refine hQ _ _ ?_)
        | (with_reducible refine hQ _ _ ?_ ?_)
        | (with_reducible refine ExAS.some ?_)
        | (with_reducible refine Ex.anyR (l := m13_r22) (p := m13_r22p) 13 (by kernel_rfl) ?_)
        | (with_reducible refine ExA.fin (by decide +kernel) ?_)
        | (refine ExA.one 0 (by decide +kernel) rfl ?_)
        | (refine ExA.one 1 (by decide +kernel) rfl ?_)
        | (refine ExA.one 2 (by decide +kernel) rfl ?_)
        | (refine ExA.one 3 (by decide +kernel) rfl ?_)
        | (refine ExA.one 4 (by decide +kernel) rfl ?_)
        | (refine ExA.one 5 (by decide +kernel) rfl ?_)
        | (refine ExA.one 6 (by decide +kernel) rfl ?_)
        | (refine ExA.one 7 (by decide +kernel) rfl ?_)
        | (refine ExA.one 8 (by decide +kernel) rfl ?_)
        | (refine ExA.one 9 (by decide +kernel) rfl ?_)
        | (refine ExA.one 10 (by decide +kernel) rfl ?_)
        | (refine ExA.one 11 (by decide +kernel) rfl ?_)
        | (refine ExA.one 12 (by decide +kernel) rfl ?_)
        | (refine ExA.two 3 7 (by decide +kernel) rfl rfl ?_ ?_)
        | (refine ExA.two 6 7 (by decide +kernel) rfl rfl ?_ ?_)
        | (refine ExA.two 7 10 (by decide +kernel) rfl rfl ?_ ?_)
        | (refine ExA.two 7 11 (by decide +kernel) rfl rfl ?_ ?_)
        | (refine ExA.two 10 11 (by decide +kernel) rfl rfl ?_ ?_)
        | (with_reducible refine ExAS.id ?_; simp (disch := omega) only [wrap_i64])
        | (with_reducible refine ExAS.req (by omega) ?_)
        | (with_reducible refine ExAS.iteB ?_ ?_ <;> intro h <;> try simp [h])
        | (with_reducible refine ExAS.ite ?_ ?_ <;> intro h he <;> first | (exfalso; omega) | (simp [he]; clear he) | clear he)
        | simp
      all_goals first | (simp ; done) | omega | (simp ; omega) | (simp ; intros; omega) | (simp_all ; done) | (simp_all ; omega) | (refine ⟨?_, ?_⟩ <;> first | omega | (simp_all ; done) | (simp ; omega)) | skip
end Go.Proofs.Ytmobgcpamblhhaa
