import Derived.Test.YtmobgcpamblhhaaP5
set_option maxRecDepth 100000
set_option linter.unusedSimpArgs false
set_option linter.unusedVariables false
namespace Go.Proofs.Ytmobgcpamblhhaa
open Go.Vi

noncomputable def F3 : List AV → Option AV := sp (eC (eSl 3 eAct) (eC (eInt .i64) (e1 (eAgg ePt)))) (fun p => p.1.2.length < 2 ^ 62) (fun _ => .bool true)
@[simp] theorem F3_app {l : List AV} : F3 l = ((eC (eSl 3 eAct) (eC (eInt .i64) (e1 (eAgg ePt)))).dec l).bind fun a => @ite _ ((fun p => p.1.2.length < 2 ^ 62) a) (Classical.propDecidable _) (some ((fun _ => .bool true) a)) none := rfl
/-! 3: garner/garnerlaw21.RelayDrops -/
abbrev m3_r1 : List MOp := [
  ⟨some 5, Op.box 25 (Operand.tmp 2), none⟩,
  ⟨some 6, Op.assign (Operand.const (Value.bool false)), none⟩]
abbrev m3_r2 : List MOp := [
  ⟨some 18, Op.move (Operand.tmp 0), none⟩,
  ⟨some 19, Op.call { callee := Callee.value (Operand.func 10), args := #[Operand.tmp 18], argTypes := #[22] }, none⟩,
  ⟨some 20, Op.unOp UnOp.not 4 (Operand.tmp 19), none⟩,
  ⟨some 21, Op.move (Operand.tmp 20), none⟩,
  ⟨some 22, Op.load 25 (Operand.tmp 5), some (21, false)⟩,
  ⟨some 23, Op.call { callee := Callee.value (Operand.func 11), args := #[Operand.tmp 22], argTypes := #[25] }, some (21, false)⟩,
  ⟨some 24, Op.unOp UnOp.not 4 (Operand.tmp 23), some (21, false)⟩,
  ⟨some 25, Op.pick (Operand.tmp 21) (Operand.const (Value.bool true)) (Operand.tmp 24), none⟩,
  ⟨some 26, Op.move (Operand.tmp 25), none⟩,
  ⟨some 27, Op.fieldAddr 25 (Operand.tmp 5) 0, some (26, false)⟩,
  ⟨some 28, Op.load 3 (Operand.tmp 27), some (26, false)⟩,
  ⟨some 29, Op.move (Operand.tmp 1), some (26, false)⟩,
  ⟨some 30, Op.binOp BinOp.eql 3 (Operand.tmp 28) (Operand.tmp 29) 3, some (26, false)⟩,
  ⟨some 31, Op.pick (Operand.tmp 26) (Operand.const (Value.bool true)) (Operand.tmp 30), none⟩]
abbrev m3_r3 : List MOp := [
  ⟨some 32, Op.call { callee := Callee.value (Operand.func 12), args := #[], argTypes := #[] }, none⟩,
  ⟨some 6, Op.assign (Operand.tmp 32), none⟩]
abbrev m3_c4 : MC := .seq (.region m3_r3) .ret
abbrev m3_c5 : MC := .cond (Operand.tmp 31) m3_c4 .skip
abbrev m3_c6 : MC := .seq (.region m3_r2) m3_c5
abbrev m3_r7 : List MOp := [
  ⟨some 34, Op.move (Operand.tmp 0), none⟩,
  ⟨some 35, Op.call { callee := Callee.value (Operand.func 13), args := #[Operand.tmp 34], argTypes := #[22] }, none⟩,
  ⟨some 33, Op.move (Operand.tmp 35), none⟩,
  ⟨some 36, Op.extract (Operand.tmp 33) 0, none⟩,
  ⟨some 37, Op.extract (Operand.tmp 33) 1, none⟩,
  ⟨some 38, Op.extract (Operand.tmp 33) 2, none⟩,
  ⟨some 7, Op.assign (Operand.tmp 36), none⟩,
  ⟨some 8, Op.assign (Operand.tmp 37), none⟩,
  ⟨some 9, Op.assign (Operand.tmp 38), none⟩]
abbrev m3_r8 : List MOp := [
  ⟨some 39, Op.move (Operand.tmp 9), none⟩,
  ⟨some 40, Op.unOp UnOp.not 4 (Operand.tmp 39), none⟩]
abbrev m3_r9 : List MOp := [
  ⟨some 6, Op.assign (Operand.const (Value.bool false)), none⟩]
abbrev m3_c10 : MC := .seq (.region m3_r9) .ret
abbrev m3_c11 : MC := .cond (Operand.tmp 40) m3_c10 .skip
abbrev m3_c12 : MC := .seq (.region m3_r8) m3_c11
abbrev m3_r13 : List MOp := [
  ⟨some 10, Op.assign (Operand.const (Value.int IntKind.i64 0)), none⟩]
abbrev m3_r14 : List MOp := [
  ⟨some 41, Op.move (Operand.tmp 10), none⟩,
  ⟨some 42, Op.move (Operand.tmp 8), none⟩,
  ⟨some 43, Op.call { callee := Callee.builtin Builtin.len, args := #[Operand.tmp 42], argTypes := #[30] }, none⟩,
  ⟨some 44, Op.binOp BinOp.lss 3 (Operand.tmp 41) (Operand.tmp 43) 3, none⟩]
abbrev m3_c15 : MC := .cond (Operand.tmp 44) .skip (.exit 0)
abbrev m3_c16 : MC := .seq (.region m3_r14) m3_c15
abbrev m3_r17 : List MOp := [
  ⟨some 11, Op.assign (Operand.const (Value.int IntKind.i64 0)), none⟩]
abbrev m3_r18 : List MOp := [
  ⟨some 47, Op.move (Operand.tmp 11), none⟩,
  ⟨some 48, Op.move (Operand.tmp 8), none⟩,
  ⟨some 49, Op.move (Operand.tmp 10), none⟩,
  ⟨some 50, Op.indexAddr 30 (Operand.tmp 48) (Operand.tmp 49), none⟩,
  ⟨some 51, Op.fieldAddr 35 (Operand.tmp 50) 1, none⟩,
  ⟨some 52, Op.load 33 (Operand.tmp 51), none⟩,
  ⟨some 53, Op.call { callee := Callee.builtin Builtin.len, args := #[Operand.tmp 52], argTypes := #[33] }, none⟩,
  ⟨some 54, Op.binOp BinOp.lss 3 (Operand.tmp 47) (Operand.tmp 53) 3, none⟩]
abbrev m3_c19 : MC := .cond (Operand.tmp 54) .skip (.exit 2)
abbrev m3_c20 : MC := .seq (.region m3_r18) m3_c19
abbrev m3_r21 : List MOp := [
  ⟨some 57, Op.move (Operand.tmp 8), none⟩,
  ⟨some 58, Op.move (Operand.tmp 10), none⟩,
  ⟨some 59, Op.indexAddr 30 (Operand.tmp 57) (Operand.tmp 58), none⟩,
  ⟨some 60, Op.fieldAddr 35 (Operand.tmp 59) 1, none⟩,
  ⟨some 61, Op.load 33 (Operand.tmp 60), none⟩,
  ⟨some 62, Op.move (Operand.tmp 11), none⟩,
  ⟨some 63, Op.indexAddr 33 (Operand.tmp 61) (Operand.tmp 62), none⟩,
  ⟨some 64, Op.fieldAddr 37 (Operand.tmp 63) 1, none⟩,
  ⟨some 65, Op.fieldAddr 25 (Operand.tmp 64) 0, none⟩,
  ⟨some 66, Op.load 3 (Operand.tmp 65), none⟩,
  ⟨some 67, Op.move (Operand.tmp 1), none⟩,
  ⟨some 68, Op.binOp BinOp.eql 3 (Operand.tmp 66) (Operand.tmp 67) 3, none⟩]
abbrev m3_r22 : List MOp := [
  ⟨some 69, Op.call { callee := Callee.value (Operand.func 12), args := #[], argTypes := #[] }, none⟩,
  ⟨some 6, Op.assign (Operand.tmp 69), none⟩]
abbrev m3_c23 : MC := .seq (.region m3_r22) .ret
abbrev m3_c24 : MC := .cond (Operand.tmp 68) m3_c23 .skip
abbrev m3_c25 : MC := .seq (.region m3_r21) m3_c24
abbrev m3_c26 : MC := .block 3 m3_c25
abbrev m3_r27 : List MOp := [
  ⟨some 55, Op.move (Operand.tmp 11), none⟩,
  ⟨some 56, Op.binOp BinOp.add 3 (Operand.tmp 55) (Operand.const (Value.int IntKind.i64 1)) 3, none⟩,
  ⟨some 11, Op.assign (Operand.tmp 56), none⟩]
abbrev m3_c28 : MC := .seq m3_c26 (.region m3_r27)
abbrev m3_c29 : MC := .seq m3_c20 m3_c28
abbrev m3_b30 : MC := m3_c29
abbrev m3_c31 : MC := .loop m3_b30
abbrev m3_c32 : MC := .block 2 m3_c31
abbrev m3_c33 : MC := .seq (.region m3_r17) m3_c32
abbrev m3_c34 : MC := .block 1 m3_c33
abbrev m3_r35 : List MOp := [
  ⟨some 45, Op.move (Operand.tmp 10), none⟩,
  ⟨some 46, Op.binOp BinOp.add 3 (Operand.tmp 45) (Operand.const (Value.int IntKind.i64 1)) 3, none⟩,
  ⟨some 10, Op.assign (Operand.tmp 46), none⟩]
abbrev m3_c36 : MC := .seq m3_c34 (.region m3_r35)
abbrev m3_c37 : MC := .seq m3_c16 m3_c36
abbrev m3_b38 : MC := m3_c37
abbrev m3_c39 : MC := .loop m3_b38
abbrev m3_c40 : MC := .block 0 m3_c39
abbrev m3_c41 : MC := .seq (.region m3_r13) m3_c40
abbrev m3_r42 : List MOp := [
  ⟨some 71, Op.move (Operand.tmp 7), none⟩,
  ⟨some 72, Op.load 25 (Operand.tmp 5), none⟩,
  ⟨some 73, Op.call { callee := Callee.value (Operand.func 14), args := #[Operand.tmp 71, Operand.tmp 72], argTypes := #[29, 25] }, none⟩,
  ⟨some 70, Op.move (Operand.tmp 73), none⟩,
  ⟨some 74, Op.extract (Operand.tmp 70) 0, none⟩,
  ⟨some 75, Op.extract (Operand.tmp 70) 1, none⟩,
  ⟨some 76, Op.extract (Operand.tmp 70) 2, none⟩,
  ⟨some 12, Op.alloc 25, none⟩,
  ⟨none, Op.store 25 (Operand.tmp 12) (Operand.tmp 74), none⟩,
  ⟨some 13, Op.assign (Operand.tmp 75), none⟩,
  ⟨some 14, Op.assign (Operand.tmp 76), none⟩]
abbrev m3_r43 : List MOp := [
  ⟨some 77, Op.move (Operand.tmp 7), none⟩,
  ⟨some 78, Op.move (Operand.tmp 1), none⟩,
  ⟨some 79, Op.call { callee := Callee.value (Operand.func 15), args := #[Operand.tmp 77, Operand.tmp 78], argTypes := #[29, 3] }, none⟩]
abbrev m3_r44 : List MOp := [
  ⟨some 81, Op.move (Operand.tmp 7), none⟩,
  ⟨some 82, Op.load 25 (Operand.tmp 5), none⟩,
  ⟨some 83, Op.call { callee := Callee.value (Operand.func 14), args := #[Operand.tmp 81, Operand.tmp 82], argTypes := #[29, 25] }, none⟩,
  ⟨some 80, Op.move (Operand.tmp 83), none⟩,
  ⟨some 84, Op.extract (Operand.tmp 80) 0, none⟩,
  ⟨some 85, Op.extract (Operand.tmp 80) 1, none⟩,
  ⟨some 86, Op.extract (Operand.tmp 80) 2, none⟩,
  ⟨some 15, Op.alloc 25, none⟩,
  ⟨none, Op.store 25 (Operand.tmp 15) (Operand.tmp 84), none⟩,
  ⟨some 16, Op.assign (Operand.tmp 85), none⟩,
  ⟨some 17, Op.assign (Operand.tmp 86), none⟩]
abbrev m3_r45 : List MOp := [
  ⟨some 87, Op.load 25 (Operand.tmp 12), none⟩,
  ⟨some 88, Op.load 25 (Operand.tmp 15), none⟩,
  ⟨some 89, Op.binOp BinOp.eql 25 (Operand.tmp 87) (Operand.tmp 88) 25, none⟩,
  ⟨some 90, Op.move (Operand.tmp 89), none⟩,
  ⟨some 91, Op.move (Operand.tmp 13), some (90, true)⟩,
  ⟨some 92, Op.move (Operand.tmp 16), some (90, true)⟩,
  ⟨some 93, Op.binOp BinOp.eql 3 (Operand.tmp 91) (Operand.tmp 92) 3, some (90, true)⟩,
  ⟨some 94, Op.pick (Operand.tmp 90) (Operand.tmp 93) (Operand.const (Value.bool false)), none⟩,
  ⟨some 95, Op.move (Operand.tmp 94), none⟩,
  ⟨some 96, Op.move (Operand.tmp 14), some (95, true)⟩,
  ⟨some 97, Op.move (Operand.tmp 17), some (95, true)⟩,
  ⟨some 98, Op.binOp BinOp.eql 38 (Operand.tmp 96) (Operand.tmp 97) 38, some (95, true)⟩,
  ⟨some 99, Op.pick (Operand.tmp 95) (Operand.tmp 98) (Operand.const (Value.bool false)), none⟩,
  ⟨some 100, Op.move (Operand.tmp 99), none⟩,
  ⟨some 101, Op.call { callee := Callee.value (Operand.func 12), args := #[], argTypes := #[] }, some (100, true)⟩,
  ⟨some 102, Op.pick (Operand.tmp 100) (Operand.tmp 101) (Operand.const (Value.bool false)), none⟩,
  ⟨some 6, Op.assign (Operand.tmp 102), none⟩]
abbrev m3_c46 : MC := .seq (.region m3_r45) .ret
abbrev m3_c47 : MC := .seq (.region m3_r44) m3_c46
abbrev m3_c48 : MC := .seq (.region m3_r43) m3_c47
abbrev m3_c49 : MC := .seq (.region m3_r42) m3_c48
abbrev m3_c50 : MC := .seq m3_c41 m3_c49
abbrev m3_c51 : MC := .seq m3_c12 m3_c50
abbrev m3_c52 : MC := .seq (.region m3_r7) m3_c51
abbrev m3_c53 : MC := .seq m3_c6 m3_c52
abbrev m3_c54 : MC := .seq (.region m3_r1) m3_c53
abbrev m3 : MC := m3_c54
theorem m3_eq : Try.f3.body.map (mcF []) = some m3 := by kernel_rfl
set_option maxHeartbeats 4000000 in
theorem f3_ok : SpOK Try.prog 3 (.pure F3) := by
  refine pureOf (K := kl [(10, .pure F10), (11, .pure F11), (12, .pure F12), (13, .eff F13), (14, .eff F14), (15, .eff F15)]) mixed te_ok (KS.cons f10_ok (KS.cons f11_ok (KS.cons f12_ok (KS.cons f13_ok (KS.cons f14_ok (KS.cons f15_ok KS.nil)))))) Try.func3 m3_eq (by kernel_rfl) (nt := 103) rfl (rs := [.tmp 6]) rfl (np := 3) (by decide) (fun a => by first | rfl | simp) (by kernel_rfl) ?_
  rintro ⟨⟨z, l⟩, seg, p⟩ hl Q hQ
  simp only [] at hl
  cases hL : lightL l with
  | false =>
    repeat' first
      | with_reducible refine Ex.seq ?_
      | with_reducible refine Ex.ops ?_
      | with_reducible refine ExO.cons ?_
      | with_reducible refine ExO.nil ?_
      | with_reducible refine ExS.some ?_
      | with_reducible refine Ex.retS ?_
      | with_reducible refine Ex.condV ?_
      | with_reducible refine Ex.skip ?_
      | with_reducible refine Ex.block ?_
      | with_reducible refine Ex.inBlock ?_
      | with_reducible refine Ex.exit rfl ?_
      | with_reducible refine ExC.tt ?_
      | with_reducible refine ExC.ff ?_
      | (with_reducible refine ExC.id ?_; simp (disch := omega) only [wrap_i64])
      | (with_reducible refine ExS.id ?_; simp (disch := omega) only [wrap_i64])
      | (with_reducible refine ExS.req (by omega) ?_)
      | (with_reducible refine ExC.dec ?_ ?_ <;> intro h he <;> first | (exfalso; omega) | (simp [he, hL]; clear he) | clear he)
      | (with_reducible refine ExS.iteB ?_ ?_ <;> intro h <;> try simp [h, hL])
      | (with_reducible refine ExS.ite ?_ ?_ <;> intro h he <;> first | (exfalso; omega) | (simp [he, hL]; clear he) | clear he)
      | (with_reducible refine ExC.ndec ?_ ?_ <;> intro h he <;> first | (exfalso; omega) | (simp [he, hL]; clear he) | clear he)
      | (with_reducible refine ExC.sym ?_ ?_ <;> intro h <;> try simp [h, hL])
      | (with_reducible refine hQ _ _ ?_)
      | (with_reducible refine hQ _ _ ?_ ?_)
      | simp [hL]
    all_goals first | (simp ; done) | omega | (simp ; omega) | (simp ; intros; omega) | (simp_all ; done) | (simp_all ; omega) | (refine ⟨?_, ?_⟩ <;> first | omega | (simp_all ; done) | (simp ; omega)) | skip
  | true =>
    obtain ⟨hl1, hl2⟩ := light_of hL
    have hI := RInv.play l
    have hlen := play_length l
    cases hm : p.may with
    | false =>
      repeat' first
        | with_reducible refine Ex.seq ?_
        | with_reducible refine Ex.ops ?_
        | with_reducible refine ExO.cons ?_
        | with_reducible refine ExO.nil ?_
        | with_reducible refine ExS.some ?_
        | with_reducible refine Ex.retS ?_
        | with_reducible refine Ex.condV ?_
        | with_reducible refine Ex.skip ?_
        | with_reducible refine Ex.block ?_
        | with_reducible refine Ex.inBlock ?_
        | with_reducible refine Ex.exit rfl ?_
        | with_reducible refine ExC.tt ?_
        | with_reducible refine ExC.ff ?_
        | (with_reducible refine ExC.id ?_; simp (disch := omega) only [wrap_i64])
        | (with_reducible refine ExS.id ?_; simp (disch := omega) only [wrap_i64])
        | (with_reducible refine ExS.req (by omega) ?_)
        | (with_reducible refine ExC.dec ?_ ?_ <;> intro h he <;> first | (exfalso; omega) | (simp [he, hL, hm]; clear he) | clear he)
        | (with_reducible refine ExS.iteB ?_ ?_ <;> intro h <;> try simp [h, hL, hm])
        | (with_reducible refine ExS.ite ?_ ?_ <;> intro h he <;> first | (exfalso; omega) | (simp [he, hL, hm]; clear he) | clear he)
        | (with_reducible refine ExC.ndec ?_ ?_ <;> intro h he <;> first | (exfalso; omega) | (simp [he, hL, hm]; clear he) | clear he)
        | (with_reducible refine ExC.sym ?_ ?_ <;> intro h <;> try simp [h, hL, hm])
        | (with_reducible refine hQ _ _ ?_)
        | (with_reducible refine hQ _ _ ?_ ?_)
        | simp [hL, hm]
      all_goals first | (simp ; done) | omega | (simp ; omega) | (simp ; intros; omega) | (simp_all ; done) | (simp_all ; omega) | (refine ⟨?_, ?_⟩ <;> first | omega | (simp_all ; done) | (simp ; omega)) | skip
    | true =>
      by_cases hs : p.seg = seg
      · repeat' first
          | with_reducible refine Ex.seq ?_
          | with_reducible refine Ex.ops ?_
          | with_reducible refine ExO.cons ?_
          | with_reducible refine ExO.nil ?_
          | with_reducible refine ExS.some ?_
          | with_reducible refine Ex.retS ?_
          | with_reducible refine Ex.condV ?_
          | with_reducible refine Ex.skip ?_
          | with_reducible refine Ex.block ?_
          | with_reducible refine Ex.inBlock ?_
          | with_reducible refine Ex.exit rfl ?_
          | with_reducible refine ExC.tt ?_
          | with_reducible refine ExC.ff ?_
          | (with_reducible refine ExC.id ?_; simp (disch := omega) only [wrap_i64])
          | (with_reducible refine ExS.id ?_; simp (disch := omega) only [wrap_i64])
          | (with_reducible refine ExS.req (by omega) ?_)
          | (with_reducible refine ExC.dec ?_ ?_ <;> intro h he <;> first | (exfalso; omega) | (simp [he, hL, hm, hs]; clear he) | clear he)
          | (with_reducible refine ExS.iteB ?_ ?_ <;> intro h <;> try simp [h, hL, hm, hs])
          | (with_reducible refine ExS.ite ?_ ?_ <;> intro h he <;> first | (exfalso; omega) | (simp [he, hL, hm, hs]; clear he) | clear he)
          | (with_reducible refine ExC.ndec ?_ ?_ <;> intro h he <;> first | (exfalso; omega) | (simp [he, hL, hm, hs]; clear he) | clear he)
          | (with_reducible refine ExC.sym ?_ ?_ <;> intro h <;> try simp [h, hL, hm, hs])
          | (with_reducible refine hQ _ _ ?_)
          | (with_reducible refine hQ _ _ ?_ ?_)
          | simp [hL, hm, hs]
        all_goals first | (simp ; done) | omega | (simp ; omega) | (simp ; intros; omega) | (simp_all ; done) | (simp_all ; omega) | (refine ⟨?_, ?_⟩ <;> first | omega | (simp_all ; done) | (simp ; omega)) | skip
      · generalize hpl : playL l = s at *
        obtain ⟨es, f, w⟩ := s
        simp only [] at hlen
        repeat' first
          | with_reducible refine Ex.seq ?_
          | with_reducible refine Ex.ops ?_
          | with_reducible refine ExO.cons ?_
          | with_reducible refine ExO.nil ?_
          | with_reducible refine ExS.some ?_
          | with_reducible refine Ex.retS ?_
          | with_reducible refine Ex.condV ?_
          | with_reducible refine Ex.skip ?_
          | with_reducible refine Ex.block ?_
          | with_reducible refine Ex.inBlock ?_
          | with_reducible refine Ex.exit rfl ?_
          | with_reducible refine ExC.tt ?_
          | with_reducible refine ExC.ff ?_
          | (with_reducible refine ExC.id ?_; simp (disch := omega) only [wrap_i64])
          | (with_reducible refine ExS.id ?_; simp (disch := omega) only [wrap_i64])
          | (with_reducible refine ExS.req (by omega) ?_)
          | (with_reducible refine ExC.dec ?_ ?_ <;> intro h he <;> first | (exfalso; omega) | (simp [he, hL, hm, hs, hl1, hpl]; clear he) | clear he)
          | (with_reducible refine ExS.iteB ?_ ?_ <;> intro h <;> try simp [h, hL, hm, hs, hl1, hpl])
          | (with_reducible refine ExS.ite ?_ ?_ <;> intro h he <;> first | (exfalso; omega) | (simp [he, hL, hm, hs, hl1, hpl]; clear he) | clear he)
          | (with_reducible refine ExC.ndec ?_ ?_ <;> intro h he <;> first | (exfalso; omega) | (simp [he, hL, hm, hs, hl1, hpl]; clear he) | clear he)
          | (with_reducible refine ExC.sym ?_ ?_ <;> intro h <;> try simp [h, hL, hm, hs, hl1, hpl])
          | (with_reducible refine hQ _ _ ?_)
          | (with_reducible refine hQ _ _ ?_ ?_)
          | simp [hL, hm, hs, hl1, hpl]
        refine Ex.loopI (fun i : Nat => [(1, .int .i64 seg), (5, .ptr (some (0, 0))), (7, .ptr (some (2, 0))), (8, .sl 2 f (w.map eMove.enc)), (10, .int .i64 i)]) (fun _ => [.cells (ePt.enc p), .map (encM (eInt .i64) eHops es), .cells [.mp (some 1)]]) (fun i => w.length - i) (fun i => i ≤ w.length ∧ ∀ m ∈ w.take i, ∀ h ∈ m.hops, h.to.seg ≠ seg) 0 ⟨by simp, by simp⟩ ⟨by simp, by simp, by simp, by simp⟩ ?_
        rintro i ⟨hi, hno⟩ ih
        rcases get_or w i with ⟨m, hm', hlt⟩ | ⟨hm', hge⟩
        · have hml := (mayL_rise (hI.mays m (List.mem_of_getElem? hm'))).2
          repeat' first
            | with_reducible refine Ex.seq ?_
            | with_reducible refine Ex.ops ?_
            | with_reducible refine ExO.cons ?_
            | with_reducible refine ExO.nil ?_
            | with_reducible refine ExS.some ?_
            | with_reducible refine Ex.retS ?_
            | with_reducible refine Ex.condV ?_
            | with_reducible refine Ex.skip ?_
            | with_reducible refine Ex.block ?_
            | with_reducible refine Ex.inBlock ?_
            | with_reducible refine Ex.exit rfl ?_
            | with_reducible refine ExC.tt ?_
            | with_reducible refine ExC.ff ?_
            | (with_reducible refine ExC.id ?_; simp (disch := omega) only [wrap_i64])
            | (with_reducible refine ExS.id ?_; simp (disch := omega) only [wrap_i64])
            | (with_reducible refine ExS.req (by omega) ?_)
            | (with_reducible refine ExC.dec ?_ ?_ <;> intro h he <;> first | (exfalso; omega) | (simp [he, hm']; clear he) | clear he)
            | (with_reducible refine ExS.iteB ?_ ?_ <;> intro h <;> try simp [h, hm'])
            | (with_reducible refine ExS.ite ?_ ?_ <;> intro h he <;> first | (exfalso; omega) | (simp [he, hm']; clear he) | clear he)
            | (with_reducible refine ExC.ndec ?_ ?_ <;> intro h he <;> first | (exfalso; omega) | (simp [he, hm']; clear he) | clear he)
            | (with_reducible refine ExC.sym ?_ ?_ <;> intro h <;> try simp [h, hm'])
            | (with_reducible refine hQ _ _ ?_)
            | (with_reducible refine hQ _ _ ?_ ?_)
            | simp [hm']
          refine Ex.loopI (fun k : Nat => [(1, .int .i64 seg), (5, .ptr (some (0, 0))), (7, .ptr (some (2, 0))), (8, .sl 2 f (w.map eMove.enc)), (10, .int .i64 i), (11, .int .i64 k)]) (fun _ => [.cells (ePt.enc p), .map (encM (eInt .i64) eHops es), .cells [.mp (some 1)]]) (fun k => m.hops.length - k) (fun k => k ≤ m.hops.length ∧ ∀ h ∈ m.hops.take k, h.to.seg ≠ seg) 0 ⟨by simp, by simp⟩ ⟨by simp [hm'], by simp, by simp, by simp⟩ ?_
          rintro k ⟨hk, hno2⟩ ih2
          rcases get_or m.hops k with ⟨x, hx, hlt2⟩ | ⟨hx, hge2⟩
          · repeat' first
              | with_reducible refine Ex.seq ?_
              | with_reducible refine Ex.ops ?_
              | with_reducible refine ExO.cons ?_
              | with_reducible refine ExO.nil ?_
              | with_reducible refine ExS.some ?_
              | with_reducible refine Ex.retS ?_
              | with_reducible refine Ex.condV ?_
              | with_reducible refine Ex.skip ?_
              | with_reducible refine Ex.block ?_
              | with_reducible refine Ex.inBlock ?_
              | with_reducible refine Ex.exit rfl ?_
              | with_reducible refine ExC.tt ?_
              | with_reducible refine ExC.ff ?_
              | (with_reducible refine ExC.id ?_; simp (disch := omega) only [wrap_i64])
              | (with_reducible refine ExS.id ?_; simp (disch := omega) only [wrap_i64])
              | (with_reducible refine ExS.req (by omega) ?_)
              | (with_reducible refine ExC.dec ?_ ?_ <;> intro h he <;> first | (exfalso; omega) | (simp [he, hm', hx]; clear he) | clear he)
              | (with_reducible refine ExS.iteB ?_ ?_ <;> intro h <;> try simp [h, hm', hx])
              | (with_reducible refine ExS.ite ?_ ?_ <;> intro h he <;> first | (exfalso; omega) | (simp [he, hm', hx]; clear he) | clear he)
              | (with_reducible refine ExC.ndec ?_ ?_ <;> intro h he <;> first | (exfalso; omega) | (simp [he, hm', hx]; clear he) | clear he)
              | (with_reducible refine ExC.sym ?_ ?_ <;> intro h <;> try simp [h, hm', hx])
              | (with_reducible refine hQ _ _ ?_)
              | (with_reducible refine hQ _ _ ?_ ?_)
              | simp [hm', hx]
            any_goals refine ih2 (k + 1) _ (by first | omega | (simp; omega)) ?_ ⟨(by first | rfl | (simp; done) | (simp; simp (disch := omega) [wrap_i64]; done) | (simp; simp (disch := omega) only [wrap_i64]; omega) | (simp; omega)), (by first | rfl | (simp; done) | (simp; simp (disch := omega) [wrap_i64]; done) | (simp; simp (disch := omega) only [wrap_i64]; omega) | (simp; omega)), (by first | rfl | (simp; done) | (simp; simp (disch := omega) [wrap_i64]; done) | (simp; simp (disch := omega) only [wrap_i64]; omega) | (simp; omega)), (by first | rfl | (simp; done) | (simp; simp (disch := omega) [wrap_i64]; done) | (simp; simp (disch := omega) only [wrap_i64]; omega) | (simp; omega))⟩
            refine ⟨by omega, fun h hh => ?_⟩
            rw [take_get hx] at hh
            simp at hh
            rcases hh with hh | rfl
            · exact hno2 h hh
            · assumption
          · rw [List.take_of_length_le hge2] at hno2
            repeat' first
              | with_reducible refine Ex.seq ?_
              | with_reducible refine Ex.ops ?_
              | with_reducible refine ExO.cons ?_
              | with_reducible refine ExO.nil ?_
              | with_reducible refine ExS.some ?_
              | with_reducible refine Ex.retS ?_
              | with_reducible refine Ex.condV ?_
              | with_reducible refine Ex.skip ?_
              | with_reducible refine Ex.block ?_
              | with_reducible refine Ex.inBlock ?_
              | with_reducible refine Ex.exit rfl ?_
              | with_reducible refine ExC.tt ?_
              | with_reducible refine ExC.ff ?_
              | (with_reducible refine ExC.id ?_; simp (disch := omega) only [wrap_i64])
              | (with_reducible refine ExS.id ?_; simp (disch := omega) only [wrap_i64])
              | (with_reducible refine ExS.req (by omega) ?_)
              | (with_reducible refine ExC.dec ?_ ?_ <;> intro h he <;> first | (exfalso; omega) | (simp [he, hm', hx]; clear he) | clear he)
              | (with_reducible refine ExS.iteB ?_ ?_ <;> intro h <;> try simp [h, hm', hx])
              | (with_reducible refine ExS.ite ?_ ?_ <;> intro h he <;> first | (exfalso; omega) | (simp [he, hm', hx]; clear he) | clear he)
              | (with_reducible refine ExC.ndec ?_ ?_ <;> intro h he <;> first | (exfalso; omega) | (simp [he, hm', hx]; clear he) | clear he)
              | (with_reducible refine ExC.sym ?_ ?_ <;> intro h <;> try simp [h, hm', hx])
              | (with_reducible refine hQ _ _ ?_)
              | (with_reducible refine hQ _ _ ?_ ?_)
              | simp [hm', hx]
            any_goals refine ih (i + 1) _ (by first | omega | (simp; omega)) ?_ ⟨(by first | rfl | (simp; done) | (simp; simp (disch := omega) [wrap_i64]; done) | (simp; simp (disch := omega) only [wrap_i64]; omega) | (simp; omega)), (by first | rfl | (simp; done) | (simp; simp (disch := omega) [wrap_i64]; done) | (simp; simp (disch := omega) only [wrap_i64]; omega) | (simp; omega)), (by first | rfl | (simp; done) | (simp; simp (disch := omega) [wrap_i64]; done) | (simp; simp (disch := omega) only [wrap_i64]; omega) | (simp; omega)), (by first | rfl | (simp; done) | (simp; simp (disch := omega) [wrap_i64]; done) | (simp; simp (disch := omega) only [wrap_i64]; omega) | (simp; omega))⟩
            refine ⟨by omega, fun h hh => ?_⟩
            rw [take_get hm'] at hh
            simp at hh
            rcases hh with hh | rfl
            · exact hno h hh
            · exact hno2
        · rw [List.take_of_length_le hge] at hno
          have hno3 := hI.hops hno
          have hu : uniq es := hI.uniq
          have hg : es.good := hI.good
          have hg2 := good_del (seg := seg) hg
          have hr := fun f => rfind_del hu hno3 f p 0 hs
          repeat' first
            | with_reducible refine Ex.seq ?_
            | with_reducible refine Ex.ops ?_
            | with_reducible refine ExO.cons ?_
            | with_reducible refine ExO.nil ?_
            | with_reducible refine ExS.some ?_
            | with_reducible refine Ex.retS ?_
            | with_reducible refine Ex.condV ?_
            | with_reducible refine Ex.skip ?_
            | with_reducible refine Ex.block ?_
            | with_reducible refine Ex.inBlock ?_
            | with_reducible refine Ex.exit rfl ?_
            | with_reducible refine ExC.tt ?_
            | with_reducible refine ExC.ff ?_
            | (with_reducible refine ExC.id ?_; simp (disch := omega) only [wrap_i64])
            | (with_reducible refine ExS.id ?_; simp (disch := omega) only [wrap_i64])
            | (with_reducible refine ExS.req (by omega) ?_)
            | (with_reducible refine ExC.dec ?_ ?_ <;> intro h he <;> first | (exfalso; omega) | (simp [he, hm', hu, hg, hg2, hm, hr]; clear he) | clear he)
            | (with_reducible refine ExS.iteB ?_ ?_ <;> intro h <;> try simp [h, hm', hu, hg, hg2, hm, hr])
            | (with_reducible refine ExS.ite ?_ ?_ <;> intro h he <;> first | (exfalso; omega) | (simp [he, hm', hu, hg, hg2, hm, hr]; clear he) | clear he)
            | (with_reducible refine ExC.ndec ?_ ?_ <;> intro h he <;> first | (exfalso; omega) | (simp [he, hm', hu, hg, hg2, hm, hr]; clear he) | clear he)
            | (with_reducible refine ExC.sym ?_ ?_ <;> intro h <;> try simp [h, hm', hu, hg, hg2, hm, hr])
            | (with_reducible refine hQ _ _ ?_)
            | (with_reducible refine hQ _ _ ?_ ?_)
            | simp [hm', hu, hg, hg2, hm, hr]
end Go.Proofs.Ytmobgcpamblhhaa
