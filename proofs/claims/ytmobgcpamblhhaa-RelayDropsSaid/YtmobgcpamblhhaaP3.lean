import Derived.Test.YtmobgcpamblhhaaP2
set_option maxRecDepth 100000
set_option linter.unusedSimpArgs false
set_option linter.unusedVariables false
namespace Go.Proofs.Ytmobgcpamblhhaa
open Go.Vi

noncomputable def F10 : List AV → Option AV := sp (e1 (eSl 3 eAct)) (fun p => p.2.length < 2 ^ 62) (fun p => .bool (lightL p.2))
@[simp] theorem F10_app {l : List AV} : F10 l = ((e1 (eSl 3 eAct)).dec l).bind fun a => @ite _ ((fun p => p.2.length < 2 ^ 62) a) (Classical.propDecidable _) (some ((fun p => .bool (lightL p.2)) a)) none := rfl
/-! 10: garner/garnerlaw21.light -/
abbrev m10_r1 : List MOp := [
  ⟨some 2, Op.assign (Operand.const (Value.bool false)), none⟩]
abbrev m10_r2 : List MOp := [
  ⟨some 3, Op.assign (Operand.const (Value.int IntKind.i64 0)), none⟩]
abbrev m10_r3 : List MOp := [
  ⟨some 4, Op.move (Operand.tmp 3), none⟩,
  ⟨some 5, Op.move (Operand.tmp 0), none⟩,
  ⟨some 6, Op.call { callee := Callee.builtin Builtin.len, args := #[Operand.tmp 5], argTypes := #[22] }, none⟩,
  ⟨some 7, Op.binOp BinOp.lss 3 (Operand.tmp 4) (Operand.tmp 6) 3, none⟩,
  ⟨some 8, Op.move (Operand.tmp 7), none⟩,
  ⟨some 9, Op.move (Operand.tmp 3), some (8, true)⟩,
  ⟨some 10, Op.binOp BinOp.leq 3 (Operand.tmp 9) (Operand.const (Value.int IntKind.i64 30)) 3, some (8, true)⟩,
  ⟨some 11, Op.pick (Operand.tmp 8) (Operand.tmp 10) (Operand.const (Value.bool false)), none⟩]
abbrev m10_c4 : MC := .cond (Operand.tmp 11) .skip (.exit 0)
abbrev m10_c5 : MC := .seq (.region m10_r3) m10_c4
abbrev m10_r6 : List MOp := [
  ⟨some 14, Op.move (Operand.tmp 0), none⟩,
  ⟨some 15, Op.move (Operand.tmp 3), none⟩,
  ⟨some 16, Op.indexAddr 22 (Operand.tmp 14) (Operand.tmp 15), none⟩,
  ⟨some 17, Op.fieldAddr 81 (Operand.tmp 16) 1, none⟩,
  ⟨some 18, Op.fieldAddr 35 (Operand.tmp 17) 1, none⟩,
  ⟨some 19, Op.load 33 (Operand.tmp 18), none⟩,
  ⟨some 20, Op.call { callee := Callee.builtin Builtin.len, args := #[Operand.tmp 19], argTypes := #[33] }, none⟩,
  ⟨some 21, Op.binOp BinOp.gtr 3 (Operand.tmp 20) (Operand.const (Value.int IntKind.i64 40)) 3, none⟩]
abbrev m10_r7 : List MOp := [
  ⟨some 2, Op.assign (Operand.const (Value.bool false)), none⟩]
abbrev m10_c8 : MC := .seq (.region m10_r7) .ret
abbrev m10_c9 : MC := .cond (Operand.tmp 21) m10_c8 .skip
abbrev m10_c10 : MC := .seq (.region m10_r6) m10_c9
abbrev m10_c11 : MC := .block 1 m10_c10
abbrev m10_r12 : List MOp := [
  ⟨some 12, Op.move (Operand.tmp 3), none⟩,
  ⟨some 13, Op.binOp BinOp.add 3 (Operand.tmp 12) (Operand.const (Value.int IntKind.i64 1)) 3, none⟩,
  ⟨some 3, Op.assign (Operand.tmp 13), none⟩]
abbrev m10_c13 : MC := .seq m10_c11 (.region m10_r12)
abbrev m10_c14 : MC := .seq m10_c5 m10_c13
abbrev m10_b15 : MC := m10_c14
abbrev m10_c16 : MC := .loop m10_b15
abbrev m10_c17 : MC := .block 0 m10_c16
abbrev m10_c18 : MC := .seq (.region m10_r2) m10_c17
abbrev m10_r19 : List MOp := [
  ⟨some 22, Op.move (Operand.tmp 0), none⟩,
  ⟨some 23, Op.call { callee := Callee.builtin Builtin.len, args := #[Operand.tmp 22], argTypes := #[22] }, none⟩,
  ⟨some 24, Op.binOp BinOp.leq 3 (Operand.tmp 23) (Operand.const (Value.int IntKind.i64 30)) 3, none⟩,
  ⟨some 2, Op.assign (Operand.tmp 24), none⟩]
abbrev m10_c20 : MC := .seq (.region m10_r19) .ret
abbrev m10_c21 : MC := .seq m10_c18 m10_c20
abbrev m10_c22 : MC := .seq (.region m10_r1) m10_c21
abbrev m10 : MC := m10_c22
theorem m10_eq : Try.f10.body.map (mcF []) = some m10 := by kernel_rfl
set_option maxHeartbeats 4000000 in
theorem f10_ok : SpOK Try.prog 10 (.pure F10) := by
  refine pureOf (K := kl []) mixed te_ok KS.nil Try.func10 m10_eq (by kernel_rfl) (nt := 25) rfl (rs := [.tmp 2]) rfl (np := 1) (by decide) (fun a => by first | rfl | simp) (by kernel_rfl) ?_
  rintro ⟨z, l⟩ hl Q hQ
  simp only [] at hl
  repeat' first
    | with_reducible refine Ex.seq ?_
    | with_reducible refine Ex.ops ?_
    | with_reducible refine ExO.cons ?_
    | with_reducible refine ExO.nil ?_
    | with_reducible refine ExS.some ?_
    | with_reducible refine Ex.retS ?_
    | with_reducible refine Ex.condV ?_
    | with_reducible refine Ex.skip ?_
    | with_reducible refine Ex.block ?_
    | with_reducible refine Ex.inBlock ?_
    | with_reducible refine Ex.exit rfl ?_
    | with_reducible refine ExC.tt ?_
    | with_reducible refine ExC.ff ?_
    | (with_reducible refine ExC.id ?_; simp (disch := omega) only [wrap_i64])
    | (with_reducible refine ExS.id ?_; simp (disch := omega) only [wrap_i64])
    | (with_reducible refine ExS.req (by omega) ?_)
    | (with_reducible refine ExC.dec ?_ ?_ <;> intro h he <;> first | (exfalso; omega) | (simp [he]; clear he) | clear he)
    | (with_reducible refine ExS.iteB ?_ ?_ <;> intro h <;> try simp [h])
    | (with_reducible refine ExS.ite ?_ ?_ <;> intro h he <;> first | (exfalso; omega) | (simp [he]; clear he) | clear he)
    | (with_reducible refine ExC.ndec ?_ ?_ <;> intro h he <;> first | (exfalso; omega) | (simp [he]; clear he) | clear he)
    | (with_reducible refine ExC.sym ?_ ?_ <;> intro h <;> try simp [h])
    | (with_reducible refine hQ _ _ ?_)
    | (with_reducible refine hQ _ _ ?_ ?_)
    | simp
  refine Ex.loopI (fun i : Nat => [(0, .sl 3 z (l.map eAct.enc)), (3, .int .i64 i)]) (fun _ => []) (fun i => l.length - i) (fun i => i ≤ l.length ∧ i ≤ 31 ∧ ∀ a ∈ l.take i, a.hops.length ≤ 40) 0 ⟨by simp, by simp, by simp⟩ ⟨by simp, by simp, by simp, by simp⟩ ?_
  rintro i ⟨hi, h31, hp⟩ ih
  rcases get_or l i with ⟨a, ha, hlt⟩ | ⟨ha, hge⟩
  · repeat' first
      | with_reducible refine Ex.seq ?_
      | with_reducible refine Ex.ops ?_
      | with_reducible refine ExO.cons ?_
      | with_reducible refine ExO.nil ?_
      | with_reducible refine ExS.some ?_
      | with_reducible refine Ex.retS ?_
      | with_reducible refine Ex.condV ?_
      | with_reducible refine Ex.skip ?_
      | with_reducible refine Ex.block ?_
      | with_reducible refine Ex.inBlock ?_
      | with_reducible refine Ex.exit rfl ?_
      | with_reducible refine ExC.tt ?_
      | with_reducible refine ExC.ff ?_
      | (with_reducible refine ExC.id ?_; simp (disch := omega) only [wrap_i64])
      | (with_reducible refine ExS.id ?_; simp (disch := omega) only [wrap_i64])
      | (with_reducible refine ExS.req (by omega) ?_)
      | (with_reducible refine ExC.dec ?_ ?_ <;> intro h he <;> first | (exfalso; omega) | (simp [he, ha]; clear he) | clear he)
      | (with_reducible refine ExS.iteB ?_ ?_ <;> intro h <;> try simp [h, ha])
      | (with_reducible refine ExS.ite ?_ ?_ <;> intro h he <;> first | (exfalso; omega) | (simp [he, ha]; clear he) | clear he)
      | (with_reducible refine ExC.ndec ?_ ?_ <;> intro h he <;> first | (exfalso; omega) | (simp [he, ha]; clear he) | clear he)
      | (with_reducible refine ExC.sym ?_ ?_ <;> intro h <;> try simp [h, ha])
      | (with_reducible refine hQ _ _ ?_)
      | (with_reducible refine hQ _ _ ?_ ?_)
      | simp [ha]
    any_goals refine ih (i + 1) _ (by first | omega | (simp; omega)) ?_ ⟨(by first | rfl | (simp; done) | (simp; simp (disch := omega) [wrap_i64]; done) | (simp; simp (disch := omega) only [wrap_i64]; omega) | (simp; omega)), (by first | rfl | (simp; done) | (simp; simp (disch := omega) [wrap_i64]; done) | (simp; simp (disch := omega) only [wrap_i64]; omega) | (simp; omega)), (by first | rfl | (simp; done) | (simp; simp (disch := omega) [wrap_i64]; done) | (simp; simp (disch := omega) only [wrap_i64]; omega) | (simp; omega)), (by first | rfl | (simp; done) | (simp; simp (disch := omega) [wrap_i64]; done) | (simp; simp (disch := omega) only [wrap_i64]; omega) | (simp; omega))⟩
    · exact light_no ha (by omega) (by omega)
    · refine ⟨by omega, by omega, fun b hb => ?_⟩
      rw [take_get ha] at hb
      simp at hb
      rcases hb with hb | rfl
      · exact hp b hb
      · omega
    · have e : i = 31 := by omega
      rw [light_yes fun b hb => hp b (by rw [e]; exact hb)]
      simp
      omega
  · repeat' first
      | with_reducible refine Ex.seq ?_
      | with_reducible refine Ex.ops ?_
      | with_reducible refine ExO.cons ?_
      | with_reducible refine ExO.nil ?_
      | with_reducible refine ExS.some ?_
      | with_reducible refine Ex.retS ?_
      | with_reducible refine Ex.condV ?_
      | with_reducible refine Ex.skip ?_
      | with_reducible refine Ex.block ?_
      | with_reducible refine Ex.inBlock ?_
      | with_reducible refine Ex.exit rfl ?_
      | with_reducible refine ExC.tt ?_
      | with_reducible refine ExC.ff ?_
      | (with_reducible refine ExC.id ?_; simp (disch := omega) only [wrap_i64])
      | (with_reducible refine ExS.id ?_; simp (disch := omega) only [wrap_i64])
      | (with_reducible refine ExS.req (by omega) ?_)
      | (with_reducible refine ExC.dec ?_ ?_ <;> intro h he <;> first | (exfalso; omega) | (simp [he, ha]; clear he) | clear he)
      | (with_reducible refine ExS.iteB ?_ ?_ <;> intro h <;> try simp [h, ha])
      | (with_reducible refine ExS.ite ?_ ?_ <;> intro h he <;> first | (exfalso; omega) | (simp [he, ha]; clear he) | clear he)
      | (with_reducible refine ExC.ndec ?_ ?_ <;> intro h he <;> first | (exfalso; omega) | (simp [he, ha]; clear he) | clear he)
      | (with_reducible refine ExC.sym ?_ ?_ <;> intro h <;> try simp [h, ha])
      | (with_reducible refine hQ _ _ ?_)
      | (with_reducible refine hQ _ _ ?_ ?_)
      | simp [ha]
    rw [light_yes fun b hb => hp b (by rw [List.take_of_length_le hge]; exact List.mem_of_mem_take hb)]
    simp
    omega

noncomputable def F64 : List AV → Option AV := sp (eC (eInt .i64) (e1 (eSl 5 eHop))) (fun _ => True) (fun p => .bool (mayL p.1 p.2.2))
@[simp] theorem F64_app {l : List AV} : F64 l = ((eC (eInt .i64) (e1 (eSl 5 eHop))).dec l).bind fun a => @ite _ ((fun _ => True) a) (Classical.propDecidable _) (some ((fun p => .bool (mayL p.1 p.2.2)) a)) none := rfl
/-! 64: garner/relay.may -/
abbrev m64_r1 : List MOp := [
  ⟨some 4, Op.assign (Operand.const (Value.bool false)), none⟩]
abbrev m64_r2 : List MOp := [
  ⟨some 8, Op.move (Operand.tmp 0), none⟩,
  ⟨some 9, Op.binOp BinOp.lss 3 (Operand.tmp 8) (Operand.const (Value.int IntKind.i64 1)) 3, none⟩,
  ⟨some 10, Op.move (Operand.tmp 9), none⟩,
  ⟨some 11, Op.move (Operand.tmp 0), some (10, false)⟩,
  ⟨some 12, Op.binOp BinOp.gtr 3 (Operand.tmp 11) (Operand.const (Value.int IntKind.i64 2147483647)) 3, some (10, false)⟩,
  ⟨some 13, Op.pick (Operand.tmp 10) (Operand.const (Value.bool true)) (Operand.tmp 12), none⟩,
  ⟨some 14, Op.move (Operand.tmp 13), none⟩,
  ⟨some 15, Op.move (Operand.tmp 1), some (14, false)⟩,
  ⟨some 16, Op.call { callee := Callee.builtin Builtin.len, args := #[Operand.tmp 15], argTypes := #[33] }, some (14, false)⟩,
  ⟨some 17, Op.binOp BinOp.gtr 3 (Operand.tmp 16) (Operand.const (Value.int IntKind.i64 16384)) 3, some (14, false)⟩,
  ⟨some 18, Op.pick (Operand.tmp 14) (Operand.const (Value.bool true)) (Operand.tmp 17), none⟩]
abbrev m64_r3 : List MOp := [
  ⟨some 4, Op.assign (Operand.const (Value.bool false)), none⟩]
abbrev m64_c4 : MC := .seq (.region m64_r3) .ret
abbrev m64_c5 : MC := .cond (Operand.tmp 18) m64_c4 .skip
abbrev m64_c6 : MC := .seq (.region m64_r2) m64_c5
abbrev m64_r7 : List MOp := [
  ⟨some 5, Op.assign (Operand.const (Value.int IntKind.i64 (-1))), none⟩]
abbrev m64_r8 : List MOp := [
  ⟨some 19, Op.move (Operand.tmp 1), none⟩,
  ⟨some 20, Op.call { callee := Callee.builtin Builtin.len, args := #[Operand.tmp 19], argTypes := #[33] }, none⟩,
  ⟨some 21, Op.move (Operand.const (Value.int IntKind.i64 0)), none⟩]
abbrev m64_r9 : List MOp := [
  ⟨some 22, Op.binOp BinOp.lss 3 (Operand.tmp 21) (Operand.tmp 20) 3, none⟩]
abbrev m64_c10 : MC := .cond (Operand.tmp 22) .skip (.exit 0)
abbrev m64_r11 : List MOp := [
  ⟨some 23, Op.indexAddr 33 (Operand.tmp 19) (Operand.tmp 21), none⟩,
  ⟨some 24, Op.load 37 (Operand.tmp 23), none⟩,
  ⟨some 7, Op.alloc 37, none⟩,
  ⟨none, Op.store 37 (Operand.tmp 7) (Operand.tmp 24), none⟩]
abbrev m64_r12 : List MOp := [
  ⟨some 25, Op.fieldAddr 37 (Operand.tmp 7) 0, none⟩,
  ⟨some 26, Op.load 3 (Operand.tmp 25), none⟩,
  ⟨some 27, Op.move (Operand.tmp 5), none⟩,
  ⟨some 28, Op.binOp BinOp.leq 3 (Operand.tmp 26) (Operand.tmp 27) 3, none⟩,
  ⟨some 29, Op.move (Operand.tmp 28), none⟩,
  ⟨some 30, Op.fieldAddr 37 (Operand.tmp 7) 0, some (29, false)⟩,
  ⟨some 31, Op.load 3 (Operand.tmp 30), some (29, false)⟩,
  ⟨some 32, Op.binOp BinOp.gtr 3 (Operand.tmp 31) (Operand.const (Value.int IntKind.i64 2147483647)) 3, some (29, false)⟩,
  ⟨some 33, Op.pick (Operand.tmp 29) (Operand.const (Value.bool true)) (Operand.tmp 32), none⟩,
  ⟨some 34, Op.move (Operand.tmp 33), none⟩,
  ⟨some 35, Op.fieldAddr 37 (Operand.tmp 7) 1, some (34, false)⟩,
  ⟨some 36, Op.load 25 (Operand.tmp 35), some (34, false)⟩,
  ⟨some 37, Op.call { callee := Callee.value (Operand.func 43), args := #[Operand.tmp 36], argTypes := #[25] }, some (34, false)⟩,
  ⟨some 38, Op.binOp BinOp.neq 38 (Operand.tmp 37) (Operand.const (Value.int IntKind.i64 0)) 38, some (34, false)⟩,
  ⟨some 39, Op.pick (Operand.tmp 34) (Operand.const (Value.bool true)) (Operand.tmp 38), none⟩,
  ⟨some 40, Op.move (Operand.tmp 39), none⟩,
  ⟨some 41, Op.fieldAddr 37 (Operand.tmp 7) 1, some (40, false)⟩,
  ⟨some 42, Op.fieldAddr 25 (Operand.tmp 41) 0, some (40, false)⟩,
  ⟨some 43, Op.load 3 (Operand.tmp 42), some (40, false)⟩,
  ⟨some 44, Op.move (Operand.tmp 0), some (40, false)⟩,
  ⟨some 45, Op.binOp BinOp.leq 3 (Operand.tmp 43) (Operand.tmp 44) 3, some (40, false)⟩,
  ⟨some 46, Op.pick (Operand.tmp 40) (Operand.const (Value.bool true)) (Operand.tmp 45), none⟩]
abbrev m64_r13 : List MOp := [
  ⟨some 4, Op.assign (Operand.const (Value.bool false)), none⟩]
abbrev m64_c14 : MC := .seq (.region m64_r13) .ret
abbrev m64_c15 : MC := .cond (Operand.tmp 46) m64_c14 .skip
abbrev m64_c16 : MC := .seq (.region m64_r12) m64_c15
abbrev m64_r17 : List MOp := [
  ⟨some 47, Op.fieldAddr 37 (Operand.tmp 7) 0, none⟩,
  ⟨some 48, Op.load 3 (Operand.tmp 47), none⟩,
  ⟨some 5, Op.assign (Operand.tmp 48), none⟩]
abbrev m64_c18 : MC := .seq m64_c16 (.region m64_r17)
abbrev m64_c19 : MC := .seq (.region m64_r11) m64_c18
abbrev m64_c20 : MC := .block 1 m64_c19
abbrev m64_r21 : List MOp := [
  ⟨some 49, Op.binOp BinOp.add 3 (Operand.tmp 21) (Operand.const (Value.int IntKind.i64 1)) 3, none⟩,
  ⟨some 21, Op.move (Operand.tmp 49), none⟩]
abbrev m64_c22 : MC := .seq m64_c20 (.region m64_r21)
abbrev m64_c23 : MC := .seq m64_c10 m64_c22
abbrev m64_c24 : MC := .seq (.region m64_r9) m64_c23
abbrev m64_b25 : MC := m64_c24
abbrev m64_c26 : MC := .loop m64_b25
abbrev m64_c27 : MC := .block 0 m64_c26
abbrev m64_c28 : MC := .seq (.region m64_r8) m64_c27
abbrev m64_r29 : List MOp := [
  ⟨some 4, Op.assign (Operand.const (Value.bool true)), none⟩]
abbrev m64_c30 : MC := .seq (.region m64_r29) .ret
abbrev m64_c31 : MC := .seq m64_c28 m64_c30
abbrev m64_c32 : MC := .seq (.region m64_r7) m64_c31
abbrev m64_c33 : MC := .seq m64_c6 m64_c32
abbrev m64_c34 : MC := .seq (.region m64_r1) m64_c33
abbrev m64 : MC := m64_c34
theorem m64_eq : Try.f64.body.map (mcF []) = some m64 := by kernel_rfl
set_option maxHeartbeats 4000000 in
theorem f64_ok : SpOK Try.prog 64 (.pure F64) := by
  refine pureOf (K := kl [(43, .pure F43)]) mixed te_ok (KS.cons f43_ok KS.nil) Try.func64 m64_eq (by kernel_rfl) (nt := 50) rfl (rs := [.tmp 4]) rfl (np := 2) (by decide) (fun a => by first | rfl | simp) (by kernel_rfl) ?_
  rintro ⟨seg, z, l⟩ _ Q hQ
  repeat' first
    | with_reducible refine Ex.seq ?_
    | with_reducible refine Ex.ops ?_
    | with_reducible refine ExO.cons ?_
    | with_reducible refine ExO.nil ?_
    | with_reducible refine ExS.some ?_
    | with_reducible refine Ex.retS ?_
    | with_reducible refine Ex.condV ?_
    | with_reducible refine Ex.skip ?_
    | with_reducible refine Ex.block ?_
    | with_reducible refine Ex.inBlock ?_
    | with_reducible refine Ex.exit rfl ?_
    | with_reducible refine ExC.tt ?_
    | with_reducible refine ExC.ff ?_
    | (with_reducible refine ExC.id ?_; simp (disch := omega) only [wrap_i64])
    | (with_reducible refine ExS.id ?_; simp (disch := omega) only [wrap_i64])
    | (with_reducible refine ExS.req (by omega) ?_)
    | (with_reducible refine ExC.dec ?_ ?_ <;> intro h he <;> first | (exfalso; omega) | (simp [he]; clear he) | clear he)
    | (with_reducible refine ExS.iteB ?_ ?_ <;> intro h <;> try simp [h])
    | (with_reducible refine ExS.ite ?_ ?_ <;> intro h he <;> first | (exfalso; omega) | (simp [he]; clear he) | clear he)
    | (with_reducible refine ExC.ndec ?_ ?_ <;> intro h he <;> first | (exfalso; omega) | (simp [he]; clear he) | clear he)
    | (with_reducible refine ExC.sym ?_ ?_ <;> intro h <;> try simp [h])
    | (with_reducible refine hQ _ _ ?_)
    | (with_reducible refine hQ _ _ ?_ ?_)
    | simp
  any_goals (simp [mayL]; omega)
  refine Ex.loopI (fun i : Nat × Int => [(0, .int .i64 seg), (5, .int .i64 i.2), (19, .sl 5 z (l.map eHop.enc)), (20, .int .i64 l.length), (21, .int .i64 i.1)]) (fun _ => []) (fun i => l.length - i.1) (fun i => i.1 ≤ l.length ∧ riseB seg (-1) l = riseB seg i.2 (l.drop i.1)) (0, -1) ⟨by simp, by simp⟩ ⟨by simp, by simp, by simp, by simp⟩ ?_
  rintro ⟨i, last⟩ ⟨hi, hr⟩ ih
  simp only [] at hi hr
  rcases get_or l i with ⟨a, ha, hlt⟩ | ⟨ha, hge⟩
  · rw [drop_get ha, riseB] at hr
    repeat' first
      | with_reducible refine Ex.seq ?_
      | with_reducible refine Ex.ops ?_
      | with_reducible refine ExO.cons ?_
      | with_reducible refine ExO.nil ?_
      | with_reducible refine ExS.some ?_
      | with_reducible refine Ex.retS ?_
      | with_reducible refine Ex.condV ?_
      | with_reducible refine Ex.skip ?_
      | with_reducible refine Ex.block ?_
      | with_reducible refine Ex.inBlock ?_
      | with_reducible refine Ex.exit rfl ?_
      | with_reducible refine ExC.tt ?_
      | with_reducible refine ExC.ff ?_
      | (with_reducible refine ExC.id ?_; simp (disch := omega) only [wrap_i64])
      | (with_reducible refine ExS.id ?_; simp (disch := omega) only [wrap_i64])
      | (with_reducible refine ExS.req (by omega) ?_)
      | (with_reducible refine ExC.dec ?_ ?_ <;> intro h he <;> first | (exfalso; omega) | (simp [he, ha]; clear he) | clear he)
      | (with_reducible refine ExS.iteB ?_ ?_ <;> intro h <;> try simp [h, ha])
      | (with_reducible refine ExS.ite ?_ ?_ <;> intro h he <;> first | (exfalso; omega) | (simp [he, ha]; clear he) | clear he)
      | (with_reducible refine ExC.ndec ?_ ?_ <;> intro h he <;> first | (exfalso; omega) | (simp [he, ha]; clear he) | clear he)
      | (with_reducible refine ExC.sym ?_ ?_ <;> intro h <;> try simp [h, ha])
      | (with_reducible refine hQ _ _ ?_)
      | (with_reducible refine hQ _ _ ?_ ?_)
      | simp [ha]
    any_goals refine ih (i + 1, a.at') _ (by first | omega | (simp; omega)) ?_ ⟨(by first | rfl | (simp; done) | (simp; simp (disch := omega) [wrap_i64]; done) | (simp; simp (disch := omega) only [wrap_i64]; omega) | (simp; omega)), (by first | rfl | (simp; done) | (simp; simp (disch := omega) [wrap_i64]; done) | (simp; simp (disch := omega) only [wrap_i64]; omega) | (simp; omega)), (by first | rfl | (simp; done) | (simp; simp (disch := omega) [wrap_i64]; done) | (simp; simp (disch := omega) only [wrap_i64]; omega) | (simp; omega)), (by first | rfl | (simp; done) | (simp; simp (disch := omega) [wrap_i64]; done) | (simp; simp (disch := omega) only [wrap_i64]; omega) | (simp; omega))⟩
    all_goals first | (simp [mayL, hr]; done) | omega | (simp [mayL, hr]; omega) | (simp [mayL, hr]; intros; omega) | (simp_all [mayL, hr]; done) | (simp_all [mayL, hr]; omega) | (refine ⟨?_, ?_⟩ <;> first | omega | (simp_all [mayL, hr]; done) | (simp [mayL, hr]; omega)) | skip
  · rw [drop_end hge, riseB] at hr
    repeat' first
      | with_reducible refine Ex.seq ?_
      | with_reducible refine Ex.ops ?_
      | with_reducible refine ExO.cons ?_
      | with_reducible refine ExO.nil ?_
      | with_reducible refine ExS.some ?_
      | with_reducible refine Ex.retS ?_
      | with_reducible refine Ex.condV ?_
      | with_reducible refine Ex.skip ?_
      | with_reducible refine Ex.block ?_
      | with_reducible refine Ex.inBlock ?_
      | with_reducible refine Ex.exit rfl ?_
      | with_reducible refine ExC.tt ?_
      | with_reducible refine ExC.ff ?_
      | (with_reducible refine ExC.id ?_; simp (disch := omega) only [wrap_i64])
      | (with_reducible refine ExS.id ?_; simp (disch := omega) only [wrap_i64])
      | (with_reducible refine ExS.req (by omega) ?_)
      | (with_reducible refine ExC.dec ?_ ?_ <;> intro h he <;> first | (exfalso; omega) | (simp [he, ha]; clear he) | clear he)
      | (with_reducible refine ExS.iteB ?_ ?_ <;> intro h <;> try simp [h, ha])
      | (with_reducible refine ExS.ite ?_ ?_ <;> intro h he <;> first | (exfalso; omega) | (simp [he, ha]; clear he) | clear he)
      | (with_reducible refine ExC.ndec ?_ ?_ <;> intro h he <;> first | (exfalso; omega) | (simp [he, ha]; clear he) | clear he)
      | (with_reducible refine ExC.sym ?_ ?_ <;> intro h <;> try simp [h, ha])
      | (with_reducible refine hQ _ _ ?_)
      | (with_reducible refine hQ _ _ ?_ ?_)
      | simp [ha]
    simp only [mayL, hr]
    simp
    omega

noncomputable def F51 : List AV → Option AV := sp (eC (eSl 2 eMove) (e1 (eInt .i64))) (fun p => p.1.2.length < 2 ^ 62) (fun p => .int .i64 (atL p.2 p.1.2))
@[simp] theorem F51_app {l : List AV} : F51 l = ((eC (eSl 2 eMove) (e1 (eInt .i64))).dec l).bind fun a => @ite _ ((fun p => p.1.2.length < 2 ^ 62) a) (Classical.propDecidable _) (some ((fun p => .int .i64 (atL p.2 p.1.2)) a)) none := rfl
/-! 51: garner/garnerref21.at -/
abbrev m51_r1 : List MOp := [
  ⟨some 4, Op.assign (Operand.const (Value.int IntKind.i64 0)), none⟩]
abbrev m51_r2 : List MOp := [
  ⟨some 5, Op.assign (Operand.const (Value.int IntKind.i64 0)), none⟩]
abbrev m51_r3 : List MOp := [
  ⟨some 6, Op.move (Operand.tmp 5), none⟩,
  ⟨some 7, Op.move (Operand.tmp 0), none⟩,
  ⟨some 8, Op.call { callee := Callee.builtin Builtin.len, args := #[Operand.tmp 7], argTypes := #[30] }, none⟩,
  ⟨some 9, Op.binOp BinOp.lss 3 (Operand.tmp 6) (Operand.tmp 8) 3, none⟩]
abbrev m51_c4 : MC := .cond (Operand.tmp 9) .skip (.exit 0)
abbrev m51_c5 : MC := .seq (.region m51_r3) m51_c4
abbrev m51_r6 : List MOp := [
  ⟨some 12, Op.move (Operand.tmp 0), none⟩,
  ⟨some 13, Op.move (Operand.tmp 5), none⟩,
  ⟨some 14, Op.indexAddr 30 (Operand.tmp 12) (Operand.tmp 13), none⟩,
  ⟨some 15, Op.fieldAddr 35 (Operand.tmp 14) 0, none⟩,
  ⟨some 16, Op.load 3 (Operand.tmp 15), none⟩,
  ⟨some 17, Op.move (Operand.tmp 1), none⟩,
  ⟨some 18, Op.binOp BinOp.eql 3 (Operand.tmp 16) (Operand.tmp 17) 3, none⟩]
abbrev m51_r7 : List MOp := [
  ⟨some 19, Op.move (Operand.tmp 5), none⟩,
  ⟨some 4, Op.assign (Operand.tmp 19), none⟩]
abbrev m51_c8 : MC := .seq (.region m51_r7) .ret
abbrev m51_c9 : MC := .cond (Operand.tmp 18) m51_c8 .skip
abbrev m51_c10 : MC := .seq (.region m51_r6) m51_c9
abbrev m51_c11 : MC := .block 1 m51_c10
abbrev m51_r12 : List MOp := [
  ⟨some 10, Op.move (Operand.tmp 5), none⟩,
  ⟨some 11, Op.binOp BinOp.add 3 (Operand.tmp 10) (Operand.const (Value.int IntKind.i64 1)) 3, none⟩,
  ⟨some 5, Op.assign (Operand.tmp 11), none⟩]
abbrev m51_c13 : MC := .seq m51_c11 (.region m51_r12)
abbrev m51_c14 : MC := .seq m51_c5 m51_c13
abbrev m51_b15 : MC := m51_c14
abbrev m51_c16 : MC := .loop m51_b15
abbrev m51_c17 : MC := .block 0 m51_c16
abbrev m51_c18 : MC := .seq (.region m51_r2) m51_c17
abbrev m51_r19 : List MOp := [
  ⟨some 4, Op.assign (Operand.const (Value.int IntKind.i64 (-1))), none⟩]
abbrev m51_c20 : MC := .seq (.region m51_r19) .ret
abbrev m51_c21 : MC := .seq m51_c18 m51_c20
abbrev m51_c22 : MC := .seq (.region m51_r1) m51_c21
abbrev m51 : MC := m51_c22
theorem m51_eq : Try.f51.body.map (mcF []) = some m51 := by kernel_rfl
set_option maxHeartbeats 4000000 in
theorem f51_ok : SpOK Try.prog 51 (.pure F51) := by
  refine pureOf (K := kl []) mixed te_ok KS.nil Try.func51 m51_eq (by kernel_rfl) (nt := 20) rfl (rs := [.tmp 4]) rfl (np := 2) (by decide) (fun a => by first | rfl | simp) (by kernel_rfl) ?_
  rintro ⟨⟨z, l⟩, seg⟩ hl Q hQ
  simp only [] at hl
  repeat' first
    | with_reducible refine Ex.seq ?_
    | with_reducible refine Ex.ops ?_
    | with_reducible refine ExO.cons ?_
    | with_reducible refine ExO.nil ?_
    | with_reducible refine ExS.some ?_
    | with_reducible refine Ex.retS ?_
    | with_reducible refine Ex.condV ?_
    | with_reducible refine Ex.skip ?_
    | with_reducible refine Ex.block ?_
    | with_reducible refine Ex.inBlock ?_
    | with_reducible refine Ex.exit rfl ?_
    | with_reducible refine ExC.tt ?_
    | with_reducible refine ExC.ff ?_
    | (with_reducible refine ExC.id ?_; simp (disch := omega) only [wrap_i64])
    | (with_reducible refine ExS.id ?_; simp (disch := omega) only [wrap_i64])
    | (with_reducible refine ExS.req (by omega) ?_)
    | (with_reducible refine ExC.dec ?_ ?_ <;> intro h he <;> first | (exfalso; omega) | (simp [he]; clear he) | clear he)
    | (with_reducible refine ExS.iteB ?_ ?_ <;> intro h <;> try simp [h])
    | (with_reducible refine ExS.ite ?_ ?_ <;> intro h he <;> first | (exfalso; omega) | (simp [he]; clear he) | clear he)
    | (with_reducible refine ExC.ndec ?_ ?_ <;> intro h he <;> first | (exfalso; omega) | (simp [he]; clear he) | clear he)
    | (with_reducible refine ExC.sym ?_ ?_ <;> intro h <;> try simp [h])
    | (with_reducible refine hQ _ _ ?_)
    | (with_reducible refine hQ _ _ ?_ ?_)
    | simp
  refine Ex.loopI (fun i : Nat => [(0, .sl 2 z (l.map eMove.enc)), (1, .int .i64 seg), (5, .int .i64 i)]) (fun _ => []) (fun i => l.length - i) (fun i => i ≤ l.length ∧ atL seg l = atFrom seg (l.drop i) i) 0 ⟨by simp, by simp [atL]⟩ ⟨by simp, by simp, by simp, by simp⟩ ?_
  rintro i ⟨hi, hr⟩ ih
  rcases get_or l i with ⟨a, ha, hlt⟩ | ⟨ha, hge⟩
  · rw [drop_get ha, atFrom] at hr
    repeat' first
      | with_reducible refine Ex.seq ?_
      | with_reducible refine Ex.ops ?_
      | with_reducible refine ExO.cons ?_
      | with_reducible refine ExO.nil ?_
      | with_reducible refine ExS.some ?_
      | with_reducible refine Ex.retS ?_
      | with_reducible refine Ex.condV ?_
      | with_reducible refine Ex.skip ?_
      | with_reducible refine Ex.block ?_
      | with_reducible refine Ex.inBlock ?_
      | with_reducible refine Ex.exit rfl ?_
      | with_reducible refine ExC.tt ?_
      | with_reducible refine ExC.ff ?_
      | (with_reducible refine ExC.id ?_; simp (disch := omega) only [wrap_i64])
      | (with_reducible refine ExS.id ?_; simp (disch := omega) only [wrap_i64])
      | (with_reducible refine ExS.req (by omega) ?_)
      | (with_reducible refine ExC.dec ?_ ?_ <;> intro h he <;> first | (exfalso; omega) | (simp [he, ha]; clear he) | clear he)
      | (with_reducible refine ExS.iteB ?_ ?_ <;> intro h <;> try simp [h, ha])
      | (with_reducible refine ExS.ite ?_ ?_ <;> intro h he <;> first | (exfalso; omega) | (simp [he, ha]; clear he) | clear he)
      | (with_reducible refine ExC.ndec ?_ ?_ <;> intro h he <;> first | (exfalso; omega) | (simp [he, ha]; clear he) | clear he)
      | (with_reducible refine ExC.sym ?_ ?_ <;> intro h <;> try simp [h, ha])
      | (with_reducible refine hQ _ _ ?_)
      | (with_reducible refine hQ _ _ ?_ ?_)
      | simp [ha]
    any_goals refine ih (i + 1) _ (by first | omega | (simp; omega)) ?_ ⟨(by first | rfl | (simp; done) | (simp; simp (disch := omega) [wrap_i64]; done) | (simp; simp (disch := omega) only [wrap_i64]; omega) | (simp; omega)), (by first | rfl | (simp; done) | (simp; simp (disch := omega) [wrap_i64]; done) | (simp; simp (disch := omega) only [wrap_i64]; omega) | (simp; omega)), (by first | rfl | (simp; done) | (simp; simp (disch := omega) [wrap_i64]; done) | (simp; simp (disch := omega) only [wrap_i64]; omega) | (simp; omega)), (by first | rfl | (simp; done) | (simp; simp (disch := omega) [wrap_i64]; done) | (simp; simp (disch := omega) only [wrap_i64]; omega) | (simp; omega))⟩
    all_goals first | (simp [hr]; done) | omega | (simp [hr]; omega) | (simp [hr]; intros; omega) | (simp_all [hr]; done) | (simp_all [hr]; omega) | (refine ⟨?_, ?_⟩ <;> first | omega | (simp_all [hr]; done) | (simp [hr]; omega)) | skip
  · rw [drop_end hge, atFrom] at hr
    repeat' first
      | with_reducible refine Ex.seq ?_
      | with_reducible refine Ex.ops ?_
      | with_reducible refine ExO.cons ?_
      | with_reducible refine ExO.nil ?_
      | with_reducible refine ExS.some ?_
      | with_reducible refine Ex.retS ?_
      | with_reducible refine Ex.condV ?_
      | with_reducible refine Ex.skip ?_
      | with_reducible refine Ex.block ?_
      | with_reducible refine Ex.inBlock ?_
      | with_reducible refine Ex.exit rfl ?_
      | with_reducible refine ExC.tt ?_
      | with_reducible refine ExC.ff ?_
      | (with_reducible refine ExC.id ?_; simp (disch := omega) only [wrap_i64])
      | (with_reducible refine ExS.id ?_; simp (disch := omega) only [wrap_i64])
      | (with_reducible refine ExS.req (by omega) ?_)
      | (with_reducible refine ExC.dec ?_ ?_ <;> intro h he <;> first | (exfalso; omega) | (simp [he, ha]; clear he) | clear he)
      | (with_reducible refine ExS.iteB ?_ ?_ <;> intro h <;> try simp [h, ha])
      | (with_reducible refine ExS.ite ?_ ?_ <;> intro h he <;> first | (exfalso; omega) | (simp [he, ha]; clear he) | clear he)
      | (with_reducible refine ExC.ndec ?_ ?_ <;> intro h he <;> first | (exfalso; omega) | (simp [he, ha]; clear he) | clear he)
      | (with_reducible refine ExC.sym ?_ ?_ <;> intro h <;> try simp [h, ha])
      | (with_reducible refine hQ _ _ ?_)
      | (with_reducible refine hQ _ _ ?_ ?_)
      | simp [ha]
    all_goals first | (simp [hr]; done) | omega | (simp [hr]; omega) | (simp [hr]; intros; omega) | (simp_all [hr]; done) | (simp_all [hr]; omega) | (refine ⟨?_, ?_⟩ <;> first | omega | (simp_all [hr]; done) | (simp [hr]; omega)) | skip

noncomputable def F40 : List AV → Option AV := sp (eC (eSl 2 eMove) (e1 (eInt .i64))) (fun p => p.1.2.length ≤ 1099511627776) (fun p => .tup [(eSl 2 eMove).enc (dropF p.2 p.1), .bool (has p.2 p.1.2)])
@[simp] theorem F40_app {l : List AV} : F40 l = ((eC (eSl 2 eMove) (e1 (eInt .i64))).dec l).bind fun a => @ite _ ((fun p => p.1.2.length ≤ 1099511627776) a) (Classical.propDecidable _) (some ((fun p => .tup [(eSl 2 eMove).enc (dropF p.2 p.1), .bool (has p.2 p.1.2)]) a)) none := rfl
/-! 40: garner/garnerref21.Drop -/
abbrev m40_r1 : List MOp := [
  ⟨some 4, Op.assign (Operand.const (Value.slice none 0 0)), none⟩,
  ⟨some 5, Op.assign (Operand.const (Value.bool false)), none⟩]
abbrev m40_r2 : List MOp := [
  ⟨some 7, Op.move (Operand.tmp 0), none⟩,
  ⟨some 8, Op.move (Operand.tmp 1), none⟩,
  ⟨some 9, Op.call { callee := Callee.value (Operand.func 51), args := #[Operand.tmp 7, Operand.tmp 8], argTypes := #[30, 3] }, none⟩,
  ⟨some 6, Op.assign (Operand.tmp 9), none⟩]
abbrev m40_r3 : List MOp := [
  ⟨some 10, Op.move (Operand.tmp 6), none⟩,
  ⟨some 11, Op.binOp BinOp.lss 3 (Operand.tmp 10) (Operand.const (Value.int IntKind.i64 0)) 3, none⟩]
abbrev m40_r4 : List MOp := [
  ⟨some 12, Op.move (Operand.tmp 0), none⟩,
  ⟨some 4, Op.assign (Operand.tmp 12), none⟩,
  ⟨some 5, Op.assign (Operand.const (Value.bool false)), none⟩]
abbrev m40_c5 : MC := .seq (.region m40_r4) .ret
abbrev m40_c6 : MC := .cond (Operand.tmp 11) m40_c5 .skip
abbrev m40_c7 : MC := .seq (.region m40_r3) m40_c6
abbrev m40_r8 : List MOp := [
  ⟨some 13, Op.buildSlice 30 0 #[], none⟩,
  ⟨some 14, Op.move (Operand.tmp 0), none⟩,
  ⟨some 15, Op.move (Operand.tmp 6), none⟩,
  ⟨some 16, Op.slice 30 (Operand.tmp 14) none (some (Operand.tmp 15)) none, none⟩,
  ⟨some 17, Op.call { callee := Callee.builtin Builtin.append, args := #[Operand.tmp 13, Operand.tmp 16], argTypes := #[30, 30] }, none⟩,
  ⟨some 18, Op.move (Operand.tmp 0), none⟩,
  ⟨some 19, Op.move (Operand.tmp 6), none⟩,
  ⟨some 20, Op.binOp BinOp.add 3 (Operand.tmp 19) (Operand.const (Value.int IntKind.i64 1)) 3, none⟩,
  ⟨some 21, Op.slice 30 (Operand.tmp 18) (some (Operand.tmp 20)) none none, none⟩,
  ⟨some 22, Op.call { callee := Callee.builtin Builtin.append, args := #[Operand.tmp 17, Operand.tmp 21], argTypes := #[30, 30] }, none⟩,
  ⟨some 4, Op.assign (Operand.tmp 22), none⟩,
  ⟨some 5, Op.assign (Operand.const (Value.bool true)), none⟩]
abbrev m40_c9 : MC := .seq (.region m40_r8) .ret
abbrev m40_c10 : MC := .seq m40_c7 m40_c9
abbrev m40_c11 : MC := .seq (.region m40_r2) m40_c10
abbrev m40_c12 : MC := .seq (.region m40_r1) m40_c11
abbrev m40 : MC := m40_c12
theorem m40_eq : Try.f40.body.map (mcF []) = some m40 := by kernel_rfl
set_option maxHeartbeats 4000000 in
theorem f40_ok : SpOK Try.prog 40 (.pure F40) := by
  refine pureOf (K := kl [(51, .pure F51)]) mixed te_ok (KS.cons f51_ok KS.nil) Try.func40 m40_eq (by kernel_rfl) (nt := 23) rfl (rs := [.tmp 4, .tmp 5]) rfl (np := 2) (by decide) (fun a => by first | rfl | simp) (by kernel_rfl) ?_
  rintro ⟨⟨z, l⟩, seg⟩ hl Q hQ
  simp only [] at hl
  rcases atL_spec seg l with ⟨h1, h2, h3⟩ | ⟨k, h1, h2, h3, h4⟩
  · repeat' first
      | with_reducible refine Ex.seq ?_
      | with_reducible refine Ex.ops ?_
      | with_reducible refine ExO.cons ?_
      | with_reducible refine ExO.nil ?_
      | with_reducible refine ExS.some ?_
      | with_reducible refine Ex.retS ?_
      | with_reducible refine Ex.condV ?_
      | with_reducible refine Ex.skip ?_
      | with_reducible refine Ex.block ?_
      | with_reducible refine Ex.inBlock ?_
      | with_reducible refine Ex.exit rfl ?_
      | with_reducible refine ExC.tt ?_
      | with_reducible refine ExC.ff ?_
      | (with_reducible refine ExC.id ?_; simp (disch := omega) only [wrap_i64])
      | (with_reducible refine ExS.id ?_; simp (disch := omega) only [wrap_i64])
      | (with_reducible refine ExS.req (by omega) ?_)
      | (with_reducible refine ExC.dec ?_ ?_ <;> intro h he <;> first | (exfalso; omega) | (simp [he, h2]; clear he) | clear he)
      | (with_reducible refine ExS.iteB ?_ ?_ <;> intro h <;> try simp [h, h2])
      | (with_reducible refine ExS.ite ?_ ?_ <;> intro h he <;> first | (exfalso; omega) | (simp [he, h2]; clear he) | clear he)
      | (with_reducible refine ExC.ndec ?_ ?_ <;> intro h he <;> first | (exfalso; omega) | (simp [he, h2]; clear he) | clear he)
      | (with_reducible refine ExC.sym ?_ ?_ <;> intro h <;> try simp [h, h2])
      | (with_reducible refine hQ _ _ ?_)
      | (with_reducible refine hQ _ _ ?_ ?_)
      | simp [h2]
    all_goals first | (simp [dropF, h1]; done) | omega | (simp [dropF, h1]; omega) | (simp [dropF, h1]; intros; omega) | (simp_all [dropF, h1]; done) | (simp_all [dropF, h1]; omega) | (refine ⟨?_, ?_⟩ <;> first | omega | (simp_all [dropF, h1]; done) | (simp [dropF, h1]; omega)) | skip
  · repeat' first
      | with_reducible refine Ex.seq ?_
      | with_reducible refine Ex.ops ?_
      | with_reducible refine ExO.cons ?_
      | with_reducible refine ExO.nil ?_
      | with_reducible refine ExS.some ?_
      | with_reducible refine Ex.retS ?_
      | with_reducible refine Ex.condV ?_
      | with_reducible refine Ex.skip ?_
      | with_reducible refine Ex.block ?_
      | with_reducible refine Ex.inBlock ?_
      | with_reducible refine Ex.exit rfl ?_
      | with_reducible refine ExC.tt ?_
      | with_reducible refine ExC.ff ?_
      | (with_reducible refine ExC.id ?_; simp (disch := omega) only [wrap_i64])
      | (with_reducible refine ExS.id ?_; simp (disch := omega) only [wrap_i64])
      | (with_reducible refine ExS.req (by omega) ?_)
      | (with_reducible refine ExC.dec ?_ ?_ <;> intro h he <;> first | (exfalso; omega) | (simp [he, h2]; clear he) | clear he)
      | (with_reducible refine ExS.iteB ?_ ?_ <;> intro h <;> try simp [h, h2])
      | (with_reducible refine ExS.ite ?_ ?_ <;> intro h he <;> first | (exfalso; omega) | (simp [he, h2]; clear he) | clear he)
      | (with_reducible refine ExC.ndec ?_ ?_ <;> intro h he <;> first | (exfalso; omega) | (simp [he, h2]; clear he) | clear he)
      | (with_reducible refine ExC.sym ?_ ?_ <;> intro h <;> try simp [h, h2])
      | (with_reducible refine hQ _ _ ?_)
      | (with_reducible refine hQ _ _ ?_ ?_)
      | simp [h2]
    all_goals first | (simp [List.map_take, List.map_drop, dropF, h3, h4]; done) | (simp [List.map_take, List.map_drop, dropF, h3, h4]; simp (disch := (first | omega | (simp; done) | (simp; omega) | fail)) [List.take_of_length_le]; done) | (simp [List.map_take, List.map_drop, dropF, h3, h4]; simp (disch := (first | omega | (simp; done) | (simp; omega) | fail)) [List.take_of_length_le]; omega) | (simp [List.map_take, List.map_drop, dropF, h3, h4]; try simp (disch := (first | omega | (simp; done) | (simp; omega) | fail)) [List.take_of_length_le])

noncomputable def F38 : List AV → Option AV := sp (eC (eSl 2 eMove) (e1 (eAgg eMove))) (fun p => p.1.2.length ≤ 1099511627776) (fun p => .sl 2 false ((setL p.1.2 p.2).map eMove.enc))
@[simp] theorem F38_app {l : List AV} : F38 l = ((eC (eSl 2 eMove) (e1 (eAgg eMove))).dec l).bind fun a => @ite _ ((fun p => p.1.2.length ≤ 1099511627776) a) (Classical.propDecidable _) (some ((fun p => .sl 2 false ((setL p.1.2 p.2).map eMove.enc)) a)) none := rfl
/-! 38: garner/garnerref21.Set -/
abbrev m38_r1 : List MOp := [
  ⟨some 3, Op.box 35 (Operand.tmp 1), none⟩,
  ⟨some 4, Op.assign (Operand.const (Value.slice none 0 0)), none⟩]
abbrev m38_r2 : List MOp := [
  ⟨some 8, Op.move (Operand.tmp 0), none⟩,
  ⟨some 9, Op.fieldAddr 35 (Operand.tmp 3) 0, none⟩,
  ⟨some 10, Op.load 3 (Operand.tmp 9), none⟩,
  ⟨some 11, Op.call { callee := Callee.value (Operand.func 40), args := #[Operand.tmp 8, Operand.tmp 10], argTypes := #[30, 3] }, none⟩,
  ⟨some 7, Op.move (Operand.tmp 11), none⟩,
  ⟨some 12, Op.extract (Operand.tmp 7) 0, none⟩,
  ⟨some 13, Op.extract (Operand.tmp 7) 1, none⟩,
  ⟨some 0, Op.assign (Operand.tmp 12), none⟩]
abbrev m38_r3 : List MOp := [
  ⟨some 14, Op.move (Operand.tmp 0), none⟩,
  ⟨some 15, Op.call { callee := Callee.builtin Builtin.len, args := #[Operand.tmp 14], argTypes := #[30] }, none⟩,
  ⟨some 5, Op.assign (Operand.tmp 15), none⟩]
abbrev m38_r4 : List MOp := [
  ⟨some 16, Op.move (Operand.tmp 5), none⟩,
  ⟨some 17, Op.binOp BinOp.gtr 3 (Operand.tmp 16) (Operand.const (Value.int IntKind.i64 0)) 3, none⟩,
  ⟨some 18, Op.move (Operand.tmp 17), none⟩,
  ⟨some 19, Op.move (Operand.tmp 0), some (18, true)⟩,
  ⟨some 20, Op.move (Operand.tmp 5), some (18, true)⟩,
  ⟨some 21, Op.binOp BinOp.sub 3 (Operand.tmp 20) (Operand.const (Value.int IntKind.i64 1)) 3, some (18, true)⟩,
  ⟨some 22, Op.indexAddr 30 (Operand.tmp 19) (Operand.tmp 21), some (18, true)⟩,
  ⟨some 23, Op.fieldAddr 35 (Operand.tmp 22) 0, some (18, true)⟩,
  ⟨some 24, Op.load 3 (Operand.tmp 23), some (18, true)⟩,
  ⟨some 25, Op.fieldAddr 35 (Operand.tmp 3) 0, some (18, true)⟩,
  ⟨some 26, Op.load 3 (Operand.tmp 25), some (18, true)⟩,
  ⟨some 27, Op.binOp BinOp.gtr 3 (Operand.tmp 24) (Operand.tmp 26) 3, some (18, true)⟩,
  ⟨some 28, Op.pick (Operand.tmp 18) (Operand.tmp 27) (Operand.const (Value.bool false)), none⟩]
abbrev m38_c5 : MC := .cond (Operand.tmp 28) .skip (.exit 0)
abbrev m38_c6 : MC := .seq (.region m38_r4) m38_c5
abbrev m38_r7 : List MOp := [
  ⟨some 29, Op.move (Operand.tmp 5), none⟩,
  ⟨some 30, Op.binOp BinOp.sub 3 (Operand.tmp 29) (Operand.const (Value.int IntKind.i64 1)) 3, none⟩,
  ⟨some 5, Op.assign (Operand.tmp 30), none⟩]
abbrev m38_c8 : MC := .block 1 (.region m38_r7)
abbrev m38_c9 : MC := .seq m38_c6 m38_c8
abbrev m38_b10 : MC := m38_c9
abbrev m38_c11 : MC := .loop m38_b10
abbrev m38_c12 : MC := .block 0 m38_c11
abbrev m38_r13 : List MOp := [
  ⟨some 31, Op.buildSlice 30 0 #[], none⟩,
  ⟨some 32, Op.move (Operand.tmp 0), none⟩,
  ⟨some 33, Op.move (Operand.tmp 5), none⟩,
  ⟨some 34, Op.slice 30 (Operand.tmp 32) (some (Operand.tmp 33)) none none, none⟩,
  ⟨some 35, Op.call { callee := Callee.builtin Builtin.append, args := #[Operand.tmp 31, Operand.tmp 34], argTypes := #[30, 30] }, none⟩,
  ⟨some 6, Op.assign (Operand.tmp 35), none⟩]
abbrev m38_r14 : List MOp := [
  ⟨some 36, Op.move (Operand.tmp 0), none⟩,
  ⟨some 37, Op.move (Operand.tmp 5), none⟩,
  ⟨some 38, Op.move (Operand.tmp 5), none⟩,
  ⟨some 39, Op.slice 30 (Operand.tmp 36) none (some (Operand.tmp 37)) (some (Operand.tmp 38)), none⟩,
  ⟨some 40, Op.load 35 (Operand.tmp 3), none⟩,
  ⟨some 41, Op.buildSlice 30 1 #[(0, Operand.tmp 40)], none⟩,
  ⟨some 42, Op.call { callee := Callee.builtin Builtin.append, args := #[Operand.tmp 39, Operand.tmp 41], argTypes := #[30, 30] }, none⟩,
  ⟨some 43, Op.move (Operand.tmp 6), none⟩,
  ⟨some 44, Op.call { callee := Callee.builtin Builtin.append, args := #[Operand.tmp 42, Operand.tmp 43], argTypes := #[30, 30] }, none⟩,
  ⟨some 4, Op.assign (Operand.tmp 44), none⟩]
abbrev m38_c15 : MC := .seq (.region m38_r14) .ret
abbrev m38_c16 : MC := .seq (.region m38_r13) m38_c15
abbrev m38_c17 : MC := .seq m38_c12 m38_c16
abbrev m38_c18 : MC := .seq (.region m38_r3) m38_c17
abbrev m38_c19 : MC := .seq (.region m38_r2) m38_c18
abbrev m38_c20 : MC := .seq (.region m38_r1) m38_c19
abbrev m38 : MC := m38_c20
theorem m38_eq : Try.f38.body.map (mcF []) = some m38 := by kernel_rfl
set_option maxHeartbeats 4000000 in
theorem f38_ok : SpOK Try.prog 38 (.pure F38) := by
  refine pureOf (K := kl [(40, .pure F40)]) mixed te_ok (KS.cons f40_ok KS.nil) Try.func38 m38_eq (by kernel_rfl) (nt := 45) rfl (rs := [.tmp 4]) rfl (np := 2) (by decide) (fun a => by first | rfl | simp) (by kernel_rfl) ?_
  rintro ⟨⟨z, l⟩, m⟩ hl Q hQ
  simp only [] at hl
  repeat' first
    | with_reducible refine Ex.seq ?_
    | with_reducible refine Ex.ops ?_
    | with_reducible refine ExO.cons ?_
    | with_reducible refine ExO.nil ?_
    | with_reducible refine ExS.some ?_
    | with_reducible refine Ex.retS ?_
    | with_reducible refine Ex.condV ?_
    | with_reducible refine Ex.skip ?_
    | with_reducible refine Ex.block ?_
    | with_reducible refine Ex.inBlock ?_
    | with_reducible refine Ex.exit rfl ?_
    | with_reducible refine ExC.tt ?_
    | with_reducible refine ExC.ff ?_
    | (with_reducible refine ExC.id ?_; simp (disch := omega) only [wrap_i64])
    | (with_reducible refine ExS.id ?_; simp (disch := omega) only [wrap_i64])
    | (with_reducible refine ExS.req (by omega) ?_)
    | (with_reducible refine ExC.dec ?_ ?_ <;> intro h he <;> first | (exfalso; omega) | (simp [he]; clear he) | clear he)
    | (with_reducible refine ExS.iteB ?_ ?_ <;> intro h <;> try simp [h])
    | (with_reducible refine ExS.ite ?_ ?_ <;> intro h he <;> first | (exfalso; omega) | (simp [he]; clear he) | clear he)
    | (with_reducible refine ExC.ndec ?_ ?_ <;> intro h he <;> first | (exfalso; omega) | (simp [he]; clear he) | clear he)
    | (with_reducible refine ExC.sym ?_ ?_ <;> intro h <;> try simp [h])
    | (with_reducible refine hQ _ _ ?_)
    | (with_reducible refine hQ _ _ ?_ ?_)
    | simp
  have hd : (dropF m.seg (z, l)).2 = rem m.seg l := by
    unfold dropF
    rcases atL_spec m.seg l with ⟨h1, h2, h3⟩ | ⟨k, h1, h2, h3, h4⟩ <;> simp [*]
  have hn := rem_length m.seg l
  generalize dropF m.seg (z, l) = d at *
  obtain ⟨f, w⟩ := d
  simp only [] at hd
  simp only [setL] at hQ
  rw [← hd] at hn hQ
  clear hd
  refine Ex.loopI (fun k : Nat => [(0, .sl 2 f (w.map eMove.enc)), (3, .ptr (some (0, 0))), (5, .int .i64 k)]) (fun _ => [.cells [.int .i64 m.seg, .sl 5 m.full (m.hops.map eHop.enc)]]) (fun k => k) (fun k => k ≤ w.length ∧ bk m.seg w w.length = bk m.seg w k) w.length ⟨by simp, rfl⟩ ⟨by simp, by simp, by simp, by simp⟩ ?_
  rintro k ⟨hk, hr⟩ ih
  cases k with
  | zero =>
    repeat' first
      | with_reducible refine Ex.seq ?_
      | with_reducible refine Ex.ops ?_
      | with_reducible refine ExO.cons ?_
      | with_reducible refine ExO.nil ?_
      | with_reducible refine ExS.some ?_
      | with_reducible refine Ex.retS ?_
      | with_reducible refine Ex.condV ?_
      | with_reducible refine Ex.skip ?_
      | with_reducible refine Ex.block ?_
      | with_reducible refine Ex.inBlock ?_
      | with_reducible refine Ex.exit rfl ?_
      | with_reducible refine ExC.tt ?_
      | with_reducible refine ExC.ff ?_
      | (with_reducible refine ExC.id ?_; simp (disch := omega) only [wrap_i64])
      | (with_reducible refine ExS.id ?_; simp (disch := omega) only [wrap_i64])
      | (with_reducible refine ExS.req (by omega) ?_)
      | (with_reducible refine ExC.dec ?_ ?_ <;> intro h he <;> first | (exfalso; omega) | (simp [he]; clear he) | clear he)
      | (with_reducible refine ExS.iteB ?_ ?_ <;> intro h <;> try simp [h])
      | (with_reducible refine ExS.ite ?_ ?_ <;> intro h he <;> first | (exfalso; omega) | (simp [he]; clear he) | clear he)
      | (with_reducible refine ExC.ndec ?_ ?_ <;> intro h he <;> first | (exfalso; omega) | (simp [he]; clear he) | clear he)
      | (with_reducible refine ExC.sym ?_ ?_ <;> intro h <;> try simp [h])
      | (with_reducible refine hQ _ _ ?_)
      | (with_reducible refine hQ _ _ ?_ ?_)
      | simp
    all_goals first | (simp [List.map_take, List.map_drop, hr, bk]; done) | (simp [List.map_take, List.map_drop, hr, bk]; simp (disch := (first | omega | (simp; done) | (simp; omega) | fail)) [List.take_of_length_le]; done) | (simp [List.map_take, List.map_drop, hr, bk]; simp (disch := (first | omega | (simp; done) | (simp; omega) | fail)) [List.take_of_length_le]; omega) | (simp [List.map_take, List.map_drop, hr, bk]; try simp (disch := (first | omega | (simp; done) | (simp; omega) | fail)) [List.take_of_length_le])
  | succ k =>
    obtain ⟨a, ha⟩ : ∃ a, w[k]? = some a := ⟨w[k]'(by omega), List.getElem?_eq_getElem (by omega)⟩
    simp only [bk, ha] at hr
    repeat' first
      | with_reducible refine Ex.seq ?_
      | with_reducible refine Ex.ops ?_
      | with_reducible refine ExO.cons ?_
      | with_reducible refine ExO.nil ?_
      | with_reducible refine ExS.some ?_
      | with_reducible refine Ex.retS ?_
      | with_reducible refine Ex.condV ?_
      | with_reducible refine Ex.skip ?_
      | with_reducible refine Ex.block ?_
      | with_reducible refine Ex.inBlock ?_
      | with_reducible refine Ex.exit rfl ?_
      | with_reducible refine ExC.tt ?_
      | with_reducible refine ExC.ff ?_
      | (with_reducible refine ExC.id ?_; simp (disch := omega) only [wrap_i64])
      | (with_reducible refine ExS.id ?_; simp (disch := omega) only [wrap_i64])
      | (with_reducible refine ExS.req (by omega) ?_)
      | (with_reducible refine ExC.dec ?_ ?_ <;> intro h he <;> first | (exfalso; omega) | (simp [he, ha]; clear he) | clear he)
      | (with_reducible refine ExS.iteB ?_ ?_ <;> intro h <;> try simp [h, ha])
      | (with_reducible refine ExS.ite ?_ ?_ <;> intro h he <;> first | (exfalso; omega) | (simp [he, ha]; clear he) | clear he)
      | (with_reducible refine ExC.ndec ?_ ?_ <;> intro h he <;> first | (exfalso; omega) | (simp [he, ha]; clear he) | clear he)
      | (with_reducible refine ExC.sym ?_ ?_ <;> intro h <;> try simp [h, ha])
      | (with_reducible refine hQ _ _ ?_)
      | (with_reducible refine hQ _ _ ?_ ?_)
      | simp [ha]
    any_goals refine ih (k) _ (by first | omega | (simp; omega)) ?_ ⟨(by first | rfl | (simp; done) | (simp; simp (disch := omega) [wrap_i64]; done) | (simp; simp (disch := omega) only [wrap_i64]; omega) | (simp; omega)), (by first | rfl | (simp; done) | (simp; simp (disch := omega) [wrap_i64]; done) | (simp; simp (disch := omega) only [wrap_i64]; omega) | (simp; omega)), (by first | rfl | (simp; done) | (simp; simp (disch := omega) [wrap_i64]; done) | (simp; simp (disch := omega) only [wrap_i64]; omega) | (simp; omega)), (by first | rfl | (simp; done) | (simp; simp (disch := omega) [wrap_i64]; done) | (simp; simp (disch := omega) only [wrap_i64]; omega) | (simp; omega))⟩
    · exact ⟨by omega, by simp [hr, *]⟩
    · rw [if_neg ‹_›] at hr
      first | (simp [List.map_take, List.map_drop, hr]; done) | (simp [List.map_take, List.map_drop, hr]; simp (disch := (first | omega | (simp; done) | (simp; omega) | fail)) [List.take_of_length_le]; done) | (simp [List.map_take, List.map_drop, hr]; simp (disch := (first | omega | (simp; done) | (simp; omega) | fail)) [List.take_of_length_le]; omega) | (simp [List.map_take, List.map_drop, hr]; try simp (disch := (first | omega | (simp; done) | (simp; omega) | fail)) [List.take_of_length_le])
end Go.Proofs.Ytmobgcpamblhhaa
