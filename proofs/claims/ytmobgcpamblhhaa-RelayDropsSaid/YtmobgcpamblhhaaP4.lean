import Derived.Test.YtmobgcpamblhhaaP3
set_option maxRecDepth 100000
set_option linter.unusedSimpArgs false
set_option linter.unusedVariables false
namespace Go.Proofs.Ytmobgcpamblhhaa
open Go.Vi

noncomputable def F41 : List AV → Option AV := sp (e1 (eAgg eMove)) (fun m => m.hops.length < 2 ^ 62) (fun m => .bool (mayL m.seg m.hops))
@[simp] theorem F41_app {l : List AV} : F41 l = ((e1 (eAgg eMove)).dec l).bind fun a => @ite _ ((fun m => m.hops.length < 2 ^ 62) a) (Classical.propDecidable _) (some ((fun m => .bool (mayL m.seg m.hops)) a)) none := rfl
/-! 41: garner/garnerref21.May -/
abbrev m41_r1 : List MOp := [
  ⟨some 1, Op.box 35 (Operand.tmp 0), none⟩,
  ⟨some 2, Op.assign (Operand.const (Value.bool false)), none⟩]
abbrev m41_r2 : List MOp := [
  ⟨some 3, Op.assign (Operand.const (Value.int IntKind.i64 0)), none⟩]
abbrev m41_r3 : List MOp := [
  ⟨some 5, Op.move (Operand.tmp 3), none⟩,
  ⟨some 6, Op.fieldAddr 35 (Operand.tmp 1) 1, none⟩,
  ⟨some 7, Op.load 33 (Operand.tmp 6), none⟩,
  ⟨some 8, Op.call { callee := Callee.builtin Builtin.len, args := #[Operand.tmp 7], argTypes := #[33] }, none⟩,
  ⟨some 9, Op.binOp BinOp.lss 3 (Operand.tmp 5) (Operand.tmp 8) 3, none⟩]
abbrev m41_c4 : MC := .cond (Operand.tmp 9) .skip (.exit 0)
abbrev m41_c5 : MC := .seq (.region m41_r3) m41_c4
abbrev m41_r6 : List MOp := [
  ⟨some 12, Op.fieldAddr 35 (Operand.tmp 1) 1, none⟩,
  ⟨some 13, Op.load 33 (Operand.tmp 12), none⟩,
  ⟨some 14, Op.move (Operand.tmp 3), none⟩,
  ⟨some 15, Op.indexAddr 33 (Operand.tmp 13) (Operand.tmp 14), none⟩,
  ⟨some 16, Op.load 37 (Operand.tmp 15), none⟩,
  ⟨some 4, Op.alloc 37, none⟩,
  ⟨none, Op.store 37 (Operand.tmp 4) (Operand.tmp 16), none⟩]
abbrev m41_r7 : List MOp := [
  ⟨some 17, Op.fieldAddr 37 (Operand.tmp 4) 0, none⟩,
  ⟨some 18, Op.load 3 (Operand.tmp 17), none⟩,
  ⟨some 19, Op.binOp BinOp.lss 3 (Operand.tmp 18) (Operand.const (Value.int IntKind.i64 0)) 3, none⟩,
  ⟨some 20, Op.move (Operand.tmp 19), none⟩,
  ⟨some 21, Op.fieldAddr 37 (Operand.tmp 4) 0, some (20, false)⟩,
  ⟨some 22, Op.load 3 (Operand.tmp 21), some (20, false)⟩,
  ⟨some 23, Op.binOp BinOp.gtr 3 (Operand.tmp 22) (Operand.const (Value.int IntKind.i64 2147483647)) 3, some (20, false)⟩,
  ⟨some 24, Op.pick (Operand.tmp 20) (Operand.const (Value.bool true)) (Operand.tmp 23), none⟩,
  ⟨some 25, Op.move (Operand.tmp 24), none⟩,
  ⟨some 26, Op.fieldAddr 37 (Operand.tmp 4) 1, some (25, false)⟩,
  ⟨some 27, Op.load 25 (Operand.tmp 26), some (25, false)⟩,
  ⟨some 28, Op.call { callee := Callee.value (Operand.func 11), args := #[Operand.tmp 27], argTypes := #[25] }, some (25, false)⟩,
  ⟨some 29, Op.unOp UnOp.not 4 (Operand.tmp 28), some (25, false)⟩,
  ⟨some 30, Op.pick (Operand.tmp 25) (Operand.const (Value.bool true)) (Operand.tmp 29), none⟩,
  ⟨some 31, Op.move (Operand.tmp 30), none⟩,
  ⟨some 32, Op.fieldAddr 37 (Operand.tmp 4) 1, some (31, false)⟩,
  ⟨some 33, Op.fieldAddr 25 (Operand.tmp 32) 0, some (31, false)⟩,
  ⟨some 34, Op.load 3 (Operand.tmp 33), some (31, false)⟩,
  ⟨some 35, Op.fieldAddr 35 (Operand.tmp 1) 0, some (31, false)⟩,
  ⟨some 36, Op.load 3 (Operand.tmp 35), some (31, false)⟩,
  ⟨some 37, Op.binOp BinOp.leq 3 (Operand.tmp 34) (Operand.tmp 36) 3, some (31, false)⟩,
  ⟨some 38, Op.pick (Operand.tmp 31) (Operand.const (Value.bool true)) (Operand.tmp 37), none⟩,
  ⟨some 39, Op.move (Operand.tmp 38), none⟩,
  ⟨some 40, Op.move (Operand.tmp 3), some (39, false)⟩,
  ⟨some 41, Op.binOp BinOp.gtr 3 (Operand.tmp 40) (Operand.const (Value.int IntKind.i64 0)) 3, some (39, false)⟩,
  ⟨some 42, Op.move (Operand.tmp 41), some (39, false)⟩,
  ⟨some 43, Op.fieldAddr 37 (Operand.tmp 4) 0, some (42, true)⟩,
  ⟨some 44, Op.load 3 (Operand.tmp 43), some (42, true)⟩,
  ⟨some 45, Op.fieldAddr 35 (Operand.tmp 1) 1, some (42, true)⟩,
  ⟨some 46, Op.load 33 (Operand.tmp 45), some (42, true)⟩,
  ⟨some 47, Op.move (Operand.tmp 3), some (42, true)⟩,
  ⟨some 48, Op.binOp BinOp.sub 3 (Operand.tmp 47) (Operand.const (Value.int IntKind.i64 1)) 3, some (42, true)⟩,
  ⟨some 49, Op.indexAddr 33 (Operand.tmp 46) (Operand.tmp 48), some (42, true)⟩,
  ⟨some 50, Op.fieldAddr 37 (Operand.tmp 49) 0, some (42, true)⟩,
  ⟨some 51, Op.load 3 (Operand.tmp 50), some (42, true)⟩,
  ⟨some 52, Op.binOp BinOp.leq 3 (Operand.tmp 44) (Operand.tmp 51) 3, some (42, true)⟩,
  ⟨some 53, Op.pick (Operand.tmp 42) (Operand.tmp 52) (Operand.const (Value.bool false)), some (39, false)⟩,
  ⟨some 54, Op.pick (Operand.tmp 39) (Operand.const (Value.bool true)) (Operand.tmp 53), none⟩]
abbrev m41_r8 : List MOp := [
  ⟨some 2, Op.assign (Operand.const (Value.bool false)), none⟩]
abbrev m41_c9 : MC := .seq (.region m41_r8) .ret
abbrev m41_c10 : MC := .cond (Operand.tmp 54) m41_c9 .skip
abbrev m41_c11 : MC := .seq (.region m41_r7) m41_c10
abbrev m41_c12 : MC := .seq (.region m41_r6) m41_c11
abbrev m41_c13 : MC := .block 1 m41_c12
abbrev m41_r14 : List MOp := [
  ⟨some 10, Op.move (Operand.tmp 3), none⟩,
  ⟨some 11, Op.binOp BinOp.add 3 (Operand.tmp 10) (Operand.const (Value.int IntKind.i64 1)) 3, none⟩,
  ⟨some 3, Op.assign (Operand.tmp 11), none⟩]
abbrev m41_c15 : MC := .seq m41_c13 (.region m41_r14)
abbrev m41_c16 : MC := .seq m41_c5 m41_c15
abbrev m41_b17 : MC := m41_c16
abbrev m41_c18 : MC := .loop m41_b17
abbrev m41_c19 : MC := .block 0 m41_c18
abbrev m41_c20 : MC := .seq (.region m41_r2) m41_c19
abbrev m41_r21 : List MOp := [
  ⟨some 55, Op.fieldAddr 35 (Operand.tmp 1) 0, none⟩,
  ⟨some 56, Op.load 3 (Operand.tmp 55), none⟩,
  ⟨some 57, Op.binOp BinOp.geq 3 (Operand.tmp 56) (Operand.const (Value.int IntKind.i64 1)) 3, none⟩,
  ⟨some 58, Op.move (Operand.tmp 57), none⟩,
  ⟨some 59, Op.fieldAddr 35 (Operand.tmp 1) 0, some (58, true)⟩,
  ⟨some 60, Op.load 3 (Operand.tmp 59), some (58, true)⟩,
  ⟨some 61, Op.binOp BinOp.leq 3 (Operand.tmp 60) (Operand.const (Value.int IntKind.i64 2147483647)) 3, some (58, true)⟩,
  ⟨some 62, Op.pick (Operand.tmp 58) (Operand.tmp 61) (Operand.const (Value.bool false)), none⟩,
  ⟨some 63, Op.move (Operand.tmp 62), none⟩,
  ⟨some 64, Op.fieldAddr 35 (Operand.tmp 1) 1, some (63, true)⟩,
  ⟨some 65, Op.load 33 (Operand.tmp 64), some (63, true)⟩,
  ⟨some 66, Op.call { callee := Callee.builtin Builtin.len, args := #[Operand.tmp 65], argTypes := #[33] }, some (63, true)⟩,
  ⟨some 67, Op.binOp BinOp.leq 3 (Operand.tmp 66) (Operand.const (Value.int IntKind.i64 16384)) 3, some (63, true)⟩,
  ⟨some 68, Op.pick (Operand.tmp 63) (Operand.tmp 67) (Operand.const (Value.bool false)), none⟩,
  ⟨some 2, Op.assign (Operand.tmp 68), none⟩]
abbrev m41_c22 : MC := .seq (.region m41_r21) .ret
abbrev m41_c23 : MC := .seq m41_c20 m41_c22
abbrev m41_c24 : MC := .seq (.region m41_r1) m41_c23
abbrev m41 : MC := m41_c24
theorem m41_eq : Try.f41.body.map (mcF []) = some m41 := by kernel_rfl
set_option maxHeartbeats 4000000 in
theorem f41_ok : SpOK Try.prog 41 (.pure F41) := by
  refine pureOf (K := kl [(11, .pure F11)]) mixed te_ok (KS.cons f11_ok KS.nil) Try.func41 m41_eq (by kernel_rfl) (nt := 69) rfl (rs := [.tmp 2]) rfl (np := 1) (by decide) (fun a => by first | rfl | simp) (by kernel_rfl) ?_
  rintro ⟨seg, z, l⟩ hl Q hQ
  simp only [] at hl
  repeat' first
    | with_reducible refine Ex.seq ?_
    | with_reducible refine Ex.ops ?_
    | with_reducible refine ExO.cons ?_
    | with_reducible refine ExO.nil ?_
    | with_reducible refine ExS.some ?_
    | with_reducible refine Ex.retS ?_
    | with_reducible refine Ex.condV ?_
    | with_reducible refine Ex.skip ?_
    | with_reducible refine Ex.block ?_
    | with_reducible refine Ex.inBlock ?_
    | with_reducible refine Ex.exit rfl ?_
    | with_reducible refine ExC.tt ?_
    | with_reducible refine ExC.ff ?_
    | (with_reducible refine ExC.id ?_; simp (disch := omega) only [wrap_i64])
    | (with_reducible refine ExS.id ?_; simp (disch := omega) only [wrap_i64])
    | (with_reducible refine ExS.req (by omega) ?_)
    | (with_reducible refine ExC.dec ?_ ?_ <;> intro h he <;> first | (exfalso; omega) | (simp [he]; clear he) | clear he)
    | (with_reducible refine ExS.iteB ?_ ?_ <;> intro h <;> try simp [h])
    | (with_reducible refine ExS.ite ?_ ?_ <;> intro h he <;> first | (exfalso; omega) | (simp [he]; clear he) | clear he)
    | (with_reducible refine ExC.ndec ?_ ?_ <;> intro h he <;> first | (exfalso; omega) | (simp [he]; clear he) | clear he)
    | (with_reducible refine ExC.sym ?_ ?_ <;> intro h <;> try simp [h])
    | (with_reducible refine hQ _ _ ?_)
    | (with_reducible refine hQ _ _ ?_ ?_)
    | simp
  refine Ex.loopI (fun i : Nat × Int => [(1, .ptr (some (0, 0))), (3, .int .i64 i.1)]) (fun _ => [.cells [.int .i64 seg, .sl 5 z (l.map eHop.enc)]]) (fun i => l.length - i.1) (fun i => i.1 ≤ l.length ∧ riseB seg (-1) l = riseB seg i.2 (l.drop i.1) ∧ -1 ≤ i.2 ∧ (i.1 = 0 → i.2 = -1) ∧ (0 < i.1 → ∃ b, l[i.1 - 1]? = some b ∧ b.at' = i.2)) (0, -1) ⟨by simp, by simp, by simp, by simp, by simp⟩ ⟨by simp, by simp, by simp, by simp⟩ ?_
  rintro ⟨i, last⟩ ⟨hi, hr, h1, h2, h3⟩ ih
  simp only [] at hi hr h1 h2 h3
  rcases get_or l i with ⟨a, ha, hlt⟩ | ⟨ha, hge⟩
  · rw [drop_get ha, riseB] at hr
    cases i with
    | zero =>
      have h2 := h2 rfl
      subst h2
      repeat' first
        | with_reducible refine Ex.seq ?_
        | with_reducible refine Ex.ops ?_
        | with_reducible refine ExO.cons ?_
        | with_reducible refine ExO.nil ?_
        | with_reducible refine ExS.some ?_
        | with_reducible refine Ex.retS ?_
        | with_reducible refine Ex.condV ?_
        | with_reducible refine Ex.skip ?_
        | with_reducible refine Ex.block ?_
        | with_reducible refine Ex.inBlock ?_
        | with_reducible refine Ex.exit rfl ?_
        | with_reducible refine ExC.tt ?_
        | with_reducible refine ExC.ff ?_
        | (with_reducible refine ExC.id ?_; simp (disch := omega) only [wrap_i64])
        | (with_reducible refine ExS.id ?_; simp (disch := omega) only [wrap_i64])
        | (with_reducible refine ExS.req (by omega) ?_)
        | (with_reducible refine ExC.dec ?_ ?_ <;> intro h he <;> first | (exfalso; omega) | (simp [he, ha]; clear he) | clear he)
        | (with_reducible refine ExS.iteB ?_ ?_ <;> intro h <;> try simp [h, ha])
        | (with_reducible refine ExS.ite ?_ ?_ <;> intro h he <;> first | (exfalso; omega) | (simp [he, ha]; clear he) | clear he)
        | (with_reducible refine ExC.ndec ?_ ?_ <;> intro h he <;> first | (exfalso; omega) | (simp [he, ha]; clear he) | clear he)
        | (with_reducible refine ExC.sym ?_ ?_ <;> intro h <;> try simp [h, ha])
        | (with_reducible refine hQ _ _ ?_)
        | (with_reducible refine hQ _ _ ?_ ?_)
        | simp [ha]
      any_goals refine ih (1, a.at') _ (by first | omega | (simp; omega)) ?_ ⟨(by first | rfl | (simp; done) | (simp; simp (disch := omega) [wrap_i64]; done) | (simp; simp (disch := omega) only [wrap_i64]; omega) | (simp; omega)), (by first | rfl | (simp; done) | (simp; simp (disch := omega) [wrap_i64]; done) | (simp; simp (disch := omega) only [wrap_i64]; omega) | (simp; omega)), (by first | rfl | (simp; done) | (simp; simp (disch := omega) [wrap_i64]; done) | (simp; simp (disch := omega) only [wrap_i64]; omega) | (simp; omega)), (by first | rfl | (simp; done) | (simp; simp (disch := omega) [wrap_i64]; done) | (simp; simp (disch := omega) only [wrap_i64]; omega) | (simp; omega))⟩
      all_goals first | (simp [mayL, hr]; done) | omega | (simp [mayL, hr]; omega) | (simp [mayL, hr]; intros; omega) | (simp_all [mayL, hr]; done) | (simp_all [mayL, hr]; omega) | (refine ⟨?_, ?_⟩ <;> first | omega | (simp_all [mayL, hr]; done) | (simp [mayL, hr]; omega)) | skip
    | succ i =>
      obtain ⟨b, hb, rfl⟩ := h3 (by omega)
      simp only [Nat.add_sub_cancel] at hb
      repeat' first
        | with_reducible refine Ex.seq ?_
        | with_reducible refine Ex.ops ?_
        | with_reducible refine ExO.cons ?_
        | with_reducible refine ExO.nil ?_
        | with_reducible refine ExS.some ?_
        | with_reducible refine Ex.retS ?_
        | with_reducible refine Ex.condV ?_
        | with_reducible refine Ex.skip ?_
        | with_reducible refine Ex.block ?_
        | with_reducible refine Ex.inBlock ?_
        | with_reducible refine Ex.exit rfl ?_
        | with_reducible refine ExC.tt ?_
        | with_reducible refine ExC.ff ?_
        | (with_reducible refine ExC.id ?_; simp (disch := omega) only [wrap_i64])
        | (with_reducible refine ExS.id ?_; simp (disch := omega) only [wrap_i64])
        | (with_reducible refine ExS.req (by omega) ?_)
        | (with_reducible refine ExC.dec ?_ ?_ <;> intro h he <;> first | (exfalso; omega) | (simp [he, ha, hb]; clear he) | clear he)
        | (with_reducible refine ExS.iteB ?_ ?_ <;> intro h <;> try simp [h, ha, hb])
        | (with_reducible refine ExS.ite ?_ ?_ <;> intro h he <;> first | (exfalso; omega) | (simp [he, ha, hb]; clear he) | clear he)
        | (with_reducible refine ExC.ndec ?_ ?_ <;> intro h he <;> first | (exfalso; omega) | (simp [he, ha, hb]; clear he) | clear he)
        | (with_reducible refine ExC.sym ?_ ?_ <;> intro h <;> try simp [h, ha, hb])
        | (with_reducible refine hQ _ _ ?_)
        | (with_reducible refine hQ _ _ ?_ ?_)
        | simp [ha, hb]
      any_goals refine ih (i + 1 + 1, a.at') _ (by first | omega | (simp; omega)) ?_ ⟨(by first | rfl | (simp; done) | (simp; simp (disch := omega) [wrap_i64]; done) | (simp; simp (disch := omega) only [wrap_i64]; omega) | (simp; omega)), (by first | rfl | (simp; done) | (simp; simp (disch := omega) [wrap_i64]; done) | (simp; simp (disch := omega) only [wrap_i64]; omega) | (simp; omega)), (by first | rfl | (simp; done) | (simp; simp (disch := omega) [wrap_i64]; done) | (simp; simp (disch := omega) only [wrap_i64]; omega) | (simp; omega)), (by first | rfl | (simp; done) | (simp; simp (disch := omega) [wrap_i64]; done) | (simp; simp (disch := omega) only [wrap_i64]; omega) | (simp; omega))⟩
      all_goals first | (simp [mayL, hr]; done) | omega | (simp [mayL, hr]; omega) | (simp [mayL, hr]; intros; omega) | (simp_all [mayL, hr]; done) | (simp_all [mayL, hr]; omega) | (refine ⟨?_, ?_⟩ <;> first | omega | (simp_all [mayL, hr]; done) | (simp [mayL, hr]; omega)) | skip
  · rw [drop_end hge, riseB] at hr
    repeat' first
      | with_reducible refine Ex.seq ?_
      | with_reducible refine Ex.ops ?_
      | with_reducible refine ExO.cons ?_
      | with_reducible refine ExO.nil ?_
      | with_reducible refine ExS.some ?_
      | with_reducible refine Ex.retS ?_
      | with_reducible refine Ex.condV ?_
      | with_reducible refine Ex.skip ?_
      | with_reducible refine Ex.block ?_
      | with_reducible refine Ex.inBlock ?_
      | with_reducible refine Ex.exit rfl ?_
      | with_reducible refine ExC.tt ?_
      | with_reducible refine ExC.ff ?_
      | (with_reducible refine ExC.id ?_; simp (disch := omega) only [wrap_i64])
      | (with_reducible refine ExS.id ?_; simp (disch := omega) only [wrap_i64])
      | (with_reducible refine ExS.req (by omega) ?_)
      | (with_reducible refine ExC.dec ?_ ?_ <;> intro h he <;> first | (exfalso; omega) | (simp [he, ha]; clear he) | clear he)
      | (with_reducible refine ExS.iteB ?_ ?_ <;> intro h <;> try simp [h, ha])
      | (with_reducible refine ExS.ite ?_ ?_ <;> intro h he <;> first | (exfalso; omega) | (simp [he, ha]; clear he) | clear he)
      | (with_reducible refine ExC.ndec ?_ ?_ <;> intro h he <;> first | (exfalso; omega) | (simp [he, ha]; clear he) | clear he)
      | (with_reducible refine ExC.sym ?_ ?_ <;> intro h <;> try simp [h, ha])
      | (with_reducible refine hQ _ _ ?_)
      | (with_reducible refine hQ _ _ ?_ ?_)
      | simp [ha]
    all_goals first | (simp [mayL, hr]; done) | omega | (simp [mayL, hr]; omega) | (simp [mayL, hr]; intros; omega) | (simp_all [mayL, hr]; done) | (simp_all [mayL, hr]; omega) | (refine ⟨?_, ?_⟩ <;> first | omega | (simp_all [mayL, hr]; done) | (simp [mayL, hr]; omega)) | skip

noncomputable def F37 : List AV → List LObj → Option (AV × List LObj) := spE (eRel (eC (eInt .i64) (e1 (eSl 5 eHop)))) (fun p => True) (fun p => (.int .i64 (if mayL p.2.1 p.2.2.2 then 0 else 1), encRel (if mayL p.2.1 p.2.2.2 then ins p.2.1 (p.2.2.2.map hp) p.1 else p.1)))
@[simp] theorem F37_app {l : List AV} {σ : List LObj} : F37 l σ = ((eRel (eC (eInt .i64) (e1 (eSl 5 eHop)))).dec l σ).bind fun a => @ite _ ((fun p => True) a) (Classical.propDecidable _) (some ((fun p => (.int .i64 (if mayL p.2.1 p.2.2.2 then 0 else 1), encRel (if mayL p.2.1 p.2.2.2 then ins p.2.1 (p.2.2.2.map hp) p.1 else p.1))) a)) none := rfl
/-! 37: (*garner/relay.Relay).Set -/
abbrev m37_r1 : List MOp := [
  ⟨some 6, Op.assign (Operand.const (Value.int IntKind.i64 0)), none⟩]
abbrev m37_r2 : List MOp := [
  ⟨some 10, Op.move (Operand.tmp 0), none⟩,
  ⟨some 11, Op.call { callee := Callee.value (Operand.func 42), args := #[Operand.tmp 10], argTypes := #[29] }, none⟩,
  ⟨some 12, Op.unOp UnOp.not 4 (Operand.tmp 11), none⟩,
  ⟨some 13, Op.move (Operand.tmp 12), none⟩,
  ⟨some 14, Op.move (Operand.tmp 1), some (13, false)⟩,
  ⟨some 15, Op.move (Operand.tmp 2), some (13, false)⟩,
  ⟨some 16, Op.call { callee := Callee.value (Operand.func 64), args := #[Operand.tmp 14, Operand.tmp 15], argTypes := #[3, 33] }, some (13, false)⟩,
  ⟨some 17, Op.unOp UnOp.not 4 (Operand.tmp 16), some (13, false)⟩,
  ⟨some 18, Op.pick (Operand.tmp 13) (Operand.const (Value.bool true)) (Operand.tmp 17), none⟩]
abbrev m37_r3 : List MOp := [
  ⟨some 6, Op.assign (Operand.const (Value.int IntKind.i64 1)), none⟩]
abbrev m37_c4 : MC := .seq (.region m37_r3) .ret
abbrev m37_c5 : MC := .cond (Operand.tmp 18) m37_c4 .skip
abbrev m37_c6 : MC := .seq (.region m37_r2) m37_c5
abbrev m37_r7 : List MOp := [
  ⟨some 19, Op.makeMap 86 none, none⟩,
  ⟨some 7, Op.assign (Operand.tmp 19), none⟩]
abbrev m37_r8 : List MOp := [
  ⟨some 20, Op.move (Operand.tmp 2), none⟩,
  ⟨some 21, Op.call { callee := Callee.builtin Builtin.len, args := #[Operand.tmp 20], argTypes := #[33] }, none⟩,
  ⟨some 22, Op.move (Operand.const (Value.int IntKind.i64 0)), none⟩]
abbrev m37_r9 : List MOp := [
  ⟨some 23, Op.binOp BinOp.lss 3 (Operand.tmp 22) (Operand.tmp 21) 3, none⟩]
abbrev m37_c10 : MC := .cond (Operand.tmp 23) .skip (.exit 0)
abbrev m37_r11 : List MOp := [
  ⟨some 24, Op.indexAddr 33 (Operand.tmp 20) (Operand.tmp 22), none⟩,
  ⟨some 25, Op.load 37 (Operand.tmp 24), none⟩,
  ⟨some 9, Op.alloc 37, none⟩,
  ⟨none, Op.store 37 (Operand.tmp 9) (Operand.tmp 25), none⟩]
abbrev m37_r12 : List MOp := [
  ⟨some 26, Op.move (Operand.tmp 7), none⟩,
  ⟨some 27, Op.fieldAddr 37 (Operand.tmp 9) 0, none⟩,
  ⟨some 28, Op.load 3 (Operand.tmp 27), none⟩,
  ⟨some 29, Op.fieldAddr 37 (Operand.tmp 9) 1, none⟩,
  ⟨some 30, Op.load 25 (Operand.tmp 29), none⟩,
  ⟨none, Op.mapUpdate 86 (Operand.tmp 26) (Operand.tmp 28) (Operand.tmp 30), none⟩]
abbrev m37_c13 : MC := .seq (.region m37_r11) (.region m37_r12)
abbrev m37_c14 : MC := .block 1 m37_c13
abbrev m37_r15 : List MOp := [
  ⟨some 31, Op.binOp BinOp.add 3 (Operand.tmp 22) (Operand.const (Value.int IntKind.i64 1)) 3, none⟩,
  ⟨some 22, Op.move (Operand.tmp 31), none⟩]
abbrev m37_c16 : MC := .seq m37_c14 (.region m37_r15)
abbrev m37_c17 : MC := .seq m37_c10 m37_c16
abbrev m37_c18 : MC := .seq (.region m37_r9) m37_c17
abbrev m37_b19 : MC := m37_c18
abbrev m37_c20 : MC := .loop m37_b19
abbrev m37_c21 : MC := .block 0 m37_c20
abbrev m37_c22 : MC := .seq (.region m37_r8) m37_c21
abbrev m37_r23 : List MOp := [
  ⟨some 32, Op.move (Operand.tmp 0), none⟩,
  ⟨some 33, Op.nilCheck (Operand.tmp 32), none⟩,
  ⟨some 34, Op.fieldAddr 89 (Operand.tmp 33) 0, none⟩,
  ⟨some 35, Op.load 87 (Operand.tmp 34), none⟩,
  ⟨some 36, Op.move (Operand.tmp 1), none⟩,
  ⟨some 37, Op.move (Operand.tmp 7), none⟩,
  ⟨none, Op.mapUpdate 87 (Operand.tmp 35) (Operand.tmp 36) (Operand.tmp 37), none⟩]
abbrev m37_r24 : List MOp := [
  ⟨some 6, Op.assign (Operand.const (Value.int IntKind.i64 0)), none⟩]
abbrev m37_c25 : MC := .seq (.region m37_r24) .ret
abbrev m37_c26 : MC := .seq (.region m37_r23) m37_c25
abbrev m37_c27 : MC := .seq m37_c22 m37_c26
abbrev m37_c28 : MC := .seq (.region m37_r7) m37_c27
abbrev m37_c29 : MC := .seq m37_c6 m37_c28
abbrev m37_c30 : MC := .seq (.region m37_r1) m37_c29
abbrev m37 : MC := m37_c30
theorem m37_eq : Try.f37.body.map (mcF []) = some m37 := by kernel_rfl
set_option maxHeartbeats 4000000 in
theorem f37_ok : SpOK Try.prog 37 (.eff F37) := by
  refine effOf (K := kl [(42, .eff F42), (64, .pure F64)]) mixed te_ok (KS.cons f42_ok (KS.cons f64_ok KS.nil)) Try.func37 m37_eq (by kernel_rfl) (nt := 38) rfl (rs := [.tmp 6]) rfl (np := 3) (by decide) (fun a => by first | rfl | simp) (by kernel_rfl) ?_ ?_
  · rintro ⟨es, seg, z, l⟩ _
    simp
  · rintro ⟨es, seg, z, l⟩ _ Q hQ
    cases hm : mayL seg l with
    | false =>
      repeat' first
        | with_reducible refine Ex.seq ?_
        | with_reducible refine Ex.ops ?_
        | with_reducible refine ExO.cons ?_
        | with_reducible refine ExO.nil ?_
        | with_reducible refine ExS.some ?_
        | with_reducible refine Ex.retS ?_
        | with_reducible refine Ex.condV ?_
        | with_reducible refine Ex.skip ?_
        | with_reducible refine Ex.block ?_
        | with_reducible refine Ex.inBlock ?_
        | with_reducible refine Ex.exit rfl ?_
        | with_reducible refine ExC.tt ?_
        | with_reducible refine ExC.ff ?_
        | (with_reducible refine ExC.id ?_; simp (disch := omega) only [wrap_i64])
        | (with_reducible refine ExS.id ?_; simp (disch := omega) only [wrap_i64])
        | (with_reducible refine ExS.req (by omega) ?_)
        | (with_reducible refine ExC.dec ?_ ?_ <;> intro h he <;> first | (exfalso; omega) | (simp [he, hm]; clear he) | clear he)
        | (with_reducible refine ExS.iteB ?_ ?_ <;> intro h <;> try simp [h, hm])
        | (with_reducible refine ExS.ite ?_ ?_ <;> intro h he <;> first | (exfalso; omega) | (simp [he, hm]; clear he) | clear he)
        | (with_reducible refine ExC.ndec ?_ ?_ <;> intro h he <;> first | (exfalso; omega) | (simp [he, hm]; clear he) | clear he)
        | (with_reducible refine ExC.sym ?_ ?_ <;> intro h <;> try simp [h, hm])
        | (with_reducible refine hQ _ _ ?_)
        | (with_reducible refine hQ _ _ ?_ ?_)
        | simp [hm]
      all_goals first | (simp [hm]; done) | omega | (simp [hm]; omega) | (simp [hm]; intros; omega) | (simp_all [hm]; done) | (simp_all [hm]; omega) | (refine ⟨?_, ?_⟩ <;> first | omega | (simp_all [hm]; done) | (simp [hm]; omega)) | skip
    | true =>
      simp only [hm, if_true] at hQ
      obtain ⟨hrise, hlen⟩ := mayL_rise hm
      repeat' first
        | with_reducible refine Ex.seq ?_
        | with_reducible refine Ex.ops ?_
        | with_reducible refine ExO.cons ?_
        | with_reducible refine ExO.nil ?_
        | with_reducible refine ExS.some ?_
        | with_reducible refine Ex.retS ?_
        | with_reducible refine Ex.condV ?_
        | with_reducible refine Ex.skip ?_
        | with_reducible refine Ex.block ?_
        | with_reducible refine Ex.inBlock ?_
        | with_reducible refine Ex.exit rfl ?_
        | with_reducible refine ExC.tt ?_
        | with_reducible refine ExC.ff ?_
        | (with_reducible refine ExC.id ?_; simp (disch := omega) only [wrap_i64])
        | (with_reducible refine ExS.id ?_; simp (disch := omega) only [wrap_i64])
        | (with_reducible refine ExS.req (by omega) ?_)
        | (with_reducible refine ExC.dec ?_ ?_ <;> intro h he <;> first | (exfalso; omega) | (simp [he, hm]; clear he) | clear he)
        | (with_reducible refine ExS.iteB ?_ ?_ <;> intro h <;> try simp [h, hm])
        | (with_reducible refine ExS.ite ?_ ?_ <;> intro h he <;> first | (exfalso; omega) | (simp [he, hm]; clear he) | clear he)
        | (with_reducible refine ExC.ndec ?_ ?_ <;> intro h he <;> first | (exfalso; omega) | (simp [he, hm]; clear he) | clear he)
        | (with_reducible refine ExC.sym ?_ ?_ <;> intro h <;> try simp [h, hm])
        | (with_reducible refine hQ _ _ ?_)
        | (with_reducible refine hQ _ _ ?_ ?_)
        | simp [hm]
      refine Ex.loopI (fun i : Nat => [(0, .ptr (some (0, 0))), (1, .int .i64 seg), (7, .mp (some 2)), (20, .sl 5 z (l.map eHop.enc)), (21, .int .i64 l.length), (22, .int .i64 i)]) (fun i => [.cells [.mp (some 1)], .map (encM (eInt .i64) eHops es), .map (encM (eInt .i64) (eAgg ePt) ((l.map hp).take i))]) (fun i => l.length - i) (fun i => i ≤ l.length) 0 (by simp) ⟨by simp, by simp, by simp, by simp⟩ ?_
      rintro i hi ih
      rcases get_or l i with ⟨a, ha, hlt⟩ | ⟨ha, hge⟩
      · have hf := fk_none (i := 0) (rise_new hrise ha)
        rw [List.map_take] at hf
        have ht : (l.map hp).take (i + 1) = (l.map hp).take i ++ [hp a] := take_get (by simp [ha])
        repeat' first
          | with_reducible refine Ex.seq ?_
          | with_reducible refine Ex.ops ?_
          | with_reducible refine ExO.cons ?_
          | with_reducible refine ExO.nil ?_
          | with_reducible refine ExS.some ?_
          | with_reducible refine Ex.retS ?_
          | with_reducible refine Ex.condV ?_
          | with_reducible refine Ex.skip ?_
          | with_reducible refine Ex.block ?_
          | with_reducible refine Ex.inBlock ?_
          | with_reducible refine Ex.exit rfl ?_
          | with_reducible refine ExC.tt ?_
          | with_reducible refine ExC.ff ?_
          | (with_reducible refine ExC.id ?_; simp (disch := omega) only [wrap_i64])
          | (with_reducible refine ExS.id ?_; simp (disch := omega) only [wrap_i64])
          | (with_reducible refine ExS.req (by omega) ?_)
          | (with_reducible refine ExC.dec ?_ ?_ <;> intro h he <;> first | (exfalso; omega) | (simp [he, ha, findK_int te_3, hf]; clear he) | clear he)
          | (with_reducible refine ExS.iteB ?_ ?_ <;> intro h <;> try simp [h, ha, findK_int te_3, hf])
          | (with_reducible refine ExS.ite ?_ ?_ <;> intro h he <;> first | (exfalso; omega) | (simp [he, ha, findK_int te_3, hf]; clear he) | clear he)
          | (with_reducible refine ExC.ndec ?_ ?_ <;> intro h he <;> first | (exfalso; omega) | (simp [he, ha, findK_int te_3, hf]; clear he) | clear he)
          | (with_reducible refine ExC.sym ?_ ?_ <;> intro h <;> try simp [h, ha, findK_int te_3, hf])
          | (with_reducible refine hQ _ _ ?_)
          | (with_reducible refine hQ _ _ ?_ ?_)
          | simp [ha, findK_int te_3, hf]
        any_goals refine ih (i + 1) _ (by first | omega | (simp; omega)) ?_ ⟨(by first | rfl | (simp [ht]; done) | (simp [ht]; simp (disch := omega) [wrap_i64]; done) | (simp [ht]; simp (disch := omega) only [wrap_i64]; omega) | (simp [ht]; omega)), (by first | rfl | (simp [ht]; done) | (simp [ht]; simp (disch := omega) [wrap_i64]; done) | (simp [ht]; simp (disch := omega) only [wrap_i64]; omega) | (simp [ht]; omega)), (by first | rfl | (simp [ht]; done) | (simp [ht]; simp (disch := omega) [wrap_i64]; done) | (simp [ht]; simp (disch := omega) only [wrap_i64]; omega) | (simp [ht]; omega)), (by first | rfl | (simp [ht]; done) | (simp [ht]; simp (disch := omega) [wrap_i64]; done) | (simp [ht]; simp (disch := omega) only [wrap_i64]; omega) | (simp [ht]; omega))⟩
        all_goals first | (simp ; done) | omega | (simp ; omega) | (simp ; intros; omega) | (simp_all ; done) | (simp_all ; omega) | (refine ⟨?_, ?_⟩ <;> first | omega | (simp_all ; done) | (simp ; omega)) | skip
      · have e : (l.map hp).take i = l.map hp := List.take_of_length_le (by simpa using hge)
        have hd := ins_fk (k := seg) (v := l.map hp) (es := es)
        rw [e]
        cases hf : fk seg es 0 with
        | none =>
          rw [hf] at hd
          simp only [] at hd
          repeat' first
            | with_reducible refine Ex.seq ?_
            | with_reducible refine Ex.ops ?_
            | with_reducible refine ExO.cons ?_
            | with_reducible refine ExO.nil ?_
            | with_reducible refine ExS.some ?_
            | with_reducible refine Ex.retS ?_
            | with_reducible refine Ex.condV ?_
            | with_reducible refine Ex.skip ?_
            | with_reducible refine Ex.block ?_
            | with_reducible refine Ex.inBlock ?_
            | with_reducible refine Ex.exit rfl ?_
            | with_reducible refine ExC.tt ?_
            | with_reducible refine ExC.ff ?_
            | (with_reducible refine ExC.id ?_; simp (disch := omega) only [wrap_i64])
            | (with_reducible refine ExS.id ?_; simp (disch := omega) only [wrap_i64])
            | (with_reducible refine ExS.req (by omega) ?_)
            | (with_reducible refine ExC.dec ?_ ?_ <;> intro h he <;> first | (exfalso; omega) | (simp [he, ha, findK_int te_3, hf]; clear he) | clear he)
            | (with_reducible refine ExS.iteB ?_ ?_ <;> intro h <;> try simp [h, ha, findK_int te_3, hf])
            | (with_reducible refine ExS.ite ?_ ?_ <;> intro h he <;> first | (exfalso; omega) | (simp [he, ha, findK_int te_3, hf]; clear he) | clear he)
            | (with_reducible refine ExC.ndec ?_ ?_ <;> intro h he <;> first | (exfalso; omega) | (simp [he, ha, findK_int te_3, hf]; clear he) | clear he)
            | (with_reducible refine ExC.sym ?_ ?_ <;> intro h <;> try simp [h, ha, findK_int te_3, hf])
            | (with_reducible refine hQ _ _ ?_)
            | (with_reducible refine hQ _ _ ?_ ?_)
            | simp [ha, findK_int te_3, hf]
          all_goals first | (simp [hd]; done) | omega | (simp [hd]; omega) | (simp [hd]; intros; omega) | (simp_all [hd]; done) | (simp_all [hd]; omega) | (refine ⟨?_, ?_⟩ <;> first | omega | (simp_all [hd]; done) | (simp [hd]; omega)) | skip
        | some r =>
          rw [hf] at hd
          simp only [] at hd
          repeat' first
            | with_reducible refine Ex.seq ?_
            | with_reducible refine Ex.ops ?_
            | with_reducible refine ExO.cons ?_
            | with_reducible refine ExO.nil ?_
            | with_reducible refine ExS.some ?_
            | with_reducible refine Ex.retS ?_
            | with_reducible refine Ex.condV ?_
            | with_reducible refine Ex.skip ?_
            | with_reducible refine Ex.block ?_
            | with_reducible refine Ex.inBlock ?_
            | with_reducible refine Ex.exit rfl ?_
            | with_reducible refine ExC.tt ?_
            | with_reducible refine ExC.ff ?_
            | (with_reducible refine ExC.id ?_; simp (disch := omega) only [wrap_i64])
            | (with_reducible refine ExS.id ?_; simp (disch := omega) only [wrap_i64])
            | (with_reducible refine ExS.req (by omega) ?_)
            | (with_reducible refine ExC.dec ?_ ?_ <;> intro h he <;> first | (exfalso; omega) | (simp [he, ha, findK_int te_3, hf]; clear he) | clear he)
            | (with_reducible refine ExS.iteB ?_ ?_ <;> intro h <;> try simp [h, ha, findK_int te_3, hf])
            | (with_reducible refine ExS.ite ?_ ?_ <;> intro h he <;> first | (exfalso; omega) | (simp [he, ha, findK_int te_3, hf]; clear he) | clear he)
            | (with_reducible refine ExC.ndec ?_ ?_ <;> intro h he <;> first | (exfalso; omega) | (simp [he, ha, findK_int te_3, hf]; clear he) | clear he)
            | (with_reducible refine ExC.sym ?_ ?_ <;> intro h <;> try simp [h, ha, findK_int te_3, hf])
            | (with_reducible refine hQ _ _ ?_)
            | (with_reducible refine hQ _ _ ?_ ?_)
            | simp [ha, findK_int te_3, hf]
          all_goals first | (simp [hd, encM_set]; done) | omega | (simp [hd, encM_set]; omega) | (simp [hd, encM_set]; intros; omega) | (simp_all [hd, encM_set]; done) | (simp_all [hd, encM_set]; omega) | (refine ⟨?_, ?_⟩ <;> first | omega | (simp_all [hd, encM_set]; done) | (simp [hd, encM_set]; omega)) | skip

noncomputable def F14 : List AV → List LObj → Option (AV × List LObj) := spE (eRel (e1 (eAgg ePt))) (fun p => p.1.good) (fun p => (let q := if p.2.may then rfind p.1 (2147483648 - p.2.seg).toNat p.2 0 else (.zero, 0, 1); .tup [.agg (ePt.enc q.1), .int .i64 q.2.1, .int .i64 q.2.2], encRel p.1))
@[simp] theorem F14_app {l : List AV} {σ : List LObj} : F14 l σ = ((eRel (e1 (eAgg ePt))).dec l σ).bind fun a => @ite _ ((fun p => p.1.good) a) (Classical.propDecidable _) (some ((fun p => (let q := if p.2.may then rfind p.1 (2147483648 - p.2.seg).toNat p.2 0 else (.zero, 0, 1); .tup [.agg (ePt.enc q.1), .int .i64 q.2.1, .int .i64 q.2.2], encRel p.1)) a)) none := rfl
/-! 14: (*garner/relay.Relay).Find -/
abbrev m14_r1 : List MOp := [
  ⟨some 3, Op.box 25 (Operand.tmp 1), none⟩,
  ⟨some 4, Op.alloc 25, none⟩,
  ⟨some 5, Op.assign (Operand.const (Value.int IntKind.i64 0)), none⟩,
  ⟨some 6, Op.assign (Operand.const (Value.int IntKind.i64 0)), none⟩]
abbrev m14_r2 : List MOp := [
  ⟨some 11, Op.move (Operand.tmp 0), none⟩,
  ⟨some 12, Op.call { callee := Callee.value (Operand.func 42), args := #[Operand.tmp 11], argTypes := #[29] }, none⟩,
  ⟨some 13, Op.unOp UnOp.not 4 (Operand.tmp 12), none⟩,
  ⟨some 14, Op.move (Operand.tmp 13), none⟩,
  ⟨some 15, Op.load 25 (Operand.tmp 3), some (14, false)⟩,
  ⟨some 16, Op.call { callee := Callee.value (Operand.func 43), args := #[Operand.tmp 15], argTypes := #[25] }, some (14, false)⟩,
  ⟨some 17, Op.binOp BinOp.neq 38 (Operand.tmp 16) (Operand.const (Value.int IntKind.i64 0)) 38, some (14, false)⟩,
  ⟨some 18, Op.pick (Operand.tmp 14) (Operand.const (Value.bool true)) (Operand.tmp 17), none⟩]
abbrev m14_r3 : List MOp := [
  ⟨some 19, Op.build 25 #[], none⟩,
  ⟨none, Op.store 25 (Operand.tmp 4) (Operand.tmp 19), none⟩,
  ⟨some 5, Op.assign (Operand.const (Value.int IntKind.i64 0)), none⟩,
  ⟨some 6, Op.assign (Operand.const (Value.int IntKind.i64 1)), none⟩]
abbrev m14_c4 : MC := .seq (.region m14_r3) .ret
abbrev m14_c5 : MC := .cond (Operand.tmp 18) m14_c4 .skip
abbrev m14_c6 : MC := .seq (.region m14_r2) m14_c5
abbrev m14_r7 : List MOp := [
  ⟨some 7, Op.assign (Operand.const (Value.int IntKind.i64 0)), none⟩]
abbrev m14_r8 : List MOp := [
  ⟨some 22, Op.move (Operand.tmp 0), none⟩,
  ⟨some 23, Op.nilCheck (Operand.tmp 22), none⟩,
  ⟨some 24, Op.fieldAddr 89 (Operand.tmp 23) 0, none⟩,
  ⟨some 25, Op.load 87 (Operand.tmp 24), none⟩,
  ⟨some 26, Op.fieldAddr 25 (Operand.tmp 3) 0, none⟩,
  ⟨some 27, Op.load 3 (Operand.tmp 26), none⟩,
  ⟨some 28, Op.lookup 87 (Operand.tmp 25) (Operand.tmp 27) false, none⟩,
  ⟨some 8, Op.assign (Operand.tmp 28), none⟩]
abbrev m14_r9 : List MOp := [
  ⟨some 29, Op.move (Operand.tmp 8), none⟩,
  ⟨some 30, Op.binOp BinOp.eql 86 (Operand.tmp 29) (Operand.const (Value.map none)) 86, none⟩]
abbrev m14_r10 : List MOp := [
  ⟨some 31, Op.load 25 (Operand.tmp 3), none⟩,
  ⟨some 32, Op.move (Operand.tmp 7), none⟩,
  ⟨none, Op.store 25 (Operand.tmp 4) (Operand.tmp 31), none⟩,
  ⟨some 5, Op.assign (Operand.tmp 32), none⟩,
  ⟨some 6, Op.assign (Operand.const (Value.int IntKind.i64 0)), none⟩]
abbrev m14_c11 : MC := .seq (.region m14_r10) .ret
abbrev m14_c12 : MC := .cond (Operand.tmp 30) m14_c11 .skip
abbrev m14_c13 : MC := .seq (.region m14_r9) m14_c12
abbrev m14_r14 : List MOp := [
  ⟨some 34, Op.move (Operand.tmp 8), none⟩,
  ⟨some 35, Op.fieldAddr 25 (Operand.tmp 3) 1, none⟩,
  ⟨some 36, Op.load 3 (Operand.tmp 35), none⟩,
  ⟨some 37, Op.lookup 86 (Operand.tmp 34) (Operand.tmp 36) true, none⟩,
  ⟨some 33, Op.move (Operand.tmp 37), none⟩,
  ⟨some 38, Op.extract (Operand.tmp 33) 0, none⟩,
  ⟨some 39, Op.extract (Operand.tmp 33) 1, none⟩,
  ⟨some 9, Op.alloc 25, none⟩,
  ⟨none, Op.store 25 (Operand.tmp 9) (Operand.tmp 38), none⟩,
  ⟨some 10, Op.assign (Operand.tmp 39), none⟩]
abbrev m14_r15 : List MOp := [
  ⟨some 40, Op.move (Operand.tmp 10), none⟩,
  ⟨some 41, Op.unOp UnOp.not 4 (Operand.tmp 40), none⟩,
  ⟨some 42, Op.move (Operand.tmp 41), none⟩,
  ⟨some 43, Op.fieldAddr 25 (Operand.tmp 9) 2, some (42, false)⟩,
  ⟨some 44, Op.load 3 (Operand.tmp 43), some (42, false)⟩,
  ⟨some 45, Op.fieldAddr 25 (Operand.tmp 3) 2, some (42, false)⟩,
  ⟨some 46, Op.load 3 (Operand.tmp 45), some (42, false)⟩,
  ⟨some 47, Op.binOp BinOp.neq 3 (Operand.tmp 44) (Operand.tmp 46) 3, some (42, false)⟩,
  ⟨some 48, Op.pick (Operand.tmp 42) (Operand.const (Value.bool true)) (Operand.tmp 47), none⟩,
  ⟨some 49, Op.move (Operand.tmp 48), none⟩,
  ⟨some 50, Op.fieldAddr 25 (Operand.tmp 9) 3, some (49, false)⟩,
  ⟨some 51, Op.load 23 (Operand.tmp 50), some (49, false)⟩,
  ⟨some 52, Op.fieldAddr 25 (Operand.tmp 3) 3, some (49, false)⟩,
  ⟨some 53, Op.load 23 (Operand.tmp 52), some (49, false)⟩,
  ⟨some 54, Op.binOp BinOp.neq 23 (Operand.tmp 51) (Operand.tmp 53) 23, some (49, false)⟩,
  ⟨some 55, Op.pick (Operand.tmp 49) (Operand.const (Value.bool true)) (Operand.tmp 54), none⟩]
abbrev m14_r16 : List MOp := [
  ⟨some 56, Op.build 25 #[], none⟩,
  ⟨none, Op.store 25 (Operand.tmp 4) (Operand.tmp 56), none⟩,
  ⟨some 5, Op.assign (Operand.const (Value.int IntKind.i64 0)), none⟩,
  ⟨some 6, Op.assign (Operand.const (Value.int IntKind.i64 3)), none⟩]
abbrev m14_c17 : MC := .seq (.region m14_r16) .ret
abbrev m14_c18 : MC := .cond (Operand.tmp 55) m14_c17 .skip
abbrev m14_c19 : MC := .seq (.region m14_r15) m14_c18
abbrev m14_r20 : List MOp := [
  ⟨some 57, Op.load 25 (Operand.tmp 9), none⟩,
  ⟨none, Op.store 25 (Operand.tmp 3) (Operand.tmp 57), none⟩]
abbrev m14_c21 : MC := .seq m14_c19 (.region m14_r20)
abbrev m14_c22 : MC := .seq (.region m14_r14) m14_c21
abbrev m14_c23 : MC := .seq m14_c13 m14_c22
abbrev m14_c24 : MC := .seq (.region m14_r8) m14_c23
abbrev m14_c25 : MC := .block 1 m14_c24
abbrev m14_r26 : List MOp := [
  ⟨some 20, Op.move (Operand.tmp 7), none⟩,
  ⟨some 21, Op.binOp BinOp.add 3 (Operand.tmp 20) (Operand.const (Value.int IntKind.i64 1)) 3, none⟩,
  ⟨some 7, Op.assign (Operand.tmp 21), none⟩]
abbrev m14_c27 : MC := .seq m14_c25 (.region m14_r26)
abbrev m14_b28 : MC := m14_c27
abbrev m14_c29 : MC := .loop m14_b28
abbrev m14_c30 : MC := .block 0 m14_c29
abbrev m14_c31 : MC := .seq (.region m14_r7) m14_c30
abbrev m14_c32 : MC := .seq m14_c6 m14_c31
abbrev m14_c33 : MC := .seq (.region m14_r1) m14_c32
abbrev m14 : MC := m14_c33
theorem m14_eq : Try.f14.body.map (mcF []) = some m14 := by kernel_rfl
set_option maxHeartbeats 4000000 in
theorem f14_ok : SpOK Try.prog 14 (.eff F14) := by
  refine effOf (K := kl [(42, .eff F42), (43, .pure F43)]) mixed te_ok (KS.cons f42_ok (KS.cons f43_ok KS.nil)) Try.func14 m14_eq (by kernel_rfl) (nt := 58) rfl (rs := [.cell 4 25, .tmp 5, .tmp 6]) rfl (np := 2) (by decide) (fun a => by first | rfl | simp) (by kernel_rfl) ?_ ?_
  · rintro ⟨es, p⟩ _
    simp
  · rintro ⟨es, p0⟩ hg Q hQ
    cases hm : p0.may with
    | false =>
      repeat' first
        | with_reducible refine Ex.seq ?_
        | with_reducible refine Ex.ops ?_
        | with_reducible refine ExO.cons ?_
        | with_reducible refine ExO.nil ?_
        | with_reducible refine ExS.some ?_
        | with_reducible refine Ex.retS ?_
        | with_reducible refine Ex.condV ?_
        | with_reducible refine Ex.skip ?_
        | with_reducible refine Ex.block ?_
        | with_reducible refine Ex.inBlock ?_
        | with_reducible refine Ex.exit rfl ?_
        | with_reducible refine ExC.tt ?_
        | with_reducible refine ExC.ff ?_
        | (with_reducible refine ExC.id ?_; simp (disch := omega) only [wrap_i64])
        | (with_reducible refine ExS.id ?_; simp (disch := omega) only [wrap_i64])
        | (with_reducible refine ExS.req (by omega) ?_)
        | (with_reducible refine ExC.dec ?_ ?_ <;> intro h he <;> first | (exfalso; omega) | (simp [he, hm]; clear he) | clear he)
        | (with_reducible refine ExS.iteB ?_ ?_ <;> intro h <;> try simp [h, hm])
        | (with_reducible refine ExS.ite ?_ ?_ <;> intro h he <;> first | (exfalso; omega) | (simp [he, hm]; clear he) | clear he)
        | (with_reducible refine ExC.ndec ?_ ?_ <;> intro h he <;> first | (exfalso; omega) | (simp [he, hm]; clear he) | clear he)
        | (with_reducible refine ExC.sym ?_ ?_ <;> intro h <;> try simp [h, hm])
        | (with_reducible refine hQ _ _ ?_)
        | (with_reducible refine hQ _ _ ?_ ?_)
        | simp [hm]
      all_goals first | (simp [hm, Pt.zero]; done) | omega | (simp [hm, Pt.zero]; omega) | (simp [hm, Pt.zero]; intros; omega) | (simp_all [hm, Pt.zero]; done) | (simp_all [hm, Pt.zero]; omega) | (refine ⟨?_, ?_⟩ <;> first | omega | (simp_all [hm, Pt.zero]; done) | (simp [hm, Pt.zero]; omega)) | skip
    | true =>
      simp only [hm, if_true] at hQ
      generalize hG : rfind es (2147483648 - p0.seg).toNat p0 0 = G at hQ
      repeat' first
        | with_reducible refine Ex.seq ?_
        | with_reducible refine Ex.ops ?_
        | with_reducible refine ExO.cons ?_
        | with_reducible refine ExO.nil ?_
        | with_reducible refine ExS.some ?_
        | with_reducible refine Ex.retS ?_
        | with_reducible refine Ex.condV ?_
        | with_reducible refine Ex.skip ?_
        | with_reducible refine Ex.block ?_
        | with_reducible refine Ex.inBlock ?_
        | with_reducible refine Ex.exit rfl ?_
        | with_reducible refine ExC.tt ?_
        | with_reducible refine ExC.ff ?_
        | (with_reducible refine ExC.id ?_; simp (disch := omega) only [wrap_i64])
        | (with_reducible refine ExS.id ?_; simp (disch := omega) only [wrap_i64])
        | (with_reducible refine ExS.req (by omega) ?_)
        | (with_reducible refine ExC.dec ?_ ?_ <;> intro h he <;> first | (exfalso; omega) | (simp [he, hm]; clear he) | clear he)
        | (with_reducible refine ExS.iteB ?_ ?_ <;> intro h <;> try simp [h, hm])
        | (with_reducible refine ExS.ite ?_ ?_ <;> intro h he <;> first | (exfalso; omega) | (simp [he, hm]; clear he) | clear he)
        | (with_reducible refine ExC.ndec ?_ ?_ <;> intro h he <;> first | (exfalso; omega) | (simp [he, hm]; clear he) | clear he)
        | (with_reducible refine ExC.sym ?_ ?_ <;> intro h <;> try simp [h, hm])
        | (with_reducible refine hQ _ _ ?_)
        | (with_reducible refine hQ _ _ ?_ ?_)
        | simp [hm]
      refine Ex.loopI (fun i : Pt × Nat => [(0, .ptr (some (0, 0))), (3, .ptr (some (2, 0))), (4, .ptr (some (3, 0))), (7, .int .i64 i.2)]) (fun i => [.cells [.mp (some 1)], .map (encM (eInt .i64) eHops es), .cells (ePt.enc i.1), .cells (ePt.enc .zero)]) (fun i => (2147483648 - i.1.seg).toNat)
        (fun i => i.1.may = true ∧ (i.2 : Int) ≤ i.1.seg ∧ G = rfind es (2147483648 - i.1.seg).toNat i.1 i.2) (p0, 0) ⟨hm, by simp [Pt.may] at hm; simp; omega, hG.symm⟩ ⟨by simp, by simp [Pt.zero], by simp, by simp⟩ ?_
      rintro ⟨p, n⟩ ⟨h1, h2, h3⟩ ih
      simp only [] at h1 h2 h3
      have hb := h1
      simp only [Pt.may, decide_eq_true_eq] at hb
      have hk := fk_lk (k := p.seg) (es := es) (i := 0)
      rw [rfind_succ (by omega)] at h3
      cases hf : fk p.seg es 0 with
      | none =>
        rw [hf] at hk
        rw [← hk] at h3
        simp only [Option.map_none] at h3
        rw [h3] at hQ
        repeat' first
          | with_reducible refine Ex.seq ?_
          | with_reducible refine Ex.ops ?_
          | with_reducible refine ExO.cons ?_
          | with_reducible refine ExO.nil ?_
          | with_reducible refine ExS.some ?_
          | with_reducible refine Ex.retS ?_
          | with_reducible refine Ex.condV ?_
          | with_reducible refine Ex.skip ?_
          | with_reducible refine Ex.block ?_
          | with_reducible refine Ex.inBlock ?_
          | with_reducible refine Ex.exit rfl ?_
          | with_reducible refine ExC.tt ?_
          | with_reducible refine ExC.ff ?_
          | (with_reducible refine ExC.id ?_; simp (disch := omega) only [wrap_i64])
          | (with_reducible refine ExS.id ?_; simp (disch := omega) only [wrap_i64])
          | (with_reducible refine ExS.req (by omega) ?_)
          | (with_reducible refine ExC.dec ?_ ?_ <;> intro h he <;> first | (exfalso; omega) | (simp [he, findK_int te_3, hf]; clear he) | clear he)
          | (with_reducible refine ExS.iteB ?_ ?_ <;> intro h <;> try simp [h, findK_int te_3, hf])
          | (with_reducible refine ExS.ite ?_ ?_ <;> intro h he <;> first | (exfalso; omega) | (simp [he, findK_int te_3, hf]; clear he) | clear he)
          | (with_reducible refine ExC.ndec ?_ ?_ <;> intro h he <;> first | (exfalso; omega) | (simp [he, findK_int te_3, hf]; clear he) | clear he)
          | (with_reducible refine ExC.sym ?_ ?_ <;> intro h <;> try simp [h, findK_int te_3, hf])
          | (with_reducible refine hQ _ _ ?_)
          | (with_reducible refine hQ _ _ ?_ ?_)
          | simp [findK_int te_3, hf]
        all_goals first | (simp ; done) | omega | (simp ; omega) | (simp ; intros; omega) | (simp_all ; done) | (simp_all ; omega) | (refine ⟨?_, ?_⟩ <;> first | omega | (simp_all ; done) | (simp ; omega)) | skip
      | some r =>
        obtain ⟨j, hs⟩ := r
        rw [hf] at hk
        simp only [Option.map_some] at hk
        rw [← hk] at h3
        simp only [] at h3
        have hk2 := fk_lk (k := p.at') (es := hs) (i := 0)
        cases hf2 : fk p.at' hs 0 with
        | none =>
          rw [hf2] at hk2
          rw [← hk2] at h3
          simp only [Option.map_none] at h3
          rw [h3] at hQ
          repeat' first
            | with_reducible refine Ex.seq ?_
            | with_reducible refine Ex.ops ?_
            | with_reducible refine ExO.cons ?_
            | with_reducible refine ExO.nil ?_
            | with_reducible refine ExS.some ?_
            | with_reducible refine Ex.retS ?_
            | with_reducible refine Ex.condV ?_
            | with_reducible refine Ex.skip ?_
            | with_reducible refine Ex.block ?_
            | with_reducible refine Ex.inBlock ?_
            | with_reducible refine Ex.exit rfl ?_
            | with_reducible refine ExC.tt ?_
            | with_reducible refine ExC.ff ?_
            | (with_reducible refine ExC.id ?_; simp (disch := omega) only [wrap_i64])
            | (with_reducible refine ExS.id ?_; simp (disch := omega) only [wrap_i64])
            | (with_reducible refine ExS.req (by omega) ?_)
            | (with_reducible refine ExC.dec ?_ ?_ <;> intro h he <;> first | (exfalso; omega) | (simp [he, findK_int te_3, hf, hf2]; clear he) | clear he)
            | (with_reducible refine ExS.iteB ?_ ?_ <;> intro h <;> try simp [h, findK_int te_3, hf, hf2])
            | (with_reducible refine ExS.ite ?_ ?_ <;> intro h he <;> first | (exfalso; omega) | (simp [he, findK_int te_3, hf, hf2]; clear he) | clear he)
            | (with_reducible refine ExC.ndec ?_ ?_ <;> intro h he <;> first | (exfalso; omega) | (simp [he, findK_int te_3, hf, hf2]; clear he) | clear he)
            | (with_reducible refine ExC.sym ?_ ?_ <;> intro h <;> try simp [h, findK_int te_3, hf, hf2])
            | (with_reducible refine hQ _ _ ?_)
            | (with_reducible refine hQ _ _ ?_ ?_)
            | simp [findK_int te_3, hf, hf2]
          all_goals first | (simp [Pt.zero]; done) | omega | (simp [Pt.zero]; omega) | (simp [Pt.zero]; intros; omega) | (simp_all [Pt.zero]; done) | (simp_all [Pt.zero]; omega) | (refine ⟨?_, ?_⟩ <;> first | omega | (simp_all [Pt.zero]; done) | (simp [Pt.zero]; omega)) | skip
        | some r2 =>
          obtain ⟨j2, to⟩ := r2
          rw [hf2] at hk2
          simp only [Option.map_some] at hk2
          rw [← hk2] at h3
          simp only [] at h3
          obtain ⟨h6, h7⟩ := hg _ (mem_of_lk hk.symm) _ (mem_of_lk hk2.symm)
          simp only [] at h6 h7
          have hn : to.len = p.len → to.sum = p.sum → G = rfind es (2147483648 - to.seg).toNat to ((n + 1 : Nat) : Int) := by
            intro e1 e2
            simp only [Pt.may, decide_eq_true_eq] at h6
            rw [h3, if_neg (by simp [e1, e2])]
            exact (rfind_fuel hg _ _ _ _ (Nat.le_refl _) (by omega) (by omega)).symm
          have hz : ¬ (to.len = p.len ∧ to.sum = p.sum) → G = (Pt.zero, 0, 3) := by
            intro e1
            rw [h3, if_pos (by by_cases e : to.len = p.len <;> simp_all)]
          clear h3 hk hk2
          repeat' first
            | with_reducible refine Ex.seq ?_
            | with_reducible refine Ex.ops ?_
            | with_reducible refine ExO.cons ?_
            | with_reducible refine ExO.nil ?_
            | with_reducible refine ExS.some ?_
            | with_reducible refine Ex.retS ?_
            | with_reducible refine Ex.condV ?_
            | with_reducible refine Ex.skip ?_
            | with_reducible refine Ex.block ?_
            | with_reducible refine Ex.inBlock ?_
            | with_reducible refine Ex.exit rfl ?_
            | with_reducible refine ExC.tt ?_
            | with_reducible refine ExC.ff ?_
            | (with_reducible refine ExC.id ?_; simp (disch := omega) only [wrap_i64])
            | (with_reducible refine ExS.id ?_; simp (disch := omega) only [wrap_i64])
            | (with_reducible refine ExS.req (by omega) ?_)
            | (with_reducible refine ExC.dec ?_ ?_ <;> intro h he <;> first | (exfalso; omega) | (simp [he, findK_int te_3, hf, hf2]; clear he) | clear he)
            | (with_reducible refine ExS.iteB ?_ ?_ <;> intro h <;> try simp [h, findK_int te_3, hf, hf2])
            | (with_reducible refine ExS.ite ?_ ?_ <;> intro h he <;> first | (exfalso; omega) | (simp [he, findK_int te_3, hf, hf2]; clear he) | clear he)
            | (with_reducible refine ExC.ndec ?_ ?_ <;> intro h he <;> first | (exfalso; omega) | (simp [he, findK_int te_3, hf, hf2]; clear he) | clear he)
            | (with_reducible refine ExC.sym ?_ ?_ <;> intro h <;> try simp [h, findK_int te_3, hf, hf2])
            | (with_reducible refine hQ _ _ ?_)
            | (with_reducible refine hQ _ _ ?_ ?_)
            | simp [findK_int te_3, hf, hf2]
          any_goals refine ih (to, n + 1) _ (by first | omega | (simp; omega)) ?_ ⟨(by first | rfl | (simp [Pt.zero]; done) | (simp [Pt.zero]; simp (disch := omega) [wrap_i64]; done) | (simp [Pt.zero]; simp (disch := omega) only [wrap_i64]; omega) | (simp [Pt.zero]; omega)), (by first | rfl | (simp [Pt.zero]; done) | (simp [Pt.zero]; simp (disch := omega) [wrap_i64]; done) | (simp [Pt.zero]; simp (disch := omega) only [wrap_i64]; omega) | (simp [Pt.zero]; omega)), (by first | rfl | (simp [Pt.zero]; done) | (simp [Pt.zero]; simp (disch := omega) [wrap_i64]; done) | (simp [Pt.zero]; simp (disch := omega) only [wrap_i64]; omega) | (simp [Pt.zero]; omega)), (by first | rfl | (simp [Pt.zero]; done) | (simp [Pt.zero]; simp (disch := omega) [wrap_i64]; done) | (simp [Pt.zero]; simp (disch := omega) only [wrap_i64]; omega) | (simp [Pt.zero]; omega))⟩
          · exact ⟨h6, by simp; omega, hn ‹_› ‹_›⟩
          · simp [hz (by simp [*]), Pt.zero]
          · simp [hz (by simp [*]), Pt.zero]
end Go.Proofs.Ytmobgcpamblhhaa
