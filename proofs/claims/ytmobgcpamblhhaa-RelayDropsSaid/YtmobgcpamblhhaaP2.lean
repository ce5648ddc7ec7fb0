import Derived.Test.YtmobgcpamblhhaaP1
set_option maxRecDepth 100000
set_option linter.unusedSimpArgs false
set_option linter.unusedVariables false
namespace Go.Proofs.Ytmobgcpamblhhaa
open Go.Vi

noncomputable def F42 : List AV → List LObj → Option (AV × List LObj) := spE (eRel eL0) (fun _ => True) (fun p => (.bool true, encRel p.1))
@[simp] theorem F42_app {l : List AV} {σ : List LObj} : F42 l σ = ((eRel eL0).dec l σ).bind fun a => @ite _ ((fun _ => True) a) (Classical.propDecidable _) (some ((fun p => (.bool true, encRel p.1)) a)) none := rfl
/-! 42: (*garner/relay.Relay).is -/
abbrev m42_r1 : List MOp := [
  ⟨some 2, Op.assign (Operand.const (Value.bool false)), none⟩]
abbrev m42_r2 : List MOp := [
  ⟨some 3, Op.move (Operand.tmp 0), none⟩,
  ⟨some 4, Op.binOp BinOp.neq 29 (Operand.tmp 3) (Operand.const (Value.pointer none)) 29, none⟩,
  ⟨some 5, Op.move (Operand.tmp 4), none⟩,
  ⟨some 6, Op.move (Operand.tmp 0), some (5, true)⟩,
  ⟨some 7, Op.nilCheck (Operand.tmp 6), some (5, true)⟩,
  ⟨some 8, Op.fieldAddr 89 (Operand.tmp 7) 0, some (5, true)⟩,
  ⟨some 9, Op.load 87 (Operand.tmp 8), some (5, true)⟩,
  ⟨some 10, Op.binOp BinOp.neq 87 (Operand.tmp 9) (Operand.const (Value.map none)) 87, some (5, true)⟩,
  ⟨some 11, Op.pick (Operand.tmp 5) (Operand.tmp 10) (Operand.const (Value.bool false)), none⟩,
  ⟨some 2, Op.assign (Operand.tmp 11), none⟩]
abbrev m42_c3 : MC := .seq (.region m42_r2) .ret
abbrev m42_c4 : MC := .seq (.region m42_r1) m42_c3
abbrev m42 : MC := m42_c4
theorem m42_eq : Try.f42.body.map (mcF []) = some m42 := by kernel_rfl
set_option maxHeartbeats 4000000 in
theorem f42_ok : SpOK Try.prog 42 (.eff F42) := by
  refine effOf (K := kl []) mixed te_ok KS.nil Try.func42 m42_eq (by kernel_rfl) (nt := 12) rfl (rs := [.tmp 2]) rfl (np := 1) (by decide) (fun a => by first | rfl | simp) (by kernel_rfl) ?_ ?_
  · rintro ⟨es, u⟩ _
    simp
  · rintro ⟨es, u⟩ _ Q hQ
    repeat' first
      | with_reducible refine Ex.seq ?_
      | with_reducible refine Ex.ops ?_
      | with_reducible refine ExO.cons ?_
      | with_reducible refine ExO.nil ?_
      | with_reducible refine ExS.some ?_
      | with_reducible refine Ex.retS ?_
      | with_reducible refine Ex.condV ?_
      | with_reducible refine Ex.skip ?_
      | with_reducible refine Ex.block ?_
      | with_reducible refine Ex.inBlock ?_
      | with_reducible refine Ex.exit rfl ?_
      | with_reducible refine ExC.tt ?_
      | with_reducible refine ExC.ff ?_
      | (with_reducible refine ExC.id ?_; simp (disch := omega) only [wrap_i64])
      | (with_reducible refine ExS.id ?_; simp (disch := omega) only [wrap_i64])
      | (with_reducible refine ExS.req (by omega) ?_)
      | (with_reducible refine ExC.dec ?_ ?_ <;> intro h he <;> first | (exfalso; omega) | (simp [he]; clear he) | clear he)
      | (with_reducible refine ExS.iteB ?_ ?_ <;> intro h <;> try simp [h])
      | (with_reducible refine ExS.ite ?_ ?_ <;> intro h he <;> first | (exfalso; omega) | (simp [he]; clear he) | clear he)
      | (with_reducible refine ExC.ndec ?_ ?_ <;> intro h he <;> first | (exfalso; omega) | (simp [he]; clear he) | clear he)
      | (with_reducible refine ExC.sym ?_ ?_ <;> intro h <;> try simp [h])
      | (with_reducible refine hQ _ _ ?_)
      | (with_reducible refine hQ _ _ ?_ ?_)
      | simp
    all_goals simp

noncomputable def F33 : List AV → List LObj → Option (AV × List LObj) := spE (eArgs eL0) (fun _ => True) (fun _ => (.ptr (some (1, 0)), [.map [], .cells [.mp (some 0)]]))
@[simp] theorem F33_app {l : List AV} {σ : List LObj} : F33 l σ = ((eArgs eL0).dec l σ).bind fun a => @ite _ ((fun _ => True) a) (Classical.propDecidable _) (some ((fun _ => (.ptr (some (1, 0)), [.map [], .cells [.mp (some 0)]])) a)) none := rfl
/-! 33: garner/relay.New -/
abbrev m33_r1 : List MOp := [
  ⟨some 0, Op.assign (Operand.const (Value.pointer none)), none⟩]
abbrev m33_r2 : List MOp := [
  ⟨some 1, Op.makeMap 87 none, none⟩,
  ⟨some 2, Op.build 89 #[(0, Operand.tmp 1)], none⟩,
  ⟨some 3, Op.box 89 (Operand.tmp 2), none⟩,
  ⟨some 0, Op.assign (Operand.tmp 3), none⟩]
abbrev m33_c3 : MC := .seq (.region m33_r2) .ret
abbrev m33_c4 : MC := .seq (.region m33_r1) m33_c3
abbrev m33 : MC := m33_c4
theorem m33_eq : Try.f33.body.map (mcF []) = some m33 := by kernel_rfl
set_option maxHeartbeats 4000000 in
theorem f33_ok : SpOK Try.prog 33 (.eff F33) := by
  refine effOf (K := kl []) mixed te_ok KS.nil Try.func33 m33_eq (by kernel_rfl) (nt := 4) rfl (rs := [.tmp 0]) rfl (np := 0) (by decide) (fun a => by first | rfl | simp) (by kernel_rfl) ?_ ?_
  · rintro u _
    simp
  · rintro u _ Q hQ
    repeat' first
      | with_reducible refine Ex.seq ?_
      | with_reducible refine Ex.ops ?_
      | with_reducible refine ExO.cons ?_
      | with_reducible refine ExO.nil ?_
      | with_reducible refine ExS.some ?_
      | with_reducible refine Ex.retS ?_
      | with_reducible refine Ex.condV ?_
      | with_reducible refine Ex.skip ?_
      | with_reducible refine Ex.block ?_
      | with_reducible refine Ex.inBlock ?_
      | with_reducible refine Ex.exit rfl ?_
      | with_reducible refine ExC.tt ?_
      | with_reducible refine ExC.ff ?_
      | (with_reducible refine ExC.id ?_; simp (disch := omega) only [wrap_i64])
      | (with_reducible refine ExS.id ?_; simp (disch := omega) only [wrap_i64])
      | (with_reducible refine ExS.req (by omega) ?_)
      | (with_reducible refine ExC.dec ?_ ?_ <;> intro h he <;> first | (exfalso; omega) | (simp [he]; clear he) | clear he)
      | (with_reducible refine ExS.iteB ?_ ?_ <;> intro h <;> try simp [h])
      | (with_reducible refine ExS.ite ?_ ?_ <;> intro h he <;> first | (exfalso; omega) | (simp [he]; clear he) | clear he)
      | (with_reducible refine ExC.ndec ?_ ?_ <;> intro h he <;> first | (exfalso; omega) | (simp [he]; clear he) | clear he)
      | (with_reducible refine ExC.sym ?_ ?_ <;> intro h <;> try simp [h])
      | (with_reducible refine hQ _ _ ?_)
      | (with_reducible refine hQ _ _ ?_ ?_)
      | simp
    all_goals simp

noncomputable def F15 : List AV → List LObj → Option (AV × List LObj) := spE (eRel (e1 (eInt .i64))) (fun p => uniq p.1) (fun p => (.int .i64 (if (lk p.2 p.1).isSome then 0 else 3), encRel (del p.2 p.1)))
@[simp] theorem F15_app {l : List AV} {σ : List LObj} : F15 l σ = ((eRel (e1 (eInt .i64))).dec l σ).bind fun a => @ite _ ((fun p => uniq p.1) a) (Classical.propDecidable _) (some ((fun p => (.int .i64 (if (lk p.2 p.1).isSome then 0 else 3), encRel (del p.2 p.1))) a)) none := rfl
/-! 15: (*garner/relay.Relay).Drop -/
abbrev m15_r1 : List MOp := [
  ⟨some 4, Op.assign (Operand.const (Value.int IntKind.i64 0)), none⟩]
abbrev m15_r2 : List MOp := [
  ⟨some 5, Op.move (Operand.tmp 0), none⟩,
  ⟨some 6, Op.call { callee := Callee.value (Operand.func 42), args := #[Operand.tmp 5], argTypes := #[29] }, none⟩,
  ⟨some 7, Op.unOp UnOp.not 4 (Operand.tmp 6), none⟩,
  ⟨some 8, Op.move (Operand.tmp 7), none⟩,
  ⟨some 9, Op.move (Operand.tmp 0), some (8, false)⟩,
  ⟨some 10, Op.nilCheck (Operand.tmp 9), some (8, false)⟩,
  ⟨some 11, Op.fieldAddr 89 (Operand.tmp 10) 0, some (8, false)⟩,
  ⟨some 12, Op.load 87 (Operand.tmp 11), some (8, false)⟩,
  ⟨some 13, Op.move (Operand.tmp 1), some (8, false)⟩,
  ⟨some 14, Op.lookup 87 (Operand.tmp 12) (Operand.tmp 13) false, some (8, false)⟩,
  ⟨some 15, Op.binOp BinOp.eql 86 (Operand.tmp 14) (Operand.const (Value.map none)) 86, some (8, false)⟩,
  ⟨some 16, Op.pick (Operand.tmp 8) (Operand.const (Value.bool true)) (Operand.tmp 15), none⟩]
abbrev m15_r3 : List MOp := [
  ⟨some 4, Op.assign (Operand.const (Value.int IntKind.i64 3)), none⟩]
abbrev m15_c4 : MC := .seq (.region m15_r3) .ret
abbrev m15_c5 : MC := .cond (Operand.tmp 16) m15_c4 .skip
abbrev m15_c6 : MC := .seq (.region m15_r2) m15_c5
abbrev m15_r7 : List MOp := [
  ⟨some 17, Op.move (Operand.tmp 0), none⟩,
  ⟨some 18, Op.nilCheck (Operand.tmp 17), none⟩,
  ⟨some 19, Op.fieldAddr 89 (Operand.tmp 18) 0, none⟩,
  ⟨some 20, Op.load 87 (Operand.tmp 19), none⟩,
  ⟨some 21, Op.move (Operand.tmp 1), none⟩,
  ⟨none, Op.call { callee := Callee.builtin Builtin.delete, args := #[Operand.tmp 20, Operand.tmp 21], argTypes := #[87, 3] }, none⟩]
abbrev m15_r8 : List MOp := [
  ⟨some 4, Op.assign (Operand.const (Value.int IntKind.i64 0)), none⟩]
abbrev m15_c9 : MC := .seq (.region m15_r8) .ret
abbrev m15_c10 : MC := .seq (.region m15_r7) m15_c9
abbrev m15_c11 : MC := .seq m15_c6 m15_c10
abbrev m15_c12 : MC := .seq (.region m15_r1) m15_c11
abbrev m15 : MC := m15_c12
theorem m15_eq : Try.f15.body.map (mcF []) = some m15 := by kernel_rfl
set_option maxHeartbeats 4000000 in
theorem f15_ok : SpOK Try.prog 15 (.eff F15) := by
  refine effOf (K := kl [(42, .eff F42)]) mixed te_ok (KS.cons f42_ok KS.nil) Try.func15 m15_eq (by kernel_rfl) (nt := 22) rfl (rs := [.tmp 4]) rfl (np := 2) (by decide) (fun a => by first | rfl | simp) (by kernel_rfl) ?_ ?_
  · rintro ⟨es, u⟩ _
    simp
  · rintro ⟨es, u⟩ _ Q hQ
    have hd := del_fk (k := u) (es := es)
    have hl := fk_lk (k := u) (es := es) (i := 0)
    cases hf : fk u es 0 with
    | none =>
      rw [hf] at hd hl
      simp at hd hl
      repeat' first
        | with_reducible refine Ex.seq ?_
        | with_reducible refine Ex.ops ?_
        | with_reducible refine ExO.cons ?_
        | with_reducible refine ExO.nil ?_
        | with_reducible refine ExS.some ?_
        | with_reducible refine Ex.retS ?_
        | with_reducible refine Ex.condV ?_
        | with_reducible refine Ex.skip ?_
        | with_reducible refine Ex.block ?_
        | with_reducible refine Ex.inBlock ?_
        | with_reducible refine Ex.exit rfl ?_
        | with_reducible refine ExC.tt ?_
        | with_reducible refine ExC.ff ?_
        | (with_reducible refine ExC.id ?_; simp (disch := omega) only [wrap_i64])
        | (with_reducible refine ExS.id ?_; simp (disch := omega) only [wrap_i64])
        | (with_reducible refine ExS.req (by omega) ?_)
        | (with_reducible refine ExC.dec ?_ ?_ <;> intro h he <;> first | (exfalso; omega) | (simp [he, findK_int te_3, hf]; clear he) | clear he)
        | (with_reducible refine ExS.iteB ?_ ?_ <;> intro h <;> try simp [h, findK_int te_3, hf])
        | (with_reducible refine ExS.ite ?_ ?_ <;> intro h he <;> first | (exfalso; omega) | (simp [he, findK_int te_3, hf]; clear he) | clear he)
        | (with_reducible refine ExC.ndec ?_ ?_ <;> intro h he <;> first | (exfalso; omega) | (simp [he, findK_int te_3, hf]; clear he) | clear he)
        | (with_reducible refine ExC.sym ?_ ?_ <;> intro h <;> try simp [h, findK_int te_3, hf])
        | (with_reducible refine hQ _ _ ?_)
        | (with_reducible refine hQ _ _ ?_ ?_)
        | simp [findK_int te_3, hf]
      all_goals simp [hd, ← hl]
    | some r =>
      rw [hf] at hd hl
      simp at hd hl
      repeat' first
        | with_reducible refine Ex.seq ?_
        | with_reducible refine Ex.ops ?_
        | with_reducible refine ExO.cons ?_
        | with_reducible refine ExO.nil ?_
        | with_reducible refine ExS.some ?_
        | with_reducible refine Ex.retS ?_
        | with_reducible refine Ex.condV ?_
        | with_reducible refine Ex.skip ?_
        | with_reducible refine Ex.block ?_
        | with_reducible refine Ex.inBlock ?_
        | with_reducible refine Ex.exit rfl ?_
        | with_reducible refine ExC.tt ?_
        | with_reducible refine ExC.ff ?_
        | (with_reducible refine ExC.id ?_; simp (disch := omega) only [wrap_i64])
        | (with_reducible refine ExS.id ?_; simp (disch := omega) only [wrap_i64])
        | (with_reducible refine ExS.req (by omega) ?_)
        | (with_reducible refine ExC.dec ?_ ?_ <;> intro h he <;> first | (exfalso; omega) | (simp [he, findK_int te_3, hf]; clear he) | clear he)
        | (with_reducible refine ExS.iteB ?_ ?_ <;> intro h <;> try simp [h, findK_int te_3, hf])
        | (with_reducible refine ExS.ite ?_ ?_ <;> intro h he <;> first | (exfalso; omega) | (simp [he, findK_int te_3, hf]; clear he) | clear he)
        | (with_reducible refine ExC.ndec ?_ ?_ <;> intro h he <;> first | (exfalso; omega) | (simp [he, findK_int te_3, hf]; clear he) | clear he)
        | (with_reducible refine ExC.sym ?_ ?_ <;> intro h <;> try simp [h, findK_int te_3, hf])
        | (with_reducible refine hQ _ _ ?_)
        | (with_reducible refine hQ _ _ ?_ ?_)
        | simp [findK_int te_3, hf]
      all_goals simp [hd, ← hl, encM_erase]
end Go.Proofs.Ytmobgcpamblhhaa
