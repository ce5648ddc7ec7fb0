/- Binary and unary operations, conversions. -/
import Derived.Test.YtmobgcpamblhhaaViOps1
set_option linter.unusedVariables false
set_option linter.unusedSimpArgs false
namespace Go.Vi
section
variable {P : Program} {te : TE} {w : World} {ok : CellOk} {loc : Loc} {v : Value}

theorem VRel.mkInt (k n) : VRel w ok loc (.int k n) (.int k n) := .deep _ _ (.int k n)
theorem VRel.mkBool (b) : VRel w ok loc (.bool b) (.bool b) := .deep _ _ (.bool b)
theorem VRel.mkStr (s) : VRel w ok loc (.str s) (.string s) := .deep _ _ (.str s)

theorem cmpInt_sound {op : BinOp} {a b : Int} {r : AV} (h : cmpInt op a b = some r) (w' : World) : ∃ v, (Op.intCmp op a b).run P w' = .ok v w' ∧ VRel w ok loc r v := by
  unfold cmpInt at h
  split at h <;> simp at h <;> subst h
  · refine ⟨_, rfl, ?_⟩; have e : (a == b) = decide (a = b) := rfl; rw [e]; exact .mkBool _
  · refine ⟨_, rfl, ?_⟩; have e : (a != b) = !decide (a = b) := rfl; rw [e]; exact .mkBool _
  · exact ⟨_, rfl, .mkBool _⟩
  · exact ⟨_, rfl, .mkBool _⟩
  · exact ⟨_, rfl, .mkBool _⟩
  · exact ⟨_, rfl, .mkBool _⟩

theorem binInt_sound {op : BinOp} {k : IntKind} {a b : Int} {r : AV} (hop : op ≠ .shl ∧ op ≠ .shr) (t : TypeId) (h : binInt op k a b = some r) (w' : World) : ∃ v, (binOp op t (.int k a) (.int k b)).run P w' = .ok v w' ∧ VRel w ok loc r v := by
  cases op <;> simp only [binInt] at h
  case shl => exact absurd rfl hop.1
  case shr => exact absurd rfl hop.2
  case quo =>
    split at h
    · cases h
    · rename_i hb; simp at h; subst h; exact ⟨.int k (k.wrap (a.tdiv b)), by simp [binOp, Op.intDiv, hb], .mkInt _ _⟩
  case rem =>
    split at h
    · cases h
    · rename_i hb; simp at h; subst h; exact ⟨.int k (a.tmod b), by simp [binOp, Op.intDiv, hb], .mkInt _ _⟩
  case add => simp at h; subst h; exact ⟨.int k (k.wrap (a + b)), by simp [binOp, Op.intArith], .mkInt _ _⟩
  case sub => simp at h; subst h; exact ⟨.int k (k.wrap (a - b)), by simp [binOp, Op.intArith], .mkInt _ _⟩
  case mul => simp at h; subst h; exact ⟨.int k (k.wrap (a * b)), by simp [binOp, Op.intArith], .mkInt _ _⟩
  case and => simp at h; subst h; exact ⟨.int k (bitsI .and k a b), by simp only [binOp, ne_eq, not_true_eq_false, if_false, Op.intBits]; rfl, .mkInt _ _⟩
  case or => simp at h; subst h; exact ⟨.int k (bitsI .or k a b), by simp only [binOp, ne_eq, not_true_eq_false, if_false, Op.intBits]; rfl, .mkInt _ _⟩
  case xor => simp at h; subst h; exact ⟨.int k (bitsI .xor k a b), by simp only [binOp, ne_eq, not_true_eq_false, if_false, Op.intBits]; rfl, .mkInt _ _⟩
  case andNot => simp at h; subst h; exact ⟨.int k (bitsI .andNot k a b), by simp only [binOp, ne_eq, not_true_eq_false, if_false, Op.intBits]; rfl, .mkInt _ _⟩
  all_goals
    obtain ⟨v, hv, hr⟩ := cmpInt_sound (P := P) (w := w) (ok := ok) (loc := loc) h w'
    exact ⟨v, by simpa [binOp] using hv, hr⟩

theorem shInt_sound {op : BinOp} (hop : op = .shl ∨ op = .shr) {k yk : IntKind} {a b : Int} {r : AV} (t : TypeId) (h : shInt op k a b = some r) (w' : World) : ∃ v, (binOp op t (.int k a) (.int yk b)).run P w' = .ok v w' ∧ VRel w ok loc r v := by
  unfold shInt at h
  split at h
  · cases h
  · rename_i hb
    rcases hop with rfl | rfl
    · simp at h; subst h; exact ⟨_, by simp only [binOp, Op.shift, if_neg hb]; rfl, .mkInt _ _⟩
    · simp at h; subst h; exact ⟨_, by simp only [binOp, Op.shift, if_neg hb]; rfl, .mkInt _ _⟩

theorem binStr_sound {op : BinOp} {a b : ByteArray} {r : AV} (t : TypeId) (h : binStr op a b = some r) (w' : World) : ∃ v, (binOp op t (.string a) (.string b)).run P w' = .ok v w' ∧ VRel w ok loc r v := by
  have e := bytes_eq_iff a b
  cases op <;> simp only [binStr] at h
  case add =>
    split at h
    · rename_i hs
      simp at h; subst h
      refine ⟨_, ?_, .mkStr _⟩
      have : ¬ (((a.size + b.size : Nat) : Int) > IntKind.i64.max) := by show ¬ (_ > (9223372036854775807 : Int)); omega
      simp only [binOp, Op.stringOp, if_neg this]; rfl
    · cases h
  case eql => simp at h; subst h; exact ⟨_, by simp only [binOp, Op.stringOp, e]; rfl, .mkBool _⟩
  case neq => simp at h; subst h; exact ⟨_, by simp only [binOp, Op.stringOp, e]; rfl, .mkBool _⟩
  case lss => simp at h; subst h; exact ⟨_, by simp only [binOp, Op.stringOp, e]; rfl, .mkBool _⟩
  case leq => simp at h; subst h; exact ⟨_, by simp only [binOp, Op.stringOp, e]; rfl, .mkBool _⟩
  case gtr => simp at h; subst h; refine ⟨_, by simp only [binOp, Op.stringOp, e]; rfl, ?_⟩; rw [← Bool.not_or]; exact .mkBool _
  case geq => simp at h; subst h; exact ⟨_, by simp only [binOp, Op.stringOp, e]; rfl, .mkBool _⟩
  all_goals cases h

theorem eqNil_form {d : TyD} {a b : AV} {va : Value} (ha : VRel w ok loc a va) {r : Bool} (h : eqNil d a b = some r) : (∃ o, va = .pointer o) ∨ (∃ o, va = .map o) := by
  cases a with
  | ptr o =>
    cases o with
    | none => rw [inv_ptr0 ha]; exact .inl ⟨_, rfl⟩
    | some p => obtain ⟨b, _, rfl⟩ := inv_ptr (o := p.1) (off := p.2) ha; exact .inl ⟨_, rfl⟩
  | ep cs j => obtain ⟨_, _, _, rfl, _⟩ := inv_ep ha; exact .inl ⟨_, rfl⟩
  | aptr o z i j => obtain ⟨_, _, rfl⟩ := inv_aptr ha; exact .inl ⟨_, rfl⟩
  | mp o =>
    cases o with
    | none => rw [inv_mp0 ha]; exact .inr ⟨_, rfl⟩
    | some p => obtain ⟨b, _, rfl⟩ := inv_mp ha; exact .inr ⟨_, rfl⟩
  | mv es => obtain ⟨_, _, _, rfl, _⟩ := inv_mv ha; exact .inr ⟨_, rfl⟩
  | _ => simp [eqNil] at h

/-- What an equation beside numbers and strings is of. -/
theorem eqX_form (hte : TEOK P te) {t : TypeId} {a b : AV} {va vb : Value} (ha : VRel w ok loc a va) (hb : VRel w ok loc b vb) {r : Bool} (h : eqX te t a b = some r) :
    eqA te t a b = some r ∧ ((∃ o, va = .pointer o) ∨ (∃ o, va = .map o) ∨ (∃ b, va = .bool b) ∨ (∃ xs ys, va = .agg xs ∧ vb = .agg ys ∧ P.eqGuardType P.depth t = false)) := by
  unfold eqX at h
  split at h
  · cases h
  · rename_i his
    refine ⟨h, ?_⟩
    unfold eqA at h
    cases hti : te t with
    | none => simp [hti] at h
    | some i =>
      simp only [hti, Option.bind_some] at h
      split at h
      · rcases eqNil_form ha h with h | h
        · exact .inl h
        · exact .inr (.inl h)
      · rcases eqNil_form ha h with h | h
        · exact .inl h
        · exact .inr (.inl h)
      · unfold eqT at h
        split at h
        · rename_i fs xs ys hte'
          obtain ⟨vx, rfl, _⟩ := inv_agg ha
          obtain ⟨vy, rfl, _⟩ := inv_agg hb
          obtain ⟨_, _, _, _, hg⟩ := (hte t _ hte').struct rfl
          exact .inr (.inr (.inr ⟨_, _, rfl, rfl, hg⟩))
        · unfold leafEq at h
          split at h
          · simp [AV.isIS] at his
          · rw [inv_bool ha]; exact .inr (.inr (.inl ⟨_, rfl⟩))
          · simp [AV.isIS] at his
          · cases h
        · cases h

theorem binX_sound (hte : TEOK P te) {op : BinOp} {t : TypeId} (x y : Operand) {a b : AV} {va vb : Value} (ha : VRel w ok loc a va) (hb : VRel w ok loc b vb) {r : AV} (h : binX te op t a b = some r) (w' : World) :
    ∃ v, (do eqGuard op t x y va vb; binOp op t va vb : Sem Value).run P w' = .ok v w' ∧ VRel w ok loc r v := by
  have hop : op = .eql ∨ op = .neq := by unfold binX at h; split at h <;> simp_all
  have : ∃ r', eqX te t a b = some r' ∧ r = .bool (if op = .eql then r' else !r') := by
    rcases hop with rfl | rfl
    · simp only [binX] at h
      cases he : eqX te t a b with
      | none => simp [he] at h
      | some r' => simp [he] at h; exact ⟨r', rfl, by simp [h]⟩
    · simp only [binX] at h
      cases he : eqX te t a b with
      | none => simp [he] at h
      | some r' => simp [he] at h; exact ⟨r', rfl, by simp [h]⟩
  obtain ⟨r', he, rfl⟩ := this
  obtain ⟨hA, hf⟩ := eqX_form hte ha hb he
  have hrun := eqA_sound hte ha hb hA w'
  refine ⟨.bool (if op = .eql then r' else !r'), ?_, .mkBool _⟩
  rcases hf with ⟨o, rfl⟩ | ⟨o, rfl⟩ | ⟨o, rfl⟩ | ⟨xs, ys, rfl, rfl, hg⟩
  · rcases hop with rfl | rfl <;> cases vb <;> simp [eqGuard, binOp, hrun]
  · rcases hop with rfl | rfl <;> cases vb <;> simp [eqGuard, binOp, hrun]
  · rcases hop with rfl | rfl <;> cases vb <;> simp [eqGuard, binOp, hrun]
  · have := run_eqGuard_agg (P := P) w' op t x y xs ys hg
    rcases hop with rfl | rfl <;> simp [this, binOp, hrun]

theorem binD_sound (hte : TEOK P te) {op : BinOp} {t : TypeId} (x y : Operand) {a b : AV} {va vb : Value} (ha : VRel w ok loc a va) (hb : VRel w ok loc b vb) {r : AV} (h : binD te op t a b = some r) (w' : World) :
    ∃ v, (do eqGuard op t x y va vb; binOp op t va vb : Sem Value).run P w' = .ok v w' ∧ VRel w ok loc r v := by
  unfold binD at h
  split at h
  · rename_i k m k' n
    rw [inv_int ha, inv_int hb]
    have hg : (eqGuard op t x y (.int k m) (.int k' n)).run P w' = .ok () w' := by cases op <;> simp [eqGuard]
    simp only [Sem.run_bind, hg, Result.andThen_ok]
    unfold binI at h
    split at h
    · exact shInt_sound (.inl rfl) t h w'
    · exact shInt_sound (.inr rfl) t h w'
    · rename_i h1 h2
      split at h
      · rename_i hk
        subst hk
        exact binInt_sound ⟨h1, h2⟩ t h w'
      · cases h
  · rename_i m n
    rw [inv_str ha, inv_str hb]
    have hg : (eqGuard op t x y (.string m) (.string n)).run P w' = .ok () w' := by cases op <;> simp [eqGuard]
    simp only [Sem.run_bind, hg, Result.andThen_ok]
    exact binStr_sound t h w'
  · exact binX_sound hte x y ha hb h w'

theorem unD_sound {op : UnOp} {a : AV} {va : Value} (ha : VRel w ok loc a va) {r : AV} (h : unD op a = some r) (w' : World) : ∃ v, (Op.unary op va).run P w' = .ok v w' ∧ VRel w ok loc r v := by
  unfold unD at h
  split at h <;> first | (have h := Option.some.inj h; subst h) | cases h
  · rw [inv_int ha]; exact ⟨_, rfl, .mkInt _ _⟩
  · rw [inv_int ha]; exact ⟨_, rfl, .mkInt _ _⟩
  · rw [inv_bool ha]; exact ⟨_, rfl, .mkBool _⟩
end
end Go.Vi
