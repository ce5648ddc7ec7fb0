/- Whole bodies: the interpreter's steps. -/
import Derived.Test.YtmobgcpamblhhaaViStep
set_option linter.unusedVariables false
set_option linter.unusedSimpArgs false
namespace Go.Vi

/-! ### The code, without what the interpreter does not look at -/
structure MOp where
  dst : Option Nat
  op : Op
  g : Option (Nat × Bool)
inductive MC where
  | skip
  | region (l : List MOp)
  | any (l : List MOp) (p : List (List Nat))
  | seq (x y : MC)
  | cond (c : Operand) (x y : MC)
  | block (id : Nat) (x : MC)
  | loop (x : MC)
  | exit (id : Nat)
  | ret
  | bad
inductive MI where
  | code (c : MC)
  | inBlock (id : Nat)
  | inLoop (c : MC)
  | bad
def gOf (ops : Array Oper) (o : Oper) : Option (Nat × Bool) := match o.guard with
  | none => none
  | some (j, b) => match (ops[j]?).bind (·.dst) with
    | some t => some (t, b)
    | none => some (0, b)
def mop (ops : Array Oper) (o : Oper) : MOp := ⟨o.dst, o.op, gOf ops o⟩
/-- What must stand ahead of an operation. -/
def preds (o : Oper) : List Nat := (o.after.toList.filter fun e => Region.binds .any e).map (·.on)
/-- A region; one of the free ones keeps what must stand ahead of what. -/
def mreg (fr : List Nat) (id : Nat) (ops : Array Oper) (d : Bool) : MC := if (d && fr.contains id) = true then .any (ops.toList.map (mop ops)) (ops.toList.map preds) else .region (ops.toList.map (mop ops))
def mcF (fr : List Nat) : Code → MC
  | .skip => .skip
  | .region id ops d => mreg fr id ops d
  | .seq x y => .seq (mcF fr x) (mcF fr y)
  | .cond c x y => .cond c (mcF fr x) (mcF fr y)
  | .block id x => .block id (mcF fr x)
  | .loop x => .loop (mcF fr x)
  | .exit id => .exit id
  | .ret => .ret
  | _ => .bad
section
variable {fr : List Nat} {id : Nat} {ops : Array Oper} {d : Bool}
@[simp] theorem mreg_skip : (mreg fr id ops d = .skip) = False := by unfold mreg; split <;> simp
@[simp] theorem mreg_seq {x y} : (mreg fr id ops d = .seq x y) = False := by unfold mreg; split <;> simp
@[simp] theorem mreg_cond {c x y} : (mreg fr id ops d = .cond c x y) = False := by unfold mreg; split <;> simp
@[simp] theorem mreg_block {i x} : (mreg fr id ops d = .block i x) = False := by unfold mreg; split <;> simp
@[simp] theorem mreg_loop {x} : (mreg fr id ops d = .loop x) = False := by unfold mreg; split <;> simp
@[simp] theorem mreg_exit {i} : (mreg fr id ops d = .exit i) = False := by unfold mreg; split <;> simp
@[simp] theorem mreg_ret : (mreg fr id ops d = .ret) = False := by unfold mreg; split <;> simp
theorem mreg_region {l} (h : mreg fr id ops d = .region l) : (d && fr.contains id) = false ∧ ops.toList.map (mop ops) = l := by
  unfold mreg at h
  split at h
  · cases h
  · rename_i h1
    cases h
    exact ⟨by simpa using h1, rfl⟩
theorem mreg_any {l p} (h : mreg fr id ops d = .any l p) : d = true ∧ ops.toList.map (mop ops) = l ∧ ops.toList.map preds = p := by
  unfold mreg at h
  split at h
  · rename_i h1
    simp at h1
    cases h
    exact ⟨h1.1, rfl, rfl⟩
  · cases h
end
def mi (fr : List Nat) : Item → MI
  | .code c => .code (mcF fr c)
  | .inBlock id => .inBlock id
  | .inLoop c => .inLoop (mcF fr c)
  | _ => .bad
def exitM (id : Nat) : List MI → Option (List MI)
  | .inBlock id' :: k => if id' == id then some k else exitM id k
  | .bad :: _ => none
  | _ :: k => exitM id k
  | [] => none

/-! ### What must hold of the code -/
def dstOK (nt : Nat) (o : Oper) : Bool := match o.dst with | some d => decide (d < nt) | none => true
def grdOK (ops : Array Oper) (o : Oper) : Bool := match o.guard with | some (j, _) => ((ops[j]?).bind (·.dst)).isSome | none => true
def regOK (nt : Nat) (ops : Array Oper) : Bool := ops.toList.all fun o => dstOK nt o && grdOK ops o

/-! ### Running -/
def runM (te : TE) (K : KT) (s : St) (o : MOp) : Option St := (opD te K s o.op).bind fun r => some (St.put ⟨s.slots, r.2⟩ o.dst r.1)
def stepM (te : TE) (K : KT) (s : St) (o : MOp) : Option St := match o.g with
  | none => runM te K s o
  | some (t, b) => match s.slots t with
    | .bool x => if x = b then runM te K s o else some (s.put o.dst (.tup []))
    | .tup [] => some (s.put o.dst (.tup []))
    | _ => none
def runOps (te : TE) (K : KT) : List MOp → St → Option St
  | [], s => some s
  | o :: l, s => (stepM te K s o).bind fun s' => runOps te K l s'

def retD (te : TE) (s : St) : List ResultVar → Option (List AV)
  | [] => some []
  | .tmp t :: rs => (retD te s rs).bind fun l => some (s.slots t :: l)
  | .cell a t :: rs => (loadD te s.σ t (s.slots a)).bind fun v => (retD te s rs).bind fun l => some (v :: l)

/-! ### Forgetting -/
def idLtC (n : Nat) : AV → Bool
  | .ptr (some (o, _)) => decide (o < n)
  | .aptr o _ _ _ => decide (o < n)
  | .msl o _ _ _ => decide (o < n)
  | .mp (some o) => decide (o < n)
  | .fn _ cs => cs.isEmpty
  | .agg cs => cs.isEmpty
  | .tup cs => cs.isEmpty
  | _ => true
def idLtA (n : Nat) : AV → Bool
  | .fn _ cs => cs.all (idLtC n)
  | .agg cs => cs.all (idLtC n)
  | .tup cs => cs.all (idLtC n)
  | v => idLtC n v
def idLtB (n : Nat) : AV → Bool
  | .fn _ cs => cs.all (idLtA n)
  | .agg cs => cs.all (idLtA n)
  | .tup cs => cs.all (idLtA n)
  | v => idLtC n v
def idLtO (n : Nat) : LObj → Bool
  | .cells cs => cs.all (idLtA n)
  | _ => true
def slotsOf : List (Nat × AV) → Nat → AV
  | [], _ => .junk
  | (t, v) :: l, u => if u = t then v else slotsOf l u
structure Weak (n0 : Nat) (s s' : St) : Prop where
  len : n0 ≤ s'.σ.length
  σ : s'.σ = s.σ.take s'.σ.length
  objs : ∀ o ∈ s'.σ, idLtO s'.σ.length o = true
  slots : ∀ t, s'.slots t = .junk ∨ (s'.slots t = s.slots t ∧ idLtB s'.σ.length (s.slots t) = true)

/-! ### Any order -/
def readyL (p : List (List Nat)) (L : Array Bool) : List Nat := (List.range p.length).filter fun i => !L.getD i true && (p.getD i []).all fun q => L.getD q false
/-- Every order that may be comes to R. -/
def Full (te : TE) (K : KT) (l : List MOp) (p : List (List Nat)) (R : St → Prop) : Nat → Array Bool → St → Prop
  | 0, L, s => readyL p L = [] ∧ R s
  | n + 1, L, s => (readyL p L = [] → R s) ∧ ∀ i ∈ readyL p L, ∀ o, l[i]? = some o → ∃ u, stepM te K s o = some u ∧ Full te K l p R n (L.setIfInBounds i true) u

/-- Every step of the body is one that the interpreter can tell, and it ends in Q. -/
inductive Ex (te : TE) (K : KT) (rs : List ResultVar) (n0 : Nat) (Q : List AV → List LObj → Prop) : List MI → St → Prop
  | skip {k s} : Ex te K rs n0 Q k s → Ex te K rs n0 Q (.code .skip :: k) s
  | seq {x y k s} : Ex te K rs n0 Q (.code x :: .code y :: k) s → Ex te K rs n0 Q (.code (.seq x y) :: k) s
  | cond {c x y k s} (b) : ev s c = .bool b → Ex te K rs n0 Q (.code (if b then x else y) :: k) s → Ex te K rs n0 Q (.code (.cond c x y) :: k) s
  | block {id x k s} : Ex te K rs n0 Q (.code x :: .inBlock id :: k) s → Ex te K rs n0 Q (.code (.block id x) :: k) s
  | inBlock {id k s} : Ex te K rs n0 Q k s → Ex te K rs n0 Q (.inBlock id :: k) s
  | loop {x k s} : Ex te K rs n0 Q (.code x :: .inLoop x :: k) s → Ex te K rs n0 Q (.code (.loop x) :: k) s
  | inLoop {x k s} : Ex te K rs n0 Q (.code x :: .inLoop x :: k) s → Ex te K rs n0 Q (.inLoop x :: k) s
  | exit {id k k' s} : exitM id k = some k' → Ex te K rs n0 Q k' s → Ex te K rs n0 Q (.code (.exit id) :: k) s
  | region {l k s s'} : runOps te K l s = some s' → Ex te K rs n0 Q k s' → Ex te K rs n0 Q (.code (.region l) :: k) s
  | any {l p k s} (R : St → Prop) : Full te K l p R p.length (Array.replicate p.length false) s → (∀ s', R s' → Ex te K rs n0 Q k s') → Ex te K rs n0 Q (.code (.any l p) :: k) s
  | ret {k s l} : retD te s rs = some l → Q l s.σ → Ex te K rs n0 Q (.code .ret :: k) s
  | fin {s l} : retD te s rs = some l → Q l s.σ → Ex te K rs n0 Q [] s
  | weak {k s s'} : Weak n0 s s' → Ex te K rs n0 Q k s' → Ex te K rs n0 Q k s

/-! ### Inside a region -/
def ExO (te : TE) (K : KT) (rs : List ResultVar) (n0 : Nat) (Q : List AV → List LObj → Prop) (l : List MOp) (k : List MI) (s : St) : Prop := ∃ s', runOps te K l s = some s' ∧ Ex te K rs n0 Q k s'
def ExS (te : TE) (K : KT) (rs : List ResultVar) (n0 : Nat) (Q : List AV → List LObj → Prop) (l : List MOp) (k : List MI) (x : Option St) : Prop := ∃ s, x = some s ∧ ExO te K rs n0 Q l k s
section
variable {te : TE} {K : KT} {rs : List ResultVar} {n0 : Nat} {Q : List AV → List LObj → Prop} {k : List MI} {s : St} {l : List MOp} {o : MOp}
theorem Ex.ops (h : ExO te K rs n0 Q l k s) : Ex te K rs n0 Q (.code (.region l) :: k) s := .region h.choose_spec.1 h.choose_spec.2
theorem ExO.nil (h : Ex te K rs n0 Q k s) : ExO te K rs n0 Q [] k s := ⟨s, rfl, h⟩
theorem ExO.cons (h : ExS te K rs n0 Q l k (stepM te K s o)) : ExO te K rs n0 Q (o :: l) k s := by
  obtain ⟨s1, h1, s2, h2, h3⟩ := h
  exact ⟨s2, by simp [runOps, h1, h2], h3⟩
theorem ExS.some (h : ExO te K rs n0 Q l k s) : ExS te K rs n0 Q l k (some s) := ⟨s, rfl, h⟩
theorem ExS.ite {c : Prop} [Decidable c] {p q : Option St} (h : c → c = True → ExS te K rs n0 Q l k p) (h' : ¬ c → c = False → ExS te K rs n0 Q l k q) : ExS te K rs n0 Q l k (if c then p else q) := by
  by_cases hc : c
  · rw [if_pos hc]; exact h hc (eq_true hc)
  · rw [if_neg hc]; exact h' hc (eq_false hc)
theorem ExS.req {c : Prop} [Decidable c] {p : Option St} (hc : c) (h : ExS te K rs n0 Q l k p) : ExS te K rs n0 Q l k (if c then p else none) := by rw [if_pos hc]; exact h
theorem Ex.condB {c : Operand} {x y : MC} {b : Bool} (hb : ev s c = .bool b) (h : b = true → Ex te K rs n0 Q (.code x :: k) s) (h' : b = false → Ex te K rs n0 Q (.code y :: k) s) : Ex te K rs n0 Q (.code (.cond c x y) :: k) s := by
  refine .cond b hb ?_
  cases b
  · exact h' rfl
  · exact h rfl
end
end Go.Vi
