/- Regions whose order is drawn: all orders come to the same. -/
import Derived.Test.YtmobgcpamblhhaaViDraw
set_option linter.unusedVariables false
set_option linter.unusedSimpArgs false
namespace Go.Vi
variable {te : TE} {K : KT}

def opTmps (op : Op) : List Nat := op.operands.toList.filterMap fun | .tmp t => some t | _ => none
theorem ev_same {f f' : Nat → AV} {σ : List LObj} {x : Operand} (h : ∀ t, x = .tmp t → f t = f' t) : ev ⟨f, σ⟩ x = ev ⟨f', σ⟩ x := by
  cases x with
  | tmp t => exact h t rfl
  | _ => rfl
theorem opsAV_same {f f' : Nat → AV} {σ : List LObj} {xs : Array Operand} (h : ∀ x ∈ xs.toList, ev ⟨f, σ⟩ x = ev ⟨f', σ⟩ x) : opsAV ⟨f, σ⟩ xs = opsAV ⟨f', σ⟩ xs := by
  unfold opsAV
  exact List.map_congr_left h
theorem opD_same {f f' : Nat → AV} {σ : List LObj} {op : Op} (h : ∀ t ∈ opTmps op, f t = f' t) : opD te K ⟨f, σ⟩ op = opD te K ⟨f', σ⟩ op := by
  have hx : ∀ x ∈ op.operands.toList, ev ⟨f, σ⟩ x = ev ⟨f', σ⟩ x := fun x hx => ev_same fun t ht => h t (by
    subst ht
    unfold opTmps
    exact List.mem_filterMap.2 ⟨_, hx, rfl⟩)
  clear h
  cases op with
  | move x => simp only [opD, hx x (by simp [Op.operands])]
  | assign x => simp only [opD, hx x (by simp [Op.operands])]
  | pick c a b => simp only [opD, hx c (by simp [Op.operands]), hx a (by simp [Op.operands]), hx b (by simp [Op.operands])]
  | alloc t => rfl
  | box t x => simp only [opD, hx x (by simp [Op.operands])]
  | build t p =>
    have e : (p.toList.map fun p => (p.1, ev ⟨f, σ⟩ p.2)) = (p.toList.map fun p => (p.1, ev ⟨f', σ⟩ p.2)) := List.map_congr_left fun q hq => by rw [hx q.2 (by simp [Op.operands]; exact ⟨q.1, by simpa using hq⟩)]
    simp only [opD, e]
  | buildSlice t n p =>
    have e : (p.toList.map fun p => (p.1, ev ⟨f, σ⟩ p.2)) = (p.toList.map fun p => (p.1, ev ⟨f', σ⟩ p.2)) := List.map_congr_left fun q hq => by rw [hx q.2 (by simp [Op.operands]; exact ⟨q.1, by simpa using hq⟩)]
    simp only [opD, e]
  | load t x => simp only [opD, hx x (by simp [Op.operands])]
  | store t x v => simp only [opD, hx x (by simp [Op.operands]), hx v (by simp [Op.operands])]
  | nilCheck x => simp only [opD, hx x (by simp [Op.operands])]
  | binOp o t x y u => simp only [opD, hx x (by simp [Op.operands]), hx y (by simp [Op.operands])]
  | unOp o t x => simp only [opD, hx x (by simp [Op.operands])]
  | convert a b x => simp only [opD, hx x (by simp [Op.operands])]
  | makeFunc fn fi ca =>
    have e : opsAV ⟨f, σ⟩ ca = opsAV ⟨f', σ⟩ ca := opsAV_same fun x h => hx x (by simp [Op.operands]; exact .inr (by simpa using h))
    simp only [opD, e]
  | makeMap t r => rfl
  | slice t x lo hi mx =>
    have e1 : lo.map (ev ⟨f, σ⟩) = lo.map (ev ⟨f', σ⟩) := by
      cases lo with
      | none => rfl
      | some y => simp only [Option.map_some, hx y (by simp [Op.operands])]
    have e2 : hi.map (ev ⟨f, σ⟩) = hi.map (ev ⟨f', σ⟩) := by
      cases hi with
      | none => rfl
      | some y => simp only [Option.map_some, hx y (by simp [Op.operands])]
    have e3 : mx.map (ev ⟨f, σ⟩) = mx.map (ev ⟨f', σ⟩) := by
      cases mx with
      | none => rfl
      | some y => simp only [Option.map_some, hx y (by simp [Op.operands])]
    simp only [opD, hx x (by simp [Op.operands]), e1, e2, e3]
  | fieldAddr t x i => simp only [opD, hx x (by simp [Op.operands])]
  | field t x i => simp only [opD, hx x (by simp [Op.operands])]
  | indexAddr t x i => simp only [opD, hx x (by simp [Op.operands]), hx i (by simp [Op.operands])]
  | index t x i => simp only [opD, hx x (by simp [Op.operands]), hx i (by simp [Op.operands])]
  | lookup t m k c => simp only [opD, hx m (by simp [Op.operands]), hx k (by simp [Op.operands])]
  | mapUpdate t m k v => simp only [opD, hx m (by simp [Op.operands]), hx k (by simp [Op.operands]), hx v (by simp [Op.operands])]
  | extract x i => simp only [opD, hx x (by simp [Op.operands])]
  | call c =>
    obtain ⟨cal, as, ts⟩ := c
    have e : opsAV ⟨f, σ⟩ as = opsAV ⟨f', σ⟩ as := opsAV_same fun x h => hx x (by
      have : x ∈ as := by simpa using h
      cases cal <;> simp [Op.operands, Call.operands, this])
    cases cal with
    | value x => simp only [opD, e, hx x (by simp [Op.operands, Call.operands])]
    | builtin b => simp only [opD, e]
    | _ => rfl
  | _ => rfl

/-! ### One step, slots and memory apart -/
def actM (te : TE) (K : KT) (f : Nat → AV) (o : MOp) : GF := match o.g with
  | none => fun σ => opD te K ⟨f, σ⟩ o.op
  | some (t, b) => match f t with
    | .bool x => if x = b then fun σ => opD te K ⟨f, σ⟩ o.op else fun σ => some (.tup [], σ)
    | .tup [] => fun σ => some (.tup [], σ)
    | _ => fun _ => none
theorem stepM_act (f : Nat → AV) (σ : List LObj) (o : MOp) : stepM te K ⟨f, σ⟩ o = (actM te K f o σ).bind fun r => some (St.put ⟨f, r.2⟩ o.dst r.1) := by
  unfold stepM actM
  cases o.g with
  | none => rfl
  | some p =>
    obtain ⟨t, b⟩ := p
    simp only
    cases f t with
    | bool x => by_cases h : x = b <;> simp [h, runM]
    | tup vs => cases vs <;> rfl
    | _ => rfl
theorem has_act (f : Nat → AV) (o : MOp) : Has (clsOp K o.op) (actM te K f o) := by
  unfold actM
  cases o.g with
  | none => exact has_op f o.op
  | some p =>
    obtain ⟨t, b⟩ := p
    simp only
    cases f t with
    | bool x =>
      by_cases h : x = b
      · simp only [h, if_true]; exact has_op f o.op
      · simp only [h, if_false]; exact Pur.has ⟨some (.tup []), fun σ => rfl⟩
    | tup vs =>
      cases vs with
      | nil => exact Pur.has ⟨some (.tup []), fun σ => rfl⟩
      | cons => exact Pur.has ⟨none, fun σ => rfl⟩
    | _ => exact Pur.has ⟨none, fun σ => rfl⟩
def looksM (o : MOp) : List Nat := (match o.g with | some (t, _) => [t] | none => []) ++ opTmps o.op
theorem act_same {f f' : Nat → AV} {o : MOp} (h : ∀ t ∈ looksM o, f t = f' t) : actM te K f o = actM te K f' o := by
  have h2 : ∀ t ∈ opTmps o.op, f t = f' t := fun t ht => h t (by simp [looksM, ht])
  have e : (fun σ => opD te K ⟨f, σ⟩ o.op) = fun σ => opD te K ⟨f', σ⟩ o.op := by
    funext σ
    exact opD_same h2
  unfold actM
  cases hg : o.g with
  | none => exact e
  | some p =>
    obtain ⟨t, b⟩ := p
    have ht : f t = f' t := h t (by simp [looksM, hg])
    simp only [ht, e]
def putF (f : Nat → AV) (d : Option Nat) (v : AV) : Nat → AV := match d with | some d => upd f d v | none => f
theorem put_eq (f : Nat → AV) (σ : List LObj) (d : Option Nat) (v : AV) : St.put ⟨f, σ⟩ d v = ⟨putF f d v, σ⟩ := by cases d <;> rfl
def apartM (x y : MOp) : Bool :=
  (match x.dst with
   | some d => !(looksM y).contains d && y.dst != some d
   | none => true) &&
  (match y.dst with
   | some d => !(looksM x).contains d
   | none => true)
def comM (K : KT) (x y : MOp) : Bool := apartM x y && commB (clsOp K x.op) (clsOp K y.op)
theorem putF_look {f : Nat → AV} {d : Option Nat} {v : AV} {l : List Nat} (h : ∀ e, d = some e → e ∉ l) : ∀ t ∈ l, putF f d v t = f t := by
  intro t ht
  cases d with
  | none => rfl
  | some e =>
    have : t ≠ e := fun h' => h e rfl (h' ▸ ht)
    simp [putF, upd, this]
/-- Two neighbours change places. -/
theorem swap {x y : MOp} (h : comM K x y = true) {s s1 s2 : St} (h1 : stepM te K s x = some s1) (h2 : stepM te K s1 y = some s2) : ∃ t, stepM te K s y = some t ∧ stepM te K t x = some s2 := by
  simp only [comM, Bool.and_eq_true] at h
  obtain ⟨hap, hc⟩ := h
  have a1 : ∀ e, x.dst = some e → e ∉ looksM y := fun e he => by
    simp [apartM, he] at hap; exact hap.1.1
  have a2 : ∀ e, x.dst = some e → y.dst ≠ some e := fun e he => by
    simp [apartM, he] at hap; exact hap.1.2
  have a3 : ∀ e, y.dst = some e → e ∉ looksM x := fun e he => by
    simp [apartM, he] at hap; exact hap.2
  obtain ⟨f, σ⟩ := s
  rw [stepM_act] at h1
  obtain ⟨⟨r1, σ1⟩, g1, e1⟩ := Option.bind_eq_some_iff.1 h1
  simp only [put_eq, Option.some.injEq] at e1
  subst e1
  rw [stepM_act, act_same (putF_look a1)] at h2
  obtain ⟨⟨r2, σ2⟩, g2, e2⟩ := Option.bind_eq_some_iff.1 h2
  simp only [put_eq, Option.some.injEq] at e2
  subst e2
  obtain ⟨τ, k1, k2⟩ := comm_heap (has_act f x) (has_act f y) hc g1 g2
  refine ⟨⟨putF f y.dst r2, τ⟩, by rw [stepM_act, k1]; simp [put_eq], ?_⟩
  rw [stepM_act, act_same (putF_look a3), k2]
  simp only [Option.bind_some, put_eq, Option.some.injEq, St.mk.injEq, and_true]
  funext t
  cases hx : x.dst with
  | none => rfl
  | some d =>
    cases hy : y.dst with
    | none => rfl
    | some e =>
      have hne : ¬ e = d := fun h' => a2 d hx (by rw [hy, h'])
      simp only [putF, upd]
      by_cases t1 : t = d
      · have : ¬ t = e := fun h' => hne (by rw [← h', t1])
        simp [t1]
        intro h'; exact absurd h'.symm hne
      · simp [t1]
theorem runOps_append (l m : List MOp) (s : St) : runOps te K (l ++ m) s = (runOps te K l s).bind fun t => runOps te K m t := by
  induction l generalizing s with
  | nil => rfl
  | cons o l ih =>
    simp only [List.cons_append, runOps]
    cases stepM te K s o with
    | none => rfl
    | some t => exact ih t
/-- One goes to the front. -/
theorem toFront {y : MOp} : ∀ {l : List MOp} {m : List MOp} {s t : St}, (∀ x ∈ l, comM K x y = true) → runOps te K (l ++ y :: m) s = some t → ∃ u, stepM te K s y = some u ∧ runOps te K (l ++ m) u = some t
  | [], m, s, t, _, h => by
    obtain ⟨u, h1, h2⟩ := Option.bind_eq_some_iff.1 h
    exact ⟨u, h1, h2⟩
  | x :: l, m, s, t, hc, h => by
    obtain ⟨s1, h1, h2⟩ := Option.bind_eq_some_iff.1 h
    obtain ⟨u, h3, h4⟩ := toFront (fun z hz => hc z (by simp [hz])) h2
    obtain ⟨v, h5, h6⟩ := swap (hc x (by simp)) h1 h3
    exact ⟨v, h5, by simp only [List.cons_append, runOps, h6]; exact h4⟩
end Go.Vi
