/- Contracts from bodies. -/
import Derived.Test.YtmobgcpamblhhaaViBody
set_option linter.unusedVariables false
set_option linter.unusedSimpArgs false
namespace Go.Vi

def retV : List AV → AV
  | [v] => v
  | l => .tup l

section
variable {P : Program} {te : TE} {K : KT} {W0 : World} {X : Nat → Prop} {ok0 : CellOk} {loc0 : Loc} {nt n0 : Nat} {fr : List Nat} {s s' : St} {a : Act} {w : World} {ok : CellOk} {loc : Loc} {Q : List AV → List LObj → Prop}

theorem load_var {t : TypeId} {v r : Value} (h : (Instr.loadAt t v).run P w = .ok r w) : (do loadVar t (← asAddr v) : Sem Value).run P w = .ok r w := by
  cases v with
  | pointer p =>
    cases p with
    | none => simp [Instr.loadAt, Instr.sureAddr] at h
    | some b => simpa [Instr.loadAt, Instr.sureAddr, asAddr] using h
  | _ => simp [Instr.loadAt, Instr.sureAddr] at h

def resOne (a : Act) : ResultVar → Sem Value
  | .tmp t => pure (a.tmps.getD t undef)
  | .cell b t => do loadVar t (← asAddr (a.tmps.getD b undef))
theorem ret_list (hte : TEOK P te) (h : Inv W0 X ok0 nt s a w ok loc) : ∀ (rs : List ResultVar) (l : List AV), retD te s rs = some l →
    ∃ vs : List Value, (rs.mapM (resOne a)).run P w = .ok vs w ∧ vs.length = l.length ∧ ∀ (j : Nat) (x : AV) (v : Value), l[j]? = some x → vs[j]? = some v → VRel w ok loc x v := by
  intro rs
  induction rs with
  | nil => intro l hl; simp [retD] at hl; subst hl; exact ⟨[], by simp, rfl, fun j x v hx => by simp at hx⟩
  | cons r rs ih =>
    intro l hl
    have key : ∀ {x : AV} {l' : List AV} {v : Value}, retD te s rs = some l' → l = x :: l' → (resOne a r).run P w = .ok v w → VRel w ok loc x v →
        ∃ vs : List Value, ((r :: rs).mapM (resOne a)).run P w = .ok vs w ∧ vs.length = l.length ∧ ∀ (j : Nat) (x : AV) (v : Value), l[j]? = some x → vs[j]? = some v → VRel w ok loc x v := by
      intro x l' v h1 h2 h3 h4
      obtain ⟨vs, h5, h6, h7⟩ := ih l' h1
      refine ⟨v :: vs, by simp [List.mapM_cons, Sem.run_bind, h3, h5], by simp [h2, h6], fun j y u hy hu => ?_⟩
      subst h2
      cases j with
      | zero => simp at hy hu; subst hy hu; exact h4
      | succ j => simp at hy hu; exact h7 j y u hy hu
    cases r with
    | tmp t =>
      simp only [retD] at hl
      cases h1 : retD te s rs with
      | none => simp [h1] at hl
      | some l' =>
        simp [h1] at hl
        exact key h1 hl.symm (by simp [resOne]) (h.slots t)
    | cell b t =>
      simp only [retD] at hl
      cases h0 : loadD te s.σ t (s.slots b) with
      | none => simp [h0] at hl
      | some x =>
        cases h1 : retD te s rs with
        | none => simp [h0, h1] at hl
        | some l' =>
          simp [h0, h1] at hl
          obtain ⟨v, hv, hr⟩ := loadD_sound hte h.own (h.slots b) h0
          exact key h1 hl.symm (load_var hv) hr
theorem ret_sound (hte : TEOK P te) (h : Inv W0 X ok0 nt s a w ok loc) {fn : Func} {l : List AV} (hl : retD te s fn.results.toList = some l) :
    ∃ v, (results fn a.tmps).run P w = .ok v w ∧ VRel w ok loc (retV l) v := by
  obtain ⟨vs, h1, h2, h3⟩ := ret_list hte h _ l hl
  have e : (fn.results.mapM (resOne a)).run P w = .ok vs.toArray w := by
    rw [Array.mapM_eq_mapM_toList, Sem.run_map, h1]
    rfl
  have e2 : (results fn a.tmps).run P w = .ok (if h : vs.toArray.size = 1 then vs.toArray[0] else .tuple vs.toArray) w := by
    have e3 : results fn a.tmps = (fn.results.mapM (resOne a) >>= fun vs => pure (if h : vs.size = 1 then vs[0] else .tuple vs)) := rfl
    rw [e3, Sem.run_bind, e]
    simp
  refine ⟨_, e2, ?_⟩
  by_cases h1 : vs.length = 1
  · match vs, l, h1, h2, h3 with
    | [v], [x], _, _, h3 => simpa [retV] using h3 0 x v rfl rfl
  · have hl1 : retV l = .tup l := by
      match l, h2 with
      | [], _ => rfl
      | [x], h2 => exact absurd (by simpa using h2) h1
      | x :: y :: l, _ => rfl
    have : ¬ vs.toArray.size = 1 := by simpa using h1
    rw [dif_neg this, hl1]
    exact .tup l vs.toArray (by simp [h2]) fun j x v hx hv => h3 j x v hx (by simpa using hv)

def argS (args : List AV) : Nat → AV := fun t => args.getD t (.tup [])
/-- At the start of a body. -/
theorem args_slots {fn : Func} {args : List AV} {vs : Array Value} (hA : Args (VRel w ok loc) args vs) (t : Nat) : VRel w ok loc (argS args t) ((vs ++ Array.replicate (fn.ntmps - vs.size) undef).getD t undef) := by
  have hu : VRel w ok loc (.tup []) undef := .tup [] #[] rfl fun j x v hx => by simp at hx
  unfold argS
  rw [List.getD_eq_getElem?_getD, Array.getD_eq_getD_getElem?]
  rcases Nat.lt_or_ge t args.length with hlt | hge
  · have h1 : vs[t]? = some (vs[t]'(by rw [hA.len]; exact hlt)) := Array.getElem?_eq_getElem _
    rw [Array.getElem?_append_left (by rw [hA.len]; exact hlt), h1, List.getElem?_eq_getElem hlt]
    exact hA.rel t _ _ (List.getElem?_eq_getElem hlt) h1
  · rw [List.getElem?_eq_none hge, Array.getElem?_append_right (by rw [hA.len]; exact hge)]
    simp only [Option.getD_none]
    rw [Array.getElem?_replicate]
    split <;> exact hu

/-- What a function that only computes answers. -/
def deepR (σ : List LObj) (l : List AV) : Option AV := match l with
  | [v] => deepA σ v
  | l => (deepAs σ l).bind fun ds => some (.tup ds)

theorem pure_of_ex (hm : P.follows .mixedOrders = true) (hte : TEOK P te) (hK : KSound P K) {f : FuncId} {fn : Func} {c : Code} (hf : P.funcs[f]? = some fn) (hb : fn.body = some c) (hc : codeOK K fr fn.ntmps c = true) {F : List AV → Option AV}
    (h : ∀ args r, F args = some r → args.length ≤ fn.ntmps ∧ Ex te K fn.results.toList 0 (fun l σ => deepR σ l = some r) [.code (mcF fr c)] ⟨argS args, []⟩) : PureC P f F := by
  intro args r hr w ok vs hbd hA
  obtain ⟨hlen, hex⟩ := h args r hr
  have hnt : (vs ++ Array.replicate (fn.ntmps - vs.size) undef).size = fn.ntmps := by
    have := hA.len
    simp
    omega
  refine calls_of_wp hf hb fun b k cs => ?_
  have hA' : Args (VRel w ok fun _ => none) args vs := ⟨hA.len, fun j x v hx hv => .deep _ _ (hA.rel j x v hx hv)⟩
  have hJ : J w (fun _ => False) ok (fun _ => none) fn.ntmps ⟨argS args, []⟩ { tmps := vs ++ Array.replicate (fn.ntmps - vs.size) undef, defers := [] } w :=
    ⟨ok, fun _ => none, ⟨.refl _ _, fun b o _ h => .inl h, fun _ _ h => h, ⟨fun i o hi => by simp at hi, fun i o b hi => by simp at hi, fun i j oi oj b hi => by simp at hi, fun _ _ => rfl, hbd, fun i b hb => (by cases hb)⟩, fun i b hb => (by cases hb), fun t => args_slots hA' t, rfl, hnt⟩, .refl _ _ _⟩
  obtain ⟨e, a', w', ⟨he, s', l, hl, hq, ok', loc', hI, hE⟩, harr⟩ := Ex.sound (fr := fr) hm hte hK (fun i b hb => (by cases hb)) hex [.code c] (by simp [mi]) (by simp [itemOK, hc]) _ w hJ b k cs
  obtain ⟨v, hv, hrel⟩ := ret_sound hte hI hl
  have hpost : ∃ rv, Ending.returned v = .returned rv ∧ Fr w w' (fun _ => False) ∧ VDeep w' (fun b o => ok b o ∨ (w.heap.size ≤ b ∧ b < w'.heap.size)) r rv := by
    refine ⟨v, rfl, hI.fr, ?_⟩
    have hw : ∀ x k, ok' x k → ok x k ∨ (w.heap.size ≤ x ∧ x < w'.heap.size) := fun x k hk => by
      rcases Nat.lt_or_ge x w.heap.size with hlt | hge
      · rcases hI.okold x k hlt hk with h1 | h1
        · exact .inl h1
        · exact h1.elim
      · exact .inr ⟨hge, hI.own.bd x k hk⟩
    have hg : ∀ o, Given w' loc' s'.σ (fun b o => ok b o ∨ (w.heap.size ≤ b ∧ b < w'.heap.size)) o := fun o =>
      ⟨fun z xs b _ hb k _ => .inr ⟨(hI.lnew o b hb).resolve_right id, hI.own.lbd o b hb⟩, fun es b _ hb => .inr ⟨(hI.lnew o b hb).resolve_right id, hI.own.lbd o b hb⟩⟩
    have hs : s' = ⟨s'.slots, s'.σ⟩ := rfl
    match l, hq, hrel with
    | [x], hq, hrel => exact deepA_sound hI.own hw hrel hq fun o _ => hg o
    | [], hq, hrel =>
      simp [deepR, deepAs] at hq
      subst hq
      obtain ⟨us, hu, hul, _⟩ := inv_tup hrel
      rw [hu]
      exact .tup [] us hul fun j x v hx => by simp at hx
    | x :: y :: l, hq, hrel =>
      cases hds : deepAs s'.σ (x :: y :: l) with
      | none => simp [deepR, hds] at hq
      | some ds =>
        simp only [deepR, hds, Option.bind_some, Option.some.injEq] at hq
        subst hq
        obtain ⟨us, hu, hul, hur⟩ := inv_tup hrel
        obtain ⟨hdl, hget⟩ := deepAs_get hds
        rw [hu]
        refine .tup ds us (by rw [hul, hdl]) fun j d v hd hv => ?_
        obtain ⟨z, hz, hzd⟩ := hget j d hd
        exact deepA_sound hI.own hw (hur j z v hz hv) hzd fun o _ => hg o
  rcases he with rfl | rfl
  · exact ⟨.normal, a', w', ⟨hI.defers, v, hv, hpost⟩, harr⟩
  · exact ⟨.ret, a', w', ⟨hI.defers, v, hv, hpost⟩, harr⟩

/-- What a function that turns things leaves. -/
structure QE (n0 : Nat) (r : AV) (objs' : List LObj) (l : List AV) (σ : List LObj) : Prop where
  res : retV l = r
  len : n0 ≤ objs'.length
  σ : objs' = σ.take objs'.length
  objs : (objs'.all (idLtO objs'.length)) = true
  ids : idLtB objs'.length r = true

theorem eff_of_ex (hm : P.follows .mixedOrders = true) (hte : TEOK P te) (hK : KSound P K) {f : FuncId} {fn : Func} {c : Code} (hf : P.funcs[f]? = some fn) (hb : fn.body = some c) (hc : codeOK K fr fn.ntmps c = true) {F : List AV → List LObj → Option (AV × List LObj)}
    (h : ∀ args objs r objs', F args objs = some (r, objs') → args.length ≤ fn.ntmps ∧ Ex te K fn.results.toList objs.length (QE objs.length r objs') [.code (mcF fr c)] ⟨argS args, objs⟩) : EffC P f F := by
  intro args objs r objs' hr w ok loc vs hO hA
  obtain ⟨hlen, hex⟩ := h args objs r objs' hr
  have hnt : (vs ++ Array.replicate (fn.ntmps - vs.size) undef).size = fn.ntmps := by
    have := hA.len
    simp
    omega
  refine calls_of_wp hf hb fun b k cs => ?_
  have hdom : ∀ i b, loc i = some b → i < objs.length := fun i b hb => by
    rcases Nat.lt_or_ge i objs.length with h1 | h1
    · exact h1
    · rw [hO.dom i h1] at hb; cases hb
  have hJ : J w (fun b => ∃ i, loc i = some b) ok loc fn.ntmps ⟨argS args, objs⟩ { tmps := vs ++ Array.replicate (fn.ntmps - vs.size) undef, defers := [] } w :=
    ⟨ok, loc, ⟨.refl _ _, fun b o _ h => .inl h, fun _ _ h => h, hO, fun i b hb => .inr ⟨i, hb⟩, fun t => args_slots hA t, rfl, hnt⟩, .refl _ _ _⟩
  obtain ⟨e, a', w', ⟨he, s', l, hl, hq, ok', loc', hI, hE⟩, harr⟩ := Ex.sound (fr := fr) hm hte hK hdom hex [.code c] (by simp [mi]) (by simp [itemOK, hc]) _ w hJ b k cs
  obtain ⟨v, hv, hrel⟩ := ret_sound hte hI hl
  have hobjs : ∀ o ∈ objs', idLtO objs'.length o = true := fun o ho => List.all_eq_true.1 hq.objs o ho
  have hpost : ∃ rv ok' loc', Ending.returned v = .returned rv ∧ EffPost w ok loc objs.length r objs' rv w' ok' loc' := by
    refine ⟨v, ok', cutL objs'.length loc', rfl, ⟨hI.fr, hE.cut fun i b hb => Nat.lt_of_lt_of_le (hdom i b hb) hq.len, hI.okold, fun i b hb => hI.lnew i b (cutL_some hb).2, hI.own.cut hq.σ hobjs, ?_⟩⟩
    have := hq.res
    rw [this] at hrel
    exact hrel.ltB (fun i hi => cutL_lt i hi) hq.ids
  rcases he with rfl | rfl
  · exact ⟨.normal, a', w', ⟨hI.defers, v, hv, hpost⟩, harr⟩
  · exact ⟨.ret, a', w', ⟨hI.defers, v, hv, hpost⟩, harr⟩
end
end Go.Vi
