/- One operation, over the machine. -/
import Derived.Test.YtmobgcpamblhhaaViEff
set_option linter.unusedVariables false
set_option linter.unusedSimpArgs false
namespace Go.Vi

def FnOK (P : Program) (f : FuncId) : Prop := ∃ fn c, P.funcs[f]? = some fn ∧ fn.body = some c ∧ fn.name ≠ "runtime.NumGoroutine"
def KSound (P : Program) (K : KT) : Prop := ∀ f, match K f with
  | .none => True
  | .pure F => FnOK P f ∧ PureC P f F
  | .eff F => FnOK P f ∧ EffC P f F

section
variable {P : Program} {te : TE} {K : KT} {W0 : World} {X : Nat → Prop} {ok0 : CellOk} {nt : Nat} {s : St} {a : Act} {w : World} {ok : CellOk} {loc : Loc} {v : Value}

theorem run_callFunc {f : FuncId} (hf : FnOK P f) (args : Array Value) : (callFunc f args).run P w = .ok (.enter f args) w := by
  obtain ⟨fn, c, h1, h2, h3⟩ := hf
  simp [callFunc, h1, h2, h3]

theorem ev_cst (c : Value) : VRel w ok loc (cst c) c := by
  have leaf : ∀ c : Value, VRel w ok loc (cstLeaf c) c := by
    intro c
    unfold cstLeaf
    split
    · exact .mkBool _
    · exact .mkInt _ _
    · exact .mkStr _
    · exact .deep _ _ .ptr
    · exact .deep _ _ (.emp _ _ _ _ (fun _ => rfl))
    · exact .deep _ _ .mp
    · exact .deep _ _ .nilfn
    · exact .deep _ _ .nilif
    · exact .junk _
  unfold cst
  split
  · rename_i vs
    refine .agg _ _ (by simp) fun j x v hx hv => ?_
    rw [List.getElem?_map] at hx
    have hv' : vs.toList[j]? = some v := by simpa using hv
    rw [hv'] at hx
    simp at hx
    subst hx
    exact leaf v
  · exact leaf c
theorem ev_rel (h : Inv W0 X ok0 nt s a w ok loc) (x : Operand) : VRel w ok loc (ev s x) (a.eval x) := by
  cases x with
  | tmp t => exact h.slots t
  | const c => exact ev_cst c
  | global g => exact .junk _
  | func f => exact .deep _ _ (.fn f [] #[] rfl (fun j x v hx => by simp at hx))
theorem ev_args (h : Inv W0 X ok0 nt s a w ok loc) (xs : Array Operand) : Args (VRel w ok loc) (opsAV s xs) (xs.map a.eval) := by
  refine ⟨by simp [opsAV], fun j x v hx hv => ?_⟩
  unfold opsAV at hx
  rw [List.getElem?_map] at hx
  rw [Array.getElem?_map] at hv
  have e : xs.toList[j]? = xs[j]? := by simp
  rw [e] at hx
  cases ho : xs[j]? with
  | none => simp [ho] at hx
  | some o =>
    simp [ho] at hx hv
    subst hx; subst hv
    exact ev_rel h o
theorem ev_opt (h : Inv W0 X ok0 nt s a w ok loc) (x : Option Operand) : ORelO w ok loc (x.map (ev s)) (x.map a.eval) := by
  cases x with
  | none => exact trivial
  | some x => exact ev_rel h x

theorem minD_sound {mx : Bool} {xs : List AV} {vs : Array Value} (hv : Args (VRel w ok loc) xs vs) {r : AV} (h : minD mx xs = some r) (ts : Array TypeId) (t : TypeId) : ∃ rv, ((if mx = true then Builtin.max_ ts t vs else Builtin.min_ ts t vs) : Sem Value).run P w = .ok rv w ∧ VRel w ok loc r rv := by
  have go : ∀ (ys : List AV) (k : IntKind) (x : Int) (us : List Value) (r : AV), us.length = ys.length → (∀ (j : Nat) (y : AV) (u : Value), ys[j]? = some y → us[j]? = some u → VRel w ok loc y u) →
      minGo mx k x ys = some r → ∃ rv, (us.foldlM (if mx = true then Builtin.max2 else Builtin.min2) (.int k x)).run P w = .ok rv w ∧ VRel w ok loc r rv := by
    intro ys
    induction ys with
    | nil => intro k x us r hl _ h; cases us with | nil => simp [minGo] at h; subst h; exact ⟨_, by simp, .mkInt _ _⟩ | cons => simp at hl
    | cons y ys ih =>
      intro k x us r hl hu h
      cases us with
      | nil => simp at hl
      | cons u us =>
        cases y with
        | int k' m =>
          have hum := inv_int (hu 0 _ u rfl rfl)
          subst hum
          simp only [minGo] at h
          obtain ⟨rv, h1, h2⟩ := ih k _ us r (by simpa using hl) (fun j y u hy hu' => hu (j + 1) y u (by simpa using hy) (by simpa using hu')) h
          refine ⟨rv, ?_, h2⟩
          cases mx
          · simp only [List.foldlM_cons, Bool.false_eq_true, if_false, Builtin.min2, Sem.run_bind, Sem.run_pure, Result.andThen_ok] at h1 ⊢
            exact h1
          · simp only [List.foldlM_cons, if_true, Builtin.max2, Sem.run_bind, Sem.run_pure, Result.andThen_ok, gt_iff_lt] at h1 ⊢
            exact h1
        | _ => simp [minGo] at h
  unfold minD at h
  split at h
  · rename_i k x rest
    obtain ⟨l1, l2⟩ := hv
    have hvs : ∃ us, vs = (Value.int k x :: us).toArray ∧ us.length = rest.length := by
      obtain ⟨l⟩ := vs
      cases l with
      | nil => simp at l1
      | cons u us =>
        have := inv_int (l2 0 _ u rfl rfl)
        subst this
        exact ⟨us, rfl, by simpa using l1⟩
    obtain ⟨us, rfl, hul⟩ := hvs
    obtain ⟨rv, h1, h2⟩ := go rest k x us r hul (fun j y u hy hu => l2 (j + 1) y u (by simpa using hy) (by simpa using hu)) h
    refine ⟨rv, ?_, h2⟩
    cases mx <;> simpa [Builtin.min_, Builtin.max_] using h1
  · cases h

theorem callD_sound (hK : KSound P K) (h : Inv W0 X ok0 nt s a w ok loc) {f : FuncId} {args : List AV} {vs : Array Value} (hv : Args (VRel w ok loc) args vs) {r : AV} {σ' : List LObj} (hd : callD K s.σ f args = some (r, σ')) :
    FnOK P f ∧ Calls P f vs w fun e w' => ∃ rv ok' loc', e = .returned rv ∧ Ext w ok loc w' ok' loc' ∧ Inv W0 X ok0 nt ⟨s.slots, σ'⟩ a w' ok' loc' ∧ VRel w' ok' loc' r rv := by
  unfold callD at hd
  have hKf := hK f
  cases hk : K f with
  | none => simp [hk] at hd
  | pure F =>
    rw [hk] at hKf
    simp only [hk] at hd
    cases has : deepAs s.σ args with
    | none => simp [has] at hd
    | some as =>
      cases hF : F as with
      | none => simp [has, hF] at hd
      | some r' =>
        simp [has, hF] at hd
        obtain ⟨rfl, rfl⟩ := hd
        refine ⟨hKf.1, (pure_call hKf.2 h hv has hF).mono ?_⟩
        rintro e w' ⟨rv, ok', h1, h2, h3, h4⟩
        exact ⟨rv, ok', loc, h1, h2, h3, h4⟩
  | eff F =>
    rw [hk] at hKf
    simp only [hk] at hd
    exact ⟨hKf.1, eff_call hKf.2 h hv (foot_nodup _ _) hd⟩

theorem orel_opt (h : Inv W0 X ok0 nt s a w ok loc) (x : Option Operand) : ORelO w ok loc (x.map (ev s)) (x.map a.eval) := by
  cases x with
  | none => trivial
  | some x => exact ev_rel h x
theorem ORelO.mono {w' : World} {ok' : CellOk} {loc' : Loc} (e : Ext w ok loc w' ok' loc') {x : Option AV} {y : Option Value} (h : ORelO w ok loc x y) : ORelO w' ok' loc' x y := by
  cases x <;> cases y <;> first | exact VRel.mono e h | exact h
theorem sl3D_gives (hte : TEOK P te) (h : Inv W0 X ok0 nt s a w ok loc) {t : TypeId} {x : AV} {lo hi mx : Option AV} {vx : Value} {vlo vhi vmx : Option Value} (hx : VRel w ok loc x vx) (h1 : ORelO w ok loc lo vlo) (h2 : ORelO w ok loc hi vhi) (h3 : ORelO w ok loc mx vmx)
    {r : AV} {σ' : List LObj} (hd : sl3D te s.σ t x lo hi mx = some (r, σ')) : Gives P W0 X ok0 nt s a w ok loc (Instr.sliceAt t vx vlo vhi vmx) r σ' := by
  have plain : (sliceD te t x lo hi mx).bind (fun v => some (v, s.σ)) = some (r, σ') → Gives P W0 X ok0 nt s a w ok loc (Instr.sliceAt t vx vlo vhi vmx) r σ' := by
    intro hq
    obtain ⟨v, hv, e⟩ := Option.bind_eq_some_iff.1 hq
    simp at e
    obtain ⟨rfl, rfl⟩ := e
    obtain ⟨rv, hr, hrel⟩ := sliceD_sound hte hx h1 h2 h3 hv
    exact ⟨rv, w, ok, loc, hr, .refl _ _ _, h, hrel⟩
  unfold sl3D at hd
  split at hd
  · rename_i o z off len m
    obtain ⟨y, hy, hd⟩ := Option.bind_eq_some_iff.1 hd
    obtain ⟨v, hv, e⟩ := Option.bind_eq_some_iff.1 hd
    simp at e
    obtain ⟨rfl, rfl⟩ := e
    obtain ⟨ok', hw, hI, hg⟩ := h.frzO o
    have e1 : Ext w ok loc w ok' loc := Ext.wider hw
    have hdeep : VDeep w ok' y vx := deepC_sound h.own hw hx hy (fun o' ho' => by simp [idC] at ho'; subst ho'; exact hg)
    obtain ⟨rv, hr, hrel⟩ := sliceD_sound hte (.deep _ _ hdeep) (h1.mono e1) (h2.mono e1) (h3.mono e1) hv
    exact ⟨rv, w, ok', loc, hr, e1, hI, hrel⟩
  · exact plain hd

theorem wp_of_run {o : Oper} {m : Sem Value} (hm : execOp a.eval o = (do pure (Next.value (← m)))) {r : AV} {σ' : List LObj} (hg : Gives P W0 X ok0 nt s a w ok loc m r σ') {next : Act → World → Prop} {Q : Exit → Act → World → Prop}
    (hn : ∀ v w' ok' loc', Ext w ok loc w' ok' loc' → Inv W0 X ok0 nt ⟨s.slots, σ'⟩ a w' ok' loc' → VRel w' ok' loc' r v → next (a.put o.dst v) w') : o.wp P a w next Q := by
  obtain ⟨v, w', ok', loc', h1, h2, h3, h4⟩ := hg
  unfold Oper.wp
  rw [hm]
  simp only [Sem.run_bind, h1, Result.andThen_ok, Sem.run_pure, Oper.upon_value]
  exact hn v w' ok' loc' h2 h3 h4
theorem wp_of_runU {o : Oper} {m : Sem Unit} (hm : execOp a.eval o = (do m; pure Next.skip)) {σ' : List LObj} (hg : GivesU P W0 X ok0 nt s a w ok loc m σ') {next : Act → World → Prop} {Q : Exit → Act → World → Prop}
    (hn : ∀ v w' ok' loc', Ext w ok loc w' ok' loc' → Inv W0 X ok0 nt ⟨s.slots, σ'⟩ a w' ok' loc' → VRel w' ok' loc' .junk v → next (a.put o.dst v) w') : o.wp P a w next Q := by
  obtain ⟨w', ok', loc', h1, h2, h3⟩ := hg
  unfold Oper.wp
  rw [hm]
  simp only [Sem.run_bind, h1, Result.andThen_ok, Sem.run_pure, Oper.upon_skip]
  exact hn undef w' ok' loc' h2 h3 (.junk _)
theorem wp_of_value {o : Oper} {m : Sem Value} (hm : execOp a.eval o = (do pure (Next.value (← m)))) (h : Inv W0 X ok0 nt s a w ok loc) {r : AV} (hr : ∃ v, m.run P w = .ok v w ∧ VRel w ok loc r v) {next : Act → World → Prop} {Q : Exit → Act → World → Prop}
    (hn : ∀ v w' ok' loc', Ext w ok loc w' ok' loc' → Inv W0 X ok0 nt ⟨s.slots, s.σ⟩ a w' ok' loc' → VRel w' ok' loc' r v → next (a.put o.dst v) w') : o.wp P a w next Q :=
  wp_of_run hm (Gives.value h hr) hn

theorem parts_rel (h : Inv W0 X ok0 nt s a w ok loc) (parts : Array (Nat × Operand)) : ((parts.map fun (i, x) => (i, a.eval x)).toList.length = (parts.toList.map fun p => (p.1, ev s p.2)).length) ∧
    ∀ (j : Nat) (p : Nat × AV) (q : Nat × Value), (parts.toList.map fun p => (p.1, ev s p.2))[j]? = some p → (parts.map fun (i, x) => (i, a.eval x)).toList[j]? = some q → p.1 = q.1 ∧ VRel w ok loc p.2 q.2 := by
  refine ⟨by simp, fun j p q hp hq => ?_⟩
  rw [List.getElem?_map] at hp
  rw [Array.toList_map, List.getElem?_map] at hq
  cases ho : parts.toList[j]? with
  | none => simp [ho] at hp
  | some x =>
    simp [ho] at hp hq
    subst hp; subst hq
    exact ⟨rfl, ev_rel h _⟩

theorem biD_sound (hte : TEOK P te) (h : Inv W0 X ok0 nt s a w ok loc) {o : Oper} {c : Call} {b : Builtin} (ho : o.op = .call c) (hb : c.callee = .builtin b) {r : AV} {σ' : List LObj} (hd : biD te s.σ b (opsAV s c.args) c.argTypes.toList = some (r, σ')) {next : Act → World → Prop} {Q : Exit → Act → World → Prop}
    (hn : ∀ v w' ok' loc', Ext w ok loc w' ok' loc' → Inv W0 X ok0 nt ⟨s.slots, σ'⟩ a w' ok' loc' → VRel w' ok' loc' r v → next (a.put o.dst v) w') : o.wp P a w next Q := by
  obtain ⟨callee, cargs, ctypes⟩ := c
  simp only at hb hd
  subst hb
  unfold biD at hd
  have hA := ev_args h cargs
  split at hd
  · -- len
    rename_i x t rest e1 e2
    obtain ⟨l⟩ := cargs
    have hl : ∃ y, l = [y] ∧ ev s y = x := by
      simp only [opsAV] at e1
      cases l with
      | nil => simp at e1
      | cons y ys => cases ys with | nil => simp at e1; exact ⟨y, rfl, e1⟩ | cons => simp at e1
    obtain ⟨y, rfl, rfl⟩ := hl
    obtain ⟨lt⟩ := ctypes
    simp only at e2
    subst e2
    cases hl : lenD te s.σ t (ev s y) with
    | none => simp [hl] at hd
    | some v =>
      simp [hl] at hd
      obtain ⟨rfl, rfl⟩ := hd
      obtain ⟨rv, h1, h2⟩ := lenD_sound hte h.own o.type (ev_rel h y) hl
      refine wp_of_value (m := Builtin.len_ (t :: rest).toArray o.type #[a.eval y]) ?_ h ⟨rv, ?_, h2⟩ hn
      · simp [execOp, ho, resolve, invoke, builtin]
      · have e : Builtin.len_ (t :: rest).toArray o.type #[a.eval y] = Builtin.len_ #[t] o.type #[a.eval y] := by simp [Builtin.len_]
        rw [e]; exact h1
  · -- append
    rename_i x y t u rest e1 e2
    obtain ⟨l⟩ := cargs
    have hl : ∃ p q, l = [p, q] ∧ ev s p = x ∧ ev s q = y := by
      simp only [opsAV] at e1
      match l, e1 with
      | [p, q], e1 => simp at e1; exact ⟨p, q, rfl, e1.1, e1.2⟩
      | [], e1 => simp at e1
      | [_], e1 => simp at e1
      | _ :: _ :: _ :: _, e1 => simp at e1
    obtain ⟨p, q, rfl, rfl, rfl⟩ := hl
    obtain ⟨lt⟩ := ctypes
    simp only at e2
    subst e2
    have hg := appendD_gives hte h o.type (ev_rel h p) (ev_rel h q) hd
    refine wp_of_run (m := Builtin.append_ (t :: u :: rest).toArray o.type #[a.eval p, a.eval q]) ?_ ?_ hn
    · simp [execOp, ho, resolve, invoke, builtin]
    · have e : Builtin.append_ (t :: u :: rest).toArray o.type #[a.eval p, a.eval q] = Builtin.append_ #[t, u] o.type #[a.eval p, a.eval q] := by simp [Builtin.append_]
      rw [e]; exact hg
  · rename_i xs ts
    cases hm : minD false (opsAV s cargs) with
    | none => simp [hm] at hd
    | some v =>
      simp [hm] at hd
      obtain ⟨rfl, rfl⟩ := hd
      obtain ⟨rv, h1, h2⟩ := minD_sound (P := P) hA hm ctypes o.type
      refine wp_of_value (m := Builtin.min_ ctypes o.type (cargs.map a.eval)) ?_ h ⟨rv, by simpa using h1, h2⟩ hn
      simp [execOp, ho, resolve, invoke, builtin]
  · rename_i xs ts
    cases hm : minD true (opsAV s cargs) with
    | none => simp [hm] at hd
    | some v =>
      simp [hm] at hd
      obtain ⟨rfl, rfl⟩ := hd
      obtain ⟨rv, h1, h2⟩ := minD_sound (P := P) hA hm ctypes o.type
      refine wp_of_value (m := Builtin.max_ ctypes o.type (cargs.map a.eval)) ?_ h ⟨rv, by simpa using h1, h2⟩ hn
      simp [execOp, ho, resolve, invoke, builtin]
  · -- delete
    rename_i x y t rest e1 e2
    obtain ⟨l⟩ := cargs
    have hl : ∃ p q, l = [p, q] ∧ ev s p = x ∧ ev s q = y := by
      simp only [opsAV] at e1
      match l, e1 with
      | [p, q], e1 => simp at e1; exact ⟨p, q, rfl, e1.1, e1.2⟩
      | [], e1 => simp at e1
      | [_], e1 => simp at e1
      | _ :: _ :: _ :: _, e1 => simp at e1
    obtain ⟨p, q, rfl, rfl, rfl⟩ := hl
    obtain ⟨lt⟩ := ctypes
    simp only at e2
    subst e2
    cases hdl : deleteD te s.σ t (ev s p) (ev s q) with
    | none => simp [hdl] at hd
    | some σ1 =>
      simp [hdl] at hd
      obtain ⟨rfl, rfl⟩ := hd
      have hg := deleteD_gives hte h o.type (ev_rel h p) (ev_rel h q) hdl t
      refine wp_of_run (m := Builtin.delete_ (t :: rest).toArray o.type #[a.eval p, a.eval q]) ?_ ?_ hn
      · simp [execOp, ho, resolve, invoke, builtin]
      · have e : Builtin.delete_ (t :: rest).toArray o.type #[a.eval p, a.eval q] = Builtin.delete_ #[t, t] o.type #[a.eval p, a.eval q] := by simp [Builtin.delete_]
        rw [e]; exact hg
  · cases hd

theorem nil_form {x : AV} {vx : Value} (hx : VRel w ok loc x vx) {r : AV} (hd : nilD x = some r) : r = x ∧ ((∃ p, vx = .pointer (some p)) ∨ ∃ f vs, vx = .func (.func f) #[] vs) := by
  unfold nilD at hd
  split at hd <;> simp at hd <;> subst hd
  · rename_i p
    obtain ⟨b, hb, hv⟩ := inv_ptr (o := p.1) (off := p.2) hx
    exact ⟨rfl, .inl ⟨_, hv⟩⟩
  · obtain ⟨b, hb, hv⟩ := inv_aptr hx
    exact ⟨rfl, .inl ⟨_, hv⟩⟩
  · obtain ⟨b, o', val', hv, _⟩ := inv_ep hx
    exact ⟨rfl, .inl ⟨_, hv⟩⟩
  · obtain ⟨vs, hv, _⟩ := inv_fn hx
    exact ⟨rfl, .inr ⟨_, _, hv⟩⟩

set_option maxHeartbeats 1000000 in
theorem opD_sound (hte : TEOK P te) (hK : KSound P K) (h : Inv W0 X ok0 nt s a w ok loc) {o : Oper} {r : AV} {σ' : List LObj} (hd : opD te K s o.op = some (r, σ')) {next : Act → World → Prop} {Q : Exit → Act → World → Prop}
    (hn : ∀ v w' ok' loc', Ext w ok loc w' ok' loc' → Inv W0 X ok0 nt ⟨s.slots, σ'⟩ a w' ok' loc' → VRel w' ok' loc' r v → next (a.put o.dst v) w') : o.wp P a w next Q := by
  have val : ∀ {m : Sem Value} {q : Option AV}, q.bind (fun v => some (v, s.σ)) = some (r, σ') → execOp a.eval o = (do pure (Next.value (← m))) → (∀ v, q = some v → ∃ rv, m.run P w = .ok rv w ∧ VRel w ok loc v rv) → o.wp P a w next Q := by
    intro m q hq hm hr
    cases hqq : q with
    | none => simp [hqq] at hq
    | some v =>
      simp [hqq] at hq
      obtain ⟨rfl, rfl⟩ := hq
      exact wp_of_value hm h (hr v hqq) hn
  cases hop : o.op <;> rw [hop] at hd <;> simp only [opD] at hd
  case move x =>
    simp at hd
    obtain ⟨rfl, rfl⟩ := hd
    refine wp_of_value (m := pure (a.eval x)) ?_ h ⟨_, rfl, ev_rel h x⟩ hn
    simp [execOp, hop]
  case assign x =>
    simp at hd
    obtain ⟨rfl, rfl⟩ := hd
    refine wp_of_value (m := pure (a.eval x)) ?_ h ⟨_, rfl, ev_rel h x⟩ hn
    simp [execOp, hop]
  case pick c x y =>
    have hc := ev_rel h c
    split at hd
    · rename_i p he
      rw [he] at hc
      have hcv := inv_bool hc
      split at hd
      · rename_i hp
        simp at hd
        obtain ⟨rfl, rfl⟩ := hd
        subst hp
        refine wp_of_value (m := pure (a.eval x)) ?_ h ⟨_, rfl, ev_rel h x⟩ hn
        simp [execOp, hop, hcv, asBool]
      · rename_i hp
        simp at hd
        obtain ⟨rfl, rfl⟩ := hd
        have hp : p = false := by simpa using hp
        subst hp
        refine wp_of_value (m := pure (a.eval y)) ?_ h ⟨_, rfl, ev_rel h y⟩ hn
        simp [execOp, hop, hcv, asBool]
    · cases hd
  case alloc t =>
    cases hti : te t with
    | none => simp [hti] at hd
    | some i =>
      simp only [hti, Option.bind_some] at hd
      split at hd
      · rename_i hs
        simp at hd
        obtain ⟨rfl, rfl⟩ := hd
        exact wp_of_run (m := Instr.alloc t true (.tuple #[])) (by simp [execOp, hop]) (alloc_gives hte h hti (solid_ne hs)) hn
      · cases hd
  case box t x =>
    have hx := ev_rel h x
    split at hd
    · cases hd
    · rename_i v hv
      simp at hd
      obtain ⟨rfl, rfl⟩ := hd
      exact wp_of_run (m := Instr.box t (a.eval x)) (by simp [execOp, hop]) (box_gives h hx (fun e => hv e)) hn
  case build t parts =>
    obtain ⟨p1, p2⟩ := parts_rel h parts
    exact val hd (m := Instr.build t (parts.map fun (i, x) => (i, a.eval x))) (by simp [execOp, hop]) (fun v hv => buildD_sound hte p1 p2 hv)
  case buildSlice t n parts =>
    obtain ⟨p1, p2⟩ := parts_rel h parts
    exact wp_of_run (m := Instr.buildSlice t n (parts.map fun (i, x) => (i, a.eval x))) (by simp [execOp, hop]) (buildSlD_gives hte h p1 p2 hd) hn
  case load t x => exact val hd (m := Instr.loadAt t (a.eval x)) (by simp [execOp, hop]) (fun v hv => loadD_sound hte h.own (ev_rel h x) hv)
  case store t x y =>
    cases hs : storeD te s.σ t (ev s x) (ev s y) with
    | none => simp [hs] at hd
    | some σ1 =>
      simp [hs] at hd
      obtain ⟨rfl, rfl⟩ := hd
      exact wp_of_runU (m := Instr.storeAt t (a.eval x) (a.eval y)) (by simp [execOp, hop]) (storeD_gives hte h (ev_rel h x) (ev_rel h y) hs) hn
  case nilCheck x =>
    refine val hd (m := pure (a.eval x)) ?_ (fun v hv => ?_)
    · obtain ⟨_, hf⟩ : ∃ v, nilD (ev s x) = some v := by cases hq : nilD (ev s x) with | none => simp [hq] at hd | some v => exact ⟨v, rfl⟩
      rcases (nil_form (ev_rel h x) hf).2 with ⟨p, hv⟩ | ⟨f, vs, hv⟩ <;> simp [execOp, hop, hv]
    · rw [(nil_form (ev_rel h x) hv).1]
      exact ⟨_, rfl, ev_rel h x⟩
  case binOp op t x y yt =>
    exact val hd (m := do eqGuard op t x y (a.eval x) (a.eval y); binOp op t (a.eval x) (a.eval y)) (by simp [execOp, hop]) (fun v hv => binD_sound hte x y (ev_rel h x) (ev_rel h y) hv w)
  case unOp op t x => exact val hd (m := Op.unary op (a.eval x)) (by simp [execOp, hop]) (fun v hv => unD_sound (ev_rel h x) hv w)
  case convert p q x => exact val hd (m := convert p q (a.eval x)) (by simp [execOp, hop]) (fun v hv => convD_sound hte h.own (ev_rel h x) hv)
  case makeFunc fn first cap =>
    split at hd
    · rename_i f e1
      have hf : first = #[] := by
        obtain ⟨l⟩ := first
        simp at e1
        rw [e1]
      subst hf
      simp at hd
      obtain ⟨rfl, rfl⟩ := hd
      have hA := ev_args h cap
      refine wp_of_value (m := Instr.makeFunc (.func f) #[] (cap.map a.eval)) ?_ h ⟨_, rfl, .fn _ _ _ hA.len hA.rel⟩ hn
      simp [execOp, hop]
    · cases hd
  case makeMap t r' =>
    split at hd
    · simp at hd
      obtain ⟨rfl, rfl⟩ := hd
      exact wp_of_run (m := Instr.makeMap t none) (by simp [execOp, hop]) (makeMap_gives h t) hn
    · cases hd
  case slice t x lo hi mx => exact wp_of_run (m := Instr.sliceAt t (a.eval x) (lo.map a.eval) (hi.map a.eval) (mx.map a.eval)) (by simp [execOp, hop]) (sl3D_gives hte h (ev_rel h x) (orel_opt h lo) (orel_opt h hi) (orel_opt h mx) hd) hn
  case fieldAddr t x f => exact val hd (m := Instr.fieldAt t (a.eval x) f) (by simp [execOp, hop]) (fun v hv => fieldAddrD_sound hte (ev_rel h x) hv)
  case field t x f => exact val hd (m := Instr.field t (a.eval x) f) (by simp [execOp, hop]) (fun v hv => fieldD_sound hte (ev_rel h x) hv)
  case indexAddr t x i => exact val hd (m := Instr.indexAt t (a.eval x) (a.eval i)) (by simp [execOp, hop]) (fun v hv => indexAddrD_sound hte (ev_rel h x) (ev_rel h i) hv)
  case index t x i => exact val hd (m := Instr.index t (a.eval x) (a.eval i)) (by simp [execOp, hop]) (fun v hv => indexD_sound hte (ev_rel h x) (ev_rel h i) hv)
  case lookup t m k c => exact val hd (m := Instr.lookup t (a.eval m) (a.eval k) c) (by simp [execOp, hop]) (fun v hv => lookupD_sound hte h.own (ev_rel h m) (ev_rel h k) hv)
  case mapUpdate t m k x =>
    cases hs : mapUpdD te s.σ t (ev s m) (ev s k) (ev s x) with
    | none => simp [hs] at hd
    | some σ1 =>
      simp [hs] at hd
      obtain ⟨rfl, rfl⟩ := hd
      exact wp_of_runU (m := Instr.mapUpdate t (a.eval m) (a.eval k) (a.eval x)) (by simp [execOp, hop]) (mapUpdD_gives hte h (ev_rel h m) (ev_rel h k) (ev_rel h x) hs) hn
  case extract t i =>
    have ht := ev_rel h t
    split at hd
    · rename_i vs he
      rw [he] at ht
      obtain ⟨us, hu, hl, hr⟩ := inv_tup ht
      refine val hd (m := Instr.extract (a.eval t) i) (by simp [execOp, hop]) (fun v hv => ?_)
      have hlt : i < us.size := by rw [hl]; exact (List.getElem?_eq_some_iff.1 hv).1
      exact ⟨us[i], by simp [Instr.extract, hu, hlt], hr i v _ hv (Array.getElem?_eq_getElem hlt)⟩
    · cases hd
  case call c =>
    split at hd
    · rename_i f hcal
      have hf := ev_rel h f
      split at hd
      · rename_i g cap he
        rw [he] at hf
        obtain ⟨vs, hv, hl, hr⟩ := inv_fn hf
        have hA := ev_args h c.args
        have hA2 : Args (VRel w ok loc) (opsAV s c.args ++ cap) (c.args.map a.eval ++ vs) := by
          refine ⟨by simp [hA.len, hl], fun j x v hx hvj => ?_⟩
          rcases Nat.lt_or_ge j (opsAV s c.args).length with hlt | hge
          · rw [List.getElem?_append_left hlt] at hx
            rw [Array.getElem?_append_left (by rw [hA.len]; exact hlt)] at hvj
            exact hA.rel j x v hx hvj
          · rw [List.getElem?_append_right hge] at hx
            rw [Array.getElem?_append_right (by rw [hA.len]; exact hge), hA.len] at hvj
            exact hr _ x v hx hvj
        obtain ⟨hfn, hcall⟩ := callD_sound hK h hA2 hd
        unfold Oper.wp
        have hrun : (execOp a.eval o).run P w = .ok (.enter g (c.args.map a.eval ++ vs)) w := by
          simp [execOp, hop, resolve, hcal, hv, Deferred.ofValue, invoke, run_callFunc hfn]
        rw [hrun, Oper.upon_enter]
        refine hcall.mono ?_
        rintro e w' ⟨rv, ok', loc', rfl, h1, h2, h3⟩
        exact hn rv w' ok' loc' h1 h2 h3
      · cases hd
    · rename_i b hcal
      exact biD_sound hte h hop hcal hd hn
    · cases hd
  all_goals cases hd
end
end Go.Vi
