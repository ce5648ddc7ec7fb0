/- The interpreter's steps are the machine's. -/
import Derived.Test.YtmobgcpamblhhaaViRun
set_option linter.unusedVariables false
set_option linter.unusedSimpArgs false
namespace Go.Vi

section
variable {P : Program} {te : TE} {K : KT} {W0 : World} {X : Nat → Prop} {ok0 : CellOk} {loc0 : Loc} {nt : Nat} {s s' : St} {a : Act} {w : World}

def J (W0 : World) (X : Nat → Prop) (ok0 : CellOk) (loc0 : Loc) (nt : Nat) (s : St) (a : Act) (w : World) : Prop := ∃ ok loc, Inv W0 X ok0 nt s a w ok loc ∧ Ext W0 ok0 loc0 w ok loc

theorem run_sound (hte : TEOK P te) (hK : KSound P K) (h : J W0 X ok0 loc0 nt s a w) {o : Oper} (hd : dstOK nt o = true) {m : MOp} (hm1 : m.dst = o.dst) (hm2 : m.op = o.op) (hs : runM te K s m = some s') {next : Act → World → Prop} {Q : Exit → Act → World → Prop}
    (hn : ∀ a' w', J W0 X ok0 loc0 nt s' a' w' → next a' w') : o.wp P a w next Q := by
  obtain ⟨ok, loc, hI, hE⟩ := h
  unfold runM at hs
  rw [hm1, hm2] at hs
  cases hr : opD te K s o.op with
  | none => simp [hr] at hs
  | some r =>
    obtain ⟨r, σ'⟩ := r
    simp [hr] at hs
    subst hs
    refine opD_sound hte hK hI hr fun v w' ok' loc' e hI' hv => hn _ _ ⟨ok', loc', hI'.put (fun t ht => ?_) hv, hE.trans e⟩
    simpa [dstOK, ht] using hd
theorem yielded_of {ops : Array Oper} {j : Nat} {t : Nat} (h : (ops[j]?).bind (·.dst) = some t) : yielded ops a.tmps j = match a.tmps.getD t undef with | .bool b => some b | _ => none := by
  simp only [yielded, h, Option.bind_some, Array.getD_eq_getD_getElem?]
  cases a.tmps[t]? with
  | none => rfl
  | some v => cases v <;> rfl
theorem skip_sound (h : J W0 X ok0 loc0 nt s a w) {d : Option Tmp} (hd : ∀ t, d = some t → t < nt) : J W0 X ok0 loc0 nt (s.put d (.tup [])) (a.put d undef) w := by
  obtain ⟨ok, loc, hI, hE⟩ := h
  exact ⟨ok, loc, hI.put hd (.tup [] #[] rfl fun j x v hx => by simp at hx), hE⟩
theorem step_sound (hte : TEOK P te) (hK : KSound P K) (h : J W0 X ok0 loc0 nt s a w) {ops : Array Oper} {o : Oper} (hd : dstOK nt o = true) (hg : grdOK ops o = true) (hs : stepM te K s (mop ops o) = some s') {next : Act → World → Prop} {Q : Exit → Act → World → Prop}
    (hn : ∀ a' w', J W0 X ok0 loc0 nt s' a' w' → next a' w') : if Region.wanted o (yielded ops a.tmps) then o.wp P a w next Q ∨ (o.asks P a w ∧ LetsOut Q) else next (a.put o.dst undef) w := by
  unfold stepM at hs
  cases hgu : o.guard with
  | none =>
    have e : (mop ops o).g = none := by simp [mop, gOf, hgu]
    simp only [e] at hs
    simp only [Region.wanted, hgu, if_true]
    exact .inl (run_sound hte hK h hd rfl rfl hs hn)
  | some p =>
    obtain ⟨j, b⟩ := p
    simp only [grdOK, hgu] at hg
    obtain ⟨t, ht⟩ := Option.isSome_iff_exists.1 hg
    have e : (mop ops o).g = some (t, b) := by simp [mop, gOf, hgu, ht]
    simp only [e] at hs
    have hy := yielded_of (a := a) ht
    simp only [Region.wanted, hgu, hy]
    have hsl : VRel w h.choose h.choose_spec.choose (s.slots t) (a.tmps.getD t undef) := h.choose_spec.choose_spec.1.slots t
    have hd' : ∀ t, o.dst = some t → t < nt := fun t ht => by simpa [dstOK, ht] using hd
    split at hs
    · rename_i x hx
      rw [hx] at hsl
      rw [inv_bool hsl]
      by_cases hxb : x = b
      · subst hxb
        simp at hs ⊢
        exact .inl (run_sound hte hK h hd rfl rfl hs hn)
      · simp [hxb] at hs ⊢
        subst hs
        exact hn _ _ (skip_sound h hd')
    · rename_i hx
      rw [hx] at hsl
      obtain ⟨us, hu, hl, hr⟩ := inv_tup hsl
      rw [hu]
      simp at hs ⊢
      subst hs
      exact hn _ _ (skip_sound h hd')
    · cases hs

/-- The operations of a list, one by one. -/
theorem ops_sound (hte : TEOK P te) (hK : KSound P K) {ops : Array Oper} (hok : regOK nt ops = true) {Q : Exit → Act → World → Prop} : ∀ (l : List Nat) (s s' : St) (a : Act) (w : World),
    runOps te K (l.filterMap fun i => (ops[i]?).map (mop ops)) s = some s' → J W0 X ok0 loc0 nt s a w → (∀ a' w', J W0 X ok0 loc0 nt s' a' w' → Q .normal a' w') → wpOps P ops Q l a w := by
  intro l
  induction l with
  | nil =>
    intro s s' a w hr h hn
    simp [runOps] at hr
    subst hr
    exact hn _ _ h
  | cons i l ih =>
    intro s s' a w hr h hn
    unfold wpOps
    cases ho : ops[i]? with
    | none =>
      simp only [List.filterMap_cons, ho, Option.map_none] at hr
      exact ih s s' a w hr h hn
    | some o =>
      simp only [List.filterMap_cons, ho, Option.map_some, runOps] at hr
      cases hs : stepM te K s (mop ops o) with
      | none => simp [hs] at hr
      | some s1 =>
        simp [hs] at hr
        have hm : o ∈ ops.toList := by
          have := Array.mem_of_getElem? ho
          simpa using this
        have := List.all_eq_true.1 hok o hm
        simp at this
        exact step_sound hte hK h this.1 this.2 hs fun a' w' h' => ih s1 s' a' w' hr h' hn
theorem range_ops (ops : Array Oper) : ((List.range ops.size).filterMap fun i => (ops[i]?).map (mop ops)) = ops.toList.map (mop ops) := by
  obtain ⟨l⟩ := ops
  have : ∀ (g : Oper → MOp) (l : List Oper), ((List.range l.length).filterMap fun i => (l[i]?).map g) = l.map g := by
    intro g l
    apply List.ext_getElem?
    intro i
    have h1 : ((List.range l.length).filterMap fun i => (l[i]?).map g) = (List.range l.length).map fun i => ((l[i]?).map g).getD (g default) := by
      have : ∀ (m : List Nat), (∀ i ∈ m, i < l.length) → (m.filterMap fun i => (l[i]?).map g) = m.map fun i => ((l[i]?).map g).getD (g default) := by
        intro m
        induction m with
        | nil => intro _; rfl
        | cons x m ih =>
          intro hm
          have hx : x < l.length := hm x (by simp)
          simp only [List.filterMap_cons, List.map_cons, List.getElem?_eq_getElem hx, Option.map_some, Option.getD_some]
          rw [ih fun i hi => hm i (by simp [hi])]
      exact this _ fun i hi => List.mem_range.1 hi
    rw [h1]
    simp only [List.getElem?_map]
    by_cases hi : i < l.length
    · rw [List.getElem?_range hi]
      simp [List.getElem?_eq_getElem hi]
    · rw [List.getElem?_eq_none (by simp; omega), List.getElem?_eq_none (by omega)]
      rfl
  simpa using this (mop ⟨l⟩) l
end
end Go.Vi
