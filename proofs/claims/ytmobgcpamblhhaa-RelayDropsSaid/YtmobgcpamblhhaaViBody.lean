/- Whole bodies: what the interpreter tells is what the machine does. -/
import Derived.Test.YtmobgcpamblhhaaViDraw3
set_option linter.unusedVariables false
set_option linter.unusedSimpArgs false
namespace Go.Vi

def codeOK (K : KT) (fr : List Nat) (nt : Nat) : Code → Bool
  | .region id ops d => regOK nt ops && (!d || fr.contains id || drawOK K ops)
  | .seq x y => codeOK K fr nt x && codeOK K fr nt y
  | .cond _ x y => codeOK K fr nt x && codeOK K fr nt y
  | .block _ x => codeOK K fr nt x
  | .loop x => codeOK K fr nt x
  | .skip => true
  | .exit _ => true
  | .ret => true
  | _ => false
def itemOK (K : KT) (fr : List Nat) (nt : Nat) : Item → Bool
  | .code c => codeOK K fr nt c
  | .inBlock _ => true
  | .inLoop c => codeOK K fr nt c
  | _ => false

section
variable {P : Program} {te : TE} {K : KT} {W0 : World} {X : Nat → Prop} {ok0 : CellOk} {loc0 : Loc} {nt n0 : Nat} {fr : List Nat} {s s' : St} {a : Act} {w : World} {rs : List ResultVar} {Q : List AV → List LObj → Prop}

theorem exit_of {id : Nat} : ∀ {l : List Item} {k' : List MI}, exitM id (l.map (mi fr)) = some k' → (l.all (itemOK K fr nt)) = true → ∃ l', l'.map (mi fr) = k' ∧ (l'.all (itemOK K fr nt)) = true ∧ ∀ k, exitTo id (l ++ k) = some (l' ++ k) := by
  intro l
  induction l with
  | nil => intro k' h _; simp [exitM] at h
  | cons x l ih =>
    intro k' h hok
    simp only [List.all_cons, Bool.and_eq_true] at hok
    cases x with
    | inBlock id' =>
      simp only [List.map_cons, mi, exitM] at h
      split at h
      · rename_i e
        simp at h
        subst h
        exact ⟨l, rfl, hok.2, fun k => by simp [exitTo, e]⟩
      · rename_i e
        obtain ⟨l', h1, h2, h3⟩ := ih h hok.2
        exact ⟨l', h1, h2, fun k => by simp only [List.cons_append, exitTo, e]; exact h3 k⟩
    | code c =>
      simp only [List.map_cons, mi, exitM] at h
      obtain ⟨l', h1, h2, h3⟩ := ih h hok.2
      exact ⟨l', h1, h2, fun k => by simp only [List.cons_append, exitTo]; exact h3 k⟩
    | inLoop c =>
      simp only [List.map_cons, mi, exitM] at h
      obtain ⟨l', h1, h2, h3⟩ := ih h hok.2
      exact ⟨l', h1, h2, fun k => by simp only [List.cons_append, exitTo]; exact h3 k⟩
    | _ => simp [itemOK] at hok

theorem region_sound (hm : P.follows .mixedOrders = true) (hte : TEOK P te) (hK : KSound P K) {ops : Array Oper} {d : Bool} {id : Nat} (hfr : (d && fr.contains id) = false) (hok : codeOK K fr nt (.region id ops d) = true) (hr : runOps te K (ops.toList.map (mop ops)) s = some s') (h : J W0 X ok0 loc0 nt s a w) {Q : Exit → Act → World → Prop}
    (hn : ∀ a' w', J W0 X ok0 loc0 nt s' a' w' → Q .normal a' w') : (Code.region id ops d).wp P Q a w := by
  simp only [codeOK, Bool.and_eq_true] at hok
  cases d with
  | false => exact wp_region (ops_sound hte hK hok.1 _ s s' a w (by rw [range_ops]; exact hr) h hn)
  | true =>
    have hd : drawOK K ops = true := by
      have h1 := hok.2
      simp at h1 hfr
      exact h1.resolve_left hfr
    have e : restL ops.size (Array.replicate ops.size false) = List.range ops.size := by
      unfold restL
      rw [List.filter_eq_self]
      intro i hi
      have := List.mem_range.1 hi
      simp [Array.getD_eq_getD_getElem?, Array.getElem?_replicate, this]
    refine wp_region_any hm (any_sound hte hK hok.1 hd ops.size _ s s' a _ (by simp) (fun i o hi => ?_) (by rw [e]; simp) (by rw [e]; unfold mopsAt; rw [range_ops]; exact hr) (h.same rfl rfl rfl rfl) hn)
    simp only [Array.getD_eq_getD_getElem?, Array.getElem?_replicate] at hi
    split at hi <;> simp at hi

theorem ready_eq {ops : Array Oper} {L : Array Bool} : Region.ready .any ops L = readyL (ops.toList.map preds) L := by
  unfold Region.ready readyL
  simp only [List.length_map, Array.length_toList]
  refine List.filter_congr fun i hi => ?_
  have hi := List.mem_range.1 hi
  have ho : ops[i]? = some ops[i] := Array.getElem?_eq_getElem hi
  have hp : (ops.toList.map preds).getD i [] = preds ops[i] := by simp [List.getD_eq_getElem?_getD, ho]
  rw [hp, ho]
  simp only [Option.map_some, Option.getD_some]
  congr 1
  rw [Bool.eq_iff_iff, Array.all_eq_true', List.all_eq_true]
  constructor
  · intro h q hq
    obtain ⟨e, he, rfl⟩ := List.mem_map.1 hq
    obtain ⟨he1, he2⟩ := List.mem_filter.1 he
    have := h e (by simpa using he1)
    simpa [he2] using this
  · intro h e he
    by_cases hb : Region.binds .any e = true
    · have := h e.on (List.mem_map.2 ⟨e, List.mem_filter.2 ⟨by simpa using he, hb⟩, rfl⟩)
      simp [this]
    · simp [hb]
theorem full_sound (hte : TEOK P te) (hK : KSound P K) {ops : Array Oper} (hok : regOK nt ops = true) {R : St → Prop} {Q : Exit → Act → World → Prop} (hQ : ∀ s' a' w', R s' → J W0 X ok0 loc0 nt s' a' w' → Q .normal a' w') :
    ∀ (n : Nat) (L : Array Bool) (s : St) (a : Act) (w : World), Full te K (ops.toList.map (mop ops)) (ops.toList.map preds) R n L s → J W0 X ok0 loc0 nt s a w → wpAny P .any ops Q n L a w := by
  intro n
  induction n with
  | zero =>
    intro L s a w h hJ
    exact ⟨by rw [ready_eq]; exact h.1, hQ _ _ _ h.2 hJ⟩
  | succ n ih =>
    intro L s a w h hJ
    refine ⟨fun hr => hQ _ _ _ (h.1 (by rw [← ready_eq]; exact hr)) hJ, fun i hi => ?_⟩
    rw [ready_eq] at hi
    have hlt : i < ops.size := by
      have := (List.mem_filter.1 hi).1
      simpa using List.mem_range.1 this
    have ho : ops[i]? = some ops[i] := Array.getElem?_eq_getElem hlt
    obtain ⟨u, hu, hF⟩ := h.2 i hi (mop ops ops[i]) (by simp [ho])
    unfold wpOp
    simp only [ho]
    have hm : ops[i] ∈ ops.toList := by simp
    have hk := List.all_eq_true.1 hok _ hm
    simp only [Bool.and_eq_true] at hk
    exact step_sound hte hK hJ hk.1 hk.2 hu fun a' w' hJ' => ih _ _ _ _ hF hJ'
theorem Ex.sound (hm : P.follows .mixedOrders = true) (hte : TEOK P te) (hK : KSound P K) (h0 : ∀ i b, loc0 i = some b → i < n0) {ks : List MI} (h : Ex te K rs n0 Q ks s) : ∀ (l : List Item), l.map (mi fr) = ks → (l.all (itemOK K fr nt)) = true → ∀ a w, J W0 X ok0 loc0 nt s a w → ∀ b k cs,
    ∃ e a' w', ((e = .normal ∨ e = .ret) ∧ ∃ s' r, retD te s' rs = some r ∧ Q r s'.σ ∧ J W0 X ok0 loc0 nt s' a' w') ∧ Arrives P (lone (Frame.at b a (l ++ k)) cs w) b k cs e a' w' := by
  induction h with
  | skip _ ih =>
    intro l hl hok a w hJ b k cs
    rcases l with _ | ⟨x, l⟩
    · simp at hl
    simp only [List.map_cons, List.cons.injEq] at hl
    simp only [List.all_cons, Bool.and_eq_true] at hok
    obtain ⟨hx, hl⟩ := hl
    obtain ⟨ho, hok⟩ := hok
    cases x <;> simp [mi, itemOK] at hx ho
    rename_i c
    cases c <;> simp [mcF, codeOK] at hx ho
    obtain ⟨e, a', w', h1, h2⟩ := ih l hl hok a w hJ b k cs
    exact ⟨e, a', w', h1, .of_steps (.one step_skip) h2⟩
  | seq _ ih =>
    intro l hl hok a w hJ b k cs
    rcases l with _ | ⟨x, l⟩
    · simp at hl
    simp only [List.map_cons, List.cons.injEq] at hl
    simp only [List.all_cons, Bool.and_eq_true] at hok
    obtain ⟨hx, hl⟩ := hl
    obtain ⟨ho, hok⟩ := hok
    cases x <;> simp [mi, itemOK] at hx ho
    rename_i c
    cases c <;> simp [mcF, codeOK] at hx ho
    rename_i p q
    obtain ⟨e, a', w', h1, h2⟩ := ih (.code p :: .code q :: l) (by simp [mi, hx, hl]) (by simp only [List.all_cons, itemOK, ho, hok]; rfl) a w hJ b k cs
    exact ⟨e, a', w', h1, .of_steps (.one step_seq) h2⟩
  | cond t hc _ ih =>
    intro l hl hok a w hJ b k cs
    rcases l with _ | ⟨x, l⟩
    · simp at hl
    simp only [List.map_cons, List.cons.injEq] at hl
    simp only [List.all_cons, Bool.and_eq_true] at hok
    obtain ⟨hx, hl⟩ := hl
    obtain ⟨ho, hok⟩ := hok
    cases x <;> simp [mi, itemOK] at hx ho
    rename_i c
    cases c <;> simp [mcF, codeOK] at hx ho
    rename_i c p q
    obtain ⟨rfl, hx1, hx2⟩ := hx
    obtain ⟨ok, loc, hI, hE⟩ := hJ
    have hv := ev_rel hI c
    rw [hc] at hv
    obtain ⟨e, a', w', h1, h2⟩ := ih (.code (if t then p else q) :: l) (by cases t <;> simp [mi, hx1, hx2, hl]) (by cases t <;> simp only [List.all_cons, itemOK, ho, hok, Bool.true_and, if_true, if_false, Bool.false_eq_true]) a w ⟨ok, loc, hI, hE⟩ b k cs
    exact ⟨e, a', w', h1, .of_steps (.one (step_cond (inv_bool hv))) h2⟩
  | block _ ih =>
    intro l hl hok a w hJ b k cs
    rcases l with _ | ⟨x, l⟩
    · simp at hl
    simp only [List.map_cons, List.cons.injEq] at hl
    simp only [List.all_cons, Bool.and_eq_true] at hok
    obtain ⟨hx, hl⟩ := hl
    obtain ⟨ho, hok⟩ := hok
    cases x <;> simp [mi, itemOK] at hx ho
    rename_i c
    cases c <;> simp [mcF, codeOK] at hx ho
    rename_i id p
    obtain ⟨rfl, hx⟩ := hx
    obtain ⟨e, a', w', h1, h2⟩ := ih (.code p :: .inBlock id :: l) (by simp [mi, hx, hl]) (by simp only [List.all_cons, itemOK, ho, hok]; rfl) a w hJ b k cs
    exact ⟨e, a', w', h1, .of_steps (.one step_block) h2⟩
  | inBlock _ ih =>
    intro l hl hok a w hJ b k cs
    rcases l with _ | ⟨x, l⟩
    · simp at hl
    simp only [List.map_cons, List.cons.injEq] at hl
    simp only [List.all_cons, Bool.and_eq_true] at hok
    obtain ⟨hx, hl⟩ := hl
    obtain ⟨ho, hok⟩ := hok
    cases x <;> simp [mi, itemOK] at hx ho
    obtain ⟨e, a', w', h1, h2⟩ := ih l hl hok a w hJ b k cs
    exact ⟨e, a', w', h1, .of_steps (.one step_inBlock) h2⟩
  | loop _ ih =>
    intro l hl hok a w hJ b k cs
    rcases l with _ | ⟨x, l⟩
    · simp at hl
    simp only [List.map_cons, List.cons.injEq] at hl
    simp only [List.all_cons, Bool.and_eq_true] at hok
    obtain ⟨hx, hl⟩ := hl
    obtain ⟨ho, hok⟩ := hok
    cases x <;> simp [mi, itemOK] at hx ho
    rename_i c
    cases c <;> simp [mcF, codeOK] at hx ho
    rename_i p
    obtain ⟨e, a', w', h1, h2⟩ := ih (.code p :: .inLoop p :: l) (by simp [mi, hx, hl]) (by simp only [List.all_cons, itemOK, ho, hok]; rfl) a w hJ b k cs
    exact ⟨e, a', w', h1, .of_steps (.one step_loop) h2⟩
  | inLoop _ ih =>
    intro l hl hok a w hJ b k cs
    rcases l with _ | ⟨x, l⟩
    · simp at hl
    simp only [List.map_cons, List.cons.injEq] at hl
    simp only [List.all_cons, Bool.and_eq_true] at hok
    obtain ⟨hx, hl⟩ := hl
    obtain ⟨ho, hok⟩ := hok
    cases x <;> simp [mi, itemOK] at hx ho
    rename_i p
    obtain ⟨e, a', w', h1, h2⟩ := ih (.code p :: .inLoop p :: l) (by simp [mi, hx, hl]) (by simp only [List.all_cons, itemOK, ho, hok]; rfl) a w hJ b k cs
    exact ⟨e, a', w', h1, .of_steps (.one step_inLoop) h2⟩
  | exit hk _ ih =>
    intro l hl hok a w hJ b k cs
    rcases l with _ | ⟨x, l⟩
    · simp at hl
    simp only [List.map_cons, List.cons.injEq] at hl
    simp only [List.all_cons, Bool.and_eq_true] at hok
    obtain ⟨hx, hl⟩ := hl
    obtain ⟨ho, hok⟩ := hok
    cases x <;> simp [mi, itemOK] at hx ho
    rename_i c
    cases c <;> simp [mcF, codeOK] at hx ho
    rename_i id
    subst hx hl
    obtain ⟨l', h1, h2, h3⟩ := exit_of hk hok
    obtain ⟨e, a', w', h4, h5⟩ := ih l' h1 h2 a w hJ b k cs
    exact ⟨e, a', w', h4, .of_steps (.one (step_exit (h3 k))) h5⟩
  | region hr _ ih =>
    intro l hl hok a w hJ b k cs
    rcases l with _ | ⟨x, l⟩
    · simp at hl
    simp only [List.map_cons, List.cons.injEq] at hl
    simp only [List.all_cons, Bool.and_eq_true] at hok
    obtain ⟨hx, hl⟩ := hl
    obtain ⟨ho, hok⟩ := hok
    cases x <;> simp only [mi, itemOK, MI.code.injEq, reduceCtorEq] at hx ho
    rename_i c
    cases c <;> simp only [mcF, reduceCtorEq] at hx ho
    rename_i id ops d
    obtain ⟨hfr, hx⟩ := mreg_region hx
    subst hx
    obtain ⟨e, a', w', h1, h2⟩ := region_sound hm hte hK (Q := fun e a' w' => e = .normal ∧ J W0 X ok0 loc0 nt _ a' w') hfr ho hr hJ (fun a' w' h => ⟨rfl, h⟩) b (l ++ k) cs
    obtain ⟨rfl, hJ'⟩ := h1
    obtain ⟨e, a'', w'', h3, h4⟩ := ih l hl hok a' w' hJ' b k cs
    exact ⟨e, a'', w'', h3, .of_steps h2 h4⟩
  | any R hF hR ih =>
    intro l hl hok a w hJ b k cs
    rcases l with _ | ⟨x, l⟩
    · simp at hl
    simp only [List.map_cons, List.cons.injEq] at hl
    simp only [List.all_cons, Bool.and_eq_true] at hok
    obtain ⟨hx, hl⟩ := hl
    obtain ⟨ho, hok⟩ := hok
    cases x <;> simp only [mi, itemOK, MI.code.injEq, reduceCtorEq] at hx ho
    rename_i c
    cases c <;> simp only [mcF, reduceCtorEq] at hx ho
    rename_i id ops d
    obtain ⟨hd, hx, hp⟩ := mreg_any hx
    subst hx hp hd
    simp only [codeOK, Bool.and_eq_true] at ho
    simp only [List.length_map, Array.length_toList] at hF
    have hJ0 := hJ.same (w' := w.drew) rfl rfl rfl rfl
    have hw : (Code.region id ops true).wp P (fun e a' w' => e = .normal ∧ ∀ b k cs, ∃ e2 a2 w2, ((e2 = .normal ∨ e2 = .ret) ∧ ∃ s' r, retD te s' rs = some r ∧ Q r s'.σ ∧ J W0 X ok0 loc0 nt s' a2 w2) ∧ Arrives P (lone (Frame.at b a' (l ++ k)) cs w') b k cs e2 a2 w2) a w :=
      wp_region_any hm (full_sound hte hK ho.1 (fun s' a' w' hs hJ' => ⟨rfl, fun b k cs => ih s' hs l hl hok a' w' hJ' b k cs⟩) _ _ _ _ _ hF hJ0)
    obtain ⟨e, a', w', h1, h2⟩ := hw b (l ++ k) cs
    obtain ⟨rfl, h3⟩ := h1
    obtain ⟨e, a'', w'', h4, h5⟩ := h3 b k cs
    exact ⟨e, a'', w'', h4, .of_steps h2 h5⟩
  | ret hr hq =>
    intro l hl hok a w hJ b k cs
    rcases l with _ | ⟨x, l⟩
    · simp at hl
    simp only [List.map_cons, List.cons.injEq] at hl
    simp only [List.all_cons, Bool.and_eq_true] at hok
    obtain ⟨hx, hl⟩ := hl
    obtain ⟨ho, hok⟩ := hok
    cases x <;> simp [mi, itemOK] at hx ho
    rename_i c
    cases c <;> simp [mcF, codeOK] at hx ho
    exact ⟨.ret, a, w, ⟨.inr rfl, _, _, hr, hq, hJ⟩, _, .one step_ret⟩
  | fin hr hq =>
    intro l hl hok a w hJ b k cs
    simp only [List.map_eq_nil_iff] at hl
    subst hl
    exact ⟨.normal, a, w, ⟨.inl rfl, _, _, hr, hq, hJ⟩, .refl _ _⟩
  | weak hw _ ih =>
    intro l hl hok a w hJ b k cs
    exact ih l hl hok a w (hJ.weak h0 hw) b k cs
end
end Go.Vi
