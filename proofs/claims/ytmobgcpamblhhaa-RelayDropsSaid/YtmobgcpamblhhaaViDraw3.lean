/- Regions whose order is drawn: soundness. -/
import Derived.Test.YtmobgcpamblhhaaViDraw2
set_option linter.unusedVariables false
set_option linter.unusedSimpArgs false
namespace Go.Vi

inductive Reach (ops : Array Oper) : Nat → Nat → Prop
  | one {i p o} : ops[i]? = some o → p ∈ preds o → Reach ops p i
  | step {i p j o} : ops[i]? = some o → p ∈ preds o → Reach ops j p → Reach ops j i
def befsGo : List Oper → List (List Nat) → List (List Nat)
  | [], acc => acc
  | o :: l, acc => befsGo l (acc ++ [addNew [] (preds o ++ (preds o).flatMap fun p => acc.getD p [])])
def befs (ops : Array Oper) : List (List Nat) := befsGo ops.toList []
def pairOK (K : KT) (ops : Array Oper) (bs : List (List Nat)) (i j : Nat) : Bool := match ops[i]?, ops[j]? with
  | some x, some y => (bs.getD j []).contains i || comM K (mop ops x) (mop ops y)
  | _, _ => false
def drawOK (K : KT) (ops : Array Oper) : Bool :=
  let bs := befs ops
  (List.range ops.size).all fun j => ((List.range j).all fun i => pairOK K ops bs i j) && (match ops[j]? with | some o => (preds o).all fun p => decide (p < j) | none => false)

theorem mem_addNew {y : Nat} : ∀ {xs l : List Nat}, y ∈ addNew l xs → y ∈ l ∨ y ∈ xs
  | [], l, h => .inl h
  | x :: xs, l, h => by
    unfold addNew at h
    split at h
    · rcases mem_addNew h with h1 | h1
      · exact .inl h1
      · exact .inr (by simp [h1])
    · rcases mem_addNew h with h1 | h1
      · simp at h1
        rcases h1 with h1 | rfl
        · exact .inl h1
        · exact .inr (by simp)
      · exact .inr (by simp [h1])
theorem befsGo_reach (ops : Array Oper) : ∀ (l : List Oper) (acc : List (List Nat)), (∀ k, ops[acc.length + k]? = l[k]?) → (∀ (i : Nat) (x : List Nat), acc[i]? = some x → ∀ j ∈ x, Reach ops j i) →
    ∀ (i : Nat) (x : List Nat), (befsGo l acc)[i]? = some x → ∀ j ∈ x, Reach ops j i := by
  intro l
  induction l with
  | nil => intro acc _ h; exact h
  | cons o l ih =>
    intro acc hl h
    unfold befsGo
    refine ih _ (fun k => ?_) (fun i x hi j hj => ?_)
    · have := hl (k + 1)
      simp only [List.length_append, List.length_singleton]
      rw [show acc.length + 1 + k = acc.length + (k + 1) by omega, this]
      simp
    · rcases Nat.lt_trichotomy i acc.length with hlt | heq | hgt
      · rw [List.getElem?_append_left hlt] at hi
        exact h i x hi j hj
      · subst heq
        simp at hi
        subst hi
        have ho : ops[acc.length]? = some o := by have := hl 0; simpa using this
        rcases mem_addNew hj with h1 | h1
        · simp at h1
        · rcases List.mem_append.1 h1 with h1 | h1
          · exact .one ho h1
          · obtain ⟨p, hp, hjp⟩ := List.mem_flatMap.1 h1
            cases hap : acc[p]? with
            | none => simp [hap] at hjp
            | some y =>
              simp [hap] at hjp
              exact .step ho hp (h p y hap j hjp)
      · rw [List.getElem?_eq_none (by simp; omega)] at hi
        cases hi
theorem befs_reach {ops : Array Oper} {i j : Nat} (h : ((befs ops).getD j []).contains i = true) : Reach ops i j := by
  simp only [List.getD_eq_getElem?_getD] at h
  cases hb : (befs ops)[j]? with
  | none => simp [hb] at h
  | some x =>
    simp [hb] at h
    exact befsGo_reach ops ops.toList [] (fun k => by simp) (fun i x hi => by simp at hi) j x hb i h

def closedL (ops : Array Oper) (listed : Array Bool) : Prop := ∀ (i : Nat) (o : Oper), listed.getD i false = true → ops[i]? = some o → ∀ p ∈ preds o, listed.getD p false = true
theorem Reach.listed {ops : Array Oper} {listed : Array Bool} (hc : closedL ops listed) {j i : Nat} (h : Reach ops j i) : (∀ o, ops[i]? = some o → ∀ p ∈ preds o, listed.getD p false = true) → listed.getD j false = true := by
  induction h with
  | one ho hp => intro hi; exact hi _ ho _ hp
  | step ho hp _ ih => intro hi; exact ih fun o ho' p hp' => hc _ o (hi _ ho _ hp) ho' p hp'

def restL (n : Nat) (listed : Array Bool) : List Nat := (List.range n).filter fun i => !listed.getD i true
theorem mem_ready {ops : Array Oper} {listed : Array Bool} {i : Nat} : i ∈ Region.ready .any ops listed ↔ i < ops.size ∧ listed.getD i true = false ∧ ∀ o, ops[i]? = some o → ∀ p ∈ preds o, listed.getD p false = true := by
  unfold Region.ready
  rw [List.mem_filter, List.mem_range]
  constructor
  · rintro ⟨h1, h2⟩
    simp only [Bool.and_eq_true, Bool.not_eq_true'] at h2
    refine ⟨h1, h2.1, fun o ho p hp => ?_⟩
    have h3 := h2.2
    simp only [ho, Option.map_some, Option.getD_some] at h3
    obtain ⟨e, he, rfl⟩ := List.mem_map.1 hp
    obtain ⟨he1, he2⟩ := List.mem_filter.1 he
    have := Array.all_eq_true'.1 h3 e (by simpa using he1)
    simpa [he2] using this
  · rintro ⟨h1, h2, h3⟩
    refine ⟨h1, ?_⟩
    simp only [Bool.and_eq_true, Bool.not_eq_true']
    refine ⟨h2, ?_⟩
    have ho : ops[i]? = some ops[i] := Array.getElem?_eq_getElem h1
    simp only [ho, Option.map_some, Option.getD_some]
    rw [Array.all_eq_true']
    intro e he
    by_cases hb : Region.binds .any e = true
    · have := h3 _ ho e.on (List.mem_map.2 ⟨e, List.mem_filter.2 ⟨by simpa using he, hb⟩, rfl⟩)
      simp [this]
    · simp [hb]
theorem rest_split {n i : Nat} {listed : Array Bool} (hi : i < n) (hs : listed.size = n) (hu : listed.getD i true = false) :
    ∃ A B, restL n listed = A ++ i :: B ∧ restL n (listed.setIfInBounds i true) = A ++ B ∧ ∀ j ∈ A, j < i ∧ listed.getD j true = false := by
  obtain ⟨k, rfl⟩ : ∃ k, n = i + (k + 1) := ⟨n - i - 1, by omega⟩
  have hr : List.range (i + (k + 1)) = List.range i ++ i :: (List.range k).map (fun x => i + (x + 1)) := by
    rw [List.range_add, List.range_succ_eq_map]
    simp [Function.comp_def]
  have hget : ∀ j, j ≠ i → (listed.setIfInBounds i true).getD j true = listed.getD j true := by
    intro j hj
    have : ¬ i = j := fun h => hj h.symm
    simp [Array.getD_eq_getD_getElem?, Array.getElem?_setIfInBounds, this]
  have hgi : (listed.setIfInBounds i true).getD i true = true := by
    simp [Array.getD_eq_getD_getElem?, Array.getElem?_setIfInBounds, hs, hi]
  refine ⟨(List.range i).filter fun i => !listed.getD i true, ((List.range k).map (fun x => i + (x + 1))).filter fun i => !listed.getD i true, ?_, ?_, fun j hj => ?_⟩
  · unfold restL
    rw [hr, List.filter_append, List.filter_cons_of_pos (by simp [hu])]
  · unfold restL
    rw [hr, List.filter_append, List.filter_cons_of_neg (by simp [hgi])]
    congr 1
    · refine List.filter_congr fun j hj => ?_
      have := List.mem_range.1 hj
      rw [hget j (by omega)]
    · refine List.filter_congr fun j hj => ?_
      obtain ⟨x, _, rfl⟩ := List.mem_map.1 hj
      rw [hget _ (by omega)]
  · obtain ⟨h1, h2⟩ := List.mem_filter.1 hj
    exact ⟨List.mem_range.1 h1, by simpa using h2⟩

section
variable {P : Program} {te : TE} {K : KT} {W0 : World} {X : Nat → Prop} {ok0 : CellOk} {loc0 : Loc} {nt n0 : Nat} {s s' : St} {a : Act} {w : World}
def mopsAt (ops : Array Oper) (l : List Nat) : List MOp := l.filterMap fun i => (ops[i]?).map (mop ops)
theorem any_sound (hte : TEOK P te) (hK : KSound P K) {ops : Array Oper} (hok : regOK nt ops = true) (hd : drawOK K ops = true) {Q : Exit → Act → World → Prop} : ∀ (fuel : Nat) (listed : Array Bool) (s s' : St) (a : Act) (w : World),
    listed.size = ops.size → closedL ops listed → (restL ops.size listed).length ≤ fuel → runOps te K (mopsAt ops (restL ops.size listed)) s = some s' → J W0 X ok0 loc0 nt s a w → (∀ a' w', J W0 X ok0 loc0 nt s' a' w' → Q .normal a' w') →
    wpAny P .any ops Q fuel listed a w := by
  have hdk : ∀ j, j < ops.size → (∀ i, i < j → pairOK K ops (befs ops) i j = true) ∧ ∀ o, ops[j]? = some o → ∀ p ∈ preds o, p < j := by
    intro j hj
    have := List.all_eq_true.1 hd j (List.mem_range.2 hj)
    simp only [Bool.and_eq_true] at this
    refine ⟨fun i hi => List.all_eq_true.1 this.1 i (List.mem_range.2 hi), fun o ho p hp => ?_⟩
    have h2 := this.2
    simp only [ho] at h2
    simpa using List.all_eq_true.1 h2 p hp
  have hdone : ∀ (listed : Array Bool) (s s' : St) (a : Act) (w : World), listed.size = ops.size → runOps te K (mopsAt ops (restL ops.size listed)) s = some s' → J W0 X ok0 loc0 nt s a w → (∀ a' w', J W0 X ok0 loc0 nt s' a' w' → Q .normal a' w') →
      Region.ready .any ops listed = [] → restL ops.size listed = [] ∧ Q .normal a w := by
    intro listed s s' a w hsz hr hJ hn hready
    have hnil : restL ops.size listed = [] := by
      have least : ∀ i, i < ops.size → listed.getD i true = true := by
        intro i
        induction i using Nat.strongRecOn with
        | _ i ih =>
          intro hi
          cases hu : listed.getD i true with
          | true => rfl
          | false =>
            have : i ∈ Region.ready .any ops listed := mem_ready.2 ⟨hi, hu, fun o ho p hp => by
              have hlt := (hdk i hi).2 o ho p hp
              have := ih p hlt (by omega)
              have hps : p < listed.size := by omega
              simp [Array.getD_eq_getD_getElem?, Array.getElem?_eq_getElem hps] at this ⊢
              exact this⟩
            rw [hready] at this
            cases this
      unfold restL
      rw [List.filter_eq_nil_iff]
      intro i hi
      simp [least i (List.mem_range.1 hi)]
    refine ⟨hnil, ?_⟩
    rw [hnil] at hr
    simp [mopsAt, runOps] at hr
    subst hr
    exact hn _ _ hJ
  intro fuel
  induction fuel with
  | zero =>
    intro listed s s' a w hsz hcl hlen hr hJ hn
    unfold wpAny
    have hnil : restL ops.size listed = [] := List.length_eq_zero_iff.1 (by omega)
    refine ⟨?_, ?_⟩
    · cases hrd : Region.ready .any ops listed with
      | nil => rfl
      | cons i l =>
        have hi : i ∈ Region.ready .any ops listed := by rw [hrd]; simp
        obtain ⟨h1, h2, _⟩ := mem_ready.1 hi
        have : i ∈ restL ops.size listed := List.mem_filter.2 ⟨List.mem_range.2 h1, by simp [h2]⟩
        rw [hnil] at this
        cases this
    · rw [hnil] at hr
      simp [mopsAt, runOps] at hr
      subst hr
      exact hn _ _ hJ
  | succ fuel ih =>
    intro listed s s' a w hsz hcl hlen hr hJ hn
    unfold wpAny
    refine ⟨fun h => (hdone listed s s' a w hsz hr hJ hn h).2, fun i hi => ?_⟩
    obtain ⟨h1, h2, h3⟩ := mem_ready.1 hi
    obtain ⟨A, B, hAB, hAB', hA⟩ := rest_split h1 hsz h2
    have ho : ops[i]? = some ops[i] := Array.getElem?_eq_getElem h1
    have hr' : runOps te K (mopsAt ops A ++ mop ops ops[i] :: mopsAt ops B) s = some s' := by
      rw [hAB] at hr
      simpa [mopsAt, List.filterMap_append, List.filterMap_cons, ho] using hr
    have hcom : ∀ x ∈ mopsAt ops A, comM K x (mop ops ops[i]) = true := by
      intro x hx
      obtain ⟨j, hj, hjx⟩ := List.mem_filterMap.1 hx
      obtain ⟨hji, hjl⟩ := hA j hj
      have hjo : ops[j]? = some ops[j] := Array.getElem?_eq_getElem (by omega)
      rw [hjo] at hjx
      simp at hjx
      subst hjx
      have hp := (hdk i h1).1 j hji
      simp only [pairOK, hjo, ho, Bool.or_eq_true] at hp
      rcases hp with hp | hp
      · have hl := (befs_reach hp).listed hcl h3
        have hjs : j < listed.size := by omega
        simp [Array.getD_eq_getD_getElem?, Array.getElem?_eq_getElem hjs] at hl hjl
        rw [hl] at hjl
        cases hjl
      · exact hp
    obtain ⟨u, hu1, hu2⟩ := toFront hcom hr'
    · unfold wpOp
      simp only [ho]
      have hm : ops[i] ∈ ops.toList := by simp
      have hk := List.all_eq_true.1 hok _ hm
      simp only [Bool.and_eq_true] at hk
      refine step_sound hte hK hJ hk.1 hk.2 hu1 fun a' w' hJ' => ?_
      refine ih (listed.setIfInBounds i true) u s' a' w' (by simpa using hsz) (fun j o hj hjo p hp => ?_) ?_ ?_ hJ' hn
      · have mono : ∀ p, listed.getD p false = true → (listed.setIfInBounds i true).getD p false = true := by
          intro p hp
          by_cases e : i = p
          · subst e
            simp [Array.getD_eq_getD_getElem?, Array.getElem?_setIfInBounds, hsz, h1]
          · simp only [Array.getD_eq_getD_getElem?, Array.getElem?_setIfInBounds, e, if_false] at hp ⊢
            exact hp
        by_cases e : i = j
        · subst e
          exact mono p (h3 o hjo p hp)
        · refine mono p (hcl j o ?_ hjo p hp)
          simp only [Array.getD_eq_getD_getElem?, Array.getElem?_setIfInBounds, e, if_false] at hj ⊢
          exact hj
      · rw [hAB'] 
        rw [hAB] at hlen
        simp at hlen ⊢
        omega
      · rw [hAB']
        simpa [mopsAt, List.filterMap_append] using hu2
end
end Go.Vi
