/- Any order: what may be taken first. -/
import Derived.Test.YtmobgcpamblhhaaViEval
set_option linter.unusedVariables false
set_option linter.unusedSimpArgs false
namespace Go.Vi
def mskip : MOp := ⟨none, .move (.const (.bool true)), none⟩
/-- What comes behind i. -/
def descL (p : List (List Nat)) (i : Nat) : List Nat := (List.range p.length).foldl (fun acc j => if ((p.getD j []).any fun q => q == i || acc.contains q) = true then j :: acc else acc) []
/-- i may be taken first: it may change places with all that is left and does not wait for it. -/
def oneOK (K : KT) (l : List MOp) (p : List (List Nat)) (L : Array Bool) (i : Nat) : Bool :=
  let ds := descL p i
  (readyL p L).contains i && (ds.all fun j => !(L.getD j true) && (p.getD j []).any fun q => q == i || ds.contains q) &&
    (List.range p.length).all fun j => L.getD j true || j == i || ds.contains j || comM K (l.getD i mskip) (l.getD j mskip)

variable {te : TE} {K : KT} {l : List MOp} {p : List (List Nat)} {R : St → Prop}
theorem mem_readyL {L : Array Bool} {i : Nat} : i ∈ readyL p L ↔ i < p.length ∧ L.getD i true = false ∧ ∀ q ∈ p.getD i [], L.getD q false = true := by
  unfold readyL
  simp only [List.mem_filter, List.mem_range, Bool.and_eq_true, Bool.not_eq_true', List.all_eq_true]
theorem set_getD {L : Array Bool} {i j : Nat} {d : Bool} (h : j ≠ i) : (L.setIfInBounds i true).getD j d = L.getD j d := by
  have : ¬ i = j := fun e => h e.symm
  simp [Array.getD_eq_getD_getElem?, Array.getElem?_setIfInBounds, this]
theorem set_mono {L : Array Bool} {i j : Nat} (h : L.getD j false = true) : (L.setIfInBounds i true).getD j false = true := by
  by_cases e : j = i
  · subst e
    have : j < L.size := by
      rcases Nat.lt_or_ge j L.size with h1 | h1
      · exact h1
      · simp [Array.getD_eq_getD_getElem?, Array.getElem?_eq_none h1] at h
    simp [Array.getD_eq_getD_getElem?, Array.getElem?_setIfInBounds, this]
  · rw [set_getD e]; exact h
theorem set_swap (L : Array Bool) (i j : Nat) : (L.setIfInBounds i true).setIfInBounds j true = (L.setIfInBounds j true).setIfInBounds i true := by
  by_cases h : i = j
  · rw [h]
  · exact Array.setIfInBounds_comm _ _ h
theorem getD_of_get {i : Nat} {o : MOp} (h : l[i]? = some o) : l.getD i mskip = o := by simp [List.getD_eq_getElem?_getD, h]

structure OneOK (K : KT) (l : List MOp) (p : List (List Nat)) (ds : List Nat) (L : Array Bool) (i : Nat) : Prop where
  ready : i ∈ readyL p L
  desc : ∀ j ∈ ds, L.getD j true = false ∧ ∃ q ∈ p.getD j [], q = i ∨ q ∈ ds
  com : ∀ j, j < p.length → L.getD j true = false → j ≠ i → j ∉ ds → comM K (l.getD i mskip) (l.getD j mskip) = true
theorem oneOK_spec {L : Array Bool} {i : Nat} (h : oneOK K l p L i = true) : OneOK K l p (descL p i) L i := by
  unfold oneOK at h
  simp only [Bool.and_eq_true, List.all_eq_true, List.mem_range, Bool.or_eq_true, List.any_eq_true, beq_iff_eq, Bool.not_eq_true', List.contains_iff_mem] at h
  obtain ⟨⟨h1, h2⟩, h3⟩ := h
  refine ⟨h1, fun j hj => ?_, fun j hj hu hne hnd => ?_⟩
  · obtain ⟨h4, q, h5, h6⟩ := h2 j hj
    exact ⟨h4, q, h5, h6⟩
  · rcases h3 j hj with ((h4 | h4) | h4) | h4
    · rw [hu] at h4; cases h4
    · exact absurd h4 hne
    · exact absurd h4 hnd
    · exact h4
theorem Full.one' {ds : List Nat} {i : Nat} {o : MOp} (ho : l[i]? = some o) (hl : l.length = p.length) : ∀ (n : Nat) (L : Array Bool) (s u : St), L.size = p.length → OneOK K l p ds L i → stepM te K s o = some u → Full te K l p R n (L.setIfInBounds i true) u → Full te K l p R (n + 1) L s := by
  intro n
  induction n with
  | zero =>
    intro L s u hsz hok hu hF
    refine ⟨fun h => by have := hok.ready; rw [h] at this; simp at this, fun j hj oj hoj => ?_⟩
    by_cases e : j = i
    · subst e
      rw [ho] at hoj
      cases hoj
      exact ⟨u, hu, hF⟩
    · exfalso
      have h1 := hF.1
      obtain ⟨a, b, c⟩ := mem_readyL.1 hj
      have : j ∈ readyL p (L.setIfInBounds i true) := mem_readyL.2 ⟨a, by rw [set_getD e]; exact b, fun q hq => set_mono (c q hq)⟩
      rw [h1] at this
      cases this
  | succ n ih =>
    intro L s u hsz hok hu hF
    refine ⟨fun h => by have := hok.ready; rw [h] at this; simp at this, fun j hj oj hoj => ?_⟩
    by_cases e : j = i
    · subst e
      rw [ho] at hoj
      cases hoj
      exact ⟨u, hu, hF⟩
    · obtain ⟨a, b, c⟩ := mem_readyL.1 hj
      have hj' : j ∈ readyL p (L.setIfInBounds i true) := mem_readyL.2 ⟨a, by rw [set_getD e]; exact b, fun q hq => set_mono (c q hq)⟩
      obtain ⟨v, hv, hF'⟩ := hF.2 j hj' oj hoj
      obtain ⟨r1, r2, r3⟩ := mem_readyL.1 hok.ready
      have hnd : j ∉ ds := fun hd => by
        obtain ⟨_, q, hq, h⟩ := hok.desc j hd
        have hq1 := c q hq
        have hq2 : L.getD q true = false := by
          rcases h with rfl | h
          · exact r2
          · exact (hok.desc q h).1
        have : q < L.size := by
          rcases Nat.lt_or_ge q L.size with h1 | h1
          · exact h1
          · simp [Array.getD_eq_getD_getElem?, Array.getElem?_eq_none h1] at hq2
        simp [Array.getD_eq_getD_getElem?, Array.getElem?_eq_getElem this] at hq1 hq2
        rw [hq1] at hq2
        cases hq2
      have hc := hok.com j a b e hnd
      rw [getD_of_get ho, getD_of_get hoj] at hc
      obtain ⟨t, ht, ht2⟩ := swap hc hu hv
      refine ⟨t, ht, ih (L.setIfInBounds j true) t v (by simpa using hsz) ⟨mem_readyL.2 ⟨r1, by rw [set_getD (fun h => e h.symm)]; exact r2, fun q hq => set_mono (r3 q hq)⟩, fun k hk => ⟨?_, (hok.desc k hk).2⟩, fun k hk hu' hne hnd' => ?_⟩ ht2 (by rw [set_swap]; exact hF')⟩
      · have hkj : k ≠ j := fun h => hnd (h ▸ hk)
        rw [set_getD hkj]
        exact (hok.desc k hk).1
      · by_cases hkj : k = j
        · subst hkj
          simp [Array.getD_eq_getD_getElem?, Array.getElem?_setIfInBounds, hsz, hk] at hu'
        · rw [set_getD hkj] at hu'
          exact hok.com k hk hu' hne hnd'

/-! ### The rules -/
def ExA (te : TE) (K : KT) (l : List MOp) (p : List (List Nat)) (R : St → Prop) (n : Nat) (L : Array Bool) (s : St) : Prop := L.size = p.length ∧ l.length = p.length → Full te K l p R n L s
def ExAS (te : TE) (K : KT) (l : List MOp) (p : List (List Nat)) (R : St → Prop) (n : Nat) (L : Array Bool) (x : Option St) : Prop := ∃ u, x = some u ∧ ExA te K l p R n L u
section
variable {rs : List ResultVar} {n0 : Nat} {Q : List AV → List LObj → Prop} {k : List MI} {s : St} {n : Nat} {L : Array Bool}
theorem Ex.anyR (m : Nat) (hl : (l.length == p.length && p.length == m) = true) (h : ExA te K l p (Ex te K rs n0 Q k) m (Array.replicate m false) s) : Ex te K rs n0 Q (.code (.any l p) :: k) s := by
  simp only [Bool.and_eq_true, beq_iff_eq] at hl
  obtain ⟨h1, h2⟩ := hl
  subst h2
  exact .any (Ex te K rs n0 Q k) (h ⟨by simp, h1⟩) fun s' h => h
theorem ExA.one (i : Nat) {o : MOp} (hok : oneOK K l p L i = true) (ho : l[i]? = some o) (h : ExAS te K l p R n (L.setIfInBounds i true) (stepM te K s o)) : ExA te K l p R (n + 1) L s := by
  intro ⟨hsz, hl⟩
  obtain ⟨u, hu, hF⟩ := h
  exact Full.one' ho hl n L s u hsz (oneOK_spec hok) hu (hF ⟨by simpa using hsz, hl⟩)
theorem ExA.two (i j : Nat) {o q : MOp} (hr : (readyL p L == [i, j]) = true) (ho : l[i]? = some o) (hq : l[j]? = some q) (h : ExAS te K l p R n (L.setIfInBounds i true) (stepM te K s o)) (h' : ExAS te K l p R n (L.setIfInBounds j true) (stepM te K s q)) : ExA te K l p R (n + 1) L s := by
  intro ⟨hsz, hl⟩
  have hr : readyL p L = [i, j] := by simpa using hr
  refine ⟨fun h => by rw [hr] at h; simp at h, fun x hx ox hox => ?_⟩
  rw [hr] at hx
  simp at hx
  rcases hx with rfl | rfl
  · rw [ho] at hox; cases hox
    obtain ⟨u, hu, hF⟩ := h
    exact ⟨u, hu, hF ⟨by simpa using hsz, hl⟩⟩
  · rw [hq] at hox; cases hox
    obtain ⟨u, hu, hF⟩ := h'
    exact ⟨u, hu, hF ⟨by simpa using hsz, hl⟩⟩
theorem ExA.three (i j m : Nat) {o q r : MOp} (hr : (readyL p L == [i, j, m]) = true) (ho : l[i]? = some o) (hq : l[j]? = some q) (hm : l[m]? = some r) (h : ExAS te K l p R n (L.setIfInBounds i true) (stepM te K s o)) (h' : ExAS te K l p R n (L.setIfInBounds j true) (stepM te K s q)) (h'' : ExAS te K l p R n (L.setIfInBounds m true) (stepM te K s r)) : ExA te K l p R (n + 1) L s := by
  intro ⟨hsz, hl⟩
  have hr : readyL p L = [i, j, m] := by simpa using hr
  refine ⟨fun h => by rw [hr] at h; simp at h, fun x hx ox hox => ?_⟩
  rw [hr] at hx
  simp at hx
  rcases hx with rfl | rfl | rfl
  · rw [ho] at hox; cases hox
    obtain ⟨u, hu, hF⟩ := h
    exact ⟨u, hu, hF ⟨by simpa using hsz, hl⟩⟩
  · rw [hq] at hox; cases hox
    obtain ⟨u, hu, hF⟩ := h'
    exact ⟨u, hu, hF ⟨by simpa using hsz, hl⟩⟩
  · rw [hm] at hox; cases hox
    obtain ⟨u, hu, hF⟩ := h''
    exact ⟨u, hu, hF ⟨by simpa using hsz, hl⟩⟩
theorem ExA.fin (hr : (readyL p L == []) = true) (h : R s) : ExA te K l p R n L s := by
  intro _
  have hr : readyL p L = [] := by simpa using hr
  cases n with
  | zero => exact ⟨hr, h⟩
  | succ n => exact ⟨fun _ => h, fun i hi => by rw [hr] at hi; cases hi⟩
theorem ExAS.some (h : ExA te K l p R n L s) : ExAS te K l p R n L (some s) := ⟨s, rfl, h⟩
theorem ExAS.req {c : Prop} [Decidable c] {x : Option St} (hc : c) (h : ExAS te K l p R n L x) : ExAS te K l p R n L (if c then x else none) := by rw [if_pos hc]; exact h
theorem ExAS.id {c : Prop} [Decidable c] {x y : Option St} (h : ExAS te K l p R n L (if c then x else y)) : ExAS te K l p R n L (if c then x else y) := h
theorem ExAS.ite {c : Prop} [Decidable c] {x y : Option St} (h : c → c = True → ExAS te K l p R n L x) (h' : ¬ c → c = False → ExAS te K l p R n L y) : ExAS te K l p R n L (if c then x else y) := by
  by_cases hc : c
  · rw [if_pos hc]; exact h hc (eq_true hc)
  · rw [if_neg hc]; exact h' hc (eq_false hc)
theorem ExAS.iteB {b : Bool} {x y : Option St} (h : b = true → ExAS te K l p R n L x) (h' : b = false → ExAS te K l p R n L y) : ExAS te K l p R n L (if b = true then x else y) := by
  cases b
  · simpa using h' rfl
  · simpa using h rfl
end
end Go.Vi
