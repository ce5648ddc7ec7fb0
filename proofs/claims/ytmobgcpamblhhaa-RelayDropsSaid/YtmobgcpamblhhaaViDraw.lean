/- Regions whose order is drawn: what may change places. -/
import Derived.Test.YtmobgcpamblhhaaViWeak
import Derived.Orders
set_option linter.unusedVariables false
set_option linter.unusedSimpArgs false
namespace Go.Vi

abbrev GF := List LObj → Option (AV × List LObj)
def Pur (g : GF) : Prop := ∃ q : Option AV, ∀ σ, g σ = q.bind fun v => some (v, σ)
def Rdr (g : GF) : Prop := ∃ q : List LObj → Option AV, (∀ σ, g σ = (q σ).bind fun v => some (v, σ)) ∧ ∀ σ τ r, q σ = some r → q (σ ++ τ) = some r
def Rds (g : GF) : Prop := ∃ q : List LObj → Option AV, (∀ σ, g σ = (q σ).bind fun v => some (v, σ)) ∧ (∀ σ τ r, q σ = some r → q (σ ++ τ) = some r) ∧ ∀ σ ids, q (frzL σ ids) = q σ
def All (g : GF) : Prop := ∃ (r : Nat → AV) (o : LObj), ∀ σ, g σ = some (r σ.length, σ ++ [o])
/-- What it gives away are objects that are there. -/
def Cal (g : GF) : Prop := ∃ (q : List LObj → Option AV) (ids : AV → List Nat), (∀ σ, g σ = (q σ).bind fun r => some (r, frzL σ (ids r))) ∧ (∀ σ τ r, q σ = some r → q (σ ++ τ) = some r) ∧
  (∀ σ l r, q (frzL σ l) = some r → q σ = some r) ∧ ∀ σ r, q σ = some r → ∀ i ∈ ids r, i < σ.length
def Cut (g : GF) : Prop := ∃ (q : List LObj → Option AV) (ids : AV → List Nat), (∀ σ, g σ = (q σ).bind fun r => some (r, frzL σ (ids r))) ∧ (∀ σ τ r, q σ = some r → q (σ ++ τ) = some r) ∧
  (∀ σ l, q (frzL σ l) = q σ) ∧ ∀ σ r, q σ = some r → ∀ i ∈ ids r, i < σ.length
theorem Cut.cal {g : GF} (h : Cut g) : Cal g := by
  obtain ⟨q, ids, h1, h2, h3, h4⟩ := h
  exact ⟨q, ids, h1, h2, fun σ l r hr => by rw [h3] at hr; exact hr, h4⟩
def Has (c : Nat) (g : GF) : Prop := Pur g ∨ (c = 1 ∧ Rds g) ∨ (c = 2 ∧ Rdr g) ∨ (c = 3 ∧ All g) ∨ (c = 4 ∧ Cal g) ∨ (c = 6 ∧ Cut g) ∨ c = 5
def commB (c d : Nat) : Bool := c == 0 || d == 0 || ((c == 1 || c == 2) && (d == 1 || d == 2 || d == 3)) || (c == 1 && (d == 4 || d == 6)) || ((c == 4 || c == 6) && (d == 1 || d == 3)) || (c == 6 && (d == 4 || d == 6))

def thaw : Option LObj → Option LObj
  | some (.arr z xs) => some (.frz z xs)
  | some (.map _) => some .gone
  | x => x
theorem thaw_frzO (σ : List LObj) (o j : Nat) : thaw (frzO σ o)[j]? = thaw σ[j]? := by
  unfold frzO
  split
  · rename_i z xs h
    by_cases e : o = j
    · subst e
      have hlt := (List.getElem?_eq_some_iff.1 h).1
      rw [List.getElem?_set_self hlt, h]
      rfl
    · rw [List.getElem?_set_ne e]
  · rename_i es h
    by_cases e : o = j
    · subst e
      have hlt := (List.getElem?_eq_some_iff.1 h).1
      rw [List.getElem?_set_self hlt, h]
      rfl
    · rw [List.getElem?_set_ne e]
  · rfl
theorem thaw_thaw (x : Option LObj) : thaw (thaw x) = thaw x := by
  rcases x with _ | x
  · rfl
  · cases x <;> rfl
theorem get_frzO (σ : List LObj) (o j : Nat) : (frzO σ o)[j]? = if j = o then thaw σ[j]? else σ[j]? := by
  unfold frzO
  split
  · rename_i z xs h
    have hlt := (List.getElem?_eq_some_iff.1 h).1
    by_cases e : j = o
    · subst e; rw [List.getElem?_set_self hlt, if_pos rfl, h]; rfl
    · rw [List.getElem?_set_ne (fun e' => e e'.symm), if_neg e]
  · rename_i es h
    have hlt := (List.getElem?_eq_some_iff.1 h).1
    by_cases e : j = o
    · subst e; rw [List.getElem?_set_self hlt, if_pos rfl, h]; rfl
    · rw [List.getElem?_set_ne (fun e' => e e'.symm), if_neg e]
  · rename_i h1 h2
    split
    · rename_i e
      subst e
      rcases hx : σ[j]? with _ | x
      · rfl
      · cases x with
        | arr z xs => exact absurd hx (h1 z xs)
        | map es => exact absurd hx (h2 es)
        | _ => rfl
    · rfl
theorem get_frzL (ids : List Nat) : ∀ (σ : List LObj) (j : Nat), (frzL σ ids)[j]? = if j ∈ ids then thaw σ[j]? else σ[j]? := by
  induction ids with
  | nil => intro σ j; simp [frzL]
  | cons i ids ih =>
    intro σ j
    show (frzL (frzO σ i) ids)[j]? = _
    rw [ih, get_frzO]
    by_cases h1 : j ∈ ids <;> by_cases h2 : j = i <;> simp [h1, h2, thaw_thaw]
theorem frzL_comm (σ : List LObj) (a b : List Nat) : frzL (frzL σ a) b = frzL (frzL σ b) a := by
  apply List.ext_getElem?
  intro j
  rw [get_frzL, get_frzL, get_frzL, get_frzL]
  by_cases h1 : j ∈ a <;> by_cases h2 : j ∈ b <;> simp [h1, h2]
theorem frzL_len (σ : List LObj) (a : List Nat) : (frzL σ a).length = σ.length := by
  induction a generalizing σ with
  | nil => rfl
  | cons i a ih =>
    show (frzL (frzO σ i) a).length = _
    rw [ih]
    unfold frzO
    split <;> simp
theorem frzL_app (σ τ : List LObj) (a : List Nat) (h : ∀ i ∈ a, i < σ.length) : frzL (σ ++ τ) a = frzL σ a ++ τ := by
  apply List.ext_getElem?
  intro j
  rw [get_frzL]
  rcases Nat.lt_or_ge j σ.length with h1 | h1
  · rw [List.getElem?_append_left h1, List.getElem?_append_left (by rw [frzL_len]; exact h1), get_frzL]
  · have : ¬ j ∈ a := fun hm => by have := h j hm; omega
    rw [if_neg this, List.getElem?_append_right h1, List.getElem?_append_right (by rw [frzL_len]; exact h1), frzL_len]

theorem comm_pur {g h : GF} (hg : Pur g) {σ σ1 σ2 : List LObj} {r1 r2 : AV} : (g σ = some (r1, σ1) → h σ1 = some (r2, σ2) → ∃ τ, h σ = some (r2, τ) ∧ g τ = some (r1, σ2)) ∧ (h σ = some (r2, σ1) → g σ1 = some (r1, σ2) → ∃ τ, g σ = some (r1, τ) ∧ h τ = some (r2, σ2)) := by
  obtain ⟨q, hq⟩ := hg
  refine ⟨fun h1 h2 => ?_, fun h1 h2 => ?_⟩
  · rw [hq] at h1
    cases q with
    | none => simp at h1
    | some v =>
      simp at h1
      obtain ⟨rfl, rfl⟩ := h1
      exact ⟨σ2, h2, by rw [hq]; rfl⟩
  · rw [hq] at h2
    cases q with
    | none => simp at h2
    | some v =>
      simp at h2
      obtain ⟨rfl, rfl⟩ := h2
      exact ⟨σ, by rw [hq]; rfl, h1⟩
theorem Rds.rdr {g : GF} (h : Rds g) : Rdr g := ⟨h.choose, h.choose_spec.1, h.choose_spec.2.1⟩
theorem bind_some_iff {q : Option AV} {f : AV → AV × List LObj} {x : AV × List LObj} (h : q.bind (fun v => some (f v)) = some x) : ∃ v, q = some v ∧ f v = x := by
  cases q with
  | none => simp at h
  | some v => exact ⟨v, rfl, by simpa using h⟩
section
variable {g h : GF} {σ σ1 σ2 : List LObj} {r1 r2 : AV}
theorem comm_rr (hg : Rdr g) (hh : Rdr h) (h1 : g σ = some (r1, σ1)) (h2 : h σ1 = some (r2, σ2)) : ∃ τ, h σ = some (r2, τ) ∧ g τ = some (r1, σ2) := by
  obtain ⟨q, hq, _⟩ := hg
  obtain ⟨p, hp, _⟩ := hh
  rw [hq] at h1
  obtain ⟨v, hv, e⟩ := bind_some_iff h1
  simp at e
  obtain ⟨rfl, rfl⟩ := e
  rw [hp] at h2
  obtain ⟨u, hu, e⟩ := bind_some_iff h2
  simp at e
  obtain ⟨rfl, rfl⟩ := e
  exact ⟨σ, by rw [hp, hu]; rfl, by rw [hq, hv]; rfl⟩
theorem comm_ra (hg : Rdr g) (hh : All h) (h1 : g σ = some (r1, σ1)) (h2 : h σ1 = some (r2, σ2)) : ∃ τ, h σ = some (r2, τ) ∧ g τ = some (r1, σ2) := by
  obtain ⟨q, hq, hst⟩ := hg
  obtain ⟨r, o, ho⟩ := hh
  rw [hq] at h1
  obtain ⟨v, hv, e⟩ := bind_some_iff h1
  simp at e
  obtain ⟨rfl, rfl⟩ := e
  rw [ho] at h2
  simp at h2
  obtain ⟨rfl, rfl⟩ := h2
  exact ⟨σ ++ [o], ho σ, by rw [hq, hst σ [o] v hv]; rfl⟩
theorem comm_rc (hg : Rds g) (hh : Cal h) (h1 : g σ = some (r1, σ1)) (h2 : h σ1 = some (r2, σ2)) : ∃ τ, h σ = some (r2, τ) ∧ g τ = some (r1, σ2) := by
  obtain ⟨q, hq, _, hfz⟩ := hg
  obtain ⟨p, ids, hp, _⟩ := hh
  rw [hq] at h1
  obtain ⟨v, hv, e⟩ := bind_some_iff h1
  simp at e
  obtain ⟨rfl, rfl⟩ := e
  exact ⟨σ2, h2, by
    rw [hp] at h2
    obtain ⟨u, hu, e⟩ := bind_some_iff h2
    simp at e
    rw [← e.2, hq, hfz, hv]
    rfl⟩
theorem comm_cr (hg : Cal g) (hh : Rds h) (h1 : g σ = some (r1, σ1)) (h2 : h σ1 = some (r2, σ2)) : ∃ τ, h σ = some (r2, τ) ∧ g τ = some (r1, σ2) := by
  obtain ⟨q, ids, hq, _⟩ := hg
  obtain ⟨p, hp, _, hfz⟩ := hh
  rw [hq] at h1
  obtain ⟨v, hv, e⟩ := bind_some_iff h1
  simp at e
  obtain ⟨rfl, rfl⟩ := e
  rw [hp, hfz] at h2
  obtain ⟨u, hu, e⟩ := bind_some_iff h2
  simp at e
  obtain ⟨rfl, rfl⟩ := e
  exact ⟨σ, by rw [hp, hu]; rfl, by rw [hq, hv]; rfl⟩
theorem comm_ca (hg : Cal g) (hh : All h) (h1 : g σ = some (r1, σ1)) (h2 : h σ1 = some (r2, σ2)) : ∃ τ, h σ = some (r2, τ) ∧ g τ = some (r1, σ2) := by
  obtain ⟨q, ids, hq, hap, _, hids⟩ := hg
  obtain ⟨r, o, ho⟩ := hh
  rw [hq] at h1
  obtain ⟨v, hv, e⟩ := bind_some_iff h1
  simp at e
  obtain ⟨rfl, rfl⟩ := e
  rw [ho] at h2
  simp at h2
  obtain ⟨rfl, rfl⟩ := h2
  refine ⟨σ ++ [o], by rw [ho, frzL_len], ?_⟩
  rw [hq, hap σ [o] v hv]
  simp [frzL_app σ [o] (ids v) (hids σ v hv)]
theorem comm_sc (hg : Cut g) (hh : Cal h) (h1 : g σ = some (r1, σ1)) (h2 : h σ1 = some (r2, σ2)) : ∃ τ, h σ = some (r2, τ) ∧ g τ = some (r1, σ2) := by
  obtain ⟨q, ids, hq, _, hfz, _⟩ := hg
  obtain ⟨p, jds, hp, _, hun, _⟩ := hh
  rw [hq] at h1
  obtain ⟨v, hv, e⟩ := bind_some_iff h1
  simp at e
  obtain ⟨rfl, rfl⟩ := e
  rw [hp] at h2
  obtain ⟨u, hu, e⟩ := bind_some_iff h2
  simp at e
  obtain ⟨rfl, rfl⟩ := e
  refine ⟨frzL σ (jds u), by rw [hp, hun _ _ _ hu]; rfl, ?_⟩
  rw [hq, hfz, hv]
  simp [frzL_comm]
theorem comm_heap {c d : Nat} (hg : Has c g) (hh : Has d h) (hc : commB c d = true) (h1 : g σ = some (r1, σ1)) (h2 : h σ1 = some (r2, σ2)) : ∃ τ, h σ = some (r2, τ) ∧ g τ = some (r1, σ2) := by
  rcases hg with hg | hg
  · exact (comm_pur hg).1 h1 h2
  rcases hh with hh | hh
  · exact (comm_pur hh).2 h1 h2
  rcases hg with ⟨rfl, hg⟩ | ⟨rfl, hg⟩ | ⟨rfl, hg⟩ | ⟨rfl, hg⟩ | ⟨rfl, hg⟩ | rfl <;> rcases hh with ⟨rfl, hh⟩ | ⟨rfl, hh⟩ | ⟨rfl, hh⟩ | ⟨rfl, hh⟩ | ⟨rfl, hh⟩ | rfl
  all_goals first
    | (simp [commB] at hc; done)
    | exact comm_rr (by first | exact hg | exact hg.rdr) (by first | exact hh | exact hh.rdr) h1 h2
    | exact comm_ra (by first | exact hg | exact hg.rdr) hh h1 h2
    | exact comm_rc hg (by first | exact hh | exact hh.cal) h1 h2
    | exact comm_cr (by first | exact hg | exact hg.cal) hh h1 h2
    | exact comm_ca (by first | exact hg | exact hg.cal) hh h1 h2
    | exact comm_sc hg (by first | exact hh | exact hh.cal) h1 h2
end

/-! ### What reads -/
theorem get_app {σ : List LObj} {o : Nat} {x : LObj} (τ : List LObj) (h : σ[o]? = some x) : (σ ++ τ)[o]? = some x := by
  rw [List.getElem?_append_left (List.getElem?_eq_some_iff.1 h).1]; exact h
/-- It looks at the objects one by one, and does not tell what is frozen. -/
theorem Rds.of (q : List LObj → Option AV) (ha : ∀ σ τ r, q σ = some r → q (σ ++ τ) = some r) (hf : ∀ σ σ' : List LObj, (∀ j : Nat, thaw σ'[j]? = thaw σ[j]?) → q σ' = q σ) : Rds fun σ => (q σ).bind fun v => some (v, σ) := by
  refine ⟨q, fun _ => rfl, ha, fun σ ids => hf _ _ ?_⟩
  induction ids generalizing σ with
  | nil => intro j; rfl
  | cons i ids ih => intro j; exact (ih (frzO σ i) j).trans (thaw_frzO σ i j)
theorem thaw_cells {x y : Option LObj} (h : thaw x = thaw y) {α : Type} (f : List AV → Option α) : (match (generalizing := false) x with | some (.cells cs) => f cs | _ => none) = (match (generalizing := false) y with | some (.cells cs) => f cs | _ => none) := by
  rcases x with _ | x <;> rcases y with _ | y <;> (try cases x) <;> (try cases y) <;> simp [thaw] at h ⊢
  rw [h]
theorem thaw_arr {x y : Option LObj} (h : thaw x = thaw y) {α : Type} (f : Nat → List (List AV) → Option α) : (match (generalizing := false) x with | some (.arr z xs) => f z xs | some (.frz z xs) => f z xs | _ => none) = (match (generalizing := false) y with | some (.arr z xs) => f z xs | some (.frz z xs) => f z xs | _ => none) := by
  rcases x with _ | x <;> rcases y with _ | y <;> (try cases x) <;> (try cases y) <;> simp [thaw] at h ⊢
  all_goals (rw [h.1, h.2])
variable {te : TE} {K : KT}
theorem loadD_rds (t : TypeId) (x : AV) : Rds fun σ => (loadD te σ t x).bind fun v => some (v, σ) := by
  refine Rds.of _ (fun σ τ r h => ?_) (fun σ σ' h => ?_)
  · unfold loadD at h ⊢
    cases hti : te t with
    | none => simp [hti] at h
    | some i =>
      simp only [hti, Option.bind_some] at h ⊢
      cases x with
      | ptr p =>
        cases p with
        | none => exact h
        | some p =>
          cases ho : σ[p.1]? with
          | none => simp [ho] at h
          | some x => simp only [get_app τ ho]; simpa [ho] using h
      | aptr o z e j =>
        cases ho : σ[o]? with
        | none => simp [ho] at h
        | some x => simp only [get_app τ ho]; simpa [ho] using h
      | _ => exact h
  · unfold loadD
    cases hti : te t with
    | none => rfl
    | some i =>
      simp only [Option.bind_some]
      cases x with
      | ptr p =>
        cases p with
        | none => rfl
        | some p => exact thaw_cells (h p.1) _
      | aptr o z e j => exact thaw_arr (h o) fun z' xs => if z' = z then (xs[e]?).bind fun es => part i es j else none
      | _ => rfl
theorem listOf_app {x : AV} {σ τ : List LObj} {r} (h : listOf σ x = some r) : listOf (σ ++ τ) x = some r := by
  cases x with
  | msl o z off len =>
    unfold listOf at h ⊢
    cases ho : σ[o]? with
    | none => simp [ho] at h
    | some x => simp only [get_app τ ho]; simpa [ho] using h
  | _ => exact h
theorem listOf_thaw {x : AV} {σ σ' : List LObj} (h : ∀ j : Nat, thaw σ'[j]? = thaw σ[j]?) : listOf σ' x = listOf σ x := by
  cases x with
  | msl o z off len => exact thaw_arr (h o) fun z' xs => if z' = z ∧ off + len ≤ xs.length then some (z, sub off len xs) else none
  | _ => rfl
theorem convD_rds (a b : TypeId) (x : AV) : Rds fun σ => (convD te σ a b x).bind fun v => some (v, σ) := by
  refine Rds.of _ (fun σ τ r h => ?_) (fun σ σ' h => ?_)
  · unfold convD at h ⊢
    split at h <;> rename_i e1 e2 <;> first | exact h | (simp only [e1, e2]; exact h) | skip
    split at h
    · obtain ⟨p, hp, hq⟩ := Option.bind_eq_some_iff.1 h
      rw [listOf_app hp]
      exact hq
    · cases h
  · have e : listOf σ' x = listOf σ x := listOf_thaw h
    simp only [convD, e]

theorem sliceD_nil {te : TE} {t : TypeId} {x : AV} {lo hi : Option AV} (σ : List LObj) : sl3D te σ t x lo hi none = (sliceD te t x lo hi none).bind fun v => some (v, σ) := by
  unfold sl3D
  cases x <;> rfl
theorem entriesOf_app {x : AV} {σ τ : List LObj} {r} (h : entriesOf σ x = some r) : entriesOf (σ ++ τ) x = some r := by
  cases x with
  | mp p =>
    cases p with
    | none => exact h
    | some o =>
      unfold entriesOf at h ⊢
      cases ho : σ[o]? with
      | none => simp [ho] at h
      | some x => simp only [get_app τ ho]; simpa [ho] using h
  | _ => exact h
theorem lookupD_rdr (t : TypeId) (m k : AV) (c : Bool) : Rdr fun σ => (lookupD te σ t m k c).bind fun v => some (v, σ) := by
  refine ⟨_, fun _ => rfl, fun σ τ r h => ?_⟩
  unfold lookupD at h ⊢
  split at h
  · rename_i e
    obtain ⟨ei, h1, h2⟩ := Option.bind_eq_some_iff.1 h
    obtain ⟨es, h3, h4⟩ := Option.bind_eq_some_iff.1 h2
    simp only [h1, entriesOf_app h3, Option.bind_some]
    exact h4
  · cases h
theorem lenD_rdr (t : TypeId) (x : AV) : Rdr fun σ => (lenD te σ t x).bind fun v => some (v, σ) := by
  refine ⟨_, fun _ => rfl, fun σ τ r h => ?_⟩
  unfold lenD at h ⊢
  obtain ⟨i, h1, h2⟩ := Option.bind_eq_some_iff.1 h
  simp only [h1, Option.bind_some]
  split at h2
  all_goals (try (rename_i e; simp only [e]; first | exact h2 | skip))
  all_goals (try exact h2)
  rename_i o e
  split at h2
  · rename_i es ho
    simp only [get_app τ ho]
    exact h2
  · cases h2

theorem deepC_app {x : AV} {σ τ : List LObj} {r} (h : deepC σ x = some r) : deepC (σ ++ τ) x = some r := by
  unfold deepC at h ⊢
  split at h <;> first
    | exact h
    | (split at h <;> first | (rename_i ho; simp only [get_app τ ho]; exact h) | cases h)
    | cases h
theorem deepC_un {x : AV} {σ : List LObj} {l : List Nat} {r} (h : deepC (frzL σ l) x = some r) : deepC σ x = some r := by
  cases x with
  | msl o z off len =>
    have e : thaw (frzL σ l)[o]? = thaw σ[o]? := by rw [get_frzL]; split <;> simp [thaw_thaw]
    rw [← h]
    exact (thaw_arr e fun z' xs => if z' = z ∧ off + len ≤ xs.length then some (AV.sl z false (sub off len xs)) else none).symm
  | mp p =>
    cases p with
    | none => exact h
    | some o =>
      simp only [deepC, get_frzL] at h ⊢
      by_cases hm : o ∈ l
      · simp only [hm, if_true] at h
        rcases hx : σ[o]? with _ | y
        · simp [hx, thaw] at h
        · cases y <;> simp [hx, thaw] at h
      · simpa only [hm, if_false] using h
  | ptr p => cases p <;> exact h
  | fn f cs => cases cs <;> exact h
  | _ => exact h
theorem deepC_ids {x : AV} {σ : List LObj} {r} (h : deepC σ x = some r) : ∀ i ∈ idC x, i < σ.length := by
  intro i hi
  cases x with
  | msl o z off len =>
    simp [idC] at hi
    subst hi
    cases ho : σ[i]? with
    | none => simp [deepC, ho] at h
    | some y => exact (List.getElem?_eq_some_iff.1 ho).1
  | mp p =>
    cases p with
    | none => simp [idC] at hi
    | some o =>
      simp [idC] at hi
      subst hi
      cases ho : σ[i]? with
      | none => simp [deepC, ho] at h
      | some y => exact (List.getElem?_eq_some_iff.1 ho).1
  | _ => simp [idC] at hi
theorem deepL_app {σ τ : List LObj} : ∀ {xs rs : List AV}, deepL σ xs = some rs → deepL (σ ++ τ) xs = some rs
  | [], rs, h => h
  | x :: xs, rs, h => by
    simp only [deepL] at h ⊢
    obtain ⟨y, hy, h⟩ := Option.bind_eq_some_iff.1 h
    obtain ⟨ys, hys, h⟩ := Option.bind_eq_some_iff.1 h
    simp only [deepC_app hy, deepL_app hys, Option.bind_some]
    exact h
theorem deepL_un {σ : List LObj} {l : List Nat} : ∀ {xs rs : List AV}, deepL (frzL σ l) xs = some rs → deepL σ xs = some rs
  | [], rs, h => h
  | x :: xs, rs, h => by
    simp only [deepL] at h ⊢
    obtain ⟨y, hy, h⟩ := Option.bind_eq_some_iff.1 h
    obtain ⟨ys, hys, h⟩ := Option.bind_eq_some_iff.1 h
    simp only [deepC_un hy, deepL_un hys, Option.bind_some]
    exact h
theorem deepL_ids {σ : List LObj} : ∀ {xs rs : List AV}, deepL σ xs = some rs → ∀ i ∈ xs.flatMap idC, i < σ.length
  | [], rs, h => fun i hi => by simp at hi
  | x :: xs, rs, h => by
    simp only [deepL] at h
    obtain ⟨y, hy, h⟩ := Option.bind_eq_some_iff.1 h
    obtain ⟨ys, hys, h⟩ := Option.bind_eq_some_iff.1 h
    intro i hi
    rw [List.flatMap_cons, List.mem_append] at hi
    rcases hi with hi | hi
    · exact deepC_ids hy i hi
    · exact deepL_ids hys i hi
theorem deepA_leaf {x : AV} (h : ∀ cs, x ≠ .agg cs) (σ : List LObj) : deepA σ x = deepC σ x := by
  cases x <;> first | rfl | exact absurd rfl (h _)
theorem idA_leaf {x : AV} (h : ∀ cs, x ≠ .agg cs) : idA x = idC x := by
  cases x <;> first | rfl | exact absurd rfl (h _)
theorem deepA_app {x : AV} {σ τ : List LObj} {r} (h : deepA σ x = some r) : deepA (σ ++ τ) x = some r := by
  cases x with
  | agg cs =>
    simp only [deepA] at h ⊢
    obtain ⟨y, hy, h⟩ := Option.bind_eq_some_iff.1 h
    simp only [deepL_app hy, Option.bind_some]
    exact h
  | _ => rw [deepA_leaf (by intro cs; simp)] at h ⊢; exact deepC_app h
theorem deepA_un {x : AV} {σ : List LObj} {l : List Nat} {r} (h : deepA (frzL σ l) x = some r) : deepA σ x = some r := by
  cases x with
  | agg cs =>
    simp only [deepA] at h ⊢
    obtain ⟨y, hy, h⟩ := Option.bind_eq_some_iff.1 h
    simp only [deepL_un hy, Option.bind_some]
    exact h
  | _ => rw [deepA_leaf (by intro cs; simp)] at h ⊢; exact deepC_un h
theorem deepA_ids {x : AV} {σ : List LObj} {r} (h : deepA σ x = some r) : ∀ i ∈ idA x, i < σ.length := by
  cases x with
  | agg cs =>
    simp only [deepA] at h
    obtain ⟨y, hy, h⟩ := Option.bind_eq_some_iff.1 h
    exact deepL_ids hy
  | _ => rw [deepA_leaf (by intro cs; simp)] at h; rw [idA_leaf (by intro cs; simp)]; exact deepC_ids h
theorem deepAs_app {σ τ : List LObj} : ∀ {xs rs : List AV}, deepAs σ xs = some rs → deepAs (σ ++ τ) xs = some rs
  | [], rs, h => h
  | x :: xs, rs, h => by
    simp only [deepAs] at h ⊢
    obtain ⟨y, hy, h⟩ := Option.bind_eq_some_iff.1 h
    obtain ⟨ys, hys, h⟩ := Option.bind_eq_some_iff.1 h
    simp only [deepA_app hy, deepAs_app hys, Option.bind_some]
    exact h
theorem deepAs_un {σ : List LObj} {l : List Nat} : ∀ {xs rs : List AV}, deepAs (frzL σ l) xs = some rs → deepAs σ xs = some rs
  | [], rs, h => h
  | x :: xs, rs, h => by
    simp only [deepAs] at h ⊢
    obtain ⟨y, hy, h⟩ := Option.bind_eq_some_iff.1 h
    obtain ⟨ys, hys, h⟩ := Option.bind_eq_some_iff.1 h
    simp only [deepA_un hy, deepAs_un hys, Option.bind_some]
    exact h
theorem deepAs_ids {σ : List LObj} : ∀ {xs rs : List AV}, deepAs σ xs = some rs → ∀ i ∈ xs.flatMap idA, i < σ.length
  | [], rs, h => fun i hi => by simp at hi
  | x :: xs, rs, h => by
    simp only [deepAs] at h
    obtain ⟨y, hy, h⟩ := Option.bind_eq_some_iff.1 h
    obtain ⟨ys, hys, h⟩ := Option.bind_eq_some_iff.1 h
    intro i hi
    rw [List.flatMap_cons, List.mem_append] at hi
    rcases hi with hi | hi
    · exact deepA_ids hy i hi
    · exact deepAs_ids hys i hi
theorem has_sl3 {te : TE} {t : TypeId} {x : AV} {lo hi : Option AV} {m : AV} : Has 6 fun σ => sl3D te σ t x lo hi (some m) := by
  by_cases h : ∃ o z off len, x = .msl o z off len
  · obtain ⟨o, z, off, len, rfl⟩ := h
    refine .inr (.inr (.inr (.inr (.inr (.inl ⟨rfl, fun σ => (deepC σ (.msl o z off len)).bind fun y => sliceD te t y lo hi (some m), fun _ => [o], fun σ => ?_, fun σ τ r hr => ?_, fun σ l => ?_, fun σ r hr => ?_⟩)))))
    · simp only [sl3D]
      cases deepC σ (.msl o z off len) with
      | none => rfl
      | some y => rfl
    · obtain ⟨y, hy, hr⟩ := Option.bind_eq_some_iff.1 hr
      simp only [deepC_app hy, Option.bind_some]
      exact hr
    · have e : thaw (frzL σ l)[o]? = thaw σ[o]? := by rw [get_frzL]; split <;> simp [thaw_thaw]
      have e2 : deepC (frzL σ l) (.msl o z off len) = deepC σ (.msl o z off len) := thaw_arr e fun z' xs => if z' = z ∧ off + len ≤ xs.length then some (AV.sl z false (sub off len xs)) else none
      simp only [e2]
    · obtain ⟨y, hy, _⟩ := Option.bind_eq_some_iff.1 hr
      exact deepC_ids hy
  · refine .inl ⟨sliceD te t x lo hi (some m), fun σ => ?_⟩
    cases x <;> first | rfl | exact absurd ⟨_, _, _, _, rfl⟩ h

/-! ### The kinds of operations -/
def clsB : Builtin → Nat
  | .len => 2
  | .min => 0
  | .max => 0
  | _ => 5
def clsF (K : KT) (f : FuncId) : Nat := match K f with
  | .pure _ => 4
  | _ => 5
def clsC (K : KT) : Callee → Nat
  | .builtin b => clsB b
  | .value (.func f) => clsF K f
  | _ => 5
def clsOp (K : KT) : Op → Nat
  | .move _ => 0
  | .assign _ => 0
  | .pick _ _ _ => 0
  | .build _ _ => 0
  | .nilCheck _ => 0
  | .binOp _ _ _ _ _ => 0
  | .unOp _ _ _ => 0
  | .makeFunc _ _ _ => 0
  | .fieldAddr _ _ _ => 0
  | .field _ _ _ => 0
  | .indexAddr _ _ _ => 0
  | .index _ _ _ => 0
  | .extract _ _ => 0
  | .slice _ _ _ _ none => 0
  | .slice _ _ _ _ (some _) => 6
  | .load _ _ => 1
  | .convert _ _ _ => 1
  | .lookup _ _ _ _ => 2
  | .alloc _ => 3
  | .box _ _ => 3
  | .makeMap _ none => 3
  | .buildSlice _ _ _ => 4
  | .call c => clsC K c.callee
  | _ => 5
theorem Pur.has {c : Nat} {g : GF} (h : Pur g) : Has c g := .inl h
theorem has_op (f : Nat → AV) (op : Op) : Has (clsOp K op) fun σ => opD te K ⟨f, σ⟩ op := by
  have five : ∀ g, Has 5 g := fun g => .inr (.inr (.inr (.inr (.inr (.inr rfl)))))
  cases op with
  | move x => exact Pur.has ⟨some (ev ⟨f, []⟩ x), fun σ => rfl⟩
  | assign x => exact Pur.has ⟨some (ev ⟨f, []⟩ x), fun σ => rfl⟩
  | pick c a b =>
    refine Pur.has ⟨match ev ⟨f, []⟩ c with | .bool p => (if p = true then some (ev ⟨f, []⟩ a) else some (ev ⟨f, []⟩ b)) | _ => none, fun σ => ?_⟩
    have e1 : ∀ x, ev ⟨f, σ⟩ x = ev ⟨f, []⟩ x := fun x => rfl
    simp only [opD, e1]
    cases ev ⟨f, []⟩ c with
    | bool p => cases p <;> rfl
    | _ => rfl
  | build t p => exact Pur.has ⟨buildD te t (p.toList.map fun p => (p.1, ev ⟨f, []⟩ p.2)), fun σ => rfl⟩
  | nilCheck x => exact Pur.has ⟨nilD (ev ⟨f, []⟩ x), fun σ => rfl⟩
  | binOp o t x y u => exact Pur.has ⟨binD te o t (ev ⟨f, []⟩ x) (ev ⟨f, []⟩ y), fun σ => rfl⟩
  | unOp o t x => exact Pur.has ⟨unD o (ev ⟨f, []⟩ x), fun σ => rfl⟩
  | makeFunc fn fi ca =>
    refine Pur.has ⟨match fn, fi.toList with | .func f', [] => some (.fn f' (opsAV ⟨f, []⟩ ca)) | _, _ => none, fun σ => ?_⟩
    have e1 : opsAV ⟨f, σ⟩ ca = opsAV ⟨f, []⟩ ca := rfl
    simp only [opD, e1]
    cases fn with
    | func g => cases fi.toList <;> rfl
    | _ => rfl
  | fieldAddr t x i => exact Pur.has ⟨fieldAddrD te t (ev ⟨f, []⟩ x) i, fun σ => rfl⟩
  | field t x i => exact Pur.has ⟨fieldD te t (ev ⟨f, []⟩ x) i, fun σ => rfl⟩
  | indexAddr t x i => exact Pur.has ⟨indexAddrD te t (ev ⟨f, []⟩ x) (ev ⟨f, []⟩ i), fun σ => rfl⟩
  | index t x i => exact Pur.has ⟨indexD te t (ev ⟨f, []⟩ x) (ev ⟨f, []⟩ i), fun σ => rfl⟩
  | extract x i =>
    refine Pur.has ⟨match ev ⟨f, []⟩ x with | .tup vs => vs[i]? | _ => none, fun σ => ?_⟩
    have e1 : ∀ x, ev ⟨f, σ⟩ x = ev ⟨f, []⟩ x := fun x => rfl
    simp only [opD, e1]
    cases ev ⟨f, []⟩ x with
    | tup vs => cases h : vs[i]? <;> simp [h]
    | _ => rfl
  | slice t x lo hi mx =>
    cases mx with
    | none =>
      refine Pur.has ⟨sliceD te t (ev ⟨f, []⟩ x) (lo.map (ev ⟨f, []⟩)) (hi.map (ev ⟨f, []⟩)) none, fun σ => ?_⟩
      exact sliceD_nil σ
    | some m => exact has_sl3 (lo := lo.map (ev ⟨f, []⟩)) (hi := hi.map (ev ⟨f, []⟩)) (m := ev ⟨f, []⟩ m) (x := ev ⟨f, []⟩ x)
  | load t x => exact .inr (.inl ⟨rfl, loadD_rds t (ev ⟨f, []⟩ x)⟩)
  | convert a b x => exact .inr (.inl ⟨rfl, convD_rds a b (ev ⟨f, []⟩ x)⟩)
  | lookup t m k c => exact .inr (.inr (.inl ⟨rfl, lookupD_rdr t (ev ⟨f, []⟩ m) (ev ⟨f, []⟩ k) c⟩))
  | alloc t =>
    cases hti : te t with
    | none => exact Pur.has ⟨none, fun σ => by simp [opD, hti]⟩
    | some i =>
      by_cases hs : i.zero.solid = true
      · exact .inr (.inr (.inr (.inl ⟨rfl, fun n => .ptr (some (n, 0)), .cells i.zero.flat, fun σ => by simp [opD, hti, hs]⟩)))
      · exact Pur.has ⟨none, fun σ => by simp [opD, hti, hs]⟩
  | box t x =>
    have e1 : ∀ σ, ev ⟨f, σ⟩ x = ev ⟨f, []⟩ x := fun σ => rfl
    by_cases hj : ev ⟨f, []⟩ x = .junk
    · exact Pur.has ⟨none, fun σ => by simp [opD, e1, hj]⟩
    · refine .inr (.inr (.inr (.inl ⟨rfl, fun n => .ptr (some (n, 0)), .cells (ev ⟨f, []⟩ x).flat, fun σ => ?_⟩)))
      simp only [opD, e1]
  | makeMap t r =>
    cases r with
    | none => exact .inr (.inr (.inr (.inl ⟨rfl, fun n => .mp (some n), .map [], fun σ => rfl⟩)))
    | some r => exact five _
  | buildSlice t n p =>
    have e1 : ∀ σ, (p.toList.map fun p => (p.1, ev ⟨f, σ⟩ p.2)) = (p.toList.map fun p => (p.1, ev ⟨f, []⟩ p.2)) := fun σ => rfl
    show Has 4 fun σ => buildSlD te σ t n (p.toList.map fun p => (p.1, ev ⟨f, σ⟩ p.2))
    simp only [e1]
    generalize (p.toList.map fun p => (p.1, ev ⟨f, []⟩ p.2)) = ps
    unfold buildSlD
    cases te t with
    | none => exact Pur.has ⟨none, fun σ => rfl⟩
    | some i =>
      simp only [Option.bind_some]
      split
      · rename_i e he
        cases te e with
        | none => exact Pur.has ⟨none, fun σ => rfl⟩
        | some ei =>
          simp only [Option.bind_some]
          split
          · cases fillD (fun j => some (j * ei.size, ei.size)) (reps n ei.zero.flat) ps with
            | none => exact Pur.has ⟨none, fun σ => rfl⟩
            | some cs =>
              simp only [Option.bind_some]
              refine .inr (.inr (.inr (.inr (.inl ⟨rfl, fun σ => (deepL σ cs).bind fun ds => some (.sl ei.size true (chunks ei.size n ds)), fun _ => cs.flatMap idC, fun σ => ?_, fun σ τ r hr => ?_, fun σ l r hr => ?_, fun σ r hr => ?_⟩))))
              · show (deepL σ cs).bind _ = ((deepL σ cs).bind _).bind _
                cases deepL σ cs <;> rfl
              · obtain ⟨y, hy, hr⟩ := Option.bind_eq_some_iff.1 hr
                simp only [deepL_app hy, Option.bind_some]
                exact hr
              · obtain ⟨y, hy, hr⟩ := Option.bind_eq_some_iff.1 hr
                simp only [deepL_un hy, Option.bind_some]
                exact hr
              · obtain ⟨y, hy, _⟩ := Option.bind_eq_some_iff.1 hr
                exact deepL_ids hy
          · exact Pur.has ⟨none, fun σ => rfl⟩
      · exact Pur.has ⟨none, fun σ => rfl⟩
  | call c =>
    obtain ⟨cal, as, ts⟩ := c
    have e2 : ∀ σ, opsAV ⟨f, σ⟩ as = opsAV ⟨f, []⟩ as := fun σ => rfl
    cases cal with
    | builtin b =>
      show Has (clsB b) fun σ => biD te σ b (opsAV ⟨f, σ⟩ as) ts.toList
      simp only [e2]
      generalize opsAV ⟨f, []⟩ as = xs
      generalize ts.toList = tt
      cases b with
      | len =>
        match xs, tt with
        | [x], t :: _ => exact .inr (.inr (.inl ⟨rfl, lenD_rdr t x⟩))
        | [], _ => exact Pur.has ⟨none, fun σ => rfl⟩
        | [_], [] => exact Pur.has ⟨none, fun σ => rfl⟩
        | _ :: _ :: _, _ => exact Pur.has ⟨none, fun σ => rfl⟩
      | min => exact Pur.has ⟨minD false xs, fun σ => by cases xs <;> rfl⟩
      | max => exact Pur.has ⟨minD true xs, fun σ => by cases xs <;> rfl⟩
      | _ => exact five _
    | value x =>
      cases x with
      | func g =>
        show Has (clsF K g) fun σ => callD K σ g (opsAV ⟨f, σ⟩ as ++ [])
        simp only [e2]
        generalize opsAV ⟨f, []⟩ as ++ [] = xs
        unfold clsF callD
        cases K g with
        | pure F =>
          refine .inr (.inr (.inr (.inr (.inl ⟨rfl, fun σ => (deepAs σ xs).bind F, fun r => if scal r then [] else xs.flatMap idA, fun σ => ?_, fun σ τ r hr => ?_, fun σ l r hr => ?_, fun σ r hr => ?_⟩))))
          · cases h : deepAs σ xs with
            | none => simp [h]
            | some as =>
              cases h2 : F as with
              | none => simp [h, h2]
              | some r =>
                simp only [h, h2, Option.bind_some]
                by_cases hs : scal r = true
                · simp [hs, frzL]
                · simp [hs]
          · obtain ⟨y, hy, hr⟩ := Option.bind_eq_some_iff.1 hr
            simp only [deepAs_app hy, Option.bind_some]
            exact hr
          · obtain ⟨y, hy, hr⟩ := Option.bind_eq_some_iff.1 hr
            simp only [deepAs_un hy, Option.bind_some]
            exact hr
          · obtain ⟨y, hy, _⟩ := Option.bind_eq_some_iff.1 hr
            intro i hi
            dsimp only at hi
            split at hi
            · cases hi
            · exact deepAs_ids hy i hi
        | _ => exact five _
      | _ => exact five _
    | _ => exact five _
  | _ => exact five _
end Go.Vi
