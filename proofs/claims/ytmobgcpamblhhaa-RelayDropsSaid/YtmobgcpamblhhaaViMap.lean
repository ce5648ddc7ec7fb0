/- Maps by their entries. -/
import Derived.Test.YtmobgcpamblhhaaViSpec
set_option linter.unusedVariables false
set_option linter.unusedSimpArgs false
namespace Go.Vi
section
variable {κ β : Type} [DecidableEq κ]
/-- Where a key stands, and its value. -/
def fk (k : κ) : List (κ × β) → Nat → Option (Nat × β)
  | [], _ => none
  | (a, v) :: es, i => if k = a then some (i, v) else fk k es (i + 1)
/-- The value of a key. -/
def lk (k : κ) : List (κ × β) → Option β
  | [] => none
  | (a, v) :: es => if k = a then some v else lk k es
def ins (k : κ) (v : β) : List (κ × β) → List (κ × β)
  | [] => [(k, v)]
  | (a, u) :: es => if k = a then (k, v) :: es else (a, u) :: ins k v es
def del (k : κ) : List (κ × β) → List (κ × β)
  | [] => []
  | (a, u) :: es => if k = a then es else (a, u) :: del k es
theorem fk_lk {k : κ} : ∀ {es : List (κ × β)} {i : Nat}, (fk k es i).map (·.2) = lk k es
  | [], i => rfl
  | (a, v) :: es, i => by
    simp only [fk, lk]
    split
    · rfl
    · exact fk_lk
theorem fk_shift {k : κ} : ∀ {es : List (κ × β)} {i : Nat}, fk k es i = (fk k es 0).map fun p => (p.1 + i, p.2)
  | [], i => rfl
  | (a, v) :: es, i => by
    simp only [fk]
    split
    · simp
    · rw [fk_shift (i := i + 1), fk_shift (i := 0 + 1)]
      cases fk k es 0 <;> simp; omega
theorem ins_fk {k : κ} {v : β} : ∀ {es : List (κ × β)}, ins k v es = match fk k es 0 with | some (i, _) => es.set i (k, v) | none => es ++ [(k, v)]
  | [] => rfl
  | (a, u) :: es => by
    simp only [ins, fk]
    split
    · simp
    · rw [ins_fk, fk_shift (i := 0 + 1)]
      cases fk k es 0 <;> simp
theorem del_fk {k : κ} : ∀ {es : List (κ × β)}, del k es = match fk k es 0 with | some (i, _) => es.eraseIdx i | none => es
  | [] => rfl
  | (a, u) :: es => by
    simp only [del, fk]
    split
    · simp
    · rw [del_fk, fk_shift (i := 0 + 1)]
      cases fk k es 0 <;> simp
theorem lk_ins {k j : κ} {v : β} : ∀ {es : List (κ × β)}, lk j (ins k v es) = if j = k then some v else lk j es
  | [] => by simp [ins, lk]
  | (a, u) :: es => by
    simp only [ins]
    split
    · rename_i e; subst e
      simp only [lk]
      split <;> simp_all
    · simp only [lk, lk_ins]
      by_cases h1 : j = a <;> by_cases h2 : j = k <;> simp_all
def uniq (es : List (κ × β)) : Prop := (es.map (·.1)).Nodup
theorem lk_none {k : κ} : ∀ {es : List (κ × β)}, lk k es = none ↔ k ∉ es.map (·.1)
  | [] => by simp [lk]
  | (a, u) :: es => by
    simp only [lk]
    split
    · simp_all
    · rename_i h
      rw [lk_none]
      simp [h]
theorem lk_del {k j : κ} : ∀ {es : List (κ × β)}, uniq es → lk j (del k es) = if j = k then none else lk j es
  | [], _ => by simp [del, lk]
  | (a, u) :: es, h => by
    have h1 : a ∉ es.map (·.1) := by have := h; simp only [uniq, List.map_cons, List.nodup_cons] at this; exact this.1
    have h2 : uniq es := by have := h; simp only [uniq, List.map_cons, List.nodup_cons] at this; exact this.2
    simp only [del]
    split
    · rename_i e; subst e
      simp only [lk]
      split
      · rename_i e; subst e; exact lk_none.2 h1
      · rfl
    · simp only [lk, lk_del h2]
      by_cases h3 : j = a <;> by_cases h4 : j = k <;> simp_all
theorem keys_ins {k j : κ} {v : β} : ∀ {es : List (κ × β)}, j ∈ (ins k v es).map (·.1) ↔ j = k ∨ j ∈ es.map (·.1)
  | [] => by simp [ins]
  | (a, u) :: es => by
    simp only [ins]
    split
    · rename_i e; subst e; simp
    · simp only [List.map_cons, List.mem_cons, keys_ins]
      constructor <;> (rintro (h | h | h) <;> simp [h])
theorem uniq_ins {k : κ} {v : β} : ∀ {es : List (κ × β)}, uniq es → uniq (ins k v es)
  | [], _ => by simp [uniq, ins]
  | (a, u) :: es, h => by
    have h1 : a ∉ es.map (·.1) := by have := h; simp only [uniq, List.map_cons, List.nodup_cons] at this; exact this.1
    have h2 : uniq es := by have := h; simp only [uniq, List.map_cons, List.nodup_cons] at this; exact this.2
    simp only [ins]
    split
    · rename_i e; subst e; exact h
    · rename_i e
      have := uniq_ins (v := v) (k := k) h2
      simp only [uniq, List.map_cons, List.nodup_cons]
      refine ⟨?_, this⟩
      rw [keys_ins]
      rintro (h | h)
      · exact e h.symm
      · exact h1 h
theorem del_sublist {k : κ} : ∀ {es : List (κ × β)}, (del k es).Sublist es
  | [] => by simp [del]
  | (a, u) :: es => by
    simp only [del]
    split
    · exact List.sublist_cons_self _ _
    · exact del_sublist.cons_cons _
theorem uniq_del {k : κ} {es : List (κ × β)} (h : uniq es) : uniq (del k es) := (del_sublist.map _).nodup h
theorem mem_of_lk {k : κ} {v : β} : ∀ {es : List (κ × β)}, lk k es = some v → (k, v) ∈ es
  | [], h => by simp [lk] at h
  | (a, u) :: es, h => by
    simp only [lk] at h
    split at h
    · rename_i e; subst e; cases h; simp
    · exact List.mem_cons_of_mem _ (mem_of_lk h)
theorem lk_of_mem {k : κ} {v : β} : ∀ {es : List (κ × β)}, uniq es → (k, v) ∈ es → lk k es = some v
  | [], _, h => by simp at h
  | (a, u) :: es, hu, h => by
    have h1 : a ∉ es.map (·.1) := by have := hu; simp only [uniq, List.map_cons, List.nodup_cons] at this; exact this.1
    have h2 : uniq es := by have := hu; simp only [uniq, List.map_cons, List.nodup_cons] at this; exact this.2
    rcases List.mem_cons.1 h with e | h
    · cases e; simp [lk]
    · have : k ≠ a := fun e => h1 (e ▸ List.mem_map_of_mem (f := (·.1)) h)
      simp only [lk, this, if_false]
      exact lk_of_mem h2 h
end

/-! ### In the interpreter -/
section
variable {κ β : Type} {K : E κ} {V : E β}
/-- Entries, encoded. -/
def encM (K : E κ) (V : E β) (es : List (κ × β)) : List (AV × AV) := es.map fun e => (K.enc e.1, V.enc e.2)
def decM (K : E κ) (V : E β) : List (AV × AV) → Option (List (κ × β))
  | [] => some []
  | x :: xs => (K.dec x.1).bind fun a => (V.dec x.2).bind fun b => (decM K V xs).bind fun l => some ((a, b) :: l)
@[simp] theorem encM_nil : encM K V [] = [] := rfl
@[simp] theorem decM_nil : decM K V [] = some [] := rfl
@[simp] theorem encM_length {es : List (κ × β)} : (encM K V es).length = es.length := by simp [encM]
@[simp] theorem decM_encM (es : List (κ × β)) : decM K V (encM K V es) = some es := by
  induction es with
  | nil => rfl
  | cons e es ih => simp only [encM, List.map_cons, decM, K.de, V.de, Option.bind_some] at ih ⊢; rw [ih]; rfl
theorem decM_inv : ∀ {xs : List (AV × AV)} {es : List (κ × β)}, decM K V xs = some es → xs = encM K V es
  | [], es, h => by simp [decM] at h; subst h; rfl
  | x :: xs, es, h => by
    simp only [decM] at h
    obtain ⟨a, ha, h⟩ := Option.bind_eq_some_iff.1 h
    obtain ⟨b, hb, h⟩ := Option.bind_eq_some_iff.1 h
    obtain ⟨l, hl, h⟩ := Option.bind_eq_some_iff.1 h
    simp at h
    subst h
    rw [decM_inv hl]
    simp [encM, ← K.ed _ _ ha, ← V.ed _ _ hb]
def eMv (K : E κ) (V : E β) : E (List (κ × β)) := ⟨fun es => .mv (encM K V es), fun x => match x with | .mv es => decM K V es | _ => none, fun a => decM_encM a, fun x a h => by
  split at h
  · rw [decM_inv h]
  · cases h⟩
@[simp] theorem eMv_enc {es : List (κ × β)} : (eMv K V).enc es = .mv (encM K V es) := rfl
@[simp] theorem eMv_dec {es : List (AV × AV)} : (eMv K V).dec (.mv es) = decM K V es := rfl
theorem encM_cons {e : κ × β} {es : List (κ × β)} : encM K V (e :: es) = (K.enc e.1, V.enc e.2) :: encM K V es := rfl
theorem encM_set {es : List (κ × β)} {i : Nat} {k : κ} {v : β} : encM K V (es.set i (k, v)) = (encM K V es).set i (K.enc k, V.enc v) := by simp [encM, List.map_set]
theorem encM_erase {es : List (κ × β)} {i : Nat} : encM K V (es.eraseIdx i) = (encM K V es).eraseIdx i := by
  induction es generalizing i with
  | nil => rfl
  | cons e es ih =>
    cases i with
    | zero => rfl
    | succ i => simp only [List.eraseIdx_cons_succ, encM_cons, ih]
@[simp] theorem encM_app {a b : List (κ × β)} : encM K V (a ++ b) = encM K V a ++ encM K V b := by simp [encM]
@[simp] theorem encM_one {e : κ × β} : encM K V [e] = [(K.enc e.1, V.enc e.2)] := rfl
theorem encM_snoc {es : List (κ × β)} {k : κ} {v : β} : encM K V (es ++ [(k, v)]) = encM K V es ++ [(K.enc k, V.enc v)] := by simp [encM]
theorem findK_encM [DecidableEq κ] {te : TE} {kt : TypeId} (h : ∀ a b, eqT te 8 kt (K.enc a) (K.enc b) = some (decide (a = b))) (k : κ) : ∀ (es : List (κ × β)) (i : Nat), findK te kt (K.enc k) (encM K V es) i = some ((fk k es i).map fun p => (p.1, V.enc p.2))
  | [], i => rfl
  | (a, v) :: es, i => by
    simp only [encM_cons, findK, h, Option.bind_some, fk]
    by_cases e : k = a
    · simp [e]
    · simp [e, findK_encM h k es (i + 1)]
end
section
variable {te : TE} {kt : TypeId} {β : Type} {V : E β} {k : IntKind}
theorem findK_int {sz by' : Nat} {z : AV} (ht : te kt = some ⟨sz, by', z, .int k⟩) (n : Int) (es : List (Int × β)) (i : Nat) : findK te kt (.int k n) (encM (eInt k) V es) i = some ((fk n es i).map fun p => (p.1, V.enc p.2)) :=
  findK_encM (K := eInt k) (fun a b => by simp [ht, leafEq]) n es i
end
attribute [simp] lookupD entriesOf keyOk leafTy mapUpdD deleteD
end Go.Vi
