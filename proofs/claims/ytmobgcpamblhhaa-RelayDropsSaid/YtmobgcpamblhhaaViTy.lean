/- What the table of types says of the program. -/
import Derived.Test.YtmobgcpamblhhaaViDeep
set_option linter.unusedVariables false
set_option linter.unusedSimpArgs false
namespace Go.Vi

def zLeaf : AV → Value → Bool
  | .bool a, .bool b => a == b
  | .int k a, .int k' b => decide (k = k') && decide (a = b)
  | .str a, .string b => decide (a = b)
  | .ptr none, .pointer none => true
  | .mp none, .map none => true
  | .nilfn, .nilFunc => true
  | .nilif, .nilIface => true
  | .sl _ _ [], .slice none 0 0 => true
  | _, _ => false
def zAll : List AV → List Value → Bool
  | [], [] => true
  | a :: as, b :: bs => zLeaf a b && zAll as bs
  | _, _ => false
def zOk : AV → Value → Bool
  | .agg cs, .agg vs => zAll cs vs.toList
  | a, b => zLeaf a b

theorem zLeaf_sound {a : AV} {v : Value} (h : zLeaf a v = true) (w : World) (ok : CellOk) : VDeep w ok a v := by
  unfold zLeaf at h
  split at h
  · have := by simpa using h
    subst this; exact .bool _
  · have := by simpa using h
    obtain ⟨rfl, rfl⟩ := this; exact .int _ _
  · have := by simpa using h
    subst this; exact .str _
  · exact .ptr
  · exact .mp
  · exact .nilfn
  · exact .nilif
  · exact .emp _ _ none 0 (fun _ => rfl)
  · cases h
theorem zAll_sound : ∀ {as : List AV} {vs : List Value}, zAll as vs = true → as.length = vs.length ∧ ∀ (j : Nat) (x : AV) (v : Value), as[j]? = some x → vs[j]? = some v → zLeaf x v = true
  | [], [], _ => ⟨rfl, fun j x v h => by simp at h⟩
  | a :: as, b :: bs, h => by
    simp [zAll] at h
    obtain ⟨h1, h2⟩ := zAll_sound h.2
    refine ⟨by simp [h1], fun j x v hx hv => ?_⟩
    cases j with
    | zero => simp at hx hv; subst hx; subst hv; exact h.1
    | succ j => simp at hx hv; exact h2 j x v hx hv
  | [], _ :: _, h => by simp [zAll] at h
  | _ :: _, [], h => by simp [zAll] at h
theorem zOk_sound {a : AV} {v : Value} (h : zOk a v = true) (w : World) (ok : CellOk) : VDeep w ok a v := by
  unfold zOk at h
  split at h
  · rename_i cs vs
    obtain ⟨h1, h2⟩ := zAll_sound h
    exact .agg cs vs (by simpa using h1.symm) fun j x v hx hv => zLeaf_sound (h2 j x v hx (by simpa using hv)) w ok
  · exact zLeaf_sound h w ok

def fieldsOk : List (Nat × TypeId) → List Field → Bool
  | [], [] => true
  | p :: ps, f :: fs => decide (f.offset = p.1) && decide (f.type = p.2) && decide (f.name ≠ "_") && fieldsOk ps fs
  | _, _ => false
def descOk (P : Program) (t : TypeId) : TyD → TypeDesc → Bool
  | .bool, .bool => true
  | .int k, .int k' => decide (k = k')
  | .string, .string => true
  | .ptr e, .pointer e' => decide (e = e')
  | .slice e, .slice e' => decide (e = e')
  | .array n e, .array n' e' => decide (n = n') && decide (e = e')
  | .map k e, .map k' e' => decide (k = k') && decide (e = e')
  | .struct fs, .struct fs' => fieldsOk fs fs'.toList && !P.stoodInHeld t && !P.eqGuardType P.depth t
  | .other, .func _ _ _ => true
  | .other, .interface _ => true
  | _, _ => false
def tyCheck (P : Program) (t : TypeId) (i : TyI) : Bool :=
  match P.info? t, P.underlying t with
  | some inf, some d => decide (inf.size = i.size) && decide (inf.bytes = i.bytes) && (match inf.zero with | some z => zOk i.zero z | none => false) && descOk P t i.desc d
  | _, _ => false
structure TyOK (P : Program) (t : TypeId) (i : TyI) : Prop where
  inf : ∃ inf, P.info? t = some inf ∧ inf.size = i.size ∧ inf.bytes = i.bytes ∧ ∃ z, inf.zero = some z ∧ ∀ w ok, VDeep w ok i.zero z
  und : ∃ d, P.underlying t = some d ∧ descOk P t i.desc d = true
def TEOK (P : Program) (te : TE) : Prop := ∀ t i, te t = some i → TyOK P t i

theorem tyCheck_sound {P : Program} {t : TypeId} {i : TyI} (h : tyCheck P t i = true) : TyOK P t i := by
  unfold tyCheck at h
  split at h
  · rename_i inf d hi hd
    simp only [Bool.and_eq_true, decide_eq_true_eq] at h
    obtain ⟨⟨⟨h1, h2⟩, h3⟩, h4⟩ := h
    split at h3
    · rename_i z hz
      exact ⟨⟨inf, hi, h1, h2, z, hz, fun w ok => zOk_sound h3 w ok⟩, ⟨d, hd, h4⟩⟩
    · cases h3
  · cases h

theorem TEOK_of_list {P : Program} {tl : List (TypeId × TyI)} (h : (tl.all fun x => tyCheck P x.1 x.2) = true) : TEOK P (fun t => tl.lookup t) := by
  intro t i hti
  have : (t, i) ∈ tl := by
    induction tl with
    | nil => simp at hti
    | cons x xs ih =>
      obtain ⟨t', i'⟩ := x
      simp only [List.lookup_cons] at hti
      split at hti
      · rename_i he
        have : t = t' := by simpa using he
        subst this
        cases hti
        exact List.mem_cons_self
      · exact List.mem_cons_of_mem _ (ih (by simp only [List.all_cons, Bool.and_eq_true] at h; exact h.2) hti)
  exact tyCheck_sound (List.all_eq_true.1 h _ this)

section
variable {P : Program} {te : TE} {t : TypeId} {i : TyI} {w : World}
theorem TyOK.run_typeInfo (h : TyOK P t i) (w : World) : ∃ inf, (typeInfo t).run P w = .ok inf w ∧ P.info? t = some inf ∧ inf.size = i.size ∧ inf.bytes = i.bytes ∧ ∃ z, inf.zero = some z ∧ ∀ w ok, VDeep w ok i.zero z := by
  obtain ⟨inf, h1, h2, h3, h4⟩ := h.inf
  exact ⟨inf, by simp [typeInfo, h1], h1, h2, h3, h4⟩
theorem TyOK.run_size (h : TyOK P t i) (w : World) : (sizeOf t).run P w = .ok i.size w := by
  obtain ⟨inf, h1, _, h2, _⟩ := h.run_typeInfo w
  simp [sizeOf, h1, h2]
theorem TyOK.run_zero (h : TyOK P t i) (w : World) : ∃ z, (zeroValue t).run P w = .ok z w ∧ ∀ w ok, VDeep w ok i.zero z := by
  obtain ⟨inf, h1, _, _, _, z, h4, h5⟩ := h.run_typeInfo w
  exact ⟨z, by simp [zeroValue, h1, h4], h5⟩
theorem TyOK.run_und (h : TyOK P t i) (w : World) : ∃ d, (underlying t).run P w = .ok d w ∧ P.underlying t = some d ∧ descOk P t i.desc d = true := by
  obtain ⟨d, h1, h2⟩ := h.und
  exact ⟨d, by simp [underlying, h1], h1, h2⟩
theorem TyOK.run_agg (h : TyOK P t i) (w : World) : (isAgg t).run P w = .ok i.desc.isAgg w := by
  obtain ⟨d, h1, h2⟩ := h.und
  simp only [isAgg, Sem.run_bind, underlying, run_program, Result.andThen_ok, h1, Sem.run_pure]
  cases hd : i.desc <;> cases d <;> first | rfl | (rw [hd] at h2; simp [descOk] at h2)

theorem TyOK.slice (h : TyOK P t i) {e : TypeId} (hd : i.desc = .slice e) : P.underlying t = some (.slice e) := by
  obtain ⟨d, h1, h2⟩ := h.und
  rw [hd] at h2
  cases d <;> simp [descOk] at h2
  subst h2; exact h1
theorem TyOK.string (h : TyOK P t i) (hd : i.desc = .string) : P.underlying t = some .string := by
  obtain ⟨d, h1, h2⟩ := h.und
  rw [hd] at h2
  cases d <;> simp [descOk] at h2
  exact h1
theorem TyOK.bool (h : TyOK P t i) (hd : i.desc = .bool) : P.underlying t = some .bool := by
  obtain ⟨d, h1, h2⟩ := h.und
  rw [hd] at h2
  cases d <;> simp [descOk] at h2
  exact h1
theorem TyOK.int (h : TyOK P t i) {k} (hd : i.desc = .int k) : P.underlying t = some (.int k) := by
  obtain ⟨d, h1, h2⟩ := h.und
  rw [hd] at h2
  cases d <;> simp [descOk] at h2
  subst h2; exact h1
theorem TyOK.map (h : TyOK P t i) {k e} (hd : i.desc = .map k e) : P.underlying t = some (.map k e) := by
  obtain ⟨d, h1, h2⟩ := h.und
  rw [hd] at h2
  cases d <;> simp [descOk] at h2
  obtain ⟨rfl, rfl⟩ := h2; exact h1
theorem TyOK.ptr (h : TyOK P t i) {e} (hd : i.desc = .ptr e) : P.underlying t = some (.pointer e) := by
  obtain ⟨d, h1, h2⟩ := h.und
  rw [hd] at h2
  cases d <;> simp [descOk] at h2
  subst h2; exact h1
theorem TyOK.array (h : TyOK P t i) {n e} (hd : i.desc = .array n e) : P.underlying t = some (.array n e) := by
  obtain ⟨d, h1, h2⟩ := h.und
  rw [hd] at h2
  cases d <;> simp [descOk] at h2
  obtain ⟨rfl, rfl⟩ := h2; exact h1
theorem fieldsOk_get : ∀ {ps : List (Nat × TypeId)} {fs : List Field}, fieldsOk ps fs = true → ps.length = fs.length ∧ ∀ (j : Nat) (p : Nat × TypeId), ps[j]? = some p → ∃ f : Field, fs[j]? = some f ∧ f.offset = p.1 ∧ f.type = p.2 ∧ f.name ≠ "_"
  | [], [], _ => ⟨rfl, fun j p h => by simp at h⟩
  | p :: ps, f :: fs, h => by
    simp only [fieldsOk, Bool.and_eq_true, decide_eq_true_eq] at h
    obtain ⟨h1, h2⟩ := fieldsOk_get h.2
    refine ⟨by simp [h1], fun j q hq => ?_⟩
    cases j with
    | zero => simp at hq; subst hq; exact ⟨f, rfl, h.1.1.1, h.1.1.2, h.1.2⟩
    | succ j => simp at hq; exact h2 j q hq
  | [], _ :: _, h => by simp [fieldsOk] at h
  | _ :: _, [], h => by simp [fieldsOk] at h
theorem TyOK.struct (h : TyOK P t i) {fs} (hd : i.desc = .struct fs) : ∃ fields : Array Field, P.underlying t = some (.struct fields) ∧ fieldsOk fs fields.toList = true ∧ P.stoodInHeld t = false ∧ P.eqGuardType P.depth t = false := by
  obtain ⟨d, h1, h2⟩ := h.und
  rw [hd] at h2
  cases d <;> simp [descOk] at h2
  exact ⟨_, h1, h2.1.1, h2.1.2, h2.2⟩
end
end Go.Vi
