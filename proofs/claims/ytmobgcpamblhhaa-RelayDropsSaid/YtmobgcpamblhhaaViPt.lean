/- Points, hops, moves. -/
import Derived.Test.YtmobgcpamblhhaaViMap
set_option linter.unusedVariables false
set_option linter.unusedSimpArgs false
namespace Go.Vi
structure Pt where
  seg : Int
  at' : Int
  len : Int
  sum : Int
  deriving DecidableEq, Inhabited
@[simp] theorem Pt.eta (a : Pt) : Pt.mk a.seg a.at' a.len a.sum = a := rfl
def ePt : EL Pt := ⟨fun p => [.int .i64 p.seg, .int .i64 p.at', .int .i64 p.len, .int .u32 p.sum], fun x => match x with | [.int .i64 a, .int .i64 b, .int .i64 c, .int .u32 d] => some ⟨a, b, c, d⟩ | _ => none, fun p => rfl, fun x p h => by
  split at h
  · simp at h; subst h; rfl
  · cases h⟩
@[simp] theorem ePt_enc {p} : ePt.enc p = [.int .i64 p.seg, .int .i64 p.at', .int .i64 p.len, .int .u32 p.sum] := rfl
@[simp] theorem ePt_dec {a b c d} : ePt.dec [.int .i64 a, .int .i64 b, .int .i64 c, .int .u32 d] = some ⟨a, b, c, d⟩ := rfl
structure Hop where
  at' : Int
  to : Pt
  deriving DecidableEq, Inhabited
@[simp] theorem Hop.eta (a : Hop) : Hop.mk a.at' a.to = a := rfl
def eHop : EL Hop := ⟨fun h => .int .i64 h.at' :: ePt.enc h.to, fun x => match x with | .int .i64 a :: r => (ePt.dec r).bind fun p => some ⟨a, p⟩ | _ => none, fun p => rfl, fun x p h => by
  split at h
  · rename_i a r
    obtain ⟨q, hq, e⟩ := Option.bind_eq_some_iff.1 h
    simp at e
    subst e
    rw [ePt.ed r q hq]
  · cases h⟩
@[simp] theorem eHop_enc {h : Hop} : eHop.enc h = [.int .i64 h.at', .int .i64 h.to.seg, .int .i64 h.to.at', .int .i64 h.to.len, .int .u32 h.to.sum] := rfl
@[simp] theorem eHop_dec {x a b c d} : eHop.dec [.int .i64 x, .int .i64 a, .int .i64 b, .int .i64 c, .int .u32 d] = some ⟨x, ⟨a, b, c, d⟩⟩ := rfl
def Pt.may (p : Pt) : Bool := decide (1 ≤ p.seg ∧ p.seg ≤ 2147483647 ∧ 0 ≤ p.at' ∧ p.at' ≤ 2147483647 ∧ 0 ≤ p.len ∧ p.len ≤ 4096)

/-! ### A relay -/
abbrev Rel := List (Int × List (Int × Pt))
def eHops : E (List (Int × Pt)) := eMv (eInt .i64) (eAgg ePt)
@[simp] theorem eHops_enc {h : List (Int × Pt)} : eHops.enc h = .mv (encM (eInt .i64) (eAgg ePt) h) := rfl
theorem eHops_dec {es : List (AV × AV)} : eHops.dec (.mv es) = decM (eInt .i64) (eAgg ePt) es := rfl
@[simp] def encRel (es : Rel) : List LObj := [.cells [.mp (some 1)], .map (encM (eInt .i64) eHops es)]
/-- A relay that is one; what else is handed to it. -/
def eRel {β : Type} (B : EL β) : EO (Rel × β) := ⟨fun p => (.ptr (some (0, 0)) :: B.enc p.2, encRel p.1),
  fun a o => match a, o with | .ptr (some (0, 0)) :: r, [.cells [.mp (some 1)], .map es] => (decM (eInt .i64) eHops es).bind fun m => (B.dec r).bind fun b => some (m, b) | _, _ => none,
  fun p => by simp [encRel, B.de], fun x o a h => by
    split at h
    · obtain ⟨m, hm, h⟩ := Option.bind_eq_some_iff.1 h
      obtain ⟨b, hb, h⟩ := Option.bind_eq_some_iff.1 h
      simp at h
      subst h
      simp [encRel, decM_inv hm, ← B.ed _ _ hb]
    · cases h⟩
@[simp] theorem eRel_enc {β : Type} {B : EL β} {p : Rel × β} : (eRel B).enc p = (.ptr (some (0, 0)) :: B.enc p.2, [.cells [.mp (some 1)], .map (encM (eInt .i64) eHops p.1)]) := rfl
@[simp] theorem eRel_dec {β : Type} {B : EL β} {r : List AV} {es : List (AV × AV)} : (eRel B).dec (.ptr (some (0, 0)) :: r) [.cells [.mp (some 1)], .map es] = (decM (eInt .i64) eHops es).bind fun m => (B.dec r).bind fun b => some (m, b) := rfl
def eArgs {β : Type} (B : EL β) : EO β := ⟨fun p => (B.enc p, []), fun a o => match o with | [] => B.dec a | _ => none, fun p => B.de p, fun x o a h => by
  split at h
  · rw [← B.ed _ _ h]
  · cases h⟩
@[simp] theorem eArgs_enc {β : Type} {B : EL β} {p : β} : (eArgs B).enc p = (B.enc p, []) := rfl
@[simp] theorem eArgs_dec {β : Type} {B : EL β} {a : List AV} : (eArgs B).dec a [] = B.dec a := rfl
attribute [simp] List.idxOf_cons
def Pt.zero : Pt := ⟨0, 0, 0, 0⟩
/-- Where a point's value stands, by so many hops. -/
def rfind (es : Rel) : Nat → Pt → Int → Pt × Int × Int
  | 0, p, n => (p, n, 0)
  | f + 1, p, n => match lk p.seg es with
    | none => (p, n, 0)
    | some hs => match lk p.at' hs with
      | none => (.zero, 0, 3)
      | some to => if to.len ≠ p.len ∨ to.sum ≠ p.sum then (.zero, 0, 3) else rfind es f to (n + 1)
def Rel.good (es : Rel) : Prop := ∀ e ∈ es, ∀ h ∈ e.2, h.2.may = true ∧ e.1 < h.2.seg
def riseB (seg : Int) : Int → List Hop → Bool
  | _, [] => true
  | last, h :: t => decide (last < h.at') && decide (h.at' ≤ 2147483647) && h.to.may && decide (seg < h.to.seg) && riseB seg h.at' t
def mayL (seg : Int) (l : List Hop) : Bool := decide (1 ≤ seg ∧ seg ≤ 2147483647 ∧ l.length ≤ 16384) && riseB seg (-1) l
def hp (h : Hop) : Int × Pt := (h.at', h.to)

theorem drop_get {α : Type} {l : List α} {i : Nat} {a : α} (h : l[i]? = some a) : l.drop i = a :: l.drop (i + 1) := by
  obtain ⟨h1, h2⟩ := List.getElem?_eq_some_iff.1 h
  rw [← h2]
  exact List.drop_eq_getElem_cons h1
theorem drop_end {α : Type} {l : List α} {i : Nat} (h : l.length ≤ i) : l.drop i = [] := List.drop_eq_nil_of_le h
theorem take_get {α : Type} {l : List α} {i : Nat} {a : α} (h : l[i]? = some a) : l.take (i + 1) = l.take i ++ [a] := by
  obtain ⟨h1, h2⟩ := List.getElem?_eq_some_iff.1 h
  rw [← h2]
  exact List.take_succ_eq_append_getElem h1
/-! ### Acts, moves -/
structure Act' where
  drop : Bool
  seg : Int
  full : Bool
  hops : List Hop
  deriving Inhabited
def eAct : EL Act' := ⟨fun a => [.bool a.drop, .int .i64 a.seg, .sl 5 a.full (a.hops.map eHop.enc)], fun x => match x with | [.bool d, .int .i64 s, .sl 5 f xs] => (decL eHop.dec xs).bind fun h => some ⟨d, s, f, h⟩ | _ => none, fun a => by simp, fun x a h => by
  split at h
  · obtain ⟨l, hl, e⟩ := Option.bind_eq_some_iff.1 h
    simp at e
    subst e
    simp [decL_inv hl]
  · cases h⟩
@[simp] theorem eAct_enc {a : Act'} : eAct.enc a = [.bool a.drop, .int .i64 a.seg, .sl 5 a.full (a.hops.map eHop.enc)] := rfl
@[simp] theorem eAct_dec {d s f xs} : eAct.dec [.bool d, .int .i64 s, .sl 5 f xs] = (decL eHop.dec xs).bind fun h => some ⟨d, s, f, h⟩ := rfl
structure Mv where
  seg : Int
  full : Bool
  hops : List Hop
  deriving Inhabited
def eMove : EL Mv := ⟨fun a => [.int .i64 a.seg, .sl 5 a.full (a.hops.map eHop.enc)], fun x => match x with | [.int .i64 s, .sl 5 f xs] => (decL eHop.dec xs).bind fun h => some ⟨s, f, h⟩ | _ => none, fun a => by simp, fun x a h => by
  split at h
  · obtain ⟨l, hl, e⟩ := Option.bind_eq_some_iff.1 h
    simp at e
    subst e
    simp [decL_inv hl]
  · cases h⟩
@[simp] theorem eMove_enc {a : Mv} : eMove.enc a = [.int .i64 a.seg, .sl 5 a.full (a.hops.map eHop.enc)] := rfl
@[simp] theorem eMove_dec {s f xs} : eMove.dec [.int .i64 s, .sl 5 f xs] = (decL eHop.dec xs).bind fun h => some ⟨s, f, h⟩ := rfl
def lightL (l : List Act') : Bool := (l.take 31).all (fun a => decide (a.hops.length ≤ 40)) && decide (l.length ≤ 30)
theorem light_yes {l : List Act'} (h : ∀ a ∈ l.take 31, a.hops.length ≤ 40) : lightL l = decide (l.length ≤ 30) := by
  unfold lightL
  have : (l.take 31).all (fun a => decide (a.hops.length ≤ 40)) = true := by
    rw [List.all_eq_true]
    intro a ha
    simpa using h a ha
  rw [this]
  rfl
theorem light_no {l : List Act'} {i : Nat} {a : Act'} (h : l[i]? = some a) (hi : i ≤ 30) (ha : 40 < a.hops.length) : lightL l = false := by
  unfold lightL
  have : (l.take 31).all (fun a => decide (a.hops.length ≤ 40)) = false := by
    rw [List.all_eq_false]
    refine ⟨a, ?_, by simp; omega⟩
    have : (l.take 31)[i]? = some a := by rw [List.getElem?_take]; simp [h]; omega
    exact List.mem_of_getElem? this
  rw [this]
  rfl

def atFrom (seg : Int) : List Mv → Int → Int
  | [], _ => -1
  | m :: l, i => if m.seg = seg then i else atFrom seg l (i + 1)
def atL (seg : Int) (l : List Mv) : Int := atFrom seg l 0

def has (seg : Int) (l : List Mv) : Bool := l.any fun m => decide (m.seg = seg)
def rem (seg : Int) : List Mv → List Mv
  | [] => []
  | m :: l => if m.seg = seg then l else m :: rem seg l
theorem atFrom_spec (seg : Int) : ∀ (l : List Mv) (i : Nat), (has seg l = false ∧ atFrom seg l i = -1 ∧ rem seg l = l) ∨ ∃ k : Nat, k < l.length ∧ atFrom seg l i = ((i + k : Nat) : Int) ∧ has seg l = true ∧ rem seg l = l.take k ++ l.drop (k + 1)
  | [], i => .inl ⟨rfl, rfl, rfl⟩
  | m :: l, i => by
    by_cases h : m.seg = seg
    · exact .inr ⟨0, by simp, by simp [atFrom, h], by simp [has, h], by simp [rem, h]⟩
    · rcases atFrom_spec seg l (i + 1) with ⟨h1, h2, h3⟩ | ⟨k, h1, h2, h3, h4⟩
      · refine .inl ⟨by simpa [has, h] using h1, ?_, by simp [rem, h, h3]⟩
        simp only [atFrom, h, if_false]
        exact h2
      · refine .inr ⟨k + 1, by simp; omega, ?_, ?_, by simp [rem, h, h4]⟩
        · simp only [atFrom, h, if_false]
          have : ((i + 1 : Nat) : Int) = (i : Int) + 1 := by omega
          rw [← this, h2]
          congr 1
          omega
        · simp only [has, List.any_cons] at h3 ⊢
          simp [h3]
theorem atL_spec (seg : Int) (l : List Mv) : (has seg l = false ∧ atL seg l = -1 ∧ rem seg l = l) ∨ ∃ k : Nat, k < l.length ∧ atL seg l = (k : Int) ∧ has seg l = true ∧ rem seg l = l.take k ++ l.drop (k + 1) := by
  have := atFrom_spec seg l 0
  simpa [atL] using this
theorem rem_length (seg : Int) (l : List Mv) : (rem seg l).length ≤ l.length := by
  induction l with
  | nil => simp [rem]
  | cons m l ih =>
    simp only [rem]
    split
    · simp
    · simp; exact ih
def bk (s : Int) (l : List Mv) : Nat → Nat
  | 0 => 0
  | k + 1 => match l[k]? with
    | some a => if s < a.seg then bk s l k else k + 1
    | none => k + 1
theorem bk_le (s : Int) (l : List Mv) : ∀ k, bk s l k ≤ k
  | 0 => by simp [bk]
  | k + 1 => by
    simp only [bk]
    split
    · split
      · exact Nat.le_succ_of_le (bk_le s l k)
      · exact Nat.le_refl _
    · exact Nat.le_refl _
def setL (w : List Mv) (m : Mv) : List Mv :=
  let l := rem m.seg w
  l.take (bk m.seg l l.length) ++ m :: l.drop (bk m.seg l l.length)
def dropF (seg : Int) (p : Bool × List Mv) : Bool × List Mv := if has seg p.2 then (false, rem seg p.2) else p

@[simp] theorem hp_1 {h : Hop} : (hp h).1 = h.at' := rfl
@[simp] theorem hp_2 {h : Hop} : (hp h).2 = h.to := rfl
theorem rise_gt {seg : Int} : ∀ {l : List Hop} {last : Int}, riseB seg last l = true → ∀ h ∈ l, last < h.at'
  | [], _, _, h, hm => by simp at hm
  | a :: l, last, hr, h, hm => by
    simp only [riseB, Bool.and_eq_true, decide_eq_true_eq] at hr
    rcases List.mem_cons.1 hm with rfl | hm
    · exact hr.1.1.1.1
    · have := rise_gt hr.2 h hm
      have := hr.1.1.1.1
      omega
theorem fk_none {β : Type} {k : Int} : ∀ {es : List (Int × β)} {i : Nat}, k ∉ es.map (·.1) → fk k es i = none
  | [], i, _ => rfl
  | (a, v) :: es, i, h => by
    simp only [List.map_cons, List.mem_cons, not_or] at h
    simp only [fk, h.1, if_false]
    exact fk_none h.2
theorem rise_new {seg : Int} : ∀ {l : List Hop} {last : Int}, riseB seg last l = true → ∀ {i : Nat} {a : Hop}, l[i]? = some a → a.at' ∉ ((l.take i).map hp).map (·.1)
  | [], _, _, i, a, h => by simp at h
  | b :: l, last, hr, 0, a, h => by simp
  | b :: l, last, hr, i + 1, a, h => by
    simp only [riseB, Bool.and_eq_true, decide_eq_true_eq] at hr
    simp only [List.getElem?_cons_succ] at h
    simp only [List.take_succ_cons, List.map_cons, List.mem_cons, not_or]
    refine ⟨?_, rise_new hr.2 h⟩
    have := rise_gt hr.2 a (List.mem_of_getElem? h)
    simp [hp]
    omega
theorem rise_may {seg : Int} : ∀ {l : List Hop} {last : Int}, riseB seg last l = true → ∀ h ∈ l, h.to.may = true ∧ seg < h.to.seg
  | [], _, _, h, hm => by simp at hm
  | a :: l, last, hr, h, hm => by
    simp only [riseB, Bool.and_eq_true, decide_eq_true_eq] at hr
    rcases List.mem_cons.1 hm with rfl | hm
    · exact ⟨hr.1.1.2, hr.1.2⟩
    · exact rise_may hr.2 h hm
theorem mayL_rise {seg : Int} {l : List Hop} (h : mayL seg l = true) : riseB seg (-1) l = true ∧ l.length ≤ 16384 := by
  simp only [mayL, Bool.and_eq_true, decide_eq_true_eq] at h
  exact ⟨h.2, h.1.2.2⟩
theorem rfind_succ {es : Rel} {f : Nat} {p : Pt} {n : Int} (hf : 0 < f) : rfind es f p n = match lk p.seg es with
    | none => (p, n, 0)
    | some hs => match lk p.at' hs with
      | none => (.zero, 0, 3)
      | some to => if to.len ≠ p.len ∨ to.sum ≠ p.sum then (.zero, 0, 3) else rfind es (f - 1) to (n + 1) := by
  cases f with
  | zero => omega
  | succ f => rfl
/-- More fuel tells the same. -/
theorem rfind_fuel {es : Rel} (hg : es.good) : ∀ (f g : Nat) (p : Pt) (n : Int), (2147483648 - p.seg).toNat ≤ f → f ≤ g → p.seg ≤ 2147483647 → rfind es f p n = rfind es g p n := by
  intro f
  induction f with
  | zero => intro g p n h1 h2 h3; omega
  | succ f ih =>
    intro g p n h1 h2 h3
    rw [rfind_succ (f := f + 1) (by omega), rfind_succ (f := g) (by omega)]
    cases h4 : lk p.seg es with
    | none => rfl
    | some hs =>
      simp only
      cases h5 : lk p.at' hs with
      | none => rfl
      | some to =>
        simp only
        split
        · rfl
        · obtain ⟨h6, h7⟩ := hg _ (mem_of_lk h4) _ (mem_of_lk h5)
          simp only [Pt.may, decide_eq_true_eq] at h6 h7
          exact ih _ _ _ (by omega) (by omega) (by omega)

/-! ### Acts played -/
def Mv.of (a : Act') : Mv := ⟨a.seg, a.full, a.hops⟩
def stepR (s : Rel × Bool × List Mv) (a : Act') : Rel × Bool × List Mv :=
  if a.drop then (del a.seg s.1, dropF a.seg s.2) else if mayL a.seg a.hops then (ins a.seg (a.hops.map hp) s.1, (false, setL s.2.2 (Mv.of a))) else s
def playL (l : List Act') : Rel × Bool × List Mv := l.foldl stepR ([], true, [])
/-- The move of a segment. -/
def fm (seg : Int) : List Mv → Option Mv
  | [] => none
  | m :: l => if m.seg = seg then some m else fm seg l
theorem has_fm (seg : Int) : ∀ l : List Mv, has seg l = (fm seg l).isSome
  | [] => rfl
  | m :: l => by
    have := has_fm seg l
    simp only [has, List.any_cons] at this ⊢
    simp only [fm]
    split <;> simp_all
/-- One move a segment, at most. -/
def once (l : List Mv) : Prop := (l.map (·.seg)).Nodup
theorem fm_none {seg : Int} : ∀ {l : List Mv}, fm seg l = none ↔ seg ∉ l.map (·.seg)
  | [] => by simp [fm]
  | m :: l => by
    simp only [fm]
    split
    · rename_i h; simp [h]
    · rename_i h
      rw [fm_none]
      simp only [List.map_cons, List.mem_cons, not_or]
      exact ⟨fun h2 => ⟨fun e => h e.symm, h2⟩, fun h2 => h2.2⟩
theorem fm_rem {s seg : Int} : ∀ {l : List Mv}, once l → fm s (rem seg l) = if s = seg then none else fm s l
  | [], _ => by simp [rem, fm]
  | m :: l, h => by
    simp only [once, List.map_cons, List.nodup_cons] at h
    simp only [rem]
    split
    · rename_i e
      simp only [fm]
      split
      · rename_i e2; exact fm_none.2 (by rw [e2, ← e]; exact h.1)
      · rename_i e2; rw [if_neg (by rw [e]; exact fun h => e2 h.symm)]
    · rename_i e
      simp only [fm, fm_rem (seg := seg) h.2]
      by_cases e1 : m.seg = s
      · rw [if_pos e1, if_pos e1, if_neg (by rw [← e1]; exact e)]
      · rw [if_neg e1, if_neg e1]
theorem fm_append {s : Int} : ∀ {a b : List Mv}, fm s (a ++ b) = match fm s a with | some m => some m | none => fm s b
  | [], b => rfl
  | m :: a, b => by
    simp only [List.cons_append, fm]
    split
    · rfl
    · exact fm_append
theorem rem_segs (seg : Int) : ∀ {l : List Mv}, once l → seg ∉ (rem seg l).map (·.seg)
  | [], _ => by simp [rem]
  | m :: l, h => by
    simp only [once, List.map_cons, List.nodup_cons] at h
    simp only [rem]
    split
    · rename_i e; rw [← e]; exact h.1
    · rename_i e
      simp only [List.map_cons, List.mem_cons, not_or]
      exact ⟨fun h => e h.symm, rem_segs seg h.2⟩
theorem rem_sub (seg : Int) : ∀ {l : List Mv}, (rem seg l).Sublist l
  | [] => by simp [rem]
  | m :: l => by
    simp only [rem]
    split
    · exact List.sublist_cons_self _ _
    · exact (rem_sub seg).cons_cons _
theorem once_rem {seg : Int} {l : List Mv} (h : once l) : once (rem seg l) := ((rem_sub seg).map _).nodup h
theorem fm_setL {s : Int} {l : List Mv} {m : Mv} (h : once l) : fm s (setL l m) = if s = m.seg then some m else fm s l := by
  simp only [setL]
  generalize bk m.seg (rem m.seg l) (rem m.seg l).length = k
  have h1 : fm s (rem m.seg l) = if s = m.seg then none else fm s l := fm_rem h
  rw [← List.take_append_drop k (rem m.seg l), fm_append] at h1
  rw [fm_append]
  cases h2 : fm s ((rem m.seg l).take k) with
  | some x =>
    rw [h2] at h1
    simp only at h1 ⊢
    by_cases e : s = m.seg
    · rw [if_pos e] at h1; cases h1
    · rw [if_neg e] at h1 ⊢; exact h1
  | none =>
    rw [h2] at h1
    simp only at h1 ⊢
    simp only [fm]
    by_cases e : s = m.seg
    · rw [if_pos e.symm, if_pos e]
    · rw [if_neg (fun h => e h.symm), if_neg e]; rw [if_neg e] at h1; exact h1
theorem once_setL {l : List Mv} {m : Mv} (h : once l) : once (setL l m) := by
  simp only [setL]
  generalize bk m.seg (rem m.seg l) (rem m.seg l).length = k
  have h1 := once_rem (seg := m.seg) h
  have h2 := rem_segs m.seg h
  rw [← List.take_append_drop k (rem m.seg l)] at h1 h2
  simp only [once, List.map_append, List.map_cons, List.mem_append, not_or] at h1 h2 ⊢
  rw [List.nodup_append] at h1 ⊢
  refine ⟨h1.1, List.nodup_cons.2 ⟨h2.2, h1.2.1⟩, fun a ha b hb => ?_⟩
  rcases List.mem_cons.1 hb with rfl | hb
  · exact fun e => h2.1 (e ▸ ha)
  · exact h1.2.2 a ha b hb
theorem setL_length (l : List Mv) (m : Mv) : (setL l m).length ≤ l.length + 1 := by
  simp only [setL]
  have := rem_length m.seg l
  have := bk_le m.seg (rem m.seg l) (rem m.seg l).length
  simp
  omega
/-- The relay is what the moves say. -/
structure RInv (s : Rel × Bool × List Mv) : Prop where
  uniq : uniq s.1
  once : once s.2.2
  look : ∀ g, lk g s.1 = (fm g s.2.2).map fun m => m.hops.map hp
  good : s.1.good
  mays : ∀ m ∈ s.2.2, mayL m.seg m.hops = true
theorem RInv.init : RInv ([], true, []) := ⟨by simp [Vi.uniq], by simp [Vi.once], fun g => rfl, fun e he => by simp at he, fun m hm => by simp at hm⟩
theorem dropF_2 {seg : Int} {p : Bool × List Mv} : (dropF seg p).2 = rem seg p.2 := by
  unfold dropF
  rcases atL_spec seg p.2 with ⟨h1, h2, h3⟩ | ⟨k, h1, h2, h3, h4⟩ <;> simp [*]
theorem mem_ins {k : Int} {β : Type} {v : β} {e : Int × β} : ∀ {es : List (Int × β)}, e ∈ ins k v es → e = (k, v) ∨ e ∈ es
  | [], h => by simp [ins] at h; exact .inl h
  | (a, u) :: es, h => by
    simp only [ins] at h
    split at h
    · rcases List.mem_cons.1 h with h | h
      · exact .inl h
      · exact .inr (by simp [h])
    · rcases List.mem_cons.1 h with h | h
      · exact .inr (by simp [h])
      · rcases mem_ins h with h | h
        · exact .inl h
        · exact .inr (by simp [h])
theorem RInv.drop {s : Rel × Bool × List Mv} (h : RInv s) (g : Int) : RInv (del g s.1, dropF g s.2) := by
  refine ⟨uniq_del h.uniq, by rw [dropF_2]; exact once_rem h.once, fun j => ?_, fun e he => h.good e (del_sublist.subset he), fun m hm => h.mays m ?_⟩
  · rw [lk_del h.uniq, dropF_2, fm_rem h.once, h.look]
    split <;> rfl
  · rw [dropF_2] at hm
    exact (rem_sub g).subset hm
theorem RInv.set {s : Rel × Bool × List Mv} (h : RInv s) {m : Mv} (hm : mayL m.seg m.hops = true) {f : Bool} : RInv (ins m.seg (m.hops.map hp) s.1, (f, setL s.2.2 m)) := by
  refine ⟨uniq_ins h.uniq, once_setL h.once, fun j => ?_, fun e he => ?_, fun x hx => ?_⟩
  · rw [lk_ins, fm_setL h.once, h.look]
    split <;> rfl
  · rcases mem_ins he with rfl | he
    · intro x hx
      obtain ⟨y, hy, rfl⟩ := List.mem_map.1 hx
      exact rise_may (mayL_rise hm).1 y hy
    · exact h.good e he
  · simp only [setL, List.mem_append, List.mem_cons] at hx
    rcases hx with hx | rfl | hx
    · exact h.mays x ((rem_sub m.seg).subset (List.mem_of_mem_take hx))
    · exact hm
    · exact h.mays x ((rem_sub m.seg).subset (List.mem_of_mem_drop hx))
theorem RInv.step {s : Rel × Bool × List Mv} (h : RInv s) (a : Act') : RInv (stepR s a) := by
  unfold stepR
  split
  · exact h.drop _
  · split
    · rename_i hm
      exact h.set (m := Mv.of a) hm
    · exact h
theorem RInv.play (l : List Act') : RInv (playL l) := by
  unfold playL
  have : ∀ (l : List Act') (s : Rel × Bool × List Mv), RInv s → RInv (l.foldl stepR s) := by
    intro l
    induction l with
    | nil => intro s h; exact h
    | cons a l ih => intro s h; exact ih _ (h.step a)
  exact this l _ .init
theorem play_snoc {l : List Act'} {i : Nat} {a : Act'} (h : l[i]? = some a) : playL (l.take (i + 1)) = stepR (playL (l.take i)) a := by
  rw [take_get h]
  simp [playL]
theorem play_length (l : List Act') : (playL l).2.2.length ≤ l.length := by
  unfold playL
  have : ∀ (l : List Act') (s : Rel × Bool × List Mv), (l.foldl stepR s).2.2.length ≤ s.2.2.length + l.length := by
    intro l
    induction l with
    | nil => intro s; simp
    | cons a l ih =>
      intro s
      have h1 := ih (stepR s a)
      have h2 : (stepR s a).2.2.length ≤ s.2.2.length + 1 := by
        unfold stepR
        split
        · simp only; rw [dropF_2]; have := rem_length a.seg s.2.2; omega
        · split
          · exact setL_length _ _
          · omega
      simp only [List.foldl_cons, List.length_cons]
      omega
  have := this l ([], true, [])
  simpa using this

theorem rfind_del {es : Rel} {seg : Int} (hu : Vi.uniq es) (hno : ∀ e ∈ es, ∀ x ∈ e.2, x.2.seg ≠ seg) : ∀ (f : Nat) (p : Pt) (n : Int), p.seg ≠ seg → rfind (del seg es) f p n = rfind es f p n := by
  intro f
  induction f with
  | zero => intro p n h; rfl
  | succ f ih =>
    intro p n h
    simp only [rfind]
    rw [lk_del hu, if_neg h]
    cases h1 : lk p.seg es with
    | none => rfl
    | some hs =>
      simp only
      cases h2 : lk p.at' hs with
      | none => rfl
      | some to =>
        simp only
        split
        · rfl
        · exact ih _ _ (hno _ (mem_of_lk h1) _ (mem_of_lk h2))
theorem mem_fm {s : Int} {m : Mv} : ∀ {l : List Mv}, fm s l = some m → m ∈ l
  | [], h => by simp [fm] at h
  | x :: l, h => by
    simp only [fm] at h
    split at h
    · cases h; simp
    · exact List.mem_cons_of_mem _ (mem_fm h)
theorem RInv.hops {s : Rel × Bool × List Mv} (h : RInv s) {seg : Int} (hno : ∀ m ∈ s.2.2, ∀ x ∈ m.hops, x.to.seg ≠ seg) : ∀ e ∈ s.1, ∀ x ∈ e.2, x.2.seg ≠ seg := by
  intro e he x hx
  have h1 : lk e.1 s.1 = some e.2 := lk_of_mem h.uniq he
  rw [h.look] at h1
  obtain ⟨m, hm, e2⟩ := Option.map_eq_some_iff.1 h1
  rw [← e2] at hx
  obtain ⟨y, hy, rfl⟩ := List.mem_map.1 hx
  exact hno m (mem_fm hm) y hy
theorem light_of {l : List Act'} (h : lightL l = true) : l.length ≤ 30 ∧ ∀ a ∈ l, a.hops.length ≤ 40 := by
  simp only [lightL, Bool.and_eq_true, List.all_eq_true, decide_eq_true_eq] at h
  refine ⟨h.2, fun a ha => h.1 a ?_⟩
  rw [List.take_of_length_le (by omega)]
  exact ha
theorem good_del {es : Rel} {seg : Int} (h : es.good) : Rel.good (del seg es) := fun e he => h e (del_sublist.subset he)
end Go.Vi
