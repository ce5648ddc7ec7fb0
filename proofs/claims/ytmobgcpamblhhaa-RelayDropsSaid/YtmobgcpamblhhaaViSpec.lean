/- Contracts by encodings; loops. -/
import Derived.Test.YtmobgcpamblhhaaViAny
import Derived.IntWalk
set_option linter.unusedVariables false
set_option linter.unusedSimpArgs false
namespace Go.Vi

/-! ### Encodings -/
structure E (α : Type) where
  enc : α → AV
  dec : AV → Option α
  de : ∀ a, dec (enc a) = some a
  ed : ∀ x a, dec x = some a → x = enc a
structure EL (α : Type) where
  enc : α → List AV
  dec : List AV → Option α
  de : ∀ a, dec (enc a) = some a
  ed : ∀ x a, dec x = some a → x = enc a
structure EO (α : Type) where
  enc : α → List AV × List LObj
  dec : List AV → List LObj → Option α
  de : ∀ a, dec (enc a).1 (enc a).2 = some a
  ed : ∀ x o a, dec x o = some a → (x, o) = enc a

def eInt (k : IntKind) : E Int := ⟨fun n => .int k n, fun x => match x with | .int k' n => if k' = k then some n else none | _ => none, fun a => by simp, fun x a h => by
  split at h
  · split at h
    · rename_i e; cases h; rw [e]
    · cases h
  · cases h⟩
@[simp] theorem eInt_enc {k n} : (eInt k).enc n = .int k n := rfl
@[simp] theorem eInt_dec {k n} : (eInt k).dec (.int k n) = some n := by simp [eInt]
def eBool : E Bool := ⟨fun b => .bool b, fun x => match x with | .bool b => some b | _ => none, fun a => rfl, fun x a h => by split at h <;> cases h; rfl⟩
@[simp] theorem eBool_enc {b} : eBool.enc b = .bool b := rfl
@[simp] theorem eBool_dec {b} : eBool.dec (.bool b) = some b := rfl
def eStr : E ByteArray := ⟨fun b => .str b, fun x => match x with | .str b => some b | _ => none, fun a => rfl, fun x a h => by split at h <;> cases h; rfl⟩
@[simp] theorem eStr_enc {b} : eStr.enc b = .str b := rfl
@[simp] theorem eStr_dec {b} : eStr.dec (.str b) = some b := rfl
/-- A struct, by its cells. -/
def eAgg {α : Type} (A : EL α) : E α := ⟨fun a => .agg (A.enc a), fun x => match x with | .agg cs => A.dec cs | _ => none, fun a => A.de a, fun x a h => by
  split at h
  · rw [A.ed _ _ h]
  · cases h⟩
@[simp] theorem eAgg_enc {α : Type} {A : EL α} {a} : (eAgg A).enc a = .agg (A.enc a) := rfl
@[simp] theorem eAgg_dec {α : Type} {A : EL α} {cs} : (eAgg A).dec (.agg cs) = A.dec cs := rfl
/-! Lists of rows. -/
def decL {α : Type} (dec : List AV → Option α) : List (List AV) → Option (List α)
  | [] => some []
  | x :: xs => (dec x).bind fun a => (decL dec xs).bind fun l => some (a :: l)
@[simp] theorem decL_nil {α : Type} {dec : List AV → Option α} : decL dec [] = some [] := rfl
@[simp] theorem decL_cons {α : Type} {dec : List AV → Option α} {x xs} : decL dec (x :: xs) = (dec x).bind fun a => (decL dec xs).bind fun l => some (a :: l) := rfl
section
variable {α : Type} {A : EL α}
@[simp] theorem decL_map (l : List α) : decL A.dec (l.map A.enc) = some l := by
  induction l with
  | nil => rfl
  | cons a l ih => simp [decL, A.de, ih]
theorem decL_inv : ∀ {xs : List (List AV)} {l : List α}, decL A.dec xs = some l → xs = l.map A.enc
  | [], l, e => by simp [decL] at e; subst e; rfl
  | x :: xs, l, e => by
    simp only [decL] at e
    obtain ⟨a, ha, e⟩ := Option.bind_eq_some_iff.1 e
    obtain ⟨m, hm, e⟩ := Option.bind_eq_some_iff.1 e
    simp at e
    subst e
    rw [List.map_cons, ← A.ed x a ha, ← decL_inv hm]
@[simp] theorem decL_append {xs ys : List (List AV)} : decL A.dec (xs ++ ys) = (decL A.dec xs).bind fun a => (decL A.dec ys).bind fun b => some (a ++ b) := by
  induction xs with
  | nil => simp [decL, Option.bind_some]
  | cons x xs ih =>
    simp only [List.cons_append, decL, ih]
    cases A.dec x with
    | none => rfl
    | some a =>
      simp only [Option.bind_some]
      cases decL A.dec xs with
      | none => rfl
      | some b =>
        simp only [Option.bind_some]
        cases decL A.dec ys <;> simp
end
/-- A slice that is read: its mark 'full', its rows. -/
def eSl {α : Type} (sz : Nat) (A : EL α) : E (Bool × List α) := ⟨fun p => .sl sz p.1 (p.2.map A.enc), fun x => match x with | .sl z f xs => if z = sz then (decL A.dec xs).bind fun l => some (f, l) else none | _ => none, fun a => by simp, fun x a h => by
  split at h
  · split at h
    · rename_i e
      obtain ⟨l, hl, e2⟩ := Option.bind_eq_some_iff.1 h
      simp at e2
      subst e2
      rw [e, decL_inv hl]
    · cases h
  · cases h⟩
@[simp] theorem eSl_enc {α : Type} {sz : Nat} {A : EL α} {p} : (eSl sz A).enc p = .sl sz p.1 (p.2.map A.enc) := rfl
@[simp] theorem eSl_dec {α : Type} {sz : Nat} {A : EL α} {f xs} : (eSl sz A).dec (.sl sz f xs) = (decL A.dec xs).bind fun l => some (f, l) := by simp [eSl]

def eL0 : EL Unit := ⟨fun _ => [], fun x => match x with | [] => some () | _ => none, fun a => rfl, fun x a h => by split at h <;> first | rfl | cases h⟩
@[simp] theorem eL0_enc {u} : eL0.enc u = [] := rfl
@[simp] theorem eL0_dec : eL0.dec [] = some () := rfl
def eC {α β : Type} (A : E α) (B : EL β) : EL (α × β) := ⟨fun p => A.enc p.1 :: B.enc p.2, fun x => match x with | y :: ys => (A.dec y).bind fun a => (B.dec ys).bind fun b => some (a, b) | _ => none, fun a => by simp [A.de, B.de], fun x a h => by
  split at h
  · obtain ⟨b, hb, e⟩ := Option.bind_eq_some_iff.1 h
    obtain ⟨c, hc, e⟩ := Option.bind_eq_some_iff.1 e
    simp at e
    subst e
    rw [A.ed _ _ hb, B.ed _ _ hc]
  · cases h⟩
@[simp] theorem eC_enc {α β : Type} {A : E α} {B : EL β} {p} : (eC A B).enc p = A.enc p.1 :: B.enc p.2 := rfl
@[simp] theorem eC_dec {α β : Type} {A : E α} {B : EL β} {x xs} : (eC A B).dec (x :: xs) = (A.dec x).bind fun a => (B.dec xs).bind fun b => some (a, b) := rfl
def e1 {α : Type} (A : E α) : EL α := ⟨fun p => [A.enc p], fun x => match x with | [y] => A.dec y | _ => none, fun a => A.de a, fun x a h => by
  split at h
  · rw [A.ed _ _ h]
  · cases h⟩
@[simp] theorem e1_enc {α : Type} {A : E α} {p} : (e1 A).enc p = [A.enc p] := rfl
@[simp] theorem e1_dec {α : Type} {A : E α} {x} : (e1 A).dec [x] = A.dec x := rfl

/-! ### Functions that only compute -/
open Classical in
noncomputable def sp {α : Type} (A : EL α) (pre : α → Prop) (f : α → AV) : List AV → Option AV := fun args => (A.dec args).bind fun a => if pre a then some (f a) else none
@[simp] theorem sp_app {α : Type} {A : EL α} {pre : α → Prop} {f : α → AV} {args} : sp A pre f args = (A.dec args).bind fun a => @ite _ (pre a) (Classical.propDecidable _) (some (f a)) none := rfl

def kl : List (FuncId × Sp) → KT
  | [], _ => .none
  | (g, s) :: l, f => if f = g then s else kl l f
@[simp] theorem kl_cons {g s l f} : kl ((g, s) :: l) f = if f = g then s else kl l f := rfl
@[simp] theorem kl_nil {f} : kl [] f = .none := rfl
section
variable {P : Program}
def SpOK (P : Program) (f : FuncId) : Sp → Prop
  | .none => True
  | .pure F => FnOK P f ∧ PureC P f F
  | .eff F => FnOK P f ∧ EffC P f F
theorem KS.nil : KSound P (kl []) := fun f => by simp
theorem KS.cons {f : FuncId} {s : Sp} {l : List (FuncId × Sp)} (h : SpOK P f s) (hl : KSound P (kl l)) : KSound P (kl ((f, s) :: l)) := by
  intro g
  have := hl g
  simp only [kl_cons]
  by_cases e : g = f
  · subst e
    simp only [if_true]
    cases s <;> exact h
  · simp only [e, if_false]
    exact this

theorem pureOf {te : TE} {K : KT} (hm : P.follows .mixedOrders = true) (hte : TEOK P te) (hK : KSound P K) {f : FuncId} {fn : Func} {m : MC} {rs : List ResultVar} {fr : List Nat} {nt np : Nat} (hf : P.funcs[f]? = some fn) (hb : fn.body.map (mcF fr) = some m) (hc : (fn.body.all (codeOK K fr nt)) = true) (hnt : fn.ntmps = nt) (hrs : fn.results.toList = rs)
    {α : Type} {A : EL α} {pre : α → Prop} {g : α → AV} (hnp : np ≤ nt) (hlen : ∀ a, (A.enc a).length = np) (hnm : (fn.name == "runtime.NumGoroutine") = false)
    (h : ∀ a, pre a → ∀ Q : List AV → List LObj → Prop, (∀ l σ, deepR σ l = some (g a) → Q l σ) → Ex te K rs 0 Q [.code m] ⟨argS (A.enc a), []⟩) : SpOK P f (.pure (sp A pre g)) := by
  subst hnt hrs
  cases hbody : fn.body with
  | none => simp [hbody] at hb
  | some c =>
    rw [hbody] at hb hc
    simp at hb hc
    subst hb
    refine ⟨⟨fn, c, hf, hbody, by simpa using hnm⟩, pure_of_ex hm hte hK hf hbody hc fun args r hr => ?_⟩
    unfold sp at hr
    obtain ⟨a, ha, hr⟩ := Option.bind_eq_some_iff.1 hr
    split at hr
    · rename_i hp
      cases hr
      have := A.ed _ _ ha
      subst this
      exact ⟨by rw [hlen]; exact hnp, h a hp _ fun l σ hl => hl⟩
    · cases hr

open Classical in
noncomputable def spE {α : Type} (A : EO α) (pre : α → Prop) (f : α → AV × List LObj) : List AV → List LObj → Option (AV × List LObj) := fun args objs => (A.dec args objs).bind fun a => if pre a then some (f a) else none
@[simp] theorem spE_app {α : Type} {A : EO α} {pre : α → Prop} {f : α → AV × List LObj} {args objs} : spE A pre f args objs = (A.dec args objs).bind fun a => @ite _ (pre a) (Classical.propDecidable _) (some (f a)) none := rfl

theorem effOf {te : TE} {K : KT} (hm : P.follows .mixedOrders = true) (hte : TEOK P te) (hK : KSound P K) {f : FuncId} {fn : Func} {m : MC} {rs : List ResultVar} {fr : List Nat} {nt np : Nat} (hf : P.funcs[f]? = some fn) (hb : fn.body.map (mcF fr) = some m) (hc : (fn.body.all (codeOK K fr nt)) = true) (hnt : fn.ntmps = nt) (hrs : fn.results.toList = rs)
    {α : Type} {A : EO α} {pre : α → Prop} {g : α → AV × List LObj} (hnp : np ≤ nt) (hlen : ∀ a, (A.enc a).1.length = np) (hnm : (fn.name == "runtime.NumGoroutine") = false)
    (hn : ∀ a, pre a → (A.enc a).2.length ≤ (g a).2.length ∧ ((g a).2.all (idLtO (g a).2.length)) = true ∧ idLtB (g a).2.length (g a).1 = true)
    (h : ∀ a, pre a → ∀ Q : List AV → List LObj → Prop, (∀ l σ, retV l = (g a).1 → (g a).2 = σ.take (g a).2.length → Q l σ) → Ex te K rs (A.enc a).2.length Q [.code m] ⟨argS (A.enc a).1, (A.enc a).2⟩) : SpOK P f (.eff (spE A pre g)) := by
  subst hnt hrs
  cases hbody : fn.body with
  | none => simp [hbody] at hb
  | some c =>
    rw [hbody] at hb hc
    simp at hb hc
    subst hb
    refine ⟨⟨fn, c, hf, hbody, by simpa using hnm⟩, eff_of_ex hm hte hK hf hbody hc fun args objs r objs' hr => ?_⟩
    unfold spE at hr
    obtain ⟨a, ha, hr⟩ := Option.bind_eq_some_iff.1 hr
    split at hr
    · rename_i hp
      have := A.ed _ _ _ ha
      obtain ⟨h1, h2, h3⟩ := hn a hp
      simp only [Option.some.injEq] at hr
      have e1 : args = (A.enc a).1 := by rw [← this]
      have e2 : objs = (A.enc a).2 := by rw [← this]
      have e3 : r = (g a).1 := by rw [hr]
      have e4 : objs' = (g a).2 := by rw [hr]
      subst e1 e2 e3 e4
      exact ⟨by rw [hlen]; exact hnp, h a hp _ fun l σ hl hσ => ⟨hl, h1, hσ, h2, h3⟩⟩
    · cases hr
end

section
variable {te : TE} {op : BinOp} {t : TypeId} {y : AV}
@[simp] theorem binD_ptr (o : Option (Nat × Nat)) : binD te op t (.ptr o) y = binX te op t (.ptr o) y := by cases y <;> rfl
@[simp] theorem binD_ep (c : List AV) (j : Nat) : binD te op t (.ep c j) y = binX te op t (.ep c j) y := by cases y <;> rfl
@[simp] theorem binD_aptr (a b c d : Nat) : binD te op t (.aptr a b c d) y = binX te op t (.aptr a b c d) y := by cases y <;> rfl
@[simp] theorem binD_mp (o : Option Nat) : binD te op t (.mp o) y = binX te op t (.mp o) y := by cases y <;> rfl
@[simp] theorem binD_mv (es : List (AV × AV)) : binD te op t (.mv es) y = binX te op t (.mv es) y := by cases y <;> rfl
@[simp] theorem binD_bool (b : Bool) : binD te op t (.bool b) y = binX te op t (.bool b) y := by cases y <;> rfl
@[simp] theorem binD_agg (c : List AV) : binD te op t (.agg c) y = binX te op t (.agg c) y := by cases y <;> rfl
def eqTi (te : TE) (d : Nat) : Option TyI → AV → AV → Option Bool
  | some ⟨_, _, _, .struct fs⟩, .agg xs, .agg ys => if xs.length = ys.length then eqF te d fs xs ys else none
  | some i, a, b => leafEq i.desc a b
  | _, _, _ => none
theorem eqT_succ {te : TE} {d : Nat} {t : TypeId} {a b : AV} : eqT te (d + 1) t a b = eqTi te d (te t) a b := by
  cases h : te t with
  | none => unfold eqT; rw [h]; cases a <;> cases b <;> rfl
  | some i =>
    obtain ⟨s, y, z, k⟩ := i
    cases k <;> cases a <;> cases b <;> (unfold eqT; rw [h]; rfl)
@[simp] theorem eqT_8 {te : TE} {t : TypeId} {a b : AV} : eqT te 8 t a b = eqTi te 7 (te t) a b := eqT_succ
@[simp] theorem eqT_7 {te : TE} {t : TypeId} {a b : AV} : eqT te 7 t a b = eqTi te 6 (te t) a b := eqT_succ
@[simp] theorem eqT_6 {te : TE} {t : TypeId} {a b : AV} : eqT te 6 t a b = eqTi te 5 (te t) a b := eqT_succ
section
variable {te : TE} {d s y : Nat} {z : AV} {a b : AV}
@[simp] theorem eqTi_struct {fs : List (Nat × TypeId)} {xs ys : List AV} : eqTi te d (some ⟨s, y, z, .struct fs⟩) (.agg xs) (.agg ys) = if xs.length = ys.length then eqF te d fs xs ys else none := rfl
@[simp] theorem eqTi_int {k : IntKind} : eqTi te d (some ⟨s, y, z, .int k⟩) a b = leafEq (.int k) a b := by cases a <;> cases b <;> rfl
@[simp] theorem eqTi_bool : eqTi te d (some ⟨s, y, z, .bool⟩) a b = leafEq .bool a b := by cases a <;> cases b <;> rfl
@[simp] theorem eqTi_string : eqTi te d (some ⟨s, y, z, .string⟩) a b = leafEq .string a b := by cases a <;> cases b <;> rfl
end
attribute [simp] eqF leafEq buildSlD chunks reps appendD listOf srcOk elemOk sub convD indexD
end
/-! ### Loops -/
section
variable {te : TE} {K : KT} {rs : List ResultVar} {n0 : Nat} {Q : List AV → List LObj → Prop} {k : List MI} {s : St} {b : MC}
/-- These slots and objects alone. -/
structure Mt (n0 : Nat) (s : St) (ts : List (Nat × AV)) (σ' : List LObj) : Prop where
  slots : ∀ p ∈ ts, s.slots p.1 = p.2 ∧ idLtB σ'.length p.2 = true
  σ : σ' = s.σ.take σ'.length
  len : n0 ≤ σ'.length
  objs : (σ'.all (idLtO σ'.length)) = true
theorem Ex.mt {ts : List (Nat × AV)} {σ' : List LObj} (hm : Mt n0 s ts σ') (h : Ex te K rs n0 Q k ⟨slotsOf ts, σ'⟩) : Ex te K rs n0 Q k s := Ex.to ts σ' hm.slots hm.σ hm.len hm.objs h
theorem Ex.loopI {ι : Type} (ts : ι → List (Nat × AV)) (σs : ι → List LObj) (m : ι → Nat) (I : ι → Prop) (i0 : ι) (h0 : I i0) (hm : Mt n0 s (ts i0) (σs i0))
    (step : ∀ i, I i → (∀ j s', m j < m i → I j → Mt n0 s' (ts j) (σs j) → Ex te K rs n0 Q (.inLoop b :: k) s') → Ex te K rs n0 Q (.code b :: .inLoop b :: k) ⟨slotsOf (ts i), σs i⟩) : Ex te K rs n0 Q (.code (.loop b) :: k) s := by
  have key : ∀ n i, m i < n → I i → Ex te K rs n0 Q (.code b :: .inLoop b :: k) ⟨slotsOf (ts i), σs i⟩ := by
    intro n
    induction n with
    | zero => intro i hi; omega
    | succ n ih =>
      intro i hi hI
      exact step i hI fun j s' hj hJ hM => Ex.mt hM (.inLoop (ih j (by omega) hJ))
  exact Ex.mt hm (.loop (key (m i0 + 1) i0 (by omega) h0))
theorem get_or {α : Type} (l : List α) (i : Nat) : (∃ a, l[i]? = some a ∧ i < l.length) ∨ (l[i]? = none ∧ l.length ≤ i) := by
  rcases Nat.lt_or_ge i l.length with h | h
  · exact .inl ⟨l[i], List.getElem?_eq_getElem h, h⟩
  · exact .inr ⟨List.getElem?_eq_none h, h⟩
theorem ExC.ndec {x y : MC} {c : Prop} [Decidable c] (h : c → c = True → Ex te K rs n0 Q (.code y :: k) s) (h' : ¬ c → c = False → Ex te K rs n0 Q (.code x :: k) s) : ExC te K rs n0 Q x y k s (.bool (!decide c)) := by
  by_cases hc : c
  · exact ⟨false, by simp [hc], h hc (eq_true hc)⟩
  · exact ⟨true, by simp [hc], h' hc (eq_false hc)⟩
theorem ExC.id {x y : MC} {v : AV} (h : ExC te K rs n0 Q x y k s v) : ExC te K rs n0 Q x y k s v := h
theorem ExS.id {l : List MOp} {c : Prop} [Decidable c] {p q : Option St} (h : ExS te K rs n0 Q l k (if c then p else q)) : ExS te K rs n0 Q l k (if c then p else q) := h
theorem ExS.iteB {l : List MOp} {b : Bool} {p q : Option St} (h : b = true → ExS te K rs n0 Q l k p) (h' : b = false → ExS te K rs n0 Q l k q) : ExS te K rs n0 Q l k (if b = true then p else q) := by
  cases b
  · simpa using h' rfl
  · simpa using h rfl
theorem wrap_i64 {x : Int} (h : -9223372036854775808 ≤ x ∧ x ≤ 9223372036854775807) : IntKind.i64.wrap x = x := IntWalk.i64_in _ h
end
end Go.Vi
