/- For reckoning. -/
import Derived.Test.YtmobgcpamblhhaaViCon
set_option linter.unusedVariables false
set_option linter.unusedSimpArgs false
namespace Go.Vi
section
variable {te : TE} {K : KT} {s : St} {d : Option Nat} {op : Op} {σ : List LObj} {f : Nat → AV}
@[simp] theorem stepM_none : stepM te K s ⟨d, op, none⟩ = (opD te K s op).bind fun r => some (St.put ⟨s.slots, r.2⟩ d r.1) := rfl
def grdM (te : TE) (K : KT) (s : St) (d : Option Nat) (op : Op) (b : Bool) : AV → Option St
  | .bool x => if x = b then (opD te K s op).bind fun r => some (St.put ⟨s.slots, r.2⟩ d r.1) else some (s.put d (.tup []))
  | .tup [] => some (s.put d (.tup []))
  | _ => none
@[simp] theorem stepM_some {t : Nat} {b : Bool} : stepM te K s ⟨d, op, some (t, b)⟩ = grdM te K s d op b (s.slots t) := by
  simp only [stepM]
  unfold grdM runM
  cases s.slots t with
  | tup vs => cases vs <;> simp
  | _ => simp
@[simp] theorem grdM_bool {b x : Bool} : grdM te K s d op b (.bool x) = if x = b then (opD te K s op).bind fun r => some (St.put ⟨s.slots, r.2⟩ d r.1) else some (s.put d (.tup [])) := rfl
@[simp] theorem grdM_tup {b : Bool} : grdM te K s d op b (.tup []) = some (s.put d (.tup [])) := rfl
@[simp] theorem upd_app {t u : Nat} {v : AV} : upd f t v u = if u = t then v else f u := rfl
@[simp] theorem put_some {t : Tmp} {v : AV} : s.put (some t) v = ⟨upd s.slots t v, s.σ⟩ := rfl
@[simp] theorem put_none {v : AV} : s.put none v = s := rfl
@[simp] theorem argS_app {l : List AV} {t : Nat} : argS l t = l.getD t (.tup []) := rfl
@[simp] theorem slotsOf_nil {u : Nat} : slotsOf [] u = .junk := rfl
@[simp] theorem slotsOf_cons {t u : Nat} {v : AV} {l : List (Nat × AV)} : slotsOf ((t, v) :: l) u = if u = t then v else slotsOf l u := rfl
@[simp] theorem ev_tmp {t : Tmp} : ev s (.tmp t) = s.slots t := rfl
@[simp] theorem ev_const {v : Value} : ev s (.const v) = cst v := rfl
@[simp] theorem ev_func {g : FuncId} : ev s (.func g) = .fn g [] := rfl
@[simp] theorem cst_bool {b : Bool} : cst (.bool b) = .bool b := rfl
@[simp] theorem cst_int {k : IntKind} {n : Int} : cst (.int k n) = .int k n := rfl
@[simp] theorem cst_str {x : ByteArray} : cst (.string x) = .str x := rfl
@[simp] theorem cst_ptr : cst (.pointer none) = .ptr none := rfl
@[simp] theorem cst_sl : cst (.slice none 0 0) = .sl 0 true [] := rfl
@[simp] theorem cst_map : cst (.map none) = .mp none := rfl
@[simp] theorem cst_nilFunc : cst .nilFunc = .nilfn := rfl
@[simp] theorem cst_nilIface : cst .nilIface = .nilif := rfl
@[simp] theorem opD_move (x : Operand) : opD te K s (.move x) = some (ev s x, s.σ) := rfl
@[simp] theorem opD_assign (x : Operand) : opD te K s (.assign x) = some (ev s x, s.σ) := rfl
@[simp] theorem opD_alloc (t : TypeId) : opD te K s (.alloc t) = (te t).bind fun i => if i.zero.solid = true then some (.ptr (some (s.σ.length, 0)), s.σ ++ [.cells i.zero.flat]) else none := rfl
@[simp] theorem opD_build (t : TypeId) (p : List (Nat × Operand)) : opD te K s (.build t p.toArray) = (buildD te t (p.map fun p => (p.1, ev s p.2))).bind fun v => some (v, s.σ) := rfl
@[simp] theorem opD_buildSlice (t : TypeId) (n : Nat) (p : List (Nat × Operand)) : opD te K s (.buildSlice t n p.toArray) = buildSlD te s.σ t n (p.map fun p => (p.1, ev s p.2)) := rfl
@[simp] theorem opD_load (t : TypeId) (x : Operand) : opD te K s (.load t x) = (loadD te s.σ t (ev s x)).bind fun v => some (v, s.σ) := rfl
@[simp] theorem opD_store (t : TypeId) (x v : Operand) : opD te K s (.store t x v) = (storeD te s.σ t (ev s x) (ev s v)).bind fun σ => some (.junk, σ) := rfl
@[simp] theorem opD_nilCheck (x : Operand) : opD te K s (.nilCheck x) = (nilD (ev s x)).bind fun v => some (v, s.σ) := rfl
@[simp] theorem opD_unOp (o : UnOp) (t : TypeId) (x : Operand) : opD te K s (.unOp o t x) = (unD o (ev s x)).bind fun v => some (v, s.σ) := rfl
@[simp] theorem opD_convert (a b : TypeId) (x : Operand) : opD te K s (.convert a b x) = (convD te s.σ a b (ev s x)).bind fun v => some (v, s.σ) := rfl
@[simp] theorem opD_makeFunc (g : FuncId) (c : List Operand) : opD te K s (.makeFunc (.func g) #[] c.toArray) = some (.fn g (c.map (ev s)), s.σ) := by simp [opD, opsAV]
@[simp] theorem opD_makeMap (t : TypeId) : opD te K s (.makeMap t none) = some (.mp (some s.σ.length), s.σ ++ [.map []]) := rfl
@[simp] theorem opD_slice (t : TypeId) (x : Operand) (lo hi mx : Option Operand) : opD te K s (.slice t x lo hi mx) = sl3D te s.σ t (ev s x) (lo.map (ev s)) (hi.map (ev s)) (mx.map (ev s)) := rfl
@[simp] theorem opD_fieldAddr (t : TypeId) (x : Operand) (i : Nat) : opD te K s (.fieldAddr t x i) = (fieldAddrD te t (ev s x) i).bind fun v => some (v, s.σ) := rfl
@[simp] theorem opD_field (t : TypeId) (x : Operand) (i : Nat) : opD te K s (.field t x i) = (fieldD te t (ev s x) i).bind fun v => some (v, s.σ) := rfl
@[simp] theorem opD_indexAddr (t : TypeId) (x i : Operand) : opD te K s (.indexAddr t x i) = (indexAddrD te t (ev s x) (ev s i)).bind fun v => some (v, s.σ) := rfl
@[simp] theorem opD_index (t : TypeId) (x i : Operand) : opD te K s (.index t x i) = (indexD te t (ev s x) (ev s i)).bind fun v => some (v, s.σ) := rfl
@[simp] theorem opD_lookup (t : TypeId) (m k : Operand) (ok : Bool) : opD te K s (.lookup t m k ok) = (lookupD te s.σ t (ev s m) (ev s k) ok).bind fun v => some (v, s.σ) := rfl
@[simp] theorem opD_mapUpdate (t : TypeId) (m k v : Operand) : opD te K s (.mapUpdate t m k v) = (mapUpdD te s.σ t (ev s m) (ev s k) (ev s v)).bind fun σ => some (.junk, σ) := rfl
def pickD (σ : List LObj) (a b : AV) : AV → Option (AV × List LObj)
  | .bool p => if p = true then some (a, σ) else some (b, σ)
  | _ => none
@[simp] theorem opD_pick (c a b : Operand) : opD te K s (.pick c a b) = pickD s.σ (ev s a) (ev s b) (ev s c) := by
  simp only [opD]
  cases ev s c <;> rfl
@[simp] theorem pickD_bool {σ : List LObj} {a b : AV} {p : Bool} : pickD σ a b (.bool p) = if p = true then some (a, σ) else some (b, σ) := rfl
def boxD (σ : List LObj) : AV → Option (AV × List LObj)
  | .junk => none
  | v => some (.ptr (some (σ.length, 0)), σ ++ [.cells v.flat])
@[simp] theorem opD_box (t : TypeId) (x : Operand) : opD te K s (.box t x) = boxD s.σ (ev s x) := by
  simp only [opD]
  cases ev s x <;> rfl
def binO (te : TE) (op : BinOp) (t : TypeId) (x y : AV) : Option AV := binD te op t x y
@[simp] theorem opD_binOp (o : BinOp) (t : TypeId) (x y : Operand) (u : TypeId) : opD te K s (.binOp o t x y u) = (binD te o t (ev s x) (ev s y)).bind fun v => some (v, s.σ) := rfl
def extD (σ : List LObj) (i : Nat) : AV → Option (AV × List LObj)
  | .tup vs => (vs[i]?).bind fun v => some (v, σ)
  | _ => none
@[simp] theorem opD_extract (x : Operand) (i : Nat) : opD te K s (.extract x i) = extD s.σ i (ev s x) := by
  simp only [opD]
  cases ev s x <;> rfl
@[simp] theorem extD_tup {vs : List AV} {i : Nat} : extD σ i (.tup vs) = (vs[i]?).bind fun v => some (v, σ) := rfl
def callV (te : TE) (K : KT) (σ : List LObj) (args : List AV) : AV → Option (AV × List LObj)
  | .fn f cap => callD K σ f (args ++ cap)
  | _ => none
@[simp] theorem opD_call {x : Operand} {as : List Operand} {ts : Array TypeId} : opD te K s (.call ⟨.value x, as.toArray, ts⟩) = callV te K s.σ (as.map (ev s)) (ev s x) := by
  simp only [opD, opsAV]
  cases ev s x <;> rfl
@[simp] theorem callV_fn {g : FuncId} {cap args : List AV} : callV te K σ args (.fn g cap) = callD K σ g (args ++ cap) := rfl
@[simp] theorem opD_builtin {b : Builtin} {as : List Operand} {ts : List TypeId} : opD te K s (.call ⟨.builtin b, as.toArray, ts.toArray⟩) = biD te s.σ b (as.map (ev s)) ts := by
  simp [opD, opsAV]
@[simp] theorem biD_len {x : AV} {t : TypeId} {ts : List TypeId} : biD te σ .len [x] (t :: ts) = (lenD te σ t x).bind fun v => some (v, σ) := rfl
@[simp] theorem biD_append {x y : AV} {t u : TypeId} {ts : List TypeId} : biD te σ .append [x, y] (t :: u :: ts) = appendD te σ t u x y := rfl
@[simp] theorem biD_min {xs : List AV} {ts : List TypeId} : biD te σ .min xs ts = (minD false xs).bind fun v => some (v, σ) := by
  cases xs <;> rfl
@[simp] theorem biD_max {xs : List AV} {ts : List TypeId} : biD te σ .max xs ts = (minD true xs).bind fun v => some (v, σ) := by
  cases xs <;> rfl
@[simp] theorem biD_delete {m k : AV} {t : TypeId} {ts : List TypeId} : biD te σ .delete [m, k] (t :: ts) = (deleteD te σ t m k).bind fun σ' => some (.tup [], σ') := rfl
@[simp] theorem binD_int {o : BinOp} {t : TypeId} {k k' : IntKind} {a b : Int} : binD te o t (.int k a) (.int k' b) = binI o k a k' b := rfl
@[simp] theorem binD_str {o : BinOp} {t : TypeId} {a b : ByteArray} : binD te o t (.str a) (.str b) = binStr o a b := rfl
attribute [simp] callE foot idsC idsA idsO addNew renC renA renB renO into back LObj.excl boxD AV.flat fieldAddrD fieldD loadD Vi.part TyD.isAgg binI binInt shInt cmpInt binStr binX eqX AV.isIS eqA eqNil leafEq unD nilD retD AV.solid indexAddrD indexD lenD callD deepAs deepA deepC deepL scal scal1 minD minGo AV.one storeD over idA idC frzL frzO scal buildD placesD fillD numOf sliceD sl3D deepR retV idLtA idLtB idLtC idLtO
end
section
variable {te : TE} {K : KT} {rs : List ResultVar} {n0 : Nat} {Q : List AV → List LObj → Prop} {k : List MI} {s : St}
theorem Ex.retS (h : ∃ l, retD te s rs = some l ∧ Q l s.σ) : Ex te K rs n0 Q (.code .ret :: k) s := .ret h.choose_spec.1 h.choose_spec.2
@[simp] theorem bind_ite' {α β : Type} {c : Prop} [Decidable c] {p q : Option α} {f : α → Option β} : (if c then p else q).bind f = if c then p.bind f else q.bind f := by split <;> rfl
def ExC (te : TE) (K : KT) (rs : List ResultVar) (n0 : Nat) (Q : List AV → List LObj → Prop) (x y : MC) (k : List MI) (s : St) (v : AV) : Prop := ∃ b, v = .bool b ∧ Ex te K rs n0 Q (.code (if b then x else y) :: k) s
theorem Ex.condV {c : Operand} {x y : MC} (h : ExC te K rs n0 Q x y k s (ev s c)) : Ex te K rs n0 Q (.code (.cond c x y) :: k) s := by
  obtain ⟨b, hb, h⟩ := h
  exact .cond b hb h
theorem ExC.tt {x y : MC} (h : Ex te K rs n0 Q (.code x :: k) s) : ExC te K rs n0 Q x y k s (.bool true) := ⟨true, rfl, h⟩
theorem ExC.ff {x y : MC} (h : Ex te K rs n0 Q (.code y :: k) s) : ExC te K rs n0 Q x y k s (.bool false) := ⟨false, rfl, h⟩
theorem ExC.dec {x y : MC} {c : Prop} [Decidable c] (h : c → c = True → Ex te K rs n0 Q (.code x :: k) s) (h' : ¬ c → c = False → Ex te K rs n0 Q (.code y :: k) s) : ExC te K rs n0 Q x y k s (.bool (decide c)) := by
  by_cases hc : c
  · exact ⟨true, by simp [hc], h hc (eq_true hc)⟩
  · exact ⟨false, by simp [hc], h' hc (eq_false hc)⟩
theorem ExC.sym {x y : MC} {b : Bool} (h : b = true → Ex te K rs n0 Q (.code x :: k) s) (h' : b = false → Ex te K rs n0 Q (.code y :: k) s) : ExC te K rs n0 Q x y k s (.bool b) := by
  cases b
  · exact ⟨false, rfl, h' rfl⟩
  · exact ⟨true, rfl, h rfl⟩
theorem weak_slots {n : Nat} {f : Nat → AV} : ∀ {ts : List (Nat × AV)}, (∀ p ∈ ts, f p.1 = p.2 ∧ idLtB n p.2 = true) → ∀ t, slotsOf ts t = .junk ∨ (slotsOf ts t = f t ∧ idLtB n (f t) = true)
  | [], h, t => .inl rfl
  | (u, v) :: ts, h, t => by
    unfold slotsOf
    by_cases e : t = u
    · subst e
      obtain ⟨h1, h2⟩ := h (t, v) (by simp)
      simp only [if_true]
      exact .inr ⟨h1.symm, by rw [h1]; exact h2⟩
    · simp only [e, if_false]
      exact weak_slots (fun p hp => h p (by simp [hp])) t
/-- On with these slots and these objects alone. -/
theorem Ex.to (ts : List (Nat × AV)) (σ' : List LObj) (h3 : ∀ p ∈ ts, s.slots p.1 = p.2 ∧ idLtB σ'.length p.2 = true) (h1 : σ' = s.σ.take σ'.length) (h0 : n0 ≤ σ'.length) (h2 : (σ'.all (idLtO σ'.length)) = true)
    (h : Ex te K rs n0 Q k ⟨slotsOf ts, σ'⟩) : Ex te K rs n0 Q k s := .weak ⟨h0, h1, fun o ho => List.all_eq_true.1 h2 o ho, weak_slots h3⟩ h
theorem Ex.finS (h : ∃ l, retD te s rs = some l ∧ Q l s.σ) : Ex te K rs n0 Q [] s := .fin h.choose_spec.1 h.choose_spec.2
end
end Go.Vi
