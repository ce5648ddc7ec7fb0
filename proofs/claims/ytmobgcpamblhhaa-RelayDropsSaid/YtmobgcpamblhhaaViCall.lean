/- Contracts, and calls by them. make; least and greatest. -/
import Derived.Test.YtmobgcpamblhhaaViOps10
set_option linter.unusedVariables false
set_option linter.unusedSimpArgs false
namespace Go.Vi

structure Args (R : AV → Value → Prop) (as : List AV) (vs : Array Value) : Prop where
  len : vs.size = as.length
  rel : ∀ (j : Nat) (x : AV) (v : Value), as[j]? = some x → vs[j]? = some v → R x v

/-- A function that only computes: what it gives leads to what it was given, or to new memory. -/
def PureC (P : Program) (f : FuncId) (F : List AV → Option AV) : Prop :=
  ∀ args r, F args = some r → ∀ (w : World) (ok : CellOk) (vs : Array Value), (∀ b o, ok b o → b < w.heap.size) → Args (VDeep w ok) args vs →
    Calls P f vs w fun e w' => ∃ rv, e = .returned rv ∧ Fr w w' (fun _ => False) ∧ VDeep w' (fun b o => ok b o ∨ (w.heap.size ≤ b ∧ b < w'.heap.size)) r rv

/-- A function that turns what is handed to it. -/
structure EffPost (w : World) (ok : CellOk) (loc : Loc) (n : Nat) (r : AV) (objs' : List LObj) (rv : Value) (w' : World) (ok' : CellOk) (loc' : Loc) : Prop where
  fr : Fr w w' (fun b => ∃ i, loc i = some b)
  ext : Ext w ok loc w' ok' loc'
  okold : ∀ b o, b < w.heap.size → ok' b o → ok b o ∨ ∃ i, loc i = some b
  lnew : ∀ i b, loc' i = some b → w.heap.size ≤ b ∨ ∃ i, loc i = some b
  own : Own w' ok' loc' objs'
  rel : VRel w' ok' loc' r rv
def EffC (P : Program) (f : FuncId) (F : List AV → List LObj → Option (AV × List LObj)) : Prop :=
  ∀ args objs r objs', F args objs = some (r, objs') → ∀ (w : World) (ok : CellOk) (loc : Loc) (vs : Array Value), Own w ok loc objs → Args (VRel w ok loc) args vs →
    Calls P f vs w fun e w' => ∃ rv ok' loc', e = .returned rv ∧ EffPost w ok loc objs.length r objs' rv w' ok' loc'

def KOK (P : Program) (K : KT) : Prop := ∀ f, (∃ fn, P.funcs[f]? = some fn ∧ fn.body.isNone = false ∧ (fn.name == "runtime.NumGoroutine") = false) ∨ K f = .none

section
variable {P : Program} {te : TE} {W0 : World} {X : Nat → Prop} {ok0 : CellOk} {nt : Nat} {s : St} {a : Act} {w : World} {ok : CellOk} {loc : Loc} {v : Value}

/-- Nothing that was there has turned; the new blocks are nobody's to write. -/
theorem Inv.fresh (h : Inv W0 X ok0 nt s a w ok loc) {w' : World} (hf : Fr w w' (fun _ => False)) :
    Ext w ok loc w' (fun b o => ok b o ∨ (w.heap.size ≤ b ∧ b < w'.heap.size)) loc ∧ Inv W0 X ok0 nt s a w' (fun b o => ok b o ∨ (w.heap.size ≤ b ∧ b < w'.heap.size)) loc := by
  have hb : ∀ b : Nat, b < w.heap.size → w'.heap[b]? = w.heap[b]? := fun b hb => hf.heap b hb id
  have e1 : Ext w ok loc w' ok loc := Ext.of_heap (fun b hlt _ => hb b hlt) hf.shape
  have e : Ext w ok loc w' (fun b o => ok b o ∨ (w.heap.size ≤ b ∧ b < w'.heap.size)) loc := e1.trans (Ext.wider fun _ _ h => .inl h)
  refine ⟨e, ⟨⟨hf.os.trans h.fr.os, hf.tape.trans h.fr.tape, hf.output.trans h.fr.output, Nat.le_trans h.fr.size hf.size, fun b hlt hx => by rw [hb b (Nat.lt_of_lt_of_le hlt h.fr.size)]; exact h.fr.heap b hlt hx, fun b x hx => hf.shape _ _ (h.fr.shape b x hx)⟩,
    fun b k hlt hk => ?_, fun b k hk => .inl (h.ok0 b k hk), ⟨fun i x hi hg => ?_, fun i x b hi hx hlb k hk => ?_, h.own.inj, h.own.dom, fun b k hk => ?_, fun i b hlb => Nat.lt_of_lt_of_le (h.own.lbd i b hlb) hf.size⟩, h.lnew, fun t => (h.slots t).mono e, h.defers, h.nt⟩⟩
  · rcases hk with hk | ⟨hk, _⟩
    · exact h.okold b k hlt hk
    · have := h.fr.size; omega
  · rcases h.own.rel i x hi hg with h0 | ⟨b, hlb, hrr⟩
    · exact .inl h0
    · exact .inr ⟨b, hlb, hrr.keep e (hb b hrr.lt)⟩
  · rcases hk with hk | ⟨hk, _⟩
    · exact h.own.ex i x b hi hx hlb k hk
    · have := h.own.lbd i _ hlb; omega
  · rcases hk with hk | ⟨_, hk⟩
    · exact Nat.lt_of_lt_of_le (h.own.bd b k hk) hf.size
    · exact hk

theorem scal1_deep {x : AV} {c : Value} {w' : World} {ok' : CellOk} (h : VDeep w ok x c) (hs : scal1 x = true) : VDeep w' ok' x c := by
  cases h with
  | bool => exact .bool _
  | int => exact .int _ _
  | str => exact .str _
  | ptr => exact .ptr
  | mp => exact .mp
  | nilfn => exact .nilfn
  | nilif => exact .nilif
  | emp _ _ _ _ hc => exact .emp _ _ _ _ hc
  | sl sz full xs b o c val h1 h2 h3 h4 h5 =>
    cases xs with
    | nil => exact .emp _ _ _ _ (by simpa using h2)
    | cons => simp [scal1] at hs
  | fn => simp [scal1] at hs
  | agg => simp [scal1] at hs
  | tup => simp [scal1] at hs
  | mv => simp [scal1] at hs
theorem scal_deep {x : AV} {c : Value} {w' : World} {ok' : CellOk} (h : VDeep w ok x c) (hs : scal x = true) : VDeep w' ok' x c := by
  cases h with
  | agg cs vs hl hr => exact .agg cs vs hl fun j y v hy hv => scal1_deep (hr j y v hy hv) (List.all_eq_true.1 hs _ (List.mem_of_getElem? hy))
  | tup cs vs hl hr => exact .tup cs vs hl fun j y v hy hv => scal1_deep (hr j y v hy hv) (List.all_eq_true.1 hs _ (List.mem_of_getElem? hy))
  | bool => exact .bool _
  | int => exact .int _ _
  | str => exact .str _
  | ptr => exact .ptr
  | mp => exact .mp
  | nilfn => exact .nilfn
  | nilif => exact .nilif
  | emp _ _ _ _ hc => exact .emp _ _ _ _ hc
  | sl sz full xs b o c val h1 h2 h3 h4 h5 => exact scal1_deep (.sl sz full xs b o c val h1 h2 h3 h4 h5) hs
  | fn => simp [scal, scal1] at hs
  | mv => simp [scal, scal1] at hs

/-- A call of a function that only computes. -/
theorem pure_call {f : FuncId} {F : List AV → Option AV} (hC : PureC P f F) (h : Inv W0 X ok0 nt s a w ok loc) {args as : List AV} {vs : Array Value} (hv : Args (VRel w ok loc) args vs) (hd : deepAs s.σ args = some as) {r : AV} (hr : F as = some r) :
    Calls P f vs w fun e w' => ∃ rv ok', e = .returned rv ∧ Ext w ok loc w' ok' loc ∧ Inv W0 X ok0 nt ⟨s.slots, if scal r then s.σ else frzL s.σ (args.flatMap idA)⟩ a w' ok' loc ∧ VRel w' ok' loc r rv := by
  obtain ⟨hl, hget⟩ := deepAs_get hd
  by_cases hs : scal r = true
  · have hA : Args (VDeep w (fun b _ => b < w.heap.size)) as vs := ⟨by rw [hv.len, hl], fun j x c hx hc => by
      obtain ⟨y, hy, hyd⟩ := hget j x hx
      exact deepA_sound h.own (fun b o hk => h.own.bd b o hk) (hv.rel j y c hy hc) hyd fun o _ => given_all h.own o⟩
    refine (hC as r hr w _ vs (fun b o hk => hk) hA).mono ?_
    rintro e w' ⟨rv, rfl, hf, hrel⟩
    obtain ⟨e1, hI⟩ := h.fresh hf
    rw [if_pos hs]
    exact ⟨rv, _, rfl, e1, hI, .deep _ _ (scal_deep hrel hs)⟩
  · obtain ⟨ok1, hw1, hI1, hG1⟩ := h.frzL (args.flatMap idA)
    have hA : Args (VDeep w ok1) as vs := ⟨by rw [hv.len, hl], fun j x c hx hc => by
      obtain ⟨y, hy, hyd⟩ := hget j x hx
      exact deepA_sound h.own hw1 (hv.rel j y c hy hc) hyd fun o ho => hG1 o (by rw [List.mem_flatMap]; exact ⟨y, List.mem_of_getElem? hy, ho⟩)⟩
    refine (hC as r hr w ok1 vs (fun b o hk => hI1.own.bd b o hk) hA).mono ?_
    rintro e w' ⟨rv, rfl, hf, hrel⟩
    obtain ⟨e1, hI⟩ := hI1.fresh hf
    rw [if_neg hs]
    exact ⟨rv, _, rfl, (Ext.wider hw1).trans e1, hI, .deep _ _ hrel⟩
end
end Go.Vi
