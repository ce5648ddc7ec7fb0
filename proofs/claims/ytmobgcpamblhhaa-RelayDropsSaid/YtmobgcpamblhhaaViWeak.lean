/- Forgetting; whole bodies. -/
import Derived.Test.YtmobgcpamblhhaaViSound
set_option linter.unusedVariables false
set_option linter.unusedSimpArgs false
namespace Go.Vi

section
variable {w : World} {ok : CellOk} {loc loc' : Loc} {n : Nat}
theorem VRel.ltC (hl : ∀ i, i < n → loc' i = loc i) {x : AV} {v : Value} (h : idLtC n x = true) (r : VRel w ok loc x v) : VRel w ok loc' x v := by
  cases r with
  | junk v => exact .junk v
  | deep _ _ hd => exact .deep _ _ hd
  | ptr o off b hb => simp [idLtC] at h; exact .ptr o off b ((hl o h).trans hb)
  | aptr o sz i j b hb => simp [idLtC] at h; exact .aptr o sz i j b ((hl o h).trans hb)
  | ep cells j b o val h1 h2 => exact .ep cells j b o val h1 h2
  | msl o sz off len b c e n hb hs h1 h2 => simp [idLtC] at h; exact .msl o sz off len b c e n ((hl o h).trans hb) hs h1 h2
  | mslE o sz off _ => exact .mslE o sz off _
  | mp o b hb => simp [idLtC] at h; exact .mp o b ((hl o h).trans hb)
  | fn f cap vs hl' ih => simp [idLtC] at h; subst h; exact .fn f [] vs hl' (fun j x v hx => by simp at hx)
  | agg cs vs hl' ih => simp [idLtC] at h; subst h; exact .agg [] vs hl' (fun j x v hx => by simp at hx)
  | tup cs vs hl' ih => simp [idLtC] at h; subst h; exact .tup [] vs hl' (fun j x v hx => by simp at hx)
theorem VRel.ltA (hl : ∀ i, i < n → loc' i = loc i) {x : AV} {v : Value} (h : idLtA n x = true) (r : VRel w ok loc x v) : VRel w ok loc' x v := by
  cases r with
  | fn f cap vs hl' ih => exact .fn f cap vs hl' fun j x v hx hv => (ih j x v hx hv).ltC hl (List.all_eq_true.1 h x (List.mem_of_getElem? hx))
  | agg cs vs hl' ih => exact .agg cs vs hl' fun j x v hx hv => (ih j x v hx hv).ltC hl (List.all_eq_true.1 h x (List.mem_of_getElem? hx))
  | tup cs vs hl' ih => exact .tup cs vs hl' fun j x v hx hv => (ih j x v hx hv).ltC hl (List.all_eq_true.1 h x (List.mem_of_getElem? hx))
  | deep _ _ hd => exact .deep _ _ hd
  | junk v => exact .junk v
  | ptr o off b hb => exact VRel.ltC hl h (.ptr o off b hb)
  | aptr o sz i j b hb => exact VRel.ltC hl h (.aptr o sz i j b hb)
  | ep cells j b o val h1 h2 => exact .ep cells j b o val h1 h2
  | msl o sz off len b c e n hb hs h1 h2 => exact VRel.ltC hl h (.msl o sz off len b c e n hb hs h1 h2)
  | mslE o sz off _ => exact .mslE o sz off _
  | mp o b hb => exact VRel.ltC hl h (.mp o b hb)
theorem VRel.ltB (hl : ∀ i, i < n → loc' i = loc i) {x : AV} {v : Value} (h : idLtB n x = true) (r : VRel w ok loc x v) : VRel w ok loc' x v := by
  cases r with
  | fn f cap vs hl' ih => exact .fn f cap vs hl' fun j x v hx hv => (ih j x v hx hv).ltA hl (List.all_eq_true.1 h x (List.mem_of_getElem? hx))
  | agg cs vs hl' ih => exact .agg cs vs hl' fun j x v hx hv => (ih j x v hx hv).ltA hl (List.all_eq_true.1 h x (List.mem_of_getElem? hx))
  | tup cs vs hl' ih => exact .tup cs vs hl' fun j x v hx hv => (ih j x v hx hv).ltA hl (List.all_eq_true.1 h x (List.mem_of_getElem? hx))
  | deep _ _ hd => exact .deep _ _ hd
  | junk v => exact .junk v
  | ptr o off b hb => exact VRel.ltC hl h (.ptr o off b hb)
  | aptr o sz i j b hb => exact VRel.ltC hl h (.aptr o sz i j b hb)
  | ep cells j b o val h1 h2 => exact .ep cells j b o val h1 h2
  | msl o sz off len b c e n hb hs h1 h2 => exact VRel.ltC hl h (.msl o sz off len b c e n hb hs h1 h2)
  | mslE o sz off _ => exact .mslE o sz off _
  | mp o b hb => exact VRel.ltC hl h (.mp o b hb)
theorem ORel.ltO (hl : ∀ i, i < n → loc' i = loc i) {o : LObj} {b : Nat} (h : idLtO n o = true) (r : ORel w ok loc o b) : ORel w ok loc' o b := by
  cases r with
  | cells cs b vs ty h1 h2 h3 => exact .cells cs b vs ty h1 h2 fun j x v hx hv => (h3 j x v hx hv).ltA hl (List.all_eq_true.1 h x (List.mem_of_getElem? hx))
  | arr sz xs b vs ty h1 h2 h3 h4 => exact .arr sz xs b vs ty h1 h2 h3 h4
  | frz sz xs b vs ty fr h1 h2 h3 h5 h4 => exact .frz sz xs b vs ty fr h1 h2 h3 h5 h4
  | map es b entries clock h1 h2 h3 h4 => exact .map es b entries clock h1 h2 h3 h4
/-- Only the first objects. -/
def cutL (n : Nat) (loc : Loc) : Loc := fun i => if i < n then loc i else none
theorem cutL_lt (i : Nat) (h : i < n) : cutL n loc i = loc i := by simp [cutL, h]
theorem cutL_some {i b : Nat} (h : cutL n loc i = some b) : i < n ∧ loc i = some b := by
  unfold cutL at h
  split at h
  · exact ⟨by assumption, h⟩
  · cases h
theorem Own.cut {σ σ' : List LObj} (h : Own w ok loc σ) (he : σ' = σ.take σ'.length) (ho : ∀ o ∈ σ', idLtO σ'.length o = true) : Own w ok (cutL σ'.length loc) σ' := by
  have get : ∀ i o, σ'[i]? = some o → i < σ'.length ∧ σ[i]? = some o := by
    intro i o hi
    have hlt : i < σ'.length := (List.getElem?_eq_some_iff.1 hi).1
    rw [he, List.getElem?_take] at hi
    simp [hlt] at hi
    exact ⟨hlt, hi⟩
  refine ⟨fun i o hi hg => ?_, fun i o b hi hx hb => ?_, fun i j oi oj b hi hj h1 h2 h3 h4 => ?_, fun i hi => ?_, h.bd, fun i b hb => h.lbd i b (cutL_some hb).2⟩
  · obtain ⟨hlt, hi'⟩ := get i o hi
    rw [cutL_lt i hlt]
    rcases h.rel i o hi' hg with h0 | ⟨b, hb, hr⟩
    · exact .inl h0
    · exact .inr ⟨b, hb, hr.ltO (fun j hj => cutL_lt j hj) (ho o (List.mem_of_getElem? hi))⟩
  · exact h.ex i o b (get i o hi).2 hx (cutL_some hb).2
  · exact h.inj i j oi oj b (get i oi hi).2 (get j oj hj).2 h1 h2 (cutL_some h3).2 (cutL_some h4).2
  · simp [cutL]; omega
end
section
variable {P : Program} {te : TE} {K : KT} {W0 : World} {X : Nat → Prop} {ok0 : CellOk} {loc0 : Loc} {nt n0 : Nat} {s s' : St} {a : Act} {w : World}
theorem Ext.cut {ok : CellOk} {loc : Loc} {n : Nat} (h : Ext W0 ok0 loc0 w ok loc) (hn : ∀ i b, loc0 i = some b → i < n) : Ext W0 ok0 loc0 w ok (cutL n loc) :=
  ⟨h.keep, fun i b hb => by rw [cutL_lt i (hn i b hb)]; exact h.loc i b hb, h.shape⟩
theorem J.weak (h : J W0 X ok0 loc0 nt s a w) (h0 : ∀ i b, loc0 i = some b → i < n0) (hw : Weak n0 s s') : J W0 X ok0 loc0 nt s' a w := by
  obtain ⟨ok, loc, hI, hE⟩ := h
  refine ⟨ok, cutL s'.σ.length loc, ⟨hI.fr, hI.okold, hI.ok0, hI.own.cut hw.σ hw.objs, fun i b hb => hI.lnew i b (cutL_some hb).2, fun t => ?_, hI.defers, hI.nt⟩, hE.cut fun i b hb => Nat.lt_of_lt_of_le (h0 i b hb) hw.len⟩
  rcases hw.slots t with h1 | ⟨h1, h2⟩
  · rw [h1]; exact .junk _
  · rw [h1]; exact (hI.slots t).ltB (fun i hi => cutL_lt i hi) h2
theorem J.same (h : J W0 X ok0 loc0 nt s a w) {w' : World} (hh : w'.heap = w.heap) (ho : w'.os = w.os) (ht : w'.tape = w.tape) (hp : w'.output = w.output) : J W0 X ok0 loc0 nt s a w' := by
  obtain ⟨ok, loc, hI, hE⟩ := h
  refine ⟨ok, loc, hI.same hh ho ht hp, hE.trans (Ext.of_heap (fun b _ _ => by rw [hh]) fun b x hx => by rw [shape_of_heap (by rw [hh] : w'.heap[b]? = w.heap[b]?)]; exact hx)⟩
end
end Go.Vi
