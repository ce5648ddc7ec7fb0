/- Calls that turn what is handed to them. -/
import Derived.Test.YtmobgcpamblhhaaViCall
set_option linter.unusedVariables false
set_option linter.unusedSimpArgs false
namespace Go.Vi

section
variable {w : World} {ok : CellOk} {loc loc2 : Loc} {ρ : Ren}
def RenOK (ρ : Ren) (loc loc2 : Loc) : Prop := ∀ o o' b, ρ o = some o' → loc o = some b → loc2 o' = some b
theorem VRel.renC (hρ : RenOK ρ loc loc2) {x : AV} {v : Value} (r : VRel w ok loc x v) : VRel w ok loc2 (renC ρ x) v := by
  cases r with
  | junk v => exact .junk v
  | deep a v hd =>
    cases hd with
    | agg => exact .junk _
    | tup cs vs hl h =>
      cases cs with
      | nil => exact .deep _ _ (.tup [] vs hl h)
      | cons => exact .junk _
    | fn f cs vs hl h =>
      cases cs with
      | nil => exact .deep _ _ (.fn f [] vs hl h)
      | cons => exact .junk _
    | bool => exact .deep _ _ (.bool _)
    | int => exact .deep _ _ (.int _ _)
    | str => exact .deep _ _ (.str _)
    | ptr => exact .deep _ _ .ptr
    | mp => exact .deep _ _ .mp
    | nilfn => exact .deep _ _ .nilfn
    | nilif => exact .deep _ _ .nilif
    | emp sz full a c hc => exact .deep _ _ (.emp sz full a c hc)
    | sl sz full xs b o c val h1 h2 h3 h4 h5 => exact .deep _ _ (.sl sz full xs b o c val h1 h2 h3 h4 h5)
    | mv es b en cl h1 h2 h3 h4 h5 => exact .deep _ _ (.mv es b en cl h1 h2 h3 h4 h5)
  | ptr o off b hb =>
    simp only [Vi.renC]
    cases h : ρ o with
    | none => exact .junk _
    | some o' => exact .ptr o' off b (hρ o o' b h hb)
  | aptr o sz i j b hb =>
    simp only [Vi.renC]
    cases h : ρ o with
    | none => exact .junk _
    | some o' => exact .aptr o' sz i j b (hρ o o' b h hb)
  | ep cells j b o val h1 h2 => exact .ep cells j b o val h1 h2
  | msl o sz off len b c e n hb hs h1 h2 =>
    simp only [Vi.renC]
    cases h : ρ o with
    | none => exact .junk _
    | some o' => exact .msl o' sz off len b c e n (hρ o o' b h hb) hs h1 h2
  | mslE o sz off a =>
    simp only [Vi.renC]
    cases h : ρ o with
    | none => exact .junk _
    | some o' => exact .mslE o' sz off a
  | mp o b hb =>
    simp only [Vi.renC]
    cases h : ρ o with
    | none => exact .junk _
    | some o' => exact .mp o' b (hρ o o' b h hb)
  | fn f cap vs hl ih =>
    cases cap with
    | nil => exact .fn f [] vs hl (fun j x v hx => by simp at hx)
    | cons => exact .junk _
  | agg cs vs hl ih => exact .junk _
  | tup cs vs hl ih =>
    cases cs with
    | nil => exact .tup [] vs hl (fun j x v hx => by simp at hx)
    | cons => exact .junk _
theorem list_ren {g : AV → AV} (hg : ∀ x v, VRel w ok loc x v → VRel w ok loc2 (g x) v) {cs : List AV} {vs : Array Value} (hr : ∀ (j : Nat) (x : AV) (v : Value), cs[j]? = some x → vs[j]? = some v → VRel w ok loc x v) :
    ∀ (j : Nat) (x : AV) (v : Value), (cs.map g)[j]? = some x → vs[j]? = some v → VRel w ok loc2 x v := by
  intro j x v hx hv
  rw [List.getElem?_map] at hx
  cases hc : cs[j]? with
  | none => simp [hc] at hx
  | some y =>
    simp [hc] at hx
    subst hx
    exact hg y v (hr j y v hc hv)
theorem deep_list {cs : List AV} {vs : Array Value} (hr : ∀ (j : Nat) (x : AV) (v : Value), cs[j]? = some x → vs[j]? = some v → VDeep w ok x v) : ∀ (j : Nat) (x : AV) (v : Value), cs[j]? = some x → vs[j]? = some v → VRel w ok loc x v :=
  fun j x v hx hv => .deep _ _ (hr j x v hx hv)
theorem VRel.renA (hρ : RenOK ρ loc loc2) {x : AV} {v : Value} (r : VRel w ok loc x v) : VRel w ok loc2 (renA ρ x) v := by
  have hc := VRel.renC hρ r
  cases r with
  | fn f cap vs hl ih => exact .fn f _ vs (by simpa using hl) (list_ren (fun x v h => h.renC hρ) ih)
  | agg cs vs hl ih => exact .agg _ vs (by simpa using hl) (list_ren (fun x v h => h.renC hρ) ih)
  | tup cs vs hl ih => exact .tup _ vs (by simpa using hl) (list_ren (fun x v h => h.renC hρ) ih)
  | deep a v hd =>
    cases hd with
    | agg cs vs hl ih => exact .agg _ vs (by simpa using hl) (list_ren (fun x v h => h.renC hρ) (deep_list ih))
    | tup cs vs hl ih => exact .tup _ vs (by simpa using hl) (list_ren (fun x v h => h.renC hρ) (deep_list ih))
    | fn f cs vs hl ih => exact .fn f _ vs (by simpa using hl) (list_ren (fun x v h => h.renC hρ) (deep_list ih))
    | _ => exact hc
  | _ => exact hc
theorem VRel.renB (hρ : RenOK ρ loc loc2) {x : AV} {v : Value} (r : VRel w ok loc x v) : VRel w ok loc2 (renB ρ x) v := by
  have hc := VRel.renC hρ r
  cases r with
  | fn f cap vs hl ih => exact .fn f _ vs (by simpa using hl) (list_ren (fun x v h => h.renA hρ) ih)
  | agg cs vs hl ih => exact .agg _ vs (by simpa using hl) (list_ren (fun x v h => h.renA hρ) ih)
  | tup cs vs hl ih => exact .tup _ vs (by simpa using hl) (list_ren (fun x v h => h.renA hρ) ih)
  | deep a v hd =>
    cases hd with
    | agg cs vs hl ih => exact .agg _ vs (by simpa using hl) (list_ren (fun x v h => h.renA hρ) (deep_list ih))
    | tup cs vs hl ih => exact .tup _ vs (by simpa using hl) (list_ren (fun x v h => h.renA hρ) (deep_list ih))
    | fn f cs vs hl ih => exact .fn f _ vs (by simpa using hl) (list_ren (fun x v h => h.renA hρ) (deep_list ih))
    | _ => exact hc
  | _ => exact hc
theorem ORel.ren (hρ : RenOK ρ loc loc2) {o : LObj} {b : Nat} (r : ORel w ok loc o b) : ORel w ok loc2 (renO ρ o) b := by
  cases r with
  | cells cs b vs ty h1 h2 h3 => exact .cells _ b vs ty h1 (by simpa using h2) (list_ren (fun x v h => h.renA hρ) h3)
  | arr sz xs b vs ty h1 h2 h3 h4 => exact .arr sz xs b vs ty h1 h2 h3 h4
  | frz sz xs b vs ty fr h1 h2 h3 h5 h4 => exact .frz sz xs b vs ty fr h1 h2 h3 h5 h4
  | map es b entries clock h1 h2 h3 h4 => exact .map es b entries clock h1 h2 h3 h4
theorem renO_excl (o : LObj) : (renO ρ o).excl = o.excl := by cases o <;> rfl
theorem renO_void (o : LObj) : (renO ρ o).void = o.void := by cases o <;> rfl
theorem renO_gone {o : LObj} (h : renO ρ o ≠ .gone) : o ≠ .gone := fun e => h (by rw [e]; rfl)
end
theorem addNew_nodup : ∀ {xs l : List Nat}, l.Nodup → (addNew l xs).Nodup
  | [], l, h => h
  | x :: xs, l, h => by
    unfold addNew
    split
    · exact addNew_nodup h
    · rename_i hx
      refine addNew_nodup ?_
      rw [List.nodup_append]
      exact ⟨h, by simp, fun a ha b hb => by simp at hb; subst hb; exact fun e => hx (e ▸ ha)⟩
theorem foot_nodup (σ : List LObj) (args : List AV) : (foot σ args).Nodup := addNew_nodup (addNew_nodup (addNew_nodup List.nodup_nil))

section
variable {P : Program} {W0 : World} {X : Nat → Prop} {ok0 : CellOk} {nt : Nat} {s : St} {a : Act} {w : World} {ok : CellOk} {loc : Loc}
theorem idx_get {l : List Nat} {o : Nat} (h : o ∈ l) : l[l.idxOf o]? = some o := by
  have hlt := List.idxOf_lt_length_of_mem h
  rw [List.getElem?_eq_getElem hlt, List.getElem_idxOf hlt]
theorem eff_call {f : FuncId} {F : List AV → List LObj → Option (AV × List LObj)} (hC : EffC P f F) (h : Inv W0 X ok0 nt s a w ok loc) {args : List AV} {vs : Array Value} (hv : Args (VRel w ok loc) args vs) {l : List Nat} (hn : l.Nodup)
    {r : AV} {σ' : List LObj} (hd : callE F s.σ l args = some (r, σ')) :
    Calls P f vs w fun e w' => ∃ rv ok' loc', e = .returned rv ∧ Ext w ok loc w' ok' loc' ∧ Inv W0 X ok0 nt ⟨s.slots, σ'⟩ a w' ok' loc' ∧ VRel w' ok' loc' r rv := by
  unfold callE at hd
  split at hd
  · rename_i hall
    obtain ⟨⟨r0, objs'⟩, hF, hd⟩ := Option.bind_eq_some_iff.1 hd
    split at hd
    · rename_i hlen
      simp only [Option.some.injEq, Prod.mk.injEq] at hd
      obtain ⟨rfl, rfl⟩ := hd
      have hex : ∀ o ∈ l, ∃ x, s.σ[o]? = some x ∧ x.excl = true ∧ s.σ.getD o .gone = x := by
        intro o ho
        have := List.all_eq_true.1 hall o ho
        cases hx : s.σ[o]? with
        | none => simp [List.getD_eq_getElem?_getD, hx, LObj.excl] at this
        | some x =>
          refine ⟨x, rfl, ?_, by simp [List.getD_eq_getElem?_getD, hx]⟩
          simpa [List.getD_eq_getElem?_getD, hx] using this
      have hlt : ∀ o ∈ l, o < s.σ.length := fun o ho => by
        obtain ⟨x, hx, _⟩ := hex o ho
        exact (List.getElem?_eq_some_iff.1 hx).1
      let loc1 : Loc := fun i => (l[i]?).bind loc
      have hl1 : ∀ i b, loc1 i = some b → ∃ o, l[i]? = some o ∧ loc o = some b := fun i b hb => Option.bind_eq_some_iff.1 hb
      have hin : RenOK (into l) loc loc1 := by
        intro o o' b ho hb
        unfold into at ho
        split at ho
        · rename_i hm
          simp at ho
          subst ho
          simp [loc1, idx_get hm, hb]
        · cases ho
      have hobj : ∀ i x, (l.map fun o => renO (into l) (s.σ.getD o .gone))[i]? = some x → ∃ o y, l[i]? = some o ∧ s.σ[o]? = some y ∧ x = renO (into l) y ∧ loc1 i = loc o ∧ y.excl = true := by
        intro i x hi
        rw [List.getElem?_map] at hi
        cases hli : l[i]? with
        | none => simp [hli] at hi
        | some o =>
          obtain ⟨y, hy, hye, hyd⟩ := hex o (List.mem_of_getElem? hli)
          rw [hli, Option.map_some, hyd] at hi
          simp at hi
          exact ⟨o, y, rfl, hy, hi.symm, by simp [loc1, hli], hye⟩
      have hO1 : Own w ok loc1 (l.map fun o => renO (into l) (s.σ.getD o .gone)) := by
        refine ⟨fun i x hi hg => ?_, fun i x b hi hx hb k => ?_, fun i j oi oj b hi hj h1 h2 h3 h4 => ?_, fun i hi => ?_, h.own.bd, fun i b hb => ?_⟩
        · obtain ⟨o, y, _, hy, rfl, hlo, _⟩ := hobj i x hi
          rcases h.own.rel o y hy (renO_gone hg) with ⟨h1, h2⟩ | ⟨b, hb, hr⟩
          · exact .inl ⟨by rw [renO_void]; exact h1, by rw [hlo]; exact h2⟩
          · exact .inr ⟨b, by rw [hlo]; exact hb, hr.ren hin⟩
        · obtain ⟨o, y, _, hy, rfl, hlo, hye⟩ := hobj i x hi
          exact h.own.ex o y b hy hye (hlo ▸ hb) k
        · obtain ⟨o, y, hli, hy, rfl, hlo, hye⟩ := hobj i oi hi
          obtain ⟨o', y', hli', hy', rfl, hlo', hye'⟩ := hobj j oj hj
          have := h.own.inj o o' y y' b hy hy' hye hye' (hlo ▸ h3) (hlo' ▸ h4)
          subst this
          exact (List.getElem?_inj (List.getElem?_eq_some_iff.1 hli).1 hn).1 (hli.trans hli'.symm)
        · simp at hi
          simp [loc1, List.getElem?_eq_none hi]
        · obtain ⟨o, _, hb⟩ := hl1 i b hb
          exact h.own.lbd o b hb
      have hA1 : Args (VRel w ok loc1) (args.map (renB (into l))) vs := ⟨by simp [hv.len], list_ren (fun x v hr => hr.renB hin) hv.rel⟩
      refine (hC _ _ r0 objs' hF w ok loc1 vs hO1 hA1).mono ?_
      rintro e w' ⟨rv, ok', loc', rfl, hp⟩
      let loc2 : Loc := fun i => if i ∈ l then loc' (l.idxOf i) else if i < s.σ.length then loc i else loc' (i - s.σ.length + l.length)
      have hback : ∀ j i, back l s.σ.length j = some i → loc2 i = loc' j := by
        intro j i hj
        simp only [back, Option.some.injEq] at hj
        split at hj
        · rename_i hjl
          rw [List.getD_eq_getElem?_getD, List.getElem?_eq_getElem hjl, Option.getD_some] at hj
          subst hj
          have hm : l[j] ∈ l := List.getElem_mem hjl
          have : l.idxOf l[j] = j := (List.getElem?_inj (List.idxOf_lt_length_of_mem hm) hn).1 ((idx_get hm).trans (List.getElem?_eq_getElem hjl).symm)
          simp only [loc2, hm, if_true, this]
        · rename_i hjl
          subst hj
          have h1 : ¬ (s.σ.length + (j - l.length)) ∈ l := fun hm => by have := hlt _ hm; omega
          have h2 : ¬ (s.σ.length + (j - l.length)) < s.σ.length := by omega
          have h3 : s.σ.length + (j - l.length) - s.σ.length + l.length = j := by omega
          simp only [loc2, h1, h2, if_false, h3]
      have hren : RenOK (back l s.σ.length) loc' loc2 := fun j i b hj hb => by rw [hback j i hj]; exact hb
      have hold : ∀ i, ¬ i ∈ l → i < s.σ.length → loc2 i = loc i := fun i h1 h2 => by simp only [loc2, h1, h2, if_false, if_true]
      have hE : Ext w ok loc w' ok' loc2 := by
        refine ⟨hp.ext.keep, fun i b hb => ?_, hp.ext.shape⟩
        by_cases hm : i ∈ l
        · have h1 : loc1 (l.idxOf i) = some b := by simp [loc1, idx_get hm, hb]
          simp only [loc2, hm, if_true]
          exact hp.ext.loc _ _ h1
        · have hi : i < s.σ.length := by
            rcases Nat.lt_or_ge i s.σ.length with h1 | h1
            · exact h1
            · rw [h.own.dom i h1] at hb; cases hb
          rw [hold i hm hi]; exact hb
      -- the objects, one by one
      have hcase : ∀ i x, ((s.σ.mapIdx fun i x => if i ∈ l then renO (back l s.σ.length) (objs'.getD (l.idxOf i) .gone) else x) ++ (objs'.drop l.length).map (renO (back l s.σ.length)))[i]? = some x →
          (∃ j y, back l s.σ.length j = some i ∧ objs'[j]? = some y ∧ x = renO (back l s.σ.length) y) ∨ (¬ i ∈ l ∧ i < s.σ.length ∧ s.σ[i]? = some x) := by
        intro i x hi
        rcases Nat.lt_or_ge i s.σ.length with hil | hil
        · rw [List.getElem?_append_left (by simpa using hil), List.getElem?_mapIdx, List.getElem?_eq_getElem hil] at hi
          simp only [Option.map_some, Option.some.injEq] at hi
          by_cases hm : i ∈ l
          · simp only [hm, if_true] at hi
            have hjl := List.idxOf_lt_length_of_mem hm
            refine .inl ⟨l.idxOf i, objs'.getD (l.idxOf i) .gone, ?_, ?_, hi.symm⟩
            · simp only [back, hjl, if_true, List.getD_eq_getElem?_getD, idx_get hm, Option.getD_some]
            · rw [List.getD_eq_getElem?_getD, List.getElem?_eq_getElem (Nat.lt_of_lt_of_le hjl hlen)]
              rfl
          · simp only [hm, if_false] at hi
            exact .inr ⟨hm, hil, by rw [List.getElem?_eq_getElem hil, hi]⟩
        · rw [List.getElem?_append_right (by simpa using hil)] at hi
          simp only [List.length_mapIdx, List.getElem?_map, List.getElem?_drop] at hi
          cases hy : objs'[l.length + (i - s.σ.length)]? with
          | none => simp [hy] at hi
          | some y =>
            simp [hy] at hi
            refine .inl ⟨l.length + (i - s.σ.length), y, ?_, hy, hi.symm⟩
            have : ¬ l.length + (i - s.σ.length) < l.length := by omega
            simp only [back, this, if_false, Option.some.injEq]
            omega
      have hfar : ∀ i x b, ¬ i ∈ l → s.σ[i]? = some x → x.excl = true → loc i = some b → ¬ ∃ j, loc1 j = some b := by
        rintro i x b hm hx hxe hb ⟨j, hj⟩
        obtain ⟨o, ho, hob⟩ := hl1 j b hj
        obtain ⟨y, hy, hye, _⟩ := hex o (List.mem_of_getElem? ho)
        have := h.own.inj i o x y b hx hy hxe hye hb hob
        subst this
        exact hm (List.mem_of_getElem? ho)
      have hO2 : Own w' ok' loc2 ((s.σ.mapIdx fun i x => if i ∈ l then renO (back l s.σ.length) (objs'.getD (l.idxOf i) .gone) else x) ++ (objs'.drop l.length).map (renO (back l s.σ.length))) := by
        refine ⟨fun i x hi hg => ?_, fun i x b hi hx hb k hk => ?_, fun i i' oi oi' b hi hi' h1 h2 h3 h4 => ?_, fun i hi => ?_, hp.own.bd, fun i b hb => ?_⟩
        · rcases hcase i x hi with ⟨j, y, hj, hy, rfl⟩ | ⟨hm, hil, hx⟩
          · rw [hback j i hj]
            rcases hp.own.rel j y hy (renO_gone hg) with ⟨h1, h2⟩ | ⟨b, hb, hr⟩
            · exact .inl ⟨by rw [renO_void]; exact h1, h2⟩
            · exact .inr ⟨b, hb, hr.ren hren⟩
          · rw [hold i hm hil]
            rcases h.own.rel i x hx hg with h0 | ⟨b, hb, hr⟩
            · exact .inl h0
            · refine .inr ⟨b, hb, ?_⟩
              by_cases hin : ∃ j, loc1 j = some b
              · obtain ⟨j, hj⟩ := hin
                obtain ⟨o, ho, hob⟩ := hl1 j b hj
                obtain ⟨y, hy, hye, _⟩ := hex o (List.mem_of_getElem? ho)
                by_cases hxe : x.excl = true
                · exact absurd ⟨j, hj⟩ (hfar i x b hm hx hxe hb)
                · cases hr with
                  | cells => simp [LObj.excl] at hxe
                  | arr => simp [LObj.excl] at hxe
                  | map => simp [LObj.excl] at hxe
                  | frz sz xs b' vs' ty fr h1 h2 h3 h5 h4 =>
                    have hsz : xs.length * sz = 0 := by
                      rcases Nat.eq_zero_or_pos (xs.length * sz) with h0 | h0
                      · exact h0
                      · exact absurd (h5 0 h0) (h.own.ex o y b hy hye hob 0)
                    obtain ⟨vs2, ty2, fr2, hv2⟩ : ∃ vs2 ty2 fr2, w'.heap[b]? = some (.cells vs2 ty2 fr2) := by
                      have := hp.ext.shape b (ty, vs'.size) (by simp [World.shape?, h1])
                      unfold World.shape? at this
                      split at this
                      · rename_i hk; exact ⟨_, _, _, hk⟩
                      · cases this
                    refine .frz sz xs b vs2 ty2 fr2 hv2 h2 (by omega) (fun k' hk' => by omega) fun i' j' es x' v hx' hj' hv' => ?_
                    have hil : i' < xs.length := (List.getElem?_eq_some_iff.1 hx').1
                    have hjl : j' < es.length := (List.getElem?_eq_some_iff.1 hj').1
                    have := (h2 es (List.mem_of_getElem? hx')).1
                    have : 0 < xs.length * sz := Nat.mul_pos (by omega) (by omega)
                    omega
              · exact hr.keep hE (hp.fr.heap b hr.lt hin)
        · rcases hcase i x hi with ⟨j, y, hj, hy, rfl⟩ | ⟨hm, hil, hx'⟩
          · rw [hback j i hj] at hb
            exact hp.own.ex j y b hy (by rw [renO_excl] at hx; exact hx) hb k hk
          · rw [hold i hm hil] at hb
            rcases hp.okold b k (h.own.lbd i b hb) hk with h1 | h1
            · exact h.own.ex i x b hx' hx hb k h1
            · exact hfar i x b hm hx' hx hb h1
        · have mix : ∀ i x b j, ¬ i ∈ l → s.σ[i]? = some x → x.excl = true → loc i = some b → loc' j = some b → False := by
            intro i x b j hm hx hxe hb hj
            rcases hp.lnew j b hj with h1 | h1
            · have := h.own.lbd i b hb; omega
            · exact hfar i x b hm hx hxe hb h1
          rcases hcase i oi hi with ⟨j, y, hj, hy, rfl⟩ | ⟨hm, hil, hx⟩ <;> rcases hcase i' oi' hi' with ⟨j', y', hj', hy', rfl⟩ | ⟨hm', hil', hx'⟩
          · rw [hback j i hj] at h3
            rw [hback j' i' hj'] at h4
            have := hp.own.inj j j' y y' b hy hy' (by rw [renO_excl] at h1; exact h1) (by rw [renO_excl] at h2; exact h2) h3 h4
            subst this
            rw [hj] at hj'
            simpa using hj'
          · rw [hback j i hj] at h3
            rw [hold i' hm' hil'] at h4
            exact (mix i' oi' b j hm' hx' h2 h4 h3).elim
          · rw [hback j' i' hj'] at h4
            rw [hold i hm hil] at h3
            exact (mix i oi b j' hm hx h1 h3 h4).elim
          · rw [hold i hm hil] at h3
            rw [hold i' hm' hil'] at h4
            exact h.own.inj i i' oi oi' b hx hx' h1 h2 h3 h4
        · simp at hi
          have h1 : ¬ i ∈ l := fun hm => by have := hlt _ hm; omega
          have h2 : ¬ i < s.σ.length := by omega
          simp only [loc2, h1, h2, if_false]
          exact hp.own.dom _ (by omega)
        · simp only [loc2] at hb
          split at hb
          · exact hp.own.lbd _ b hb
          · split at hb
            · exact Nat.lt_of_lt_of_le (h.own.lbd i b hb) hp.fr.size
            · exact hp.own.lbd _ b hb
      have hX : ∀ b, (∃ j, loc1 j = some b) → W0.heap.size ≤ b ∨ X b := by
        rintro b ⟨j, hj⟩
        obtain ⟨o, _, hob⟩ := hl1 j b hj
        exact h.lnew o b hob
      refine ⟨rv, ok', loc2, rfl, hE, ⟨h.fr.trans (hp.fr.mono fun b _ hb => (hX b hb).symm), fun b k hlt' hk => ?_, fun b k hk => hp.ext.keep.ok _ _ (h.ok0 b k hk), hO2, fun i b hb => ?_, fun t => (h.slots t).mono hE, h.defers, h.nt⟩, hp.rel.renB hren⟩
      · rcases hp.okold b k (Nat.lt_of_lt_of_le hlt' h.fr.size) hk with h1 | h1
        · exact h.okold b k hlt' h1
        · rcases hX b h1 with h2 | h2
          · omega
          · exact .inr h2
      · have new : ∀ j, loc' j = some b → W0.heap.size ≤ b ∨ X b := fun j hj => by
          rcases hp.lnew j b hj with h1 | h1
          · exact .inl (Nat.le_trans h.fr.size h1)
          · exact hX b h1
        simp only [loc2] at hb
        split at hb
        · exact new _ hb
        · split at hb
          · exact h.lnew i b hb
          · exact new _ hb
    · cases hd
  · cases hd
end
end Go.Vi
