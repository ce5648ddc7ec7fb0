/- Maps that are written; make; least and greatest. -/
import Derived.Test.YtmobgcpamblhhaaViOps9
set_option linter.unusedVariables false
set_option linter.unusedSimpArgs false
namespace Go.Vi
section
variable {P : Program} {te : TE} {W0 : World} {X : Nat → Prop} {ok0 : CellOk} {nt : Nat} {s : St} {a : Act} {w : World} {ok : CellOk} {loc : Loc} {v : Value}

theorem keyOk_und (hte : TEOK P te) {kt : TypeId} {k : AV} (h : keyOk te kt k = true) : ∃ d, P.underlying kt = some d := by
  unfold keyOk at h
  rw [Bool.or_eq_true] at h
  rcases h with h | h
  · obtain ⟨_, _, _, h1⟩ := leafTy_und hte h
    rcases h1 with ⟨k, hu⟩ | hu | hu
    · exact ⟨_, hu⟩
    · exact ⟨_, hu⟩
    · exact ⟨_, hu⟩
  · split at h
    · rename_i hq
      obtain ⟨fields, hu, _⟩ := (hte _ _ hq).struct rfl
      exact ⟨_, hu⟩
    · cases h

theorem makeMap_gives (h : Inv W0 X ok0 nt s a w ok loc) (t : TypeId) : Gives P W0 X ok0 nt s a w ok loc (Instr.makeMap t none) (.mp (some s.σ.length)) (s.σ ++ [.map []]) := by
  obtain ⟨loc', hl, e, hI⟩ := h.alloc (.map #[] 0) (.map []) (fun loc' e hl => .map _ _ #[] 0 (heap_alloc_new w _) rfl (fun i x e hx => by simp at hx) (fun i x e hx => by simp at hx))
  refine ⟨.map (some w.heap.size), _, ok, loc', ?_, e, hI, .mp _ _ hl⟩
  simp [Instr.makeMap]

theorem run_setObj {b : Nat} {entries entries' : Array MapEntry} {c c' : Nat} (h : w.heap[b]? = some (.map entries c)) : (setObj b (.map entries' c')).run P w = .ok () { w with heap := w.heap.setIfInBounds b (.map entries' c') } := by
  simp [setObj, Sem.run, h]

/-- A map's block is written. -/
theorem Inv.setMap (h : Inv W0 X ok0 nt s a w ok loc) {o b : Nat} {es es' : List (AV × AV)} (ho : s.σ[o]? = some (.map es)) (hb : loc o = some b) {entries entries' : Array MapEntry} {c c' : Nat} (hh : w.heap[b]? = some (.map entries c))
    (hE : ERel w ok es' entries') : ∃ w', w' = { w with heap := w.heap.setIfInBounds b (.map entries' c') } ∧ Ext w ok loc w' ok loc ∧ Inv W0 X ok0 nt ⟨s.slots, s.σ.set o (.map es')⟩ a w' ok loc := by
  have hlt := lt_of_heap hh
  refine ⟨_, rfl, ?_⟩
  exact h.turn ho rfl hb (o' := .map es') rfl (w' := { w with heap := w.heap.setIfInBounds b (.map entries' c') }) rfl rfl rfl (by simp)
    (fun k hk => by
      have e : ¬ b = k := fun e => hk e.symm
      simp [Array.getElem?_setIfInBounds, e])
    (fun x hx => by simp [World.shape?, hh] at hx)
    (fun e => .map _ _ entries' c' (by simp [Array.getElem?_setIfInBounds, hlt]) hE.len (fun i x en hx he => (hE.key i x en hx he).mono e.keep) (fun i x en hx he => (hE.val i x en hx he).mono e.keep))

theorem run_keyStays (old new : Value) : ∃ k : Value, (k = new ∨ k = old) ∧ ∃ w', (Instr.keyThatStays old new).run P w = .ok k w' ∧ w'.heap = w.heap ∧ w'.os = w.os ∧ w'.tape = w.tape ∧ w'.output = w.output := by
  unfold Instr.keyThatStays
  split
  · exact ⟨new, .inl rfl, w, rfl, rfl, rfl, rfl, rfl⟩
  · by_cases h : (Question.extern "map.whichKeyStays" 2).cut (w.tape w.drawn (.extern "map.whichKeyStays" 2)) = 0
    · refine ⟨new, .inl rfl, w.drew, ?_, rfl, rfl, rfl, rfl⟩
      simp [Question.forced, h]
    · refine ⟨old, .inr rfl, w.drew, ?_, rfl, rfl, rfl, rfl⟩
      simp [Question.forced, h]

theorem leaf_same (hte : TEOK P te) {t : TypeId} (ht : leafTy te t = true) {i : TyI} (hi : te t = some i) {a b : AV} {va vb : Value} (ha : VRel w ok loc a va) (hb : VRel w ok loc b vb) (h : leafEq i.desc a b = some true) : va = vb := by
  unfold leafEq at h
  split at h
  · split at h
    · rename_i hk
      subst hk
      simp at h
      subst h
      rw [inv_int ha, inv_int hb]
    · cases h
  · simp at h
    subst h
    rw [inv_bool ha, inv_bool hb]
  · simp at h
    subst h
    rw [inv_str ha, inv_str hb]
  · cases h
theorem eqT_leaf {d : Nat} {t : TypeId} {i : TyI} (hi : te t = some i) (hl : i.desc.isAgg = false) {a b : AV} {r : Bool} (h : eqT te d t a b = some r) : leafEq i.desc a b = some r := by
  cases d with
  | zero => simp [eqT] at h
  | succ d =>
    unfold eqT at h
    rw [hi] at h
    split at h
    · rename_i he
      simp at he
      subst he
      simp [TyD.isAgg] at hl
    · rename_i he _
      simp at he
      subst he
      exact h
    · cases h

/-- Keys that are equal are one value. -/
theorem key_same (hte : TEOK P te) {kt : TypeId} {k k' : AV} {vk vo : Value} (hk : VRel w ok loc k vk) (hk' : VRel w ok loc k' vo) (hok : keyOk te kt k = true) (h : eqT te 8 kt k k' = some true) : vk = vo := by
  unfold keyOk at hok
  rw [Bool.or_eq_true] at hok
  rcases hok with hl | hs
  · obtain ⟨i, hi, hag, _⟩ := leafTy_und hte hl
    exact leaf_same hte hl hi hk hk' (eqT_leaf hi hag h)
  · split at hs
    · rename_i fs cs h1
      rw [Bool.and_eq_true, decide_eq_true_eq] at hs
      obtain ⟨hcov, hall⟩ := hs
      unfold eqT at h
      rw [h1] at h
      cases k' with
      | agg ys =>
        simp only at h
        split at h
        case isFalse => cases h
        rename_i hlen
        obtain ⟨vx, rfl, x1, x2⟩ := inv_agg hk
        obtain ⟨vy, rfl, y1, y2⟩ := inv_agg hk'
        congr 1
        apply Array.ext
        · omega
        · intro j hj1 hj2
          have hjc : j < cs.length := by omega
          have hmem : j ∈ fs.map Prod.fst := by rw [hcov]; exact List.mem_range.2 hjc
          obtain ⟨p, hp, rfl⟩ := List.mem_map.1 hmem
          have hleaf : leafTy te p.2 = true := by have := List.all_eq_true.1 hall p hp; simp at this; exact this.1
          obtain ⟨i, hi, hag, _⟩ := leafTy_und hte hleaf
          have key : ∀ (fs : List (Nat × TypeId)), p ∈ fs → eqF te 7 fs cs ys = some true → ∃ a b, part i cs p.1 = some a ∧ part i ys p.1 = some b ∧ eqT te 7 p.2 a b = some true := by
            intro fs
            induction fs with
            | nil => intro hm; cases hm
            | cons q fs ih =>
              intro hm hq
              obtain ⟨off, ft⟩ := q
              simp only [eqF] at hq
              cases q1 : te ft with
              | none => simp [q1] at hq
              | some ii => cases q2 : part ii cs off with
                | none => simp [q1, q2] at hq
                | some aa => cases q3 : part ii ys off with
                  | none => simp [q1, q2, q3] at hq
                  | some bb => cases q4 : eqT te 7 ft aa bb with
                    | none => simp [q1, q2, q3, q4] at hq
                    | some r1 => cases q5 : eqF te 7 fs cs ys with
                      | none => simp [q1, q2, q3, q4, q5] at hq
                      | some r2 =>
                        simp [q1, q2, q3, q4, q5] at hq
                        obtain ⟨rfl, rfl⟩ := hq
                        rcases List.mem_cons.1 hm with rfl | hm
                        · rw [hi] at q1
                          cases q1
                          exact ⟨aa, bb, q2, q3, q4⟩
                        · exact ih hm q5
          obtain ⟨a, b, pa, pb, pe⟩ := key fs hp h
          have pa' : cs[p.1]? = some a := by unfold part at pa; rw [hag] at pa; simpa using pa
          have pb' : ys[p.1]? = some b := by unfold part at pb; rw [hag] at pb; simpa using pb
          exact leaf_same hte hleaf hi (x2 p.1 a _ pa' (Array.getElem?_eq_getElem hj1)) (y2 p.1 b _ pb' (Array.getElem?_eq_getElem hj2)) (eqT_leaf hi hag pe)
      | _ => simp [leafEq] at h
    · cases hs

theorem deepA_noid {σ : List LObj} {k k' : AV} (h : deepA σ k = some k') (hid : idA k = []) : k' = k := by
  have hC : ∀ x y : AV, deepC σ x = some y → idC x = [] → y = x := by
    intro x y hxy hx
    unfold deepC at hxy
    split at hxy <;> first | (simp at hxy; exact hxy.symm) | (simp [idC] at hx; done) | cases hxy
  by_cases ha : ∃ cs, k = .agg cs
  · obtain ⟨cs, rfl⟩ := ha
    simp only [deepA] at h
    cases hd : deepL σ cs with
    | none => simp [hd] at h
    | some ds =>
      simp [hd] at h
      subst h
      congr 1
      have : ∀ (cs ds : List AV), deepL σ cs = some ds → cs.flatMap idC = [] → ds = cs := by
        intro cs
        induction cs with
        | nil => intro ds h _; simp [deepL] at h; exact h
        | cons x xs ih =>
          intro ds h hid
          simp only [deepL] at h
          cases hx : deepC σ x with
          | none => simp [hx] at h
          | some y =>
            cases hxs : deepL σ xs with
            | none => simp [hx, hxs] at h
            | some ys =>
              simp [hx, hxs] at h
              subst h
              simp at hid
              rw [hC x y hx hid.1, ih ys hxs (by simpa using hid.2)]
      exact this cs ds hd hid
  · have e1 : deepA σ k = deepC σ k := by cases k <;> first | rfl | exact absurd ⟨_, rfl⟩ ha
    have e2 : idA k = idC k := by cases k <;> first | rfl | exact absurd ⟨_, rfl⟩ ha
    rw [e1] at h
    rw [e2] at hid
    exact hC k k' h hid

theorem mapUpdD_gives (hte : TEOK P te) (h : Inv W0 X ok0 nt s a w ok loc) {t : TypeId} {m k x : AV} {vm vk vx : Value} (hm : VRel w ok loc m vm) (hk : VRel w ok loc k vk) (hx : VRel w ok loc x vx) {σ' : List LObj} (hd : mapUpdD te s.σ t m k x = some σ') :
    GivesU P W0 X ok0 nt s a w ok loc (Instr.mapUpdate t vm vk vx) σ' := by
  unfold mapUpdD at hd
  split at hd
  · rename_i kt et o h1
    have hu := (hte _ _ h1).map rfl
    obtain ⟨b, hb, rfl⟩ := inv_mp hm
    obtain ⟨ok1, hw1, hI1, hG1⟩ := h.frzL (idA x)
    have hw1e : Ext w ok loc w ok1 loc := Ext.wider hw1
    split at hd
    · rename_i es hes
      split at hd
      · rename_i hc
        obtain ⟨c1, c2⟩ := hc
        cases hdk : deepA s.σ k with
        | none => simp [hdk] at hd
        | some k' =>
          obtain rfl := deepA_noid hdk c2
          cases hdx : deepA s.σ x with
          | none => simp [hdk, hdx] at hd
          | some x' =>
            cases hf : findK te kt k' es 0 with
            | none => simp [hdk, hdx, hf] at hd
            | some q =>
              simp only [hdk, hdx, hf, Option.bind_some, Option.some.injEq] at hd
              have hkd : VDeep w ok1 k' vk := deepA_sound h.own hw1 hk hdk (by rw [c2]; exact fun o ho => by cases ho)
              have hxd : VDeep w ok1 x' vx := deepA_sound h.own hw1 hx hdx hG1
              have hr := hI1.own.at hes (by simp) hb
              cases hr with
              | map _ _ entries clock q1 q2 q3 q4 =>
                have hE : ERel w ok1 es entries := ⟨q2, q3, q4⟩
                have hkr : VRel w ok1 loc k' vk := .deep _ _ hkd
                obtain ⟨q', hq', hrel⟩ := findKey_sound hte hkr hE hf (keyOk_und hte c1) w
                have hch := check_key hte hkr c1 false 9999 (by omega) w
                have hg := run_getObj_map (P := P) q1
                cases q with
                | none =>
                  cases q' with
                  | some _ => exact hrel.elim
                  | none =>
                    simp only at hd
                    subst hd
                    obtain ⟨w', hw', e, hI⟩ := hI1.setMap (es' := es ++ [(k', x')]) (entries' := entries.push { key := vk, val := vx, born := clock }) (c' := clock + 1) hes hb q1
                      ⟨by simp [q2], fun i y en hy he => by
                        rcases Nat.lt_or_ge i es.length with hlt | hge
                        · rw [List.getElem?_append_left hlt] at hy
                          rw [Array.getElem?_push, if_neg (by omega)] at he
                          exact q3 i y en hy he
                        · rw [List.getElem?_append_right hge] at hy
                          have : i = es.length := by have := (List.getElem?_eq_some_iff.1 hy).1; simp at this; omega
                          subst this
                          simp at hy
                          rw [← q2] at he
                          simp at he
                          subst hy; subst he
                          exact hkd, fun i y en hy he => by
                        rcases Nat.lt_or_ge i es.length with hlt | hge
                        · rw [List.getElem?_append_left hlt] at hy
                          rw [Array.getElem?_push, if_neg (by omega)] at he
                          exact q4 i y en hy he
                        · rw [List.getElem?_append_right hge] at hy
                          have : i = es.length := by have := (List.getElem?_eq_some_iff.1 hy).1; simp at this; omega
                          subst this
                          simp at hy
                          rw [← q2] at he
                          simp at he
                          subst hy; subst he
                          exact hxd⟩
                    refine ⟨w', ok1, loc, ?_, hw1e.trans e, hI⟩
                    rw [hw']
                    have hs := run_setObj (P := P) (entries' := entries.push { key := vk, val := vx, born := clock }) (c' := clock + 1) q1
                    simp [Instr.mapUpdate, run_underlying hu, hg, hch, hq', hs]
                | some p =>
                  obtain ⟨j0, v0⟩ := p
                  cases q' with
                  | none => exact hrel.elim
                  | some p' =>
                    obtain ⟨j1, v1⟩ := p'
                    obtain ⟨rfl, _, hj0⟩ := hrel
                    simp only at hd
                    subst hd
                    have hjs : j0 < entries.size := by omega
                    obtain ⟨kk, hkk, w1, hrun1, u1, u2, u3, u4⟩ := run_keyStays (P := P) (w := w) (((entries[j0]?).map (·.key)).getD vk) vk
                    -- whichever key stays is the same
                    have hold : ((entries[j0]?).map (·.key)).getD vk = entries[j0].key := by simp [hjs]
                    have hsame : vk = entries[j0].key := by
                      have hes0 := List.getElem?_eq_getElem hj0
                      have heq : eqT te 8 kt k' (es[j0]).1 = some true := by
                        have key : ∀ (es : List (AV × AV)) (i j : Nat) (v : AV), findK te kt k' es i = some (some (j, v)) → ∃ x, es[j - i]? = some x ∧ i ≤ j ∧ eqT te 8 kt k' x.1 = some true := by
                          intro es
                          induction es with
                          | nil => intro i j v h; simp [findK] at h
                          | cons y ys ih =>
                            intro i j v h
                            obtain ⟨y1, y2⟩ := y
                            simp only [findK] at h
                            cases hee : eqT te 8 kt k' y1 with
                            | none => simp [hee] at h
                            | some bb =>
                              cases bb with
                              | true =>
                                simp [hee] at h
                                obtain ⟨rfl, rfl⟩ := h
                                exact ⟨(y1, y2), by simp, Nat.le_refl _, hee⟩
                              | false =>
                                simp [hee] at h
                                obtain ⟨x, h1, h2, h3⟩ := ih (i + 1) j v h
                                exact ⟨x, by rw [show j - i = (j - (i + 1)) + 1 by omega]; simpa using h1, by omega, h3⟩
                        obtain ⟨x, h1, _, h3⟩ := key es 0 j0 v0 hf
                        rw [Nat.sub_zero, hes0] at h1
                        cases h1
                        exact h3
                      exact key_same hte hkr (.deep _ _ (q3 j0 _ _ hes0 (Array.getElem?_eq_getElem hjs))) c1 heq
                    have hkv : kk = vk := by
                      rcases hkk with rfl | rfl
                      · rfl
                      · rw [hold]; exact hsame.symm
                    subst hkv
                    have hI1' : Inv W0 X ok0 nt ⟨s.slots, frzL s.σ (idA x)⟩ a w1 ok1 loc := hI1.same u1 u2 u3 u4
                    have e1 : Ext w ok1 loc w1 ok1 loc := Ext.of_heap (fun b _ _ => by rw [u1]) (fun b x hx => by simpa [World.shape?, u1] using hx)
                    have q1' : w1.heap[b]? = some (.map entries clock) := by rw [u1]; exact q1
                    obtain ⟨w', hw', e, hI⟩ := hI1'.setMap (es' := es.set j0 (k', x')) (entries' := entries.modify j0 fun e => { e with key := kk, val := vx }) (c' := clock) hes hb q1'
                      ⟨by simp [q2], fun i y en hy he => by
                        rw [List.getElem?_set] at hy
                        rw [Array.getElem?_modify] at he
                        by_cases hij : j0 = i
                        · subst hij
                          simp [hj0] at hy
                          simp [hjs] at he
                          subst hy; subst he
                          exact hkd.mono e1.keep
                        · rw [if_neg hij] at hy he
                          exact (q3 i y en hy he).mono e1.keep, fun i y en hy he => by
                        rw [List.getElem?_set] at hy
                        rw [Array.getElem?_modify] at he
                        by_cases hij : j0 = i
                        · subst hij
                          simp [hj0] at hy
                          simp [hjs] at he
                          subst hy; subst he
                          exact hxd.mono e1.keep
                        · rw [if_neg hij] at hy he
                          exact (q4 i y en hy he).mono e1.keep⟩
                    refine ⟨w', ok1, loc, ?_, (hw1e.trans e1).trans e, hI⟩
                    rw [hw']
                    have hs := run_setObj (P := P) (entries' := entries.modify j0 fun e => { e with key := kk, val := vx }) (c' := clock) q1'
                    simp [Instr.mapUpdate, run_underlying hu, hg, hch, hq', hrun1, hs]
      · cases hd
    · cases hd
  · cases hd

theorem deleteD_gives (hte : TEOK P te) (h : Inv W0 X ok0 nt s a w ok loc) {t : TypeId} (ty : TypeId) {m k : AV} {vm vk : Value} (hm : VRel w ok loc m vm) (hk : VRel w ok loc k vk) {σ' : List LObj} (hd : deleteD te s.σ t m k = some σ') (u : TypeId) :
    Gives P W0 X ok0 nt s a w ok loc (Builtin.delete_ #[t, u] ty #[vm, vk]) (.tup []) σ' := by
  unfold deleteD at hd
  split at hd
  · rename_i kt et o h1
    have hu := (hte _ _ h1).map rfl
    obtain ⟨b, hb, rfl⟩ := inv_mp hm
    split at hd
    · rename_i es hes
      split at hd
      · rename_i c1
        cases hf : findK te kt k es 0 with
        | none => simp [hf] at hd
        | some q =>
          simp only [hf, Option.bind_some, Option.some.injEq] at hd
          have hr := h.own.at hes (by simp) hb
          cases hr with
          | map _ _ entries clock q1 q2 q3 q4 =>
            have hE : ERel w ok es entries := ⟨q2, q3, q4⟩
            obtain ⟨q', hq', hrel⟩ := findKey_sound hte hk hE hf (keyOk_und hte c1) w
            have hch := check_key hte hk c1 entries.isEmpty 9999 (by omega) w
            have hg := run_getObj_map (P := P) q1
            cases q with
            | none =>
              cases q' with
              | some _ => exact hrel.elim
              | none =>
                simp only at hd
                subst hd
                obtain ⟨w', hw', e, hI⟩ := h.setMap (es' := es) (entries' := entries) (c' := clock) hes hb q1 hE
                refine ⟨.tuple #[], w', ok, loc, ?_, e, hI, .tup [] #[] rfl (fun j x v hx => by simp at hx)⟩
                rw [hw']
                have hs := run_setObj (P := P) (entries' := entries) (c' := clock) q1
                simp [Builtin.delete_, run_underlying hu, hg, hch, hq', hs]
            | some p =>
              obtain ⟨j0, v0⟩ := p
              cases q' with
              | none => exact hrel.elim
              | some p' =>
                obtain ⟨j1, v1⟩ := p'
                obtain ⟨rfl, _, hj0⟩ := hrel
                simp only at hd
                subst hd
                have hjs : j0 < entries.size := by omega
                have hget : ∀ (i : Nat) (y : AV × AV) (en : MapEntry), (es.eraseIdx j0)[i]? = some y → (entries.eraseIdxIfInBounds j0)[i]? = some en → ∃ i' : Nat, es[i']? = some y ∧ entries[i']? = some en := by
                  intro i y en hy he
                  rw [List.getElem?_eraseIdx] at hy
                  have he' : (entries.toList.eraseIdx j0)[i]? = some en := by
                    rw [← he, ← Array.getElem?_toList]
                    simp [Array.eraseIdxIfInBounds, hjs, Array.toList_eraseIdx]
                  rw [List.getElem?_eraseIdx] at he'
                  split at hy
                  · rename_i hlt
                    rw [if_pos hlt] at he'
                    exact ⟨i, hy, by simpa using he'⟩
                  · rename_i hlt
                    rw [if_neg hlt] at he'
                    exact ⟨i + 1, hy, by simpa using he'⟩
                obtain ⟨w', hw', e, hI⟩ := h.setMap (es' := es.eraseIdx j0) (entries' := entries.eraseIdxIfInBounds j0) (c' := clock) hes hb q1
                  ⟨by simp [Array.eraseIdxIfInBounds, hjs, List.length_eraseIdx, hj0, q2], fun i y en hy he => by
                    obtain ⟨i', h1, h2⟩ := hget i y en hy he
                    exact q3 i' y en h1 h2, fun i y en hy he => by
                    obtain ⟨i', h1, h2⟩ := hget i y en hy he
                    exact q4 i' y en h1 h2⟩
                refine ⟨.tuple #[], w', ok, loc, ?_, e, hI, .tup [] #[] rfl (fun j x v hx => by simp at hx)⟩
                rw [hw']
                have hs := run_setObj (P := P) (entries' := entries.eraseIdxIfInBounds j0) (c' := clock) q1
                simp [Builtin.delete_, run_underlying hu, hg, hch, hq', hs]
      · cases hd
    · cases hd
  · cases hd
end
end Go.Vi
