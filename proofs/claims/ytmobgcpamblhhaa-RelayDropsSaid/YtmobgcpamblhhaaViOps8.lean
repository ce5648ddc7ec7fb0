/- append. -/
import Derived.Test.YtmobgcpamblhhaaViOps7
import Derived.Deep.AppendSrc
set_option linter.unusedVariables false
set_option linter.unusedSimpArgs false
namespace Go.Vi
section
variable {P : Program} {te : TE} {W0 : World} {X : Nat → Prop} {ok0 : CellOk} {nt : Nat} {s : St} {a : Act} {w : World} {ok : CellOk} {loc : Loc} {v : Value}

/-- The cells of a list of elements. -/
structure NRel (w : World) (ok : CellOk) (z : Nat) (xs : List (List AV)) (news : List Value) : Prop where
  fit : ∀ es ∈ xs, Fit z es
  len : news.length = xs.length * z
  rel : ∀ (i j : Nat) (es : List AV) (x : AV), xs[i]? = some es → es[j]? = some x → ∃ v, news[i * z + j]? = some v ∧ VDeep w ok x v

theorem NRel.one {z xs news} (h : NRel w ok z xs news) : ∀ u ∈ news, u.oneCell' = true := by
  intro u hu
  obtain ⟨k, hk⟩ := List.mem_iff_getElem?.1 hu
  have hlt : k < xs.length * z := by rw [← h.len]; exact (List.getElem?_eq_some_iff.1 hk).1
  have hz : 0 < z := by
    rcases Nat.eq_zero_or_pos z with h0 | h0
    · subst h0; simp at hlt
    · exact h0
  have hi : k / z < xs.length := (Nat.div_lt_iff_lt_mul hz).2 hlt
  have hj : k % z < z := Nat.mod_lt _ hz
  have hes := List.getElem?_eq_getElem hi
  obtain ⟨f1, f2⟩ := h.fit _ (List.mem_of_getElem? hes)
  have hjz : k % z < (xs[k / z]).length := by rw [f1]; exact hj
  have hx : (xs[k / z])[k % z]? = some (xs[k / z])[k % z] := List.getElem?_eq_getElem hjz
  obtain ⟨v, hv, hd⟩ := h.rel _ _ _ _ hes hx
  rw [show k / z * z + k % z = k by rw [Nat.mul_comm]; exact Nat.div_add_mod k z, hk] at hv
  cases hv
  exact (cells_one (VRel.deep (loc := fun _ => none) _ _ hd) (f2 _ (List.mem_of_getElem? hx))).1

theorem SlC.cells {A : Option Addr} {z : Nat} {xs : List (List AV)} (h : SlC w ok A z xs) (hne : xs ≠ []) : ∃ b o news, A = some ⟨b, o, none⟩ ∧ NRel w ok z xs news ∧ ∀ j u, news[j]? = some u → w.cell? ((⟨b, o, none⟩ : Addr).add j) = some u := by
  obtain ⟨b, o, rfl, hc⟩ := h.cell hne
  refine ⟨b, o, (List.range (xs.length * z)).map fun k => (w.cell? ⟨b, o + k, none⟩).getD undef, rfl, ⟨h.len, by simp, fun i j es x hi hj => ?_⟩, fun j u hu => ?_⟩
  · obtain ⟨v, hv, hd⟩ := hc i j es x hi hj
    have hil : i < xs.length := (List.getElem?_eq_some_iff.1 hi).1
    have hjl : j < z := by have := (h.len es (List.mem_of_getElem? hi)).1; rw [← this]; exact (List.getElem?_eq_some_iff.1 hj).1
    have hlt : i * z + j < xs.length * z := by
      have : (i + 1) * z ≤ xs.length * z := Nat.mul_le_mul_right _ (by omega)
      rw [Nat.add_mul] at this
      omega
    refine ⟨v, ?_, hd⟩
    rw [List.getElem?_map, List.getElem?_range hlt]
    simp [← Nat.add_assoc, hv]
  · have hjl : j < xs.length * z := by have := (List.getElem?_eq_some_iff.1 hu).1; simpa using this
    rw [List.getElem?_map, List.getElem?_range hjl] at hu
    simp only [Option.map_some, Option.some.injEq] at hu
    subst hu
    rw [add_at]
    -- the cell is there
    have hz : 0 < z := by
      rcases Nat.eq_zero_or_pos z with h0 | h0
      · subst h0; simp at hjl
      · exact h0
    have hi : j / z < xs.length := (Nat.div_lt_iff_lt_mul hz).2 hjl
    have hes := List.getElem?_eq_getElem hi
    obtain ⟨f1, _⟩ := h.len _ (List.mem_of_getElem? hes)
    have hjz : j % z < (xs[j / z]).length := by rw [f1]; exact Nat.mod_lt _ hz
    have hx : (xs[j / z])[j % z]? = some (xs[j / z])[j % z] := List.getElem?_eq_getElem hjz
    obtain ⟨v, hv, _⟩ := hc _ _ _ _ hes hx
    rw [show o + j / z * z + j % z = o + j by rw [Nat.add_assoc, Nat.mul_comm (j / z) z, Nat.div_add_mod]] at hv
    simp [hv]

theorem firstCells_of (A : Option Addr) (c : Nat) {z : Nat} {xs : List (List AV)} (h : SlC w ok A z xs) : ∃ news, NRel w ok z xs news ∧ (∀ w' : World, (∀ b o, w'.cell? ⟨b, o, none⟩ = w.cell? ⟨b, o, none⟩) → (Builtin.firstCells z xs.length (.slice A xs.length c)).run P w' = .ok news.toArray w') := by
  by_cases hne : xs = []
  · subst hne
    refine ⟨[], ⟨h.len, by simp, fun i j es x hi => by simp at hi⟩, fun w' _ => ?_⟩
    cases A with
    | none => simp [Builtin.firstCells]
    | some a => simp [Builtin.firstCells, loadCells, loadCellsFrom]
  · obtain ⟨b, o, news, rfl, hn, hc⟩ := h.cells hne
    refine ⟨news, hn, fun w' hw => ?_⟩
    exact run_firstCells_some w' z xs.length _ xs.length c news hn.len (fun j u hu => by have := hc j u hu; rw [add_at] at this ⊢; rw [hw]; exact this)

theorem bytesOf_rel (s : ByteArray) : NRel w ok 1 (bytesOf s) (byteCells s) := by
  refine ⟨fun es hes => ?_, by simp [bytesOf, byteCells], fun i j es x hi hj => ?_⟩
  · unfold bytesOf at hes
    obtain ⟨b, _, rfl⟩ := List.mem_map.1 hes
    exact ⟨rfl, fun x hx => by simp at hx; subst hx; rfl⟩
  · unfold bytesOf at hi
    rw [List.getElem?_map] at hi
    cases hb : s.data.toList[i]? with
    | none => simp [hb] at hi
    | some b =>
      simp [hb] at hi
      subst hi
      cases j with
      | zero =>
        simp at hj
        subst hj
        refine ⟨.int .u8 b.toNat, ?_, .int _ _⟩
        unfold byteCells
        rw [List.getElem?_map]
        simp [hb]
      | succ j => simp at hj

/-- What an append takes. -/
theorem src_of (hte : TEOK P te) (hO : Own w ok loc s.σ) {x : AV} (hx : VRel w ok loc x v) {z size : Nat} {xs : List (List AV)} (h : listOf s.σ x = some (z, xs)) (hz : z = size ∨ xs = []) {u : TypeId} (hu : srcOk te u = true) (hpos : 0 < size)
    (hk : ∀ t, x = .str t → P.underlying u = some .string ∨ True) : ∃ news, NRel w ok size xs news ∧ Src P size u v xs.length news w := by
  have hkind : (∃ e', P.underlying u = some (.slice e')) ∨ P.underlying u = some .string := by
    unfold srcOk at hu
    split at hu
    · rename_i h1; exact .inl ⟨_, (hte _ _ h1).slice rfl⟩
    · rename_i h1; exact .inr ((hte _ _ h1).string rfl)
    · cases hu
  rcases listOf_sound hO hx h with ⟨A, c, rfl, hc⟩ | ⟨t, rfl, rfl, rfl, rfl⟩
  · have hc' : SlC w ok A size xs := by
      rcases hz with rfl | rfl
      · exact hc
      · exact ⟨fun es hes => (by cases hes), fun h => absurd rfl h⟩
    obtain ⟨news, hn, hrun⟩ := firstCells_of (P := P) A c hc'
    exact ⟨news, hn, hkind, fun w' => rfl, hrun w (fun _ _ => rfl), hrun w.drew (fun _ _ => rfl), hn.len, hn.one⟩
  · have hb : (bytesOf t).length = t.size := by unfold bytesOf; rw [List.length_map]; rfl
    by_cases h1 : size = 1
    · subst h1
      refine ⟨byteCells t, bytesOf_rel t, hkind, fun w' => by rw [hb]; rfl, by rw [hb]; exact firstCells_string t w, by rw [hb]; exact firstCells_string t w.drew, by rw [byteCells_length, hb]; simp, fun u hu => ?_⟩
      unfold byteCells at hu
      obtain ⟨_, _, rfl⟩ := List.mem_map.1 hu
      rfl
    · have h0 : bytesOf t = [] := hz.resolve_left (fun e => h1 e.symm)
      have ht : t.size = 0 := by rw [← hb, h0]; rfl
      have hd : t.data = #[] := by
        apply Array.eq_empty_of_size_eq_zero
        exact ht
      have hn : NRel w ok size (bytesOf t) [] := by
        rw [h0]
        exact ⟨fun es hes => (by cases hes), by simp, fun i j es x hi => (by simp at hi)⟩
      refine ⟨[], hn, hkind, fun w' => by rw [hb]; rfl, ?_, ?_, by rw [h0]; simp, fun u hu => by cases hu⟩
      · rw [h0]; simp [Builtin.firstCells, hd]
      · rw [h0]; simp [Builtin.firstCells, hd]

/-- The object goes by another number. -/
theorem Inv.move (h : Inv W0 X ok0 nt s a w ok loc) {i b : Nat} {o : LObj} (hi : s.σ[i]? = some o) (hlb : loc i = some b) :
    ∃ loc', loc' s.σ.length = some b ∧ Ext w ok loc w ok loc' ∧ Inv W0 X ok0 nt ⟨s.slots, s.σ.set i .gone ++ [o]⟩ a w ok loc' := by
  let loc' : Loc := fun j => if j = s.σ.length then some b else loc j
  have hlt : i < s.σ.length := (List.getElem?_eq_some_iff.1 hi).1
  have hl : ∀ j b', loc j = some b' → loc' j = some b' := by
    intro j b' hj
    have : j ≠ s.σ.length := fun e => by rw [e, h.own.dom _ (Nat.le_refl _)] at hj; cases hj
    simp [loc', this, hj]
  have e : Ext w ok loc w ok loc' := (Ext.refl w ok loc).grow hl
  have hnew : loc' s.σ.length = some b := by simp [loc']
  have hcase : ∀ j x, (s.σ.set i .gone ++ [o])[j]? = some x → (j < s.σ.length ∧ j ≠ i ∧ s.σ[j]? = some x) ∨ (j = i ∧ x = .gone) ∨ (j = s.σ.length ∧ x = o) := by
    intro j x hj
    rcases Nat.lt_trichotomy j s.σ.length with hjl | heq | hgt
    · rw [List.getElem?_append_left (by simpa using hjl), List.getElem?_set] at hj
      split at hj
      · rename_i ej; subst ej; simp [hjl] at hj; exact .inr (.inl ⟨rfl, hj.symm⟩)
      · rename_i ej; exact .inl ⟨hjl, fun e => ej e.symm, hj⟩
    · subst heq
      rw [List.getElem?_append_right (by simp)] at hj
      simp at hj
      exact .inr (.inr ⟨rfl, hj.symm⟩)
    · rw [List.getElem?_eq_none (by simp; omega)] at hj; cases hj
  have hold : ∀ j b', j < s.σ.length → loc' j = some b' → loc j = some b' := by
    intro j b' hj hb'
    have : j ≠ s.σ.length := by omega
    simpa [loc', this] using hb'
  refine ⟨loc', hnew, e, ⟨h.fr, h.okold, h.ok0, ⟨fun j x hj hg => ?_, fun j x b' hj hx hlb' k => ?_, fun j j' oj oj' b' hj hj' h1 h2 h3 h4 => ?_, fun j hj => ?_, h.own.bd, fun j b' hj => ?_⟩, fun j b' hj => ?_, fun t => (h.slots t).mono e, h.defers, h.nt⟩⟩
  · rcases hcase j x hj with ⟨hjl, hne, hj'⟩ | ⟨rfl, rfl⟩ | ⟨rfl, rfl⟩
    · rcases h.own.rel j x hj' hg with ⟨h0, h1⟩ | ⟨b', hb', hr⟩
      · refine .inl ⟨h0, ?_⟩
        have : j ≠ s.σ.length := by omega
        simp [loc', this, h1]
      · exact .inr ⟨b', hl _ _ hb', hr.keep e rfl⟩
    · exact absurd rfl hg
    · exact .inr ⟨b, hnew, (h.own.at hi hg hlb).keep e rfl⟩
  · rcases hcase j x hj with ⟨hjl, hne, hj'⟩ | ⟨rfl, rfl⟩ | ⟨rfl, rfl⟩
    · exact h.own.ex j x b' hj' hx (hold j b' hjl hlb') k
    · cases hx
    · rw [hnew] at hlb'; cases hlb'; exact h.own.ex i x b hi hx hlb k
  · rcases hcase j oj hj with ⟨hjl, hne, hj1⟩ | ⟨rfl, rfl⟩ | ⟨rfl, rfl⟩
    · rcases hcase j' oj' hj' with ⟨hjl', hne', hj1'⟩ | ⟨rfl, rfl⟩ | ⟨rfl, rfl⟩
      · exact h.own.inj j j' oj oj' b' hj1 hj1' h1 h2 (hold j b' hjl h3) (hold j' b' hjl' h4)
      · cases h2
      · rw [hnew] at h4; cases h4
        exact absurd (h.own.inj j i oj oj' b hj1 hi h1 h2 (hold j b hjl h3) hlb) hne
    · cases h1
    · rcases hcase j' oj' hj' with ⟨hjl', hne', hj1'⟩ | ⟨rfl, rfl⟩ | ⟨rfl, rfl⟩
      · rw [hnew] at h3; cases h3
        exact absurd (h.own.inj j' i oj' oj b hj1' hi h2 h1 (hold j' b hjl' h4) hlb) hne'
      · cases h2
      · rfl
  · simp at hj
    have : j ≠ s.σ.length := by omega
    simp [loc', this]
    exact h.own.dom j (by omega)
  · by_cases hjs : j = s.σ.length
    · rw [hjs, hnew] at hj; cases hj; exact h.own.lbd i b hlb
    · exact h.own.lbd j b' (by simpa [loc', hjs] using hj)
  · by_cases hjs : j = s.σ.length
    · rw [hjs, hnew] at hj; cases hj; exact h.lnew i b hlb
    · exact h.lnew j b' (by simpa [loc', hjs] using hj)

/-- There is room: in the row itself. -/
theorem run_append_row (t tx ty e : TypeId) (i : TypeInfo) (ht : P.underlying t = some (.slice e)) (hi : P.info? e = some i) (b sLen sCap : Nat) (x : Value) (n : Nat) (news : List Value) (hs : Src P i.size tx x n news w)
    (hroom : sLen + n ≤ sCap) {cur : Array Value} {t0 : TypeId} (hb : w.heap[b]? = some (.cells cur t0 (0, 0))) (hle : sLen * i.size + news.length ≤ cur.size) :
    (Builtin.append_ #[t, tx] ty #[.slice (some ⟨b, 0, none⟩) sLen sCap, x]).run P w = .ok (.slice (some ⟨b, 0, none⟩) (sLen + n) sCap) (w.setRow b (cur.toList.take (sLen * i.size) ++ news ++ cur.toList.drop (sLen * i.size + news.length)).toArray) := by
  have hst := run_storeCells_at P b (sLen * i.size) t0 news 0 cur w hb (by simpa using hle) hs.one
  simp only [Nat.add_zero] at hst
  rcases hs.kind with ⟨e', hk⟩ | hk <;> simp [Builtin.append_, run_underlying ht, run_underlying hk, sizeOf, typeInfo, hi, hs.len, hroom, hs.cells, add_at, hst]

/-- There is nothing to append, and no place. -/
theorem run_append_zero (t tx ty e : TypeId) (i : TypeInfo) (ht : P.underlying t = some (.slice e)) (hi : P.info? e = some i) (A : Option Addr) (x : Value) (hs : Src P i.size tx x 0 [] w) :
    (Builtin.append_ #[t, tx] ty #[.slice A 0 0, x]).run P w = .ok (.slice A 0 0) w := by
  rcases hs.kind with ⟨e', hk⟩ | hk <;> cases A <;> simp [Builtin.append_, run_underlying ht, run_underlying hk, sizeOf, typeInfo, hi, hs.len, hs.cells, storeCells]

/-- A new row. -/
theorem append_grow (hte : TEOK P te) (h : Inv W0 X ok0 nt s a w ok loc) {t e u : TypeId} (ty : TypeId) {ei : TyI} (hu : P.underlying t = some (.slice e)) (hte' : te e = some ei) (hok : elemOk ei = true)
    {xs ys : List (List AV)} {A : Option Addr} {c : Nat} (hx : SlC w ok A ei.size xs) {xv : Value} {news : List Value} (hn : NRel w ok ei.size ys news) (hs : Src P ei.size u xv ys.length news w)
    (hg : c < xs.length + ys.length) (hb : (xs.length + ys.length) * ei.bytes ≤ 140737488355328) :
    Gives P W0 X ok0 nt s a w ok loc (Builtin.append_ #[t, u] ty #[.slice A xs.length c, xv]) (.msl s.σ.length ei.size 0 (xs.length + ys.length)) (s.σ ++ [.arr ei.size (xs ++ ys)]) := by
  simp only [elemOk, Bool.and_eq_true, decide_eq_true_eq] at hok
  obtain ⟨⟨⟨o1, o2⟩, o3⟩, o4⟩ := hok
  obtain ⟨inf, hinf, hsz, hby, z, hz, hzr⟩ := (hte e ei hte').inf
  obtain ⟨z1, z2⟩ := flat_rel (VRel.deep (loc := loc) _ _ (hzr w ok)) (solid_ne o3)
  obtain ⟨olds, ho, horun⟩ := firstCells_of (P := P) A c hx
  have hold := horun w.drew (fun _ _ => rfl)
  have hlen : xs.length + ys.length ≤ (xs.length + ys.length) * ei.bytes := Nat.le_mul_of_pos_right _ o2
  have hrun := run_append_grow_src (P := P) w t u ty e inf z hu hinf hz A xs.length c olds (by rw [hsz]; exact hold) xv ys.length news (by rw [hsz]; exact hs) hg (by omega)
    (by rw [hby]; exact growslice_fits hg hb)
  let cap := grownCap w (xs.length + ys.length) c e
  have hcap : xs.length + ys.length ≤ cap := grownCap_ge w _ _ e
  let row : Array Value := (olds ++ news).toArray ++ Builtin.zeroCells z.cells (cap - (xs.length + ys.length))
  have hrow : row.size = cap * ei.size := by
    have hzc : (Builtin.zeroCells z.cells (cap - (xs.length + ys.length))).size = (cap - (xs.length + ys.length)) * ei.size := by
      simp only [Builtin.zeroCells, Array.size_map, Array.size_range]
      rw [z1, o4]
    show ((olds ++ news).toArray ++ Builtin.zeroCells z.cells (cap - (xs.length + ys.length))).size = _
    rw [Array.size_append, hzc, List.size_toArray, List.length_append, ho.len, hn.len, ← Nat.add_mul, ← Nat.add_mul]
    congr 1
    omega
  have h1 : Inv W0 X ok0 nt s a w.drew ok loc := h.same rfl rfl rfl rfl
  have e1 : Ext w ok loc w.drew ok loc := Ext.of_heap (fun _ _ _ => rfl) (fun _ _ hx => hx)
  obtain ⟨loc', hl, e2, hI⟩ := h1.alloc (.cells row e) (.arr ei.size (xs ++ ys)) (fun loc' e2 hl => by
    refine .arr _ _ _ row e (heap_alloc_new _ _) (fun es hes => ?_) (by rw [hrow, List.length_append]; exact Nat.mul_le_mul_right _ hcap) fun i j es x v hi hj hv => ?_
    · rcases List.mem_append.1 hes with h | h
      · exact ho.fit es h
      · exact hn.fit es h
    · have hjl : j < ei.size := by
        rcases List.mem_append.1 (List.mem_of_getElem? hi) with h | h
        · have := (ho.fit es h).1; rw [← this]; exact (List.getElem?_eq_some_iff.1 hj).1
        · have := (hn.fit es h).1; rw [← this]; exact (List.getElem?_eq_some_iff.1 hj).1
      have hv' : (olds ++ news)[i * ei.size + j]? = some v := by
        have hil : i < xs.length + ys.length := by have := (List.getElem?_eq_some_iff.1 hi).1; simpa using this
        have hlt : i * ei.size + j < (olds ++ news).length := by
          rw [List.length_append, ho.len, hn.len, ← Nat.add_mul]
          have : (i + 1) * ei.size ≤ (xs.length + ys.length) * ei.size := Nat.mul_le_mul_right _ (by omega)
          rw [Nat.add_mul] at this
          omega
        have : row[i * ei.size + j]? = (olds ++ news)[i * ei.size + j]? := by
          show ((olds ++ news).toArray ++ Builtin.zeroCells z.cells (cap - (xs.length + ys.length)))[i * ei.size + j]? = _
          rw [Array.getElem?_append_left (by simpa using hlt)]
          simp
        rw [← this]; exact hv
      by_cases hix : i < xs.length
      · rw [List.getElem?_append_left hix] at hi
        obtain ⟨v', hv2, hd⟩ := ho.rel i j es x hi hj
        have hlt : i * ei.size + j < olds.length := (List.getElem?_eq_some_iff.1 hv2).1
        rw [List.getElem?_append_left hlt, hv2] at hv'
        cases hv'
        exact (hd.mono e1.keep).mono e2.keep
      · rw [List.getElem?_append_right (by omega)] at hi
        obtain ⟨v', hv2, hd⟩ := hn.rel (i - xs.length) j es x hi hj
        have hge : olds.length ≤ i * ei.size + j := by
          rw [ho.len]
          have : xs.length * ei.size ≤ i * ei.size := Nat.mul_le_mul_right _ (by omega)
          omega
        rw [List.getElem?_append_right hge, show i * ei.size + j - olds.length = (i - xs.length) * ei.size + j by
          rw [ho.len, Nat.sub_mul]
          have : xs.length * ei.size ≤ i * ei.size := Nat.mul_le_mul_right _ (by omega)
          omega, hv2] at hv'
        cases hv'
        exact (hd.mono e1.keep).mono e2.keep)
  refine ⟨_, _, ok, loc', hrun, e1.trans e2, hI, ?_⟩
  have := VRel.msl (w := w.drew.alloc (.cells row e)) (ok := ok) (loc := loc') s.σ.length ei.size 0 (xs.length + ys.length) w.heap.size cap e row.size hl (by
    simp only [World.shape?, World.size_drew] 
    have := heap_alloc_new w.drew (.cells row e)
    rw [World.size_drew] at this
    rw [this]) (by rw [hrow]; simp) hcap
  simpa using this

theorem append_room (h : Inv W0 X ok0 nt s a w ok loc) {t e u : TypeId} (ty : TypeId) {ei : TyI} (hu : P.underlying t = some (.slice e)) {inf : TypeInfo} (hinf : P.info? e = some inf) (hsz : inf.size = ei.size)
    {o b len c : Nat} {xs ys : List (List AV)} {vy : Value} {news : List Value} (hn : NRel w ok ei.size ys news) (hs : Src P ei.size u vy ys.length news w) (hos : s.σ[o]? = some (.arr ei.size xs)) (hb : loc o = some b)
    {cur : Array Value} {ety' ety : TypeId} (q1 : w.heap[b]? = some (.cells cur ety' (0, 0))) (q2 : ∀ es ∈ xs, Fit ei.size es)
    (q4 : ∀ (i j : Nat) (es : List AV) (x : AV) (v : Value), xs[i]? = some es → es[j]? = some x → cur[i * ei.size + j]? = some v → VDeep w ok x v)
    (hsh : w.shape? b = some (ety, cur.size)) (g1 : c * ei.size ≤ cur.size) (htl : (xs.take len).length = len) (hroom : len + ys.length ≤ c) (hle : len * ei.size + news.length ≤ cur.size) :
    Gives P W0 X ok0 nt s a w ok loc (Builtin.append_ #[t, u] ty #[.slice (some ⟨b, 0, none⟩) len c, vy]) (.msl s.σ.length ei.size 0 (len + ys.length)) (s.σ.set o .gone ++ [.arr ei.size (xs.take len ++ ys)]) := by
  have hrun := run_append_row (P := P) (w := w) t u ty e inf hu hinf b len c vy ys.length news (by rw [hsz]; exact hs) hroom q1 (by rw [hsz]; exact hle)
  rw [hsz] at hrun
  have hh := setRow_heap w b cur (cur.toList.take (len * ei.size) ++ news ++ cur.toList.drop (len * ei.size + news.length)).toArray ety' (0, 0) q1
  have hol := over_len cur.toList news (len * ei.size) (by simpa using hle)
  obtain ⟨e1, hI1⟩ := h.turn hos rfl hb (o' := .arr ei.size (xs.take len ++ ys)) rfl (w' := w.setRow b (cur.toList.take (len * ei.size) ++ news ++ cur.toList.drop (len * ei.size + news.length)).toArray) rfl rfl rfl (by simp)
    (fun k hk => setRow_heap_other w b _ k hk)
    (fun x' hx' => by
      simp only [World.shape?, q1] at hx'
      simp only [World.shape?, hh]
      rw [← hx', List.size_toArray, hol]
      rfl)
    (fun e1 => by
      refine .arr _ _ _ _ ety' hh (fun es hes => ?_) ?_ fun i' j es x' v' hi' hj hv => ?_
      · rcases List.mem_append.1 hes with hm | hm
        · exact q2 es (List.mem_of_mem_take hm)
        · exact hn.fit es hm
      · rw [List.size_toArray, hol, List.length_append, htl, Array.length_toList]
        exact Nat.le_trans (Nat.mul_le_mul_right _ hroom) g1
      · have hv' : (cur.toList.take (len * ei.size) ++ news ++ cur.toList.drop (len * ei.size + news.length))[i' * ei.size + j]? = some v' := by simpa using hv
        rw [over_get _ _ _ _ (by simpa using hle)] at hv'
        by_cases hil : i' < len
        · rw [List.getElem?_append_left (by omega), List.getElem?_take_of_lt hil] at hi'
          have hjl : j < ei.size := by have := (q2 es (List.mem_of_getElem? hi')).1; rw [← this]; exact (List.getElem?_eq_some_iff.1 hj).1
          have : (i' + 1) * ei.size ≤ len * ei.size := Nat.mul_le_mul_right _ (by omega)
          rw [Nat.add_mul] at this
          rw [if_pos (by omega)] at hv'
          exact (q4 i' j es x' v' hi' hj (by simpa using hv')).mono e1.keep
        · rw [List.getElem?_append_right (by omega), htl] at hi'
          obtain ⟨v2, hv2, hd2⟩ := hn.rel (i' - len) j es x' hi' hj
          have hge : len * ei.size ≤ i' * ei.size := Nat.mul_le_mul_right _ (by omega)
          have hlt := (List.getElem?_eq_some_iff.1 hv2).1
          have hsub : (i' - len) * ei.size = i' * ei.size - len * ei.size := Nat.sub_mul _ _ _
          rw [if_neg (by omega), if_pos (by omega), show i' * ei.size + j - len * ei.size = (i' - len) * ei.size + j by omega, hv2] at hv'
          cases hv'
          exact hd2.mono e1.keep)
  obtain ⟨loc', hl', e2, hI2⟩ := hI1.move (i := o) (o := .arr ei.size (xs.take len ++ ys)) (by
    have : o < s.σ.length := (List.getElem?_eq_some_iff.1 hos).1
    simp [this]) hb
  simp only [List.length_set, List.set_set] at hI2 hl'
  refine ⟨_, _, ok, loc', hrun, e1.trans e2, hI2, ?_⟩
  have := VRel.msl (w := w.setRow b (cur.toList.take (len * ei.size) ++ news ++ cur.toList.drop (len * ei.size + news.length)).toArray) (ok := ok) (loc := loc') s.σ.length ei.size 0 (len + ys.length) b c ety cur.size hl' (e1.shape _ _ hsh) (by simpa using g1) hroom
  simpa using this

theorem appendD_gives (hte : TEOK P te) (h : Inv W0 X ok0 nt s a w ok loc) {t u : TypeId} (ty : TypeId) {x y : AV} {vx vy : Value} (hx : VRel w ok loc x vx) (hy : VRel w ok loc y vy) {r : AV} {σ' : List LObj} (hd : appendD te s.σ t u x y = some (r, σ')) :
    Gives P W0 X ok0 nt s a w ok loc (Builtin.append_ #[t, u] ty #[vx, vy]) r σ' := by
  unfold appendD at hd
  cases hti : te t with
  | none => simp [hti] at hd
  | some i =>
    have hi := hte t i hti
    simp only [hti, Option.bind_some] at hd
    split at hd
    · rename_i e hdesc
      have hu := hi.slice hdesc
      cases hte' : te e with
      | none => simp [hte'] at hd
      | some ei =>
        obtain ⟨inf, hinf, hsz, hby, _⟩ := (hte e ei hte').inf
        cases hlo : listOf s.σ y with
        | none => simp [hte', hlo] at hd
        | some p =>
          obtain ⟨pz, ys⟩ := p
          simp only [hte', hlo, Option.bind_some] at hd
          split at hd
          · rename_i hc
            obtain ⟨c1, c2, c3⟩ := hc
            have hpos : 0 < ei.size := by
              simp only [elemOk, Bool.and_eq_true, decide_eq_true_eq] at c2
              exact c2.1.1.1
            obtain ⟨news, hn, hs⟩ := src_of hte h.own hy hlo c1 c3 hpos (fun _ _ => .inr trivial)
            split at hd
            · rename_i z f xs
              split at hd
              · rename_i hc2
                obtain ⟨rfl, d1, d2, d3⟩ := hc2
                simp at hd
                obtain ⟨rfl, rfl⟩ := hd
                have hl : listOf s.σ (.sl z true xs) = some (z, xs) := rfl
                obtain ⟨A, c, rfl, g1, g2, g3, g4⟩ := inv_sl hx
                have hcx := g2 rfl
                subst hcx
                have hsl : SlC w ok A ei.size xs := by
                  rcases listOf_sound h.own hx hl with ⟨A', c', he, hc'⟩ | ⟨_, he, _⟩
                  · cases he
                    rcases d1 with rfl | rfl
                    · exact hc'
                    · exact ⟨fun es hes => (by cases hes), fun h => absurd rfl h⟩
                  · cases he
                by_cases hys : ys = []
                · have hxs : xs = [] := d2.resolve_right (fun hh => hh hys)
                  subst hys; subst hxs
                  have hnews : news = [] := List.eq_nil_of_length_eq_zero (by rw [hn.len]; simp)
                  subst hnews
                  refine ⟨.slice A 0 0, w, ok, loc, run_append_zero t u ty e inf hu hinf A vy (by rw [hsz]; exact hs), Ext.refl _ _ _, h.void (.inl rfl), .mslE _ _ _ _⟩
                · have : 0 < ys.length := List.length_pos_iff.2 hys
                  exact append_grow hte h ty hu hte' c2 hsl hn hs (by omega) d3
              · cases hd
            · rename_i o z off len
              split at hd
              · rename_i z' xs hos
                split at hd
                · rename_i hc2
                  obtain ⟨rfl, rfl, rfl, d1, d2⟩ := hc2
                  simp at hd
                  obtain ⟨rfl, rfl⟩ := hd
                  have htl : (xs.take len).length = len := by simp; omega
                  have grow : ∀ (A : Option Addr) (c : Nat), vx = .slice A len c → c < len + ys.length → SlC w ok A ei.size (xs.take len) →
                      Gives P W0 X ok0 nt s a w ok loc (Builtin.append_ #[t, u] ty #[vx, vy]) (.msl s.σ.length ei.size 0 (len + ys.length)) (s.σ.set o .gone ++ [.arr ei.size (xs.take len ++ ys)]) := by
                    rintro A c rfl hg hsl
                    have h1 := h.drop o (.inl rfl)
                    have := append_grow (s := ⟨s.slots, s.σ.set o .gone⟩) hte h1 ty hu hte' c2 hsl hn hs (by rw [htl]; exact hg) (by rw [htl]; exact d2)
                    rw [htl, List.length_set] at this
                    exact this
                  rcases inv_msl hx with ⟨rfl, A, rfl⟩ | ⟨b, c, ety, n, hb, hsh, g1, g2, rfl⟩
                  · by_cases hys : ys = []
                    · subst hys
                      have hnews : news = [] := List.eq_nil_of_length_eq_zero (by rw [hn.len]; simp)
                      subst hnews
                      have := (h.drop o (.inl rfl)).void (o := .arr ei.size []) (.inl rfl)
                      exact ⟨.slice A 0 0, w, ok, loc, run_append_zero t u ty e inf hu hinf A vy (by rw [hsz]; exact hs), Ext.refl _ _ _, by simpa using this, .mslE _ _ _ _⟩
                    · have : 0 < ys.length := List.length_pos_iff.2 hys
                      exact grow A 0 rfl (by omega) ⟨fun es hes => (by simp at hes), fun h => absurd (by simp) h⟩
                  · have hr := h.own.at hos (by simp) hb
                    cases hr with
                    | arr _ _ _ cur ety' q1 q2 q3 q4 =>
                      have hsz0 : n = cur.size := by
                        simp [World.shape?, q1] at hsh
                        exact hsh.2.symm
                      subst hsz0
                      simp only [Nat.zero_add, Nat.zero_mul] at g1 hx grow ⊢
                      by_cases hroom : len + ys.length ≤ c
                      · have hle : len * ei.size + news.length ≤ cur.size := by
                          rw [hn.len, ← Nat.add_mul]
                          exact Nat.le_trans (Nat.mul_le_mul_right _ hroom) g1
                        exact append_room h ty hu hinf hsz hn hs hos hb q1 q2 q4 hsh g1 htl hroom hle
                      · refine grow _ c rfl (by omega) ?_
                        refine ⟨fun es hes => q2 es (List.mem_of_mem_take hes), fun _ => ⟨b, 0, rfl, fun i' j es x' hi' hj => ?_⟩⟩
                        have hil : i' < len := by have := (List.getElem?_eq_some_iff.1 hi').1; simp at this; omega
                        rw [List.getElem?_take_of_lt hil] at hi'
                        obtain ⟨_, _, _, v', hv'⟩ := arr_at q2 q3 hi' hj
                        refine ⟨v', ?_, q4 _ _ _ _ _ hi' hj hv'⟩
                        rw [Nat.zero_add, cell_of_row w b _ cur ety' _ q1]
                        exact hv'
                · cases hd
              · cases hd
            · cases hd
          · cases hd
    · cases hd
end
end Go.Vi
