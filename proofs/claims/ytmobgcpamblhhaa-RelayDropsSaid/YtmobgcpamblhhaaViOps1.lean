/- Operations on numbers, strings, equality, parts. -/
import Derived.Test.YtmobgcpamblhhaaViTy
set_option linter.unusedVariables false
set_option linter.unusedSimpArgs false
namespace Go.Vi
section
variable {P : Program} {te : TE} {w : World} {ok : CellOk} {loc : Loc} {v : Value}
theorem inv_int {k n} (h : VRel w ok loc (.int k n) v) : v = .int k n := by cases h with | deep _ _ h => cases h; rfl
theorem inv_bool {b} (h : VRel w ok loc (.bool b) v) : v = .bool b := by cases h with | deep _ _ h => cases h; rfl
theorem inv_str {s} (h : VRel w ok loc (.str s) v) : v = .string s := by cases h with | deep _ _ h => cases h; rfl
theorem inv_ptr0 (h : VRel w ok loc (.ptr none) v) : v = .pointer none := by cases h with | deep _ _ h => cases h; rfl
theorem inv_mp0 (h : VRel w ok loc (.mp none) v) : v = .map none := by cases h with | deep _ _ h => cases h; rfl
theorem inv_nilfn (h : VRel w ok loc .nilfn v) : v = .nilFunc := by cases h with | deep _ _ h => cases h; rfl
theorem inv_nilif (h : VRel w ok loc .nilif v) : v = .nilIface := by cases h with | deep _ _ h => cases h; rfl
theorem inv_tup0 (h : VRel w ok loc (.tup []) v) : v = .tuple #[] := by
  cases h with
  | deep _ _ h => cases h with | tup _ vs h1 h2 => simp at h1; subst h1; rfl
  | tup _ vs h1 h2 => simp at h1; subst h1; rfl
theorem inv_ptr {o off} (h : VRel w ok loc (.ptr (some (o, off))) v) : ∃ b, loc o = some b ∧ v = .pointer (some ⟨b, off, none⟩) := by
  cases h with
  | deep _ _ h => cases h
  | ptr _ _ b hb => exact ⟨b, hb, rfl⟩
theorem inv_aptr {o z i j} (h : VRel w ok loc (.aptr o z i j) v) : ∃ b, loc o = some b ∧ v = .pointer (some ⟨b, i * z + j, none⟩) := by
  cases h with
  | deep _ _ h => cases h
  | aptr _ _ _ _ b hb => exact ⟨b, hb, rfl⟩
theorem inv_ep {cs j} (h : VRel w ok loc (.ep cs j) v) : ∃ b o, ∃ val : Nat → Value, v = .pointer (some ⟨b, o + j, none⟩) ∧ (∀ (i : Nat) (x : AV), cs[i]? = some x → w.cell? ⟨b, o + i, none⟩ = some (val i) ∧ ok b (o + i)) ∧ (∀ (i : Nat) (x : AV), cs[i]? = some x → VDeep w ok x (val i)) := by
  cases h with
  | deep _ _ h => cases h
  | ep _ _ b o val h1 h2 => exact ⟨b, o, val, rfl, h1, h2⟩
theorem inv_mp {o} (h : VRel w ok loc (.mp (some o)) v) : ∃ b, loc o = some b ∧ v = .map (some b) := by
  cases h with
  | deep _ _ h => cases h
  | mp _ b hb => exact ⟨b, hb, rfl⟩
theorem inv_mv {es} (h : VRel w ok loc (.mv es) v) : ∃ b entries clock, v = .map (some b) ∧ w.heap[b]? = some (.map entries clock) ∧ entries.size = es.length ∧
      (∀ (i : Nat) (x : AV × AV) (e : MapEntry), es[i]? = some x → entries[i]? = some e → VDeep w ok x.1 e.key) ∧ (∀ (i : Nat) (x : AV × AV) (e : MapEntry), es[i]? = some x → entries[i]? = some e → VDeep w ok x.2 e.val) := by
  cases h with
  | deep _ _ h => cases h with | mv _ b entries clock h1 h2 h3 h4 h5 => exact ⟨b, entries, clock, rfl, h1, h3, h4, h5⟩
theorem inv_agg {cs} (h : VRel w ok loc (.agg cs) v) : ∃ vs : Array Value, v = .agg vs ∧ vs.size = cs.length ∧ ∀ (j : Nat) (x : AV) (v : Value), cs[j]? = some x → vs[j]? = some v → VRel w ok loc x v := by
  cases h with
  | deep _ _ h => cases h with | agg _ vs h1 h2 => exact ⟨vs, rfl, h1, fun j x v hx hv => .deep _ _ (h2 j x v hx hv)⟩
  | agg _ vs h1 h2 => exact ⟨vs, rfl, h1, h2⟩
theorem inv_tup {cs} (h : VRel w ok loc (.tup cs) v) : ∃ vs : Array Value, v = .tuple vs ∧ vs.size = cs.length ∧ ∀ (j : Nat) (x : AV) (v : Value), cs[j]? = some x → vs[j]? = some v → VRel w ok loc x v := by
  cases h with
  | deep _ _ h => cases h with | tup _ vs h1 h2 => exact ⟨vs, rfl, h1, fun j x v hx hv => .deep _ _ (h2 j x v hx hv)⟩
  | tup _ vs h1 h2 => exact ⟨vs, rfl, h1, h2⟩
theorem inv_fn {f cs} (h : VRel w ok loc (.fn f cs) v) : ∃ vs : Array Value, v = .func (.func f) #[] vs ∧ vs.size = cs.length ∧ ∀ (j : Nat) (x : AV) (v : Value), cs[j]? = some x → vs[j]? = some v → VRel w ok loc x v := by
  cases h with
  | deep _ _ h => cases h with | fn _ _ vs h1 h2 => exact ⟨vs, rfl, h1, fun j x v hx hv => .deep _ _ (h2 j x v hx hv)⟩
  | fn _ _ vs h1 h2 => exact ⟨vs, rfl, h1, h2⟩
theorem inv_sl {z f xs} (h : VRel w ok loc (.sl z f xs) v) : ∃ A c, v = .slice A xs.length c ∧ xs.length ≤ c ∧ (f = true → c = xs.length) ∧ (∀ es ∈ xs, Fit z es) ∧
    (xs ≠ [] → ∃ b o, ∃ val : Nat → Nat → Value, A = some ⟨b, o, none⟩ ∧ (∀ (i j : Nat) (es : List AV) (x : AV), xs[i]? = some es → es[j]? = some x → w.cell? ⟨b, o + i * z + j, none⟩ = some (val i j) ∧ ok b (o + i * z + j)) ∧
      (∀ (i j : Nat) (es : List AV) (x : AV), xs[i]? = some es → es[j]? = some x → VDeep w ok x (val i j))) := by
  cases h with
  | deep _ _ h =>
    cases h with
    | emp _ _ a c hc => exact ⟨a, c, rfl, by simp, by simpa using hc, by simp, fun h => absurd rfl h⟩
    | sl _ _ _ b o c val h1 h2 h3 h4 h5 => exact ⟨_, c, rfl, h1, h2, h3, fun _ => ⟨b, o, val, rfl, h4, h5⟩⟩
theorem inv_msl {o z off len} (h : VRel w ok loc (.msl o z off len) v) : (len = 0 ∧ ∃ a, v = .slice a 0 0) ∨ ∃ b c e n, loc o = some b ∧ w.shape? b = some (e, n) ∧ (off + c) * z ≤ n ∧ len ≤ c ∧ v = .slice (some ⟨b, off * z, none⟩) len c := by
  cases h with
  | deep _ _ h => cases h
  | mslE _ _ _ a => exact .inl ⟨rfl, a, rfl⟩
  | msl _ _ _ _ b c e n h1 h2 h3 h4 => exact .inr ⟨b, c, e, n, h1, h2, h3, h4, rfl⟩

/-- A part of a struct's cells. -/
theorem part_sound {t : TypeId} {i : TyI} (hi : TyOK P t i) {cs : List AV} {vs : Array Value} (hl : vs.size = cs.length) (hr : ∀ (j : Nat) (x : AV) (v : Value), cs[j]? = some x → vs[j]? = some v → VRel w ok loc x v)
    {off : Nat} {r : AV} (h : part i cs off = some r) (w' : World) : ∃ v, (Go.part t vs off).run P w' = .ok v w' ∧ VRel w ok loc r v := by
  unfold part at h
  simp only [Go.part, Sem.run_bind, hi.run_agg, Result.andThen_ok, Sem.run_ite, hi.run_size, Sem.run_pure]
  split at h
  · rename_i ha
    split at h
    · rename_i hle
      simp at h
      subst h
      rw [if_pos ha]
      refine ⟨_, rfl, .agg _ _ (by simp; omega) fun j x v hx hv => ?_⟩
      have hj : j < i.size := by
        have := (List.getElem?_eq_some_iff.1 hx).1
        simp at this; omega
      rw [List.getElem?_take_of_lt hj, List.getElem?_drop] at hx
      refine hr (off + j) x v hx ?_
      rw [Array.getElem?_extract] at hv
      split at hv
      · exact hv
      · cases hv
    · cases h
  · rename_i ha
    rw [if_neg ha]
    have hlt : off < vs.size := by rw [hl]; exact (List.getElem?_eq_some_iff.1 h).1
    have hv : vs[off]? = some vs[off] := Array.getElem?_eq_getElem hlt
    refine ⟨vs[off], ?_, hr off r _ h hv⟩
    simp only [hv, Sem.run_pure]

theorem leafEq_sound {t : TypeId} {i : TyI} (hi : TyOK P t i) {a b : AV} {va vb : Value} (ha : VRel w ok loc a va) (hb : VRel w ok loc b vb) {r : Bool} (h : leafEq i.desc a b = some r) (D : Nat) (w' : World) :
    (Op.equalIn (D + 1) t va vb).run P w' = .ok r w' := by
  unfold leafEq at h
  split at h
  · rename_i hd
    have hu := hi.int hd
    split at h
    · rename_i hk
      subst hk
      simp at h
      subst h
      rw [inv_int ha, inv_int hb, run_equalIn_int w' D t _ _ _ _ hu]
      rfl
    · cases h
  · rename_i hd
    simp at h; subst h
    rw [inv_bool ha, inv_bool hb, run_equalIn_bool' w' D t _ _ (hi.bool hd)]
  · rename_i hd
    simp at h; subst h
    rw [inv_str ha, inv_str hb, run_equalIn_string w' D t _ _ (hi.string hd), ← beq_toListBytes]
    congr 1
    rename_i x y
    by_cases e : x = y
    · subst e; rw [beq_toListBytes]; simp
    · rw [beq_toListBytes]
      have : ¬ (x.toList = y.toList) := fun h => e (by
        rw [ByteArray.toList_eq, ByteArray.toList_eq] at h
        obtain ⟨⟨x⟩⟩ := x
        obtain ⟨⟨y⟩⟩ := y
        simp at h
        rw [h])
      simp [e, this]
  · cases h

theorem eq_sound (hte : TEOK P te) : ∀ d,
    (∀ t (a b : AV) (va vb : Value) r, VRel w ok loc a va → VRel w ok loc b vb → eqT te d t a b = some r → ∀ D w', d ≤ D → (Op.equalIn D t va vb).run P w' = .ok r w') ∧
    (∀ fs (xs ys : List AV) (vx vy : Array Value) r, vx.size = xs.length → vy.size = ys.length → (∀ (j : Nat) (x : AV) (v : Value), xs[j]? = some x → vx[j]? = some v → VRel w ok loc x v) → (∀ (j : Nat) (x : AV) (v : Value), ys[j]? = some x → vy[j]? = some v → VRel w ok loc x v) →
      eqF te d fs xs ys = some r → ∀ (fields : List Field), fieldsOk fs fields = true → ∀ D w', d ≤ D → (Op.eqFields D vx vy fields).run P w' = .ok r w') := by
  intro d
  induction d with
  | zero =>
    refine ⟨fun t a b va vb r ha hb h => by simp [eqT] at h, fun fs => ?_⟩
    induction fs with
    | nil => intro xs ys vx vy r h1 h2 h3 h4 h fields hf D w' hD; cases fields <;> simp [fieldsOk] at hf; simp [eqF] at h; subst h; simp [Op.eqFields]
    | cons p fs ih =>
      intro xs ys vx vy r h1 h2 h3 h4 h
      obtain ⟨off, ft⟩ := p
      simp only [eqF, eqT, Option.bind_eq_bind] at h
      cases h5 : te ft with
      | none => simp [h5] at h
      | some i => cases h6 : part i xs off with
        | none => simp [h5, h6] at h
        | some a => cases h7 : part i ys off with
          | none => simp [h5, h6, h7] at h
          | some b => simp [h5, h6, h7] at h
  | succ d ih =>
    obtain ⟨ihT, ihF⟩ := ih
    have hT : ∀ t (a b : AV) (va vb : Value) r, VRel w ok loc a va → VRel w ok loc b vb → eqT te (d + 1) t a b = some r → ∀ D w', d + 1 ≤ D → (Op.equalIn D t va vb).run P w' = .ok r w' := by
      intro t a b va vb r ha hb h D w' hD
      obtain ⟨D, rfl⟩ : ∃ m, D = m + 1 := ⟨D - 1, by omega⟩
      unfold eqT at h
      split at h
      · rename_i fs xs ys hte'
        obtain ⟨vx, rfl, hx1, hx2⟩ := inv_agg ha
        obtain ⟨vy, rfl, hy1, hy2⟩ := inv_agg hb
        obtain ⟨fields, hu, hfs, hst, _⟩ := (hte t _ hte').struct rfl
        split at h
        case isFalse => cases h
        have hfo : P.fieldsOf t = fields := by simp [Program.fieldsOf, hu]
        rw [run_equalIn_struct w' D t vx vy (by rw [hfo]; exact hu) hst, hfo]
        exact ihF fs xs ys vx vy r hx1 hy1 hx2 hy2 h fields.toList hfs D w' (by omega)
      · rename_i hte' _
        exact leafEq_sound (hte t _ hte') ha hb h D w'
      · cases h
    refine ⟨hT, fun fs => ?_⟩
    induction fs with
    | nil => intro xs ys vx vy r h1 h2 h3 h4 h fields hf D w' hD; cases fields <;> simp [fieldsOk] at hf; simp [eqF] at h; subst h; simp [Op.eqFields]
    | cons p fs ih =>
      intro xs ys vx vy r h1 h2 h3 h4 h fields hf D w' hD
      obtain ⟨off, ft⟩ := p
      cases fields with
      | nil => simp [fieldsOk] at hf
      | cons f fields =>
        simp only [fieldsOk, Bool.and_eq_true, decide_eq_true_eq] at hf
        obtain ⟨⟨⟨hf1, hf2⟩, hf3⟩, hf4⟩ := hf
        simp only [eqF] at h
        cases h5 : te ft with
        | none => simp [h5] at h
        | some i => cases h6 : part i xs off with
          | none => simp [h5, h6] at h
          | some a => cases h7 : part i ys off with
            | none => simp [h5, h6, h7] at h
            | some b => cases h8 : eqT te (d + 1) ft a b with
              | none => simp [h5, h6, h7, h8] at h
              | some r1 => cases h9 : eqF te (d + 1) fs xs ys with
                | none => simp [h5, h6, h7, h8, h9] at h
                | some r2 =>
                  simp [h5, h6, h7, h8, h9] at h
                  subst h
                  obtain ⟨va, hva, hra⟩ := part_sound (hte ft i h5) h1 h3 h6 w'
                  obtain ⟨vb, hvb, hrb⟩ := part_sound (hte ft i h5) h2 h4 h7 w'
                  have hee := hT ft a b va vb r1 hra hrb h8 D w' hD
                  have hrest := ih xs ys vx vy r2 h1 h2 h3 h4 h9 fields hf4 D w' hD
                  simp only [Op.eqFields, if_pos hf3, Sem.run_bind, hf1, hf2, hva, hvb, hee, Result.andThen_ok, Sem.run_ite]
                  cases r1 <;> simp [hrest]

theorem bytes_eq_iff (x y : ByteArray) : (x.toList == y.toList) = decide (x = y) := by
  by_cases e : x = y
  · subst e; simp
  · have : ¬ (x.toList = y.toList) := fun h => e (by
      rw [ByteArray.toList_eq, ByteArray.toList_eq] at h
      obtain ⟨⟨x⟩⟩ := x
      obtain ⟨⟨y⟩⟩ := y
      simp at h
      rw [h])
    simp [e, this]

theorem eqNil_ptr {t : TypeId} {e : TypeId} (hu : P.underlying t = some (.pointer e)) {a b : AV} {va vb : Value} {r : Bool} (ha : VRel w ok loc a va) (hb : VRel w ok loc b vb) (h : eqNil (.ptr e) a b = some r) (D : Nat) (w' : World) : (Op.equalIn (D + 1) t va vb).run P w' = .ok r w' := by
  unfold eqNil at h
  split at h <;> simp at h
  · subst h
    rw [inv_ptr0 ha]
    rename_i o _
    cases o with
    | none => rw [inv_ptr0 hb]; simp [Op.equalIn, run_underlying hu]
    | some p => obtain ⟨b, _, rfl⟩ := inv_ptr (o := p.1) (off := p.2) hb; simp [Op.equalIn, run_underlying hu]
  · subst h
    rw [inv_ptr0 hb]
    rename_i o _ _
    cases o with
    | none => rw [inv_ptr0 ha]; simp [Op.equalIn, run_underlying hu]
    | some p => obtain ⟨b, _, rfl⟩ := inv_ptr (o := p.1) (off := p.2) ha; simp [Op.equalIn, run_underlying hu]
  · subst h; obtain ⟨_, _, _, rfl, _⟩ := inv_ep hb; rw [inv_ptr0 ha]; simp [Op.equalIn, run_underlying hu]
  · subst h; obtain ⟨_, _, _, rfl, _⟩ := inv_ep ha; rw [inv_ptr0 hb]; simp [Op.equalIn, run_underlying hu]
  · subst h; obtain ⟨_, _, rfl⟩ := inv_aptr ha; rw [inv_ptr0 hb]; simp [Op.equalIn, run_underlying hu]
  all_goals simp_all
theorem eqNil_map {t : TypeId} {k e : TypeId} (hu : P.underlying t = some (.map k e)) {a b : AV} {va vb : Value} {r : Bool} (ha : VRel w ok loc a va) (hb : VRel w ok loc b vb) (h : eqNil (.map k e) a b = some r) (D : Nat) (w' : World) : (Op.equalIn (D + 1) t va vb).run P w' = .ok r w' := by
  unfold eqNil at h
  split at h <;> simp at h
  all_goals try simp_all
  · subst h
    rw [inv_mp0 ha]
    rename_i o _
    cases o with
    | none => rw [inv_mp0 hb]; simp [Op.equalIn, run_underlying hu]
    | some p => obtain ⟨b, _, rfl⟩ := inv_mp hb; simp [Op.equalIn, run_underlying hu]
  · subst h
    rw [inv_mp0 hb]
    rename_i o _ _
    cases o with
    | none => rw [inv_mp0 ha]; simp [Op.equalIn, run_underlying hu]
    | some p => obtain ⟨b, _, rfl⟩ := inv_mp ha; simp [Op.equalIn, run_underlying hu]
  · subst h; obtain ⟨_, _, _, rfl, _⟩ := inv_mv ha; rw [inv_mp0 hb]; simp [Op.equalIn, run_underlying hu]
theorem eqA_sound (hte : TEOK P te) {t : TypeId} {a b : AV} {va vb : Value} {r : Bool} (ha : VRel w ok loc a va) (hb : VRel w ok loc b vb) (h : eqA te t a b = some r) (w' : World) : (Op.equal t va vb).run P w' = .ok r w' := by
  unfold eqA at h
  cases hti : te t with
  | none => simp [hti] at h
  | some i =>
    have hi := hte t i hti
    simp only [hti, Option.bind_some] at h
    split at h
    · rename_i e hd
      exact eqNil_ptr (hi.ptr hd) ha hb h 9999 w'
    · rename_i k e hd
      exact eqNil_map (hi.map hd) ha hb h 9999 w'
    · exact (eq_sound hte 8).1 t a b va vb r ha hb h 10000 w' (by omega)
end
end Go.Vi
