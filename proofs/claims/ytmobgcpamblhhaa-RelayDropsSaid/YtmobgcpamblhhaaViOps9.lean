/- Maps; make; least and greatest. -/
import Derived.Test.YtmobgcpamblhhaaViOps8
set_option linter.unusedVariables false
set_option linter.unusedSimpArgs false
namespace Go.Vi
section
variable {P : Program} {te : TE} {W0 : World} {X : Nat → Prop} {ok0 : CellOk} {nt : Nat} {s : St} {a : Act} {w : World} {ok : CellOk} {loc : Loc} {v : Value}

/-! ### Keys -/
structure ERel (w : World) (ok : CellOk) (es : List (AV × AV)) (entries : Array MapEntry) : Prop where
  len : entries.size = es.length
  key : ∀ (i : Nat) (x : AV × AV) (e : MapEntry), es[i]? = some x → entries[i]? = some e → VDeep w ok x.1 e.key
  val : ∀ (i : Nat) (x : AV × AV) (e : MapEntry), es[i]? = some x → entries[i]? = some e → VDeep w ok x.2 e.val

theorem eqT_same (hte : TEOK P te) {t : TypeId} {a b : AV} {va vb : Value} {r : Bool} (ha : VRel w ok loc a va) (hb : VRel w ok loc b vb) (h : eqT te 8 t a b = some r) (w' : World) : (Op.equal t va vb).run P w' = .ok r w' :=
  (eq_sound hte 8).1 t a b va vb r ha hb h 10000 w' (by omega)

theorem findAsking_sound (hte : TEOK P te) {kt : TypeId} {k : AV} {vk : Value} (hk : VRel w ok loc k vk) : ∀ (es : List (AV × AV)) (entries : List MapEntry) (i : Nat) (r : Option (Nat × AV)), entries.length = es.length →
    (∀ (j : Nat) (x : AV × AV) (e : MapEntry), es[j]? = some x → entries[j]? = some e → VDeep w ok x.1 e.key) → (∀ (j : Nat) (x : AV × AV) (e : MapEntry), es[j]? = some x → entries[j]? = some e → VDeep w ok x.2 e.val) →
    findK te kt k es i = some r → ∀ w', ∃ q, (Instr.findAsking kt vk entries i).run P w' = .ok q w' ∧ (match r, q with | none, none => True | some (j, v), some (j', v') => j = j' ∧ VDeep w ok v v' ∧ i ≤ j ∧ j < i + es.length | _, _ => False)
  | [], entries, i, r, hl, h1, h2, h, w' => by
    have : entries = [] := List.eq_nil_of_length_eq_zero (by simpa using hl)
    subst this
    simp [findK] at h; subst h
    exact ⟨none, by simp [Instr.findAsking], trivial⟩
  | (k', x) :: es, entries, i, r, hl, h1, h2, h, w' => by
    cases entries with
    | nil => simp at hl
    | cons e entries =>
      simp only [findK] at h
      have d1 := h1 0 (k', x) e rfl rfl
      have d2 := h2 0 (k', x) e rfl rfl
      cases he : eqT te 8 kt k k' with
      | none => simp [he] at h
      | some b =>
        have hrun := eqT_same hte hk (VRel.deep (loc := loc) _ _ d1) he w'
        simp only [he, Option.bind_some] at h
        cases b with
        | true =>
          simp at h; subst h
          exact ⟨some (i, e.val), by simp [Instr.findAsking, hrun], rfl, d2, Nat.le_refl _, by simp⟩
        | false =>
          simp at h
          obtain ⟨q, hq, hr⟩ := findAsking_sound hte hk es entries (i + 1) r (by simpa using hl) (fun j x e hx he => h1 (j + 1) x e (by simpa using hx) (by simpa using he)) (fun j x e hx he => h2 (j + 1) x e (by simpa using hx) (by simpa using he)) h w'
          refine ⟨q, by simp [Instr.findAsking, hrun, hq], ?_⟩
          revert hr
          cases r <;> cases q <;> simp
          intro h1 h2 h3 h4
          exact ⟨h1, h2, by omega, by omega⟩

/-- The quick search is the other one. -/
theorem findNow_asking {kt : TypeId} {d : TypeDesc} (hu : P.underlying kt = some d) (vk : Value) (w' : World) : ∀ (entries : List MapEntry) (i : Nat) (q : Option (Nat × Value)), Instr.findNow d vk entries i = some q → (Instr.findAsking kt vk entries i).run P w' = .ok q w'
  | [], i, q, h => by simp [Instr.findNow] at h; subst h; simp [Instr.findAsking]
  | e :: es, i, q, h => by
    simp only [Instr.findNow] at h
    have heq : ∀ b, Instr.sameNow d vk e.key = some b → (Op.equal kt vk e.key).run P w' = .ok b w' := by
      intro b hb
      generalize e.key = ek at hb ⊢
      unfold Instr.sameNow at hb
      split at hb
      · split at hb
        · rename_i hk
          subst hk
          simp at hb; subst hb
          exact run_equalIn_int (P := P) w' 9999 kt _ _ _ _ hu
        · cases hb
      · rename_i x y
        simp at hb; subst hb
        have := run_equalIn_string (P := P) w' 9999 kt x y hu
        rw [← beq_toListBytes] at this
        have e2 : (Op.equalIn 10000 kt (.string x) (.string y)).run P w' = .ok (x == y) w' := this
        exact e2
      · simp at hb; subst hb
        exact run_equal_bool w' kt _ _ hu
      · cases hb
    split at h
    · rename_i hs
      simp at h; subst h
      simp [Instr.findAsking, heq _ hs]
    · rename_i hs
      simp [Instr.findAsking, heq _ hs, findNow_asking hu vk w' es (i + 1) q h]
    · cases h

theorem findKey_sound (hte : TEOK P te) {kt : TypeId} {k : AV} {vk : Value} (hk : VRel w ok loc k vk) {es : List (AV × AV)} {entries : Array MapEntry} (hE : ERel w ok es entries) {r : Option (Nat × AV)} (h : findK te kt k es 0 = some r) (hd : ∃ d, P.underlying kt = some d) (w' : World) :
    ∃ q, (Instr.findKey kt vk entries.toList).run P w' = .ok q w' ∧ (match r, q with | none, none => True | some (j, v), some (j', v') => j = j' ∧ VDeep w ok v v' ∧ j < es.length | _, _ => False) := by
  obtain ⟨d, hu⟩ := hd
  obtain ⟨q, hq, hr⟩ := findAsking_sound hte hk es entries.toList 0 r (by simpa using hE.len) (fun j x e hx he => hE.key j x e hx (by simpa using he)) (fun j x e hx he => hE.val j x e hx (by simpa using he)) h w'
  refine ⟨q, ?_, ?_⟩
  · simp only [Instr.findKey, Sem.run_bind, run_underlying hu, Result.andThen_ok]
    cases hn : Instr.findNow d vk entries.toList 0 with
    | none => exact hq
    | some q' =>
      have := findNow_asking hu vk w' entries.toList 0 q' hn
      rw [this] at hq
      simp only [Sem.run_pure]
      exact hq
  · revert hr
    cases r <;> cases q <;> simp

theorem leafTy_und (hte : TEOK P te) {t : TypeId} (h : leafTy te t = true) : ∃ i, te t = some i ∧ i.desc.isAgg = false ∧ ((∃ k, P.underlying t = some (.int k)) ∨ P.underlying t = some .string ∨ P.underlying t = some .bool) := by
  unfold leafTy at h
  split at h
  · rename_i h1; exact ⟨_, h1, rfl, .inl ⟨_, (hte _ _ h1).int rfl⟩⟩
  · rename_i h1; exact ⟨_, h1, rfl, .inr (.inl ((hte _ _ h1).string rfl))⟩
  · rename_i h1; exact ⟨_, h1, rfl, .inr (.inr ((hte _ _ h1).bool rfl))⟩
  · cases h
theorem check_leaf (hte : TEOK P te) {t : TypeId} (h : leafTy te t = true) (e : Bool) (n : Nat) (v : Value) (w' : World) : (Instr.checkKey e (n + 1) t v).run P w' = .ok () w' := by
  obtain ⟨i, _, _, h1⟩ := leafTy_und hte h
  rcases h1 with ⟨k, hu⟩ | hu | hu <;> simp [Instr.checkKey, run_underlying hu]
theorem check_key (hte : TEOK P te) {t : TypeId} {k : AV} {vk : Value} (hk : VRel w ok loc k vk) (h : keyOk te t k = true) (e : Bool) (N : Nat) (hN : 1 ≤ N) (w' : World) : (Instr.checkKey e (N + 1) t vk).run P w' = .ok () w' := by
  unfold keyOk at h
  rw [Bool.or_eq_true] at h
  rcases h with h | h
  · exact check_leaf hte h e N vk w'
  · split at h
    · rename_i fs cs h1
      obtain ⟨fields, hu, hfs, _⟩ := (hte _ _ h1).struct rfl
      obtain ⟨vs, rfl, hl, hr⟩ := inv_agg hk
      simp only [Instr.checkKey, Sem.run_bind, run_underlying hu, Result.andThen_ok]
      rw [← Array.forIn_toList]
      clear hu h1 hk
      rw [Bool.and_eq_true] at h
      obtain ⟨-, h⟩ := h
      revert hfs h
      generalize fields.toList = fl
      induction fs generalizing fl with
      | nil => intro hf _; cases fl with | nil => simp | cons => simp [fieldsOk] at hf
      | cons p fs ih =>
        intro hf ha
        cases fl with
        | nil => simp [fieldsOk] at hf
        | cons f fl =>
          simp only [fieldsOk, Bool.and_eq_true, decide_eq_true_eq] at hf
          simp only [List.all_cons, Bool.and_eq_true, decide_eq_true_eq] at ha
          obtain ⟨⟨⟨f1, f2⟩, f3⟩, f4⟩ := hf
          obtain ⟨⟨a1, a2⟩, a3⟩ := ha
          obtain ⟨i, hi, hag, _⟩ := leafTy_und hte a1
          have hp : part i cs p.1 = some cs[p.1] := by unfold part; rw [hag]; simp [a2]
          obtain ⟨v, hv, _⟩ := part_sound (hte _ _ hi) hl hr hp w'
          obtain ⟨n, rfl⟩ : ∃ n, N = n + 1 := ⟨N - 1, by omega⟩
          have hch := check_leaf hte a1 e n v w'
          have := ih fl f4 (by simpa using a3)
          simp only [List.forIn_cons, Sem.run_bind, f1, f2, if_pos f3, hv, hch, Result.andThen_ok, Sem.run_pure]
          exact this
    · cases h

/-! ### The entries -/
theorem entriesOf_sound (hO : Own w ok loc s.σ) {m : AV} {vm : Value} (hm : VRel w ok loc m vm) {es : List (AV × AV)} (h : entriesOf s.σ m = some es) :
    (vm = .map none ∧ es = []) ∨ ∃ b entries clock, vm = .map (some b) ∧ w.heap[b]? = some (.map entries clock) ∧ ERel w ok es entries := by
  unfold entriesOf at h
  split at h
  · simp at h; subst h; exact .inl ⟨inv_mp0 hm, rfl⟩
  · rename_i o
    obtain ⟨b, hb, rfl⟩ := inv_mp hm
    split at h
    · rename_i es' hes
      simp at h; subst h
      have hr := hO.at hes (by simp) hb
      cases hr with
      | map _ _ entries clock h1 h2 h3 h4 => exact .inr ⟨b, entries, clock, rfl, h1, ⟨h2, h3, h4⟩⟩
    · cases h
  · rename_i es'
    simp at h; subst h
    obtain ⟨b, entries, clock, rfl, h1, h2, h3, h4⟩ := inv_mv hm
    exact .inr ⟨b, entries, clock, rfl, h1, ⟨h2, h3, h4⟩⟩
  · cases h

theorem run_getObj_map {b : Nat} {entries : Array MapEntry} {clock : Nat} (h : w.heap[b]? = some (.map entries clock)) : (getObj b).run P w = .ok (.map entries clock) w := by
  simp [getObj, Sem.run, h]

theorem lookupD_sound (hte : TEOK P te) (hO : Own w ok loc s.σ) {t : TypeId} {m k : AV} {vm vk : Value} (hm : VRel w ok loc m vm) (hk : VRel w ok loc k vk) {cok : Bool} {r : AV} (h : lookupD te s.σ t m k cok = some r) :
    ∃ rv, (Instr.lookup t vm vk cok).run P w = .ok rv w ∧ VRel w ok loc r rv := by
  unfold lookupD at h
  split at h
  · rename_i kt et h1
    have hu := (hte _ _ h1).map rfl
    cases hei : te et with
    | none => simp [hei] at h
    | some ei =>
      obtain ⟨z, hz, hzr⟩ := (hte _ _ hei).run_zero w
      cases hes : entriesOf s.σ m with
      | none => simp [hei, hes] at h
      | some es =>
        simp only [hei, hes, Option.bind_some] at h
        split at h
        · rename_i hko
          cases hf : findK te kt k es 0 with
          | none => simp [hf] at h
          | some q =>
            simp only [hf, Option.bind_some, Option.some.injEq] at h
            have hku : ∃ d, P.underlying kt = some d := by
              unfold keyOk at hko
              rw [Bool.or_eq_true] at hko
              rcases hko with h | h
              · obtain ⟨_, _, _, h1⟩ := leafTy_und hte h
                rcases h1 with ⟨k, hu⟩ | hu | hu
                · exact ⟨_, hu⟩
                · exact ⟨_, hu⟩
                · exact ⟨_, hu⟩
              · split at h
                · rename_i hq
                  obtain ⟨fields, hu, _⟩ := (hte _ _ hq).struct rfl
                  exact ⟨_, hu⟩
                · cases h
            have core : ∀ entries : Array MapEntry, ERel w ok es entries → ∃ q', (Instr.findKey kt vk entries.toList).run P w = .ok q' w ∧ (Instr.checkKey entries.isEmpty 10000 kt vk).run P w = .ok () w ∧
                VRel w ok loc r (match q' with | some (_, v) => (if cok = true then .tuple #[v, .bool true] else v) | none => (if cok = true then .tuple #[z, .bool false] else z)) := by
              intro entries hE
              obtain ⟨q', hq', hr⟩ := findKey_sound hte hk hE hf hku w
              refine ⟨q', hq', check_key hte hk hko entries.isEmpty 9999 (by omega) w, ?_⟩
              have two : ∀ (x : AV) (v : Value) (b : Bool), VDeep w ok x v → VRel w ok loc (.tup [x, .bool b]) (.tuple #[v, .bool b]) := by
                intro x v b hd
                refine .tup _ _ rfl fun j y c hy hc => ?_
                match j, hy, hc with
                | 0, hy, hc => simp at hy hc; subst hy; subst hc; exact .deep _ _ hd
                | 1, hy, hc => simp at hy hc; subst hy; subst hc; exact .mkBool _
                | j + 2, hy, hc => simp at hy
              subst h
              cases q with
              | none =>
                cases q' with
                | some _ => exact hr.elim
                | none =>
                  cases cok
                  · exact .deep _ _ (hzr w ok)
                  · exact two _ _ _ (hzr w ok)
              | some p =>
                obtain ⟨j0, v0⟩ := p
                cases q' with
                | none => exact hr.elim
                | some p' =>
                  obtain ⟨j1, v1⟩ := p'
                  obtain ⟨_, hd, _⟩ := hr
                  cases cok
                  · exact .deep _ _ hd
                  · exact two _ _ _ hd
            rcases entriesOf_sound hO hm hes with ⟨rfl, rfl⟩ | ⟨b, entries, clock, rfl, hb, hE⟩
            · obtain ⟨q', c1, c2, c3⟩ := core #[] ⟨rfl, fun i x e hx => by simp at hx, fun i x e hx => by simp at hx⟩
              refine ⟨_, ?_, c3⟩
              cases q' <;> cases cok <;> simp [Instr.lookup, run_underlying hu, c1, c2, hz] <;> simp_all
            · obtain ⟨q', c1, c2, c3⟩ := core entries hE
              refine ⟨_, ?_, c3⟩
              cases q' <;> cases cok <;> simp [Instr.lookup, run_underlying hu, run_getObj_map hb, c1, c2, hz]
        · cases h
  · cases h
end
end Go.Vi
