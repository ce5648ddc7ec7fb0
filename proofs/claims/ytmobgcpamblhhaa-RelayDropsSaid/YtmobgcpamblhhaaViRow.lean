/- From a row's reading of an argument to an abstract value. -/
import Derived.Test.YtmobgcpamblhhaaViCon
import Derived.WalkKit
import Derived.ProofKit
import Derived.OpenShut
import Derived.ShutString
import Derived.ChangeOld
import Derived.Below
import Derived.SizedLaws
import Derived.ChangeArms
set_option linter.unusedVariables false
set_option linter.unusedSimpArgs false
namespace Go.Vi

def contig (te : TE) : List (Nat × TypeId) → Nat → Nat → Bool
  | [], off, tot => decide (off = tot)
  | p :: ps, off, tot => match te p.2 with
    | some i => decide (p.1 = off) && contig te ps (off + i.size) tot
    | none => false
def shapeT (te : TE) : Nat → TypeId → Bool
  | 0, _ => false
  | n + 1, t => match te t with
    | some i => match i.desc with
      | .bool => decide (i.size = 1)
      | .int _ => decide (i.size = 1)
      | .string => decide (i.size = 1)
      | .slice e => decide (i.size = 1) && (match te e with | some ei => decide (0 < ei.size) && shapeT te n e | none => false)
      | .struct fs => contig te fs 0 i.size && fs.all fun p => shapeT te n p.2
      | _ => false
    | none => false
/-- The cells of a struct, field by field. -/
def TyS (R : TypeId → List AV → Prop) : List (Nat × TypeId) → List AV → Prop
  | [], xs => xs = []
  | p :: ps, xs => ∃ ys zs, xs = ys ++ zs ∧ R p.2 ys ∧ TyS R ps zs
/-- Cells that read as data of a type. -/
def TyC (te : TE) : Nat → TypeId → List AV → Prop
  | 0, _, _ => False
  | n + 1, t, xs => match te t with
    | some i => match i.desc with
      | .bool => ∃ b, xs = [.bool b]
      | .int k => ∃ m, xs = [.int k m] ∧ (Lit.int k m).wf = true
      | .string => ∃ s, xs = [.str s] ∧ s.size ≤ 140737488351232
      | .slice e => match te e with
        | some ei => ∃ rows, xs = [.sl ei.size false rows] ∧ rows.length * ei.bytes ≤ 140737488351232 ∧ ∀ r ∈ rows, TyC te n e r
        | none => False
      | .struct fs => TyS (TyC te n) fs xs
      | _ => False
    | none => False

def DeepL (w : World) (ok : CellOk) (xs : List AV) (cs : List Value) : Prop := xs.length = cs.length ∧ ∀ (j : Nat) (x : AV) (v : Value), xs[j]? = some x → cs[j]? = some v → VDeep w ok x v ∧ x.one = true

section
variable {H : Type} {enc : TypeId × Value → H} {P : Program} {w : World} {base : Nat} {spare : Nat → Bool} {held : Bool} {te : TE} {ok : CellOk}

theorem DeepL.one {x : AV} {v : Value} (h : VDeep w ok x v) (h1 : x.one = true) : DeepL w ok [x] [v] := by
  refine ⟨rfl, fun j y u hy hu => ?_⟩
  cases j with
  | zero => simp at hy hu; subst hy hu; exact ⟨h, h1⟩
  | succ j => simp at hy
theorem DeepL.append {xs ys : List AV} {cs ds : List Value} (h : DeepL w ok xs cs) (k : DeepL w ok ys ds) : DeepL w ok (xs ++ ys) (cs ++ ds) := by
  refine ⟨by simp [h.1, k.1], fun j y u hy hu => ?_⟩
  rcases Nat.lt_or_ge j xs.length with hlt | hge
  · rw [List.getElem?_append_left hlt] at hy
    rw [List.getElem?_append_left (by rw [← h.1]; exact hlt)] at hu
    exact h.2 j y u hy hu
  · rw [List.getElem?_append_right hge] at hy
    rw [List.getElem?_append_right (by rw [← h.1]; exact hge), ← h.1] at hu
    exact k.2 _ y u hy hu

theorem TyOK.cells {t : TypeId} {i : TyI} (h : TyOK P t i) : P.cellsOf t = i.size := by
  obtain ⟨inf, h1, h2, _⟩ := h.inf
  simp [Program.cellsOf, h1, h2]
theorem TyOK.bytesOf {t : TypeId} {i : TyI} (h : TyOK P t i) : P.bytesOf t = i.bytes := by
  obtain ⟨inf, h1, _, h2, _⟩ := h.inf
  simp [Program.bytesOf, h1, h2]

theorem mem_weightsAll {e : TypeId} {d : DataW H} : ∀ {l : List (DataW H)}, d ∈ l → ∀ m ∈ d.weights P e, m ∈ DataW.weightsAll P e l
  | [], h, _, _ => by simp at h
  | x :: l, h, m, hm => by
    simp only [DataW.weightsAll, List.mem_append]
    rcases List.mem_cons.1 h with rfl | h
    · exact .inl hm
    · exact .inr (mem_weightsAll h m hm)

/-- The rows of a slice, each opened. -/
theorem rows_exist {α β : Type} {R : α → β → Prop} : ∀ {css : List β}, (∀ cs ∈ css, ∃ xs, R xs cs) → ∃ rows : List α, rows.length = css.length ∧ ∀ (i : Nat) (r : α) (cs : β), rows[i]? = some r → css[i]? = some cs → R r cs
  | [], _ => ⟨[], rfl, fun i r cs h => by simp at h⟩
  | c :: css, h => by
    obtain ⟨x, hx⟩ := h c (by simp)
    obtain ⟨rows, h1, h2⟩ := rows_exist (css := css) fun cs hcs => h cs (by simp [hcs])
    refine ⟨x :: rows, by simp [h1], fun i r cs hr hc => ?_⟩
    cases i with
    | zero => simp at hr hc; subst hr hc; exact hx
    | succ i => simp at hr hc; exact h2 i r cs hr hc

theorem fields_av {R : TypeId → List AV → Prop} {wt : TypeId → DataW H → Prop} {rd : TypeId → List Value → Option (DataW H × List MemPlace)} (hte : TEOK P te)
    (hR : ∀ t cs x, rd t cs = some x → wt t x.1 → (∃ n, shapeT te n t = true) → ∃ xs, DeepL w ok xs cs ∧ R t xs) {cs : List Value} {tot : Nat} (hcs : cs.length = tot) :
    ∀ {ps : List (Nat × TypeId)} {fl : List Field} {ys : List (DataW H × List MemPlace)} {off : Nat}, fieldsOk ps fl = true → contig te ps off tot = true → (∀ p ∈ ps, ∃ n, shapeT te n p.2 = true) →
      ys.length = fl.length → (∀ (i : Nat) (f : Field) (y : DataW H × List MemPlace), fl[i]? = some f → ys[i]? = some y → rd f.type ((cs.drop f.offset).take (P.cellsOf f.type)) = some y ∧ wt f.type y.1) →
      off ≤ tot → ∃ xs, DeepL w ok xs (cs.drop off) ∧ TyS R ps xs
  | [], [], ys, off, _, hc, _, _, _, _ => by
    simp [contig] at hc
    subst hc
    exact ⟨[], ⟨by simp [hcs], fun j x v hx => by simp at hx⟩, rfl⟩
  | p :: ps, f :: fl, [], off, _, _, _, hl, _, _ => by simp at hl
  | p :: ps, f :: fl, y :: ys, off, hf, hc, hs, hl, hrd, hle => by
    simp only [fieldsOk, Bool.and_eq_true, decide_eq_true_eq] at hf
    obtain ⟨⟨⟨h1, h2⟩, h3⟩, h4⟩ := hf
    simp only [contig] at hc
    cases hi : te p.2 with
    | none => simp [hi] at hc
    | some i =>
      simp only [hi, Bool.and_eq_true, decide_eq_true_eq] at hc
      obtain ⟨hc1, hc2⟩ := hc
      obtain ⟨hy, hw⟩ := hrd 0 f y rfl rfl
      rw [h2] at hy hw
      obtain ⟨xs, hx1, hx2⟩ := hR _ _ _ hy hw (hs p (by simp))
      have hsz : P.cellsOf p.2 = i.size := (hte _ _ hi).cells
      have hle2 : off + i.size ≤ tot := by
        clear hrd hs hl h4 hy hw hx1 hx2
        have : ∀ (ps : List (Nat × TypeId)) (o : Nat), contig te ps o tot = true → o ≤ tot := by
          intro ps
          induction ps with
          | nil => intro o h; simp [contig] at h; omega
          | cons q qs ih =>
            intro o h
            simp only [contig] at h
            cases hq : te q.2 with
            | none => simp [hq] at h
            | some j =>
              simp only [hq, Bool.and_eq_true, decide_eq_true_eq] at h
              have := ih _ h.2
              omega
        exact this _ _ hc2
      obtain ⟨zs, hz1, hz2⟩ := fields_av hte hR hcs (ps := ps) (fl := fl) (ys := ys) (off := off + i.size) h4 hc2 (fun q hq => hs q (by simp [hq])) (by simpa using hl)
        (fun k g z hg hz => hrd (k + 1) g z (by simpa using hg) (by simpa using hz)) hle2
      refine ⟨xs ++ zs, ?_, xs, zs, rfl, hx2, hz2⟩
      have e : cs.drop off = (cs.drop f.offset).take (P.cellsOf p.2) ++ cs.drop (off + i.size) := by
        rw [h1, hc1, hsz, ← List.drop_drop, List.take_append_drop]
      rw [e]
      exact hx1.append hz1
  | [], _ :: _, _, _, hf, _, _, _, _, _ => by simp [fieldsOk] at hf
  | _ :: _, [], _, _, hf, _, _, _, _, _ => by simp [fieldsOk] at hf

theorem open_av (hte : TEOK P te) (hok : ∀ b o, b < w.heap.size → ok b o) : ∀ (n : Nat) (t : TypeId) (fuel : Nat) (cs : List Value) (x : DataW H × List MemPlace), shapeT te n t = true →
    DataW.trod enc P w base spare held fuel t cs = some x → (∀ m ∈ x.1.weights P t, m ≤ reachBytes) → ∃ xs, DeepL w ok xs cs ∧ TyC te n t xs := by
  intro n
  induction n with
  | zero => intro t fuel cs x h; simp [shapeT] at h
  | succ n ih =>
    intro t fuel cs x hs hx hwt
    simp only [shapeT] at hs
    cases hi : te t with
    | none => simp [hi] at hs
    | some i =>
      simp only [hi] at hs
      have hT := hte _ _ hi
      cases hd : i.desc with
      | bool =>
        obtain ⟨b, rfl, _⟩ := DataW.trod_bool (hT.bool hd) hx
        exact ⟨[.bool b], DeepL.one (.bool b) rfl, by simp [TyC, hi, hd]⟩
      | int k =>
        obtain ⟨m, rfl, _, hw⟩ := DataW.trod_int (hT.int hd) hx
        exact ⟨[.int k m], DeepL.one (.int k m) rfl, by simp only [TyC, hi, hd]; exact ⟨m, rfl, hw⟩⟩
      | string =>
        obtain ⟨s, rfl, rfl, hm⟩ := DataW.trod_string (hT.string hd) hx
        refine ⟨[.str s], DeepL.one (.str s) rfl, ?_⟩
        have := hwt s.size (by simp [DataW.weights])
        simp only [TyC, hi, hd]
        exact ⟨s, rfl, by simpa [reachBytes] using this⟩
      | slice e =>
        simp only [hd] at hs
        cases hei : te e with
        | none => simp [hei] at hs
        | some ei =>
          simp only [hei, Bool.and_eq_true, decide_eq_true_eq] at hs
          obtain ⟨hs1, hs2, hs3⟩ := hs
          have hE := hte _ _ hei
          have hce : P.cellsOf e = ei.size := hE.cells
          rcases DataW.trod_slice (hT.slice hd) hx with ⟨rfl, _⟩ | ⟨a, len, cap, elems, rest, m, _, rfl, rfl, hb, hl, hm, hlen, hel, _, _⟩
          · exact ⟨[.sl ei.size false []], DeepL.one (.emp _ _ none 0 fun _ => rfl) rfl, by simp only [TyC, hi, hd, hei]; exact ⟨[], rfl, by simp, fun r hr => by simp at hr⟩⟩
          · have hwt0 : (elems.length + rest.length) * P.bytesOf e ≤ reachBytes := hwt _ (by simp [DataW.weights, hT.slice hd])
            have each : ∀ i, i < len → ∃ xs cs, w.cells? base (a.add (i * P.cellsOf e)) (P.cellsOf e) = some cs ∧ DeepL w ok xs cs ∧ TyC te n e xs := by
              intro i hi'
              have h1 := hel i hi'
              obtain ⟨y, hy⟩ : ∃ y, elems[i]? = some y := ⟨elems[i]'(by omega), List.getElem?_eq_getElem (by omega)⟩
              rw [hy, Option.bind_eq_some_iff] at h1
              obtain ⟨cs, hcs, hty⟩ := h1
              obtain ⟨xs, hx1, hx2⟩ := ih e m cs y hs3 hty fun z hz => hwt z (by
                simp only [DataW.weights, hT.slice hd, List.mem_cons, List.mem_append]
                exact .inr (.inl (mem_weightsAll (List.mem_map.2 ⟨y, List.mem_of_getElem? hy, rfl⟩) z hz)))
              exact ⟨xs, cs, hcs, hx1, hx2⟩
            obtain ⟨rows, hr1, hr2⟩ := rows_exist (R := fun (xs : List AV) (i : Nat) => ∃ cs', w.cells? base (a.add (i * P.cellsOf e)) (P.cellsOf e) = some cs' ∧ DeepL w ok xs cs' ∧ TyC te n e xs) (css := List.range len) (fun i hi' => each i (by simpa using hi'))
            have hrl : rows.length = len := by simpa using hr1
            have hrow : ∀ (i : Nat) (r : List AV), rows[i]? = some r → ∃ cs', w.cells? base (a.add (i * ei.size)) ei.size = some cs' ∧ DeepL w ok r cs' ∧ TyC te n e r := by
              intro i r hr
              have hi' : i < len := by rw [← hrl]; exact (List.getElem?_eq_some_iff.1 hr).1
              have := hr2 i r i hr (by simp [hi'])
              rw [hce] at this
              exact this
            refine ⟨[.sl ei.size false rows], DeepL.one ?_ rfl, ?_⟩
            · by_cases h0 : len = 0
              · have : rows = [] := List.eq_nil_of_length_eq_zero (by omega)
                subst this h0
                exact .emp _ _ _ _ (by simp)
              · have hspot : a.spot = none := by
                  obtain ⟨r0, hr0⟩ : ∃ r, rows[0]? = some r := ⟨rows[0]'(by omega), List.getElem?_eq_getElem (by omega)⟩
                  obtain ⟨cs', h1, h2, h3⟩ := hrow 0 r0 hr0
                  obtain ⟨_, h4, h5⟩ := World.cells?_some h1
                  have h6 := h5 0 hs2
                  obtain ⟨c, hc⟩ : ∃ c, cs'[0]? = some c := ⟨cs'[0]'(by omega), List.getElem?_eq_getElem (by omega)⟩
                  rw [hc] at h6
                  simp only [Nat.zero_mul, Addr.add, if_true] at h6
                  unfold World.cell? at h6
                  split at h6
                  · split at h6
                    · cases h6
                    · rename_i hh
                      simpa using hh
                  · cases h6
                obtain ⟨b, o, sp⟩ := a
                simp only at hspot
                subst hspot
                have cellAt : ∀ (i j : Nat) (es : List AV) (y : AV), rows[i]? = some es → es[j]? = some y → ∃ v, w.cell? ⟨b, o + i * ei.size + j, none⟩ = some v ∧ VDeep w ok y v := by
                  intro i j es y hes hy
                  obtain ⟨cs', h1, h2, h3⟩ := hrow i es hes
                  obtain ⟨_, h4, h5⟩ := World.cells?_some h1
                  have hj : j < ei.size := by have := (List.getElem?_eq_some_iff.1 hy).1; rw [h2.1, h4] at this; exact this
                  have h6 := h5 j hj
                  obtain ⟨c, hc⟩ : ∃ c, cs'[j]? = some c := ⟨cs'[j]'(by omega), List.getElem?_eq_getElem (by omega)⟩
                  rw [hc] at h6
                  refine ⟨c, ?_, (h2.2 j y c hy hc).1⟩
                  have ea : ((⟨b, o, none⟩ : Addr).add (i * ei.size)).add j = ⟨b, o + i * ei.size + j, none⟩ := by
                    unfold Addr.add
                    split <;> split <;> simp_all
                  rw [ea] at h6
                  exact h6
                have := VDeep.sl (w := w) (ok := ok) ei.size false rows b o cap (fun i j => (w.cell? ⟨b, o + i * ei.size + j, none⟩).getD undef) (by omega) (by simp) (fun es hes => by
                    obtain ⟨i, hi'⟩ := List.getElem?_of_mem hes
                    obtain ⟨cs', h1, h2, h3⟩ := hrow i es hi'
                    obtain ⟨_, h4, h5⟩ := World.cells?_some h1
                    refine ⟨by rw [h2.1, h4], fun y hy => ?_⟩
                    obtain ⟨j, hj⟩ := List.getElem?_of_mem hy
                    have hjl := (List.getElem?_eq_some_iff.1 hj).1
                    obtain ⟨c, hc⟩ : ∃ c, cs'[j]? = some c := ⟨cs'[j]'(by have := h2.1; omega), List.getElem?_eq_getElem (by have := h2.1; omega)⟩
                    exact (h2.2 j y c hj hc).2)
                  (fun i j es y hes hy => by
                    obtain ⟨v, hv, _⟩ := cellAt i j es y hes hy
                    exact ⟨by rw [hv]; rfl, hok _ _ (lt_of_cell hv)⟩)
                  (fun i j es y hes hy => by
                    obtain ⟨v, hv, hd⟩ := cellAt i j es y hes hy
                    rw [hv]
                    exact hd)
                rw [hrl] at this
                exact this
            · simp only [TyC, hi, hd, hei]
              refine ⟨rows, rfl, ?_, fun r hr => ?_⟩
              · rw [hE.bytesOf] at hwt0
                have : rows.length * ei.bytes ≤ (elems.length + rest.length) * ei.bytes := Nat.mul_le_mul_right _ (by omega)
                unfold reachBytes at hwt0
                omega
              · obtain ⟨i, hi'⟩ := List.getElem?_of_mem hr
                obtain ⟨_, _, _, h3⟩ := hrow i r hi'
                exact h3
      | struct fs =>
        simp only [hd, Bool.and_eq_true] at hs
        obtain ⟨hs1, hs2⟩ := hs
        obtain ⟨fields, hf1, hf2, _, _⟩ := hT.struct hd
        obtain ⟨ys, m, _, rfl, hcl, hyl, hys⟩ := DataW.trod_struct hf1 hx
        rw [hT.cells] at hcl
        obtain ⟨xs, h1, h2⟩ := fields_av (w := w) (ok := ok) (te := te) (P := P) (R := TyC te n) (wt := fun t d => ∀ z ∈ d.weights P t, z ≤ reachBytes) (rd := fun t cs => if shapeT te n t = true then DataW.trod enc P w base spare held m t cs else none) hte
          (fun t cs x h1 h2 _ => by
            split at h1
            · rename_i h3
              exact ih t m cs x h3 h1 h2
            · cases h1) (cs := cs) (tot := i.size) hcl (ps := fs) (fl := fields.toList) (ys := ys) (off := 0) hf2 hs1
          (fun p hp => ⟨n, by simpa using List.all_eq_true.1 hs2 p hp⟩) (by simpa using hyl)
          (fun k f y hk hy => by
            obtain ⟨hfl, hget⟩ := fieldsOk_get hf2
            have hkl : k < fs.length := by rw [hfl]; exact (List.getElem?_eq_some_iff.1 hk).1
            obtain ⟨f', hf', ho, hty, _⟩ := hget k (fs[k]'hkl) (List.getElem?_eq_getElem hkl)
            rw [hk] at hf'
            cases hf'
            have hsh : shapeT te n f.type = true := by
              rw [hty]
              exact List.all_eq_true.1 hs2 _ (List.getElem_mem hkl)
            rw [if_pos hsh]
            refine ⟨by rw [hys k f (by simpa using hk)]; exact hy, fun z hz => hwt z ?_⟩
            simp only [DataW.weights, hf1]
            exact DataW.weights_mem_each (j := k) (t := f.type) (d := y.1) (by simp [hk]) (by simp [hy]) z hz) (Nat.zero_le _)
        refine ⟨xs, by simpa using h1, ?_⟩
        simp only [TyC, hi, hd]
        exact h2
      | _ => simp [hd] at hs

/-- A value that reads as data of a type. -/
def TyA (te : TE) (n : Nat) (t : TypeId) (x : AV) : Prop := match te t with
  | some i => match i.desc with
    | .struct _ => ∃ xs, x = .agg xs ∧ TyC te n t xs
    | _ => TyC te n t [x]
  | none => False
theorem open_arg (hte : TEOK P te) (hok : ∀ b o, b < w.heap.size → ok b o) {r : _root_.Go.Reach} {b0 : Nat} {n : Nat} {t : TypeId} {v : Value} {d : DataW H} {ps : List MemPlace} (hs : shapeT te n t = true) (hval : Value.okWide P w r b0 t v)
    (hd : DataW.Trod enc P w base spare held t v d ps) (hw : ∀ m ∈ d.weights P t, m ≤ reachBytes) : ∃ x, VDeep w ok x v ∧ TyA te n t x := by
  obtain ⟨fuel, hf⟩ := hd
  obtain ⟨xs, h1, h2⟩ := open_av hte hok n t fuel _ _ hs hf hw
  cases n with
  | zero => simp [shapeT] at hs
  | succ n =>
    simp only [shapeT] at hs
    cases hi : te t with
    | none => simp [hi] at hs
    | some i =>
      simp only [hi] at hs
      have hT := hte _ _ hi
      have single : v.cells.toList = [v] → (∀ fs, i.desc ≠ .struct fs) → ∃ x, VDeep w ok x v ∧ TyA te (n + 1) t x := by
        intro hc hns
        rw [hc] at h1
        match xs, h1 with
        | [x], h1 =>
          refine ⟨x, (h1.2 0 x v rfl rfl).1, ?_⟩
          simp only [TyA, hi]
          cases hd : i.desc with
          | struct fs => exact absurd hd (hns fs)
          | _ => exact h2
        | [], h1 => simp [DeepL] at h1
        | _ :: _ :: _, h1 => simp [DeepL] at h1
      cases hd : i.desc with
      | bool =>
        have hu := hT.bool hd
        simp only [Value.okWide, hu, Cell.okWide] at hval
        refine single ?_ (by simp [hd])
        cases v <;> simp_all [Cell.ok, Value.cells]
      | int k =>
        have hu := hT.int hd
        simp only [Value.okWide, hu, Cell.okWide] at hval
        refine single ?_ (by simp [hd])
        cases v <;> simp_all [Cell.ok, Value.cells]
      | string =>
        have hu := hT.string hd
        simp only [Value.okWide, hu, Cell.okWide] at hval
        refine single ?_ (by simp [hd])
        cases v <;> simp_all [Cell.ok, Value.cells]
      | slice e =>
        have hu := hT.slice hd
        simp only [Value.okWide, hu, Cell.okWide] at hval
        refine single ?_ (by simp [hd])
        cases v <;> simp_all [Cell.ok, Value.cells]
      | struct fs =>
        obtain ⟨fields, hu, _⟩ := hT.struct hd
        simp only [Value.okWide, hu] at hval
        obtain ⟨cs, rfl, _, _⟩ := hval
        refine ⟨.agg xs, .agg xs cs ?_ fun j x v hx hv => (h1.2 j x v hx (by simpa [Value.cells] using hv)).1, ?_⟩
        · have := h1.1
          simpa [Value.cells] using this.symm
        · simp only [TyA, hi, hd]
          exact ⟨xs, rfl, h2⟩
      | _ => simp [hd] at hs

def All2 (R : AV → Value → Prop) : List AV → List Value → Prop
  | [], [] => True
  | a :: as, v :: vs => R a v ∧ All2 R as vs
  | _, _ => False
theorem All2.get {R : AV → Value → Prop} : ∀ {as : List AV} {vs : List Value}, All2 R as vs → vs.length = as.length ∧ ∀ (j : Nat) (x : AV) (v : Value), as[j]? = some x → vs[j]? = some v → R x v
  | [], [], _ => ⟨rfl, fun j x v hx => by simp at hx⟩
  | a :: as, v :: vs, h => by
    obtain ⟨h1, h2⟩ := All2.get h.2
    refine ⟨by simp [h1], fun j x u hx hu => ?_⟩
    cases j with
    | zero => simp at hx hu; subst hx hu; exact h.1
    | succ j => simp at hx hu; exact h2 j x u hx hu
  | [], _ :: _, h => by simp [All2] at h
  | _ :: _, [], h => by simp [All2] at h
theorem Args.of {R : AV → Value → Prop} {xs : List AV} {vs : List Value} (h : All2 R xs vs) : Args R xs vs.toArray :=
  ⟨by simpa using h.get.1, fun j x v hx hv => h.get.2 j x v hx (by simpa using hv)⟩
theorem law_walk {f : FuncId} {F : List AV → Option AV} (hp : PureC P f F) {args : List AV} {vs : Array Value} (hA : Args (VDeep w fun b _ => b < w.heap.size) args vs) (hF : F args = some (.bool true)) :
    Calls P f vs w fun e w' => e = .returned (.bool true) ∧ Go.RowKit.Below w.heap.size w w' := by
  refine (hp args _ hF w _ vs (fun b o h => h) hA).mono fun e w' ⟨rv, he, hf, hr⟩ => ?_
  cases hr with
  | bool b => exact ⟨he, ⟨hf.os, hf.tape, hf.output, hf.size, fun k hk => hf.heap k hk id⟩⟩
end
end Go.Vi
