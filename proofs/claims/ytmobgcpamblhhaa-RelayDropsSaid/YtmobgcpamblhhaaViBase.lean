/- Abstract values, owned objects, and what they say of the machine's values and memory. -/
import Derived.Orders
import Derived.Laws.Cells
import Derived.Laws.World
import Derived.Laws.StructEq
import Derived.Laws.Rows
import Derived.Laws.NewBlocks
import Derived.KernelRfl
set_option linter.unusedVariables false
set_option linter.unusedSimpArgs false
namespace Go.Vi

inductive AV where
  | junk
  | bool (b : Bool)
  | int (k : IntKind) (n : Int)
  | str (s : ByteArray)
  | ptr (o : Option (Nat × Nat))
  | aptr (o sz i j : Nat)
  | ep (cells : List AV) (j : Nat)
  | sl (sz : Nat) (full : Bool) (xs : List (List AV))
  | msl (o sz off len : Nat)
  | mp (o : Option Nat)
  | mv (es : List (AV × AV))
  | fn (f : FuncId) (cap : List AV)
  | nilfn
  | nilif
  | agg (cells : List AV)
  | tup (vs : List AV)
  deriving Inhabited

/-- The cells of a value. -/
def AV.flat : AV → List AV
  | .agg cs => cs
  | v => [v]

/-- Is it the value of one cell? -/
def AV.one : AV → Bool
  | .junk | .agg _ | .tup _ => false
  | _ => true

inductive LObj where
  | cells (cs : List AV)
  | arr (sz : Nat) (xs : List (List AV))
  | frz (sz : Nat) (xs : List (List AV))
  | map (es : List (AV × AV))
  | gone
  deriving Inhabited

def LObj.excl : LObj → Bool
  | .cells _ | .arr _ _ | .map _ => true
  | _ => false

/-- A row of no element: it need lie nowhere. -/
def LObj.void : LObj → Bool
  | .arr _ [] | .frz _ [] => true
  | _ => false

abbrev CellOk := Nat → Nat → Prop

/-- The cells of one element. -/
def Fit (sz : Nat) (es : List AV) : Prop := es.length = sz ∧ ∀ x ∈ es, x.one = true

/-- A value that leads to nothing that is owned: what it leads to are cells that 'ok' names. -/
inductive VDeep (w : World) (ok : CellOk) : AV → Value → Prop
  | bool (b) : VDeep w ok (.bool b) (.bool b)
  | int (k n) : VDeep w ok (.int k n) (.int k n)
  | str (s) : VDeep w ok (.str s) (.string s)
  | ptr : VDeep w ok (.ptr none) (.pointer none)
  | mp : VDeep w ok (.mp none) (.map none)
  | nilfn : VDeep w ok .nilfn .nilFunc
  | nilif : VDeep w ok .nilif .nilIface
  | fn (f cap) (vs : Array Value) : vs.size = cap.length → (∀ (j : Nat) (x : AV) (v : Value), cap[j]? = some x → vs[j]? = some v → VDeep w ok x v) → VDeep w ok (.fn f cap) (.func (.func f) #[] vs)
  | agg (cs) (vs : Array Value) : vs.size = cs.length → (∀ (j : Nat) (x : AV) (v : Value), cs[j]? = some x → vs[j]? = some v → VDeep w ok x v) → VDeep w ok (.agg cs) (.agg vs)
  | tup (cs) (vs : Array Value) : vs.size = cs.length → (∀ (j : Nat) (x : AV) (v : Value), cs[j]? = some x → vs[j]? = some v → VDeep w ok x v) → VDeep w ok (.tup cs) (.tuple vs)
  | emp (sz full a c) : (full = true → c = 0) → VDeep w ok (.sl sz full []) (.slice a 0 c)
  | sl (sz full xs b o c) (val : Nat → Nat → Value) : xs.length ≤ c → (full = true → c = xs.length) → (∀ es ∈ xs, Fit sz es) →
      (∀ (i j : Nat) (es : List AV) (x : AV), xs[i]? = some es → es[j]? = some x → w.cell? ⟨b, o + i * sz + j, none⟩ = some (val i j) ∧ ok b (o + i * sz + j)) →
      (∀ (i j : Nat) (es : List AV) (x : AV), xs[i]? = some es → es[j]? = some x → VDeep w ok x (val i j)) → VDeep w ok (.sl sz full xs) (.slice (some ⟨b, o, none⟩) xs.length c)
  | mv (es b) (entries : Array MapEntry) (clock) : w.heap[b]? = some (.map entries clock) → ok b 0 → entries.size = es.length →
      (∀ (i : Nat) (x : AV × AV) (e : MapEntry), es[i]? = some x → entries[i]? = some e → VDeep w ok x.1 e.key) → (∀ (i : Nat) (x : AV × AV) (e : MapEntry), es[i]? = some x → entries[i]? = some e → VDeep w ok x.2 e.val) →
      VDeep w ok (.mv es) (.map (some b))

abbrev Loc := Nat → Option Nat

inductive VRel (w : World) (ok : CellOk) (loc : Loc) : AV → Value → Prop
  | junk (v) : VRel w ok loc .junk v
  | deep (a v) : VDeep w ok a v → VRel w ok loc a v
  | ptr (o off b) : loc o = some b → VRel w ok loc (.ptr (some (o, off))) (.pointer (some ⟨b, off, none⟩))
  | aptr (o sz i j b) : loc o = some b → VRel w ok loc (.aptr o sz i j) (.pointer (some ⟨b, i * sz + j, none⟩))
  | ep (cells j b o) (val : Nat → Value) : (∀ (i : Nat) (x : AV), cells[i]? = some x → w.cell? ⟨b, o + i, none⟩ = some (val i) ∧ ok b (o + i)) → (∀ (i : Nat) (x : AV), cells[i]? = some x → VDeep w ok x (val i)) →
      VRel w ok loc (.ep cells j) (.pointer (some ⟨b, o + j, none⟩))
  | msl (o sz off len b c e n) : loc o = some b → w.shape? b = some (e, n) → (off + c) * sz ≤ n → len ≤ c → VRel w ok loc (.msl o sz off len) (.slice (some ⟨b, off * sz, none⟩) len c)
  | mslE (o sz off a) : VRel w ok loc (.msl o sz off 0) (.slice a 0 0)
  | mp (o b) : loc o = some b → VRel w ok loc (.mp (some o)) (.map (some b))
  | fn (f cap) (vs : Array Value) : vs.size = cap.length → (∀ (j : Nat) (x : AV) (v : Value), cap[j]? = some x → vs[j]? = some v → VRel w ok loc x v) → VRel w ok loc (.fn f cap) (.func (.func f) #[] vs)
  | agg (cs) (vs : Array Value) : vs.size = cs.length → (∀ (j : Nat) (x : AV) (v : Value), cs[j]? = some x → vs[j]? = some v → VRel w ok loc x v) → VRel w ok loc (.agg cs) (.agg vs)
  | tup (cs) (vs : Array Value) : vs.size = cs.length → (∀ (j : Nat) (x : AV) (v : Value), cs[j]? = some x → vs[j]? = some v → VRel w ok loc x v) → VRel w ok loc (.tup cs) (.tuple vs)

/-- What keeps deep values as they were. -/
structure Keep (w : World) (ok : CellOk) (w' : World) (ok' : CellOk) : Prop where
  cell : ∀ b o v, ok b o → w.cell? ⟨b, o, none⟩ = some v → w'.cell? ⟨b, o, none⟩ = some v
  map : ∀ b es c, ok b 0 → w.heap[b]? = some (.map es c) → w'.heap[b]? = some (.map es c)
  ok : ∀ b o, ok b o → ok' b o

theorem VDeep.mono {w w' : World} {ok ok' : CellOk} (h : Keep w ok w' ok') {a : AV} {v : Value} (r : VDeep w ok a v) : VDeep w' ok' a v := by
  induction r with
  | bool b => exact .bool b
  | int k n => exact .int k n
  | str s => exact .str s
  | ptr => exact .ptr
  | mp => exact .mp
  | nilfn => exact .nilfn
  | nilif => exact .nilif
  | fn f cap vs hl _ ih => exact .fn f cap vs hl ih
  | agg cs vs hl _ ih => exact .agg cs vs hl ih
  | tup cs vs hl _ ih => exact .tup cs vs hl ih
  | emp sz full a c hc => exact .emp sz full a c hc
  | sl sz full xs b o c val h1 h2 h3 h4 _ ih =>
    exact .sl sz full xs b o c val h1 h2 h3 (fun i j es x hi hj => ⟨h.cell _ _ _ (h4 i j es x hi hj).2 (h4 i j es x hi hj).1, h.ok _ _ (h4 i j es x hi hj).2⟩) ih
  | mv es b entries clock hb hok hl _ _ ih1 ih2 => exact .mv es b entries clock (h.map _ _ _ hok hb) (h.ok _ _ hok) hl ih1 ih2

structure Ext (w : World) (ok : CellOk) (loc : Loc) (w' : World) (ok' : CellOk) (loc' : Loc) : Prop where
  keep : Keep w ok w' ok'
  loc : ∀ i b, loc i = some b → loc' i = some b
  shape : ∀ b x, w.shape? b = some x → w'.shape? b = some x

theorem VRel.mono {w w' : World} {ok ok' : CellOk} {loc loc' : Loc} (h : Ext w ok loc w' ok' loc') {a : AV} {v : Value} (r : VRel w ok loc a v) : VRel w' ok' loc' a v := by
  induction r with
  | junk v => exact .junk v
  | deep a v hd => exact .deep a v (hd.mono h.keep)
  | ptr o off b hb => exact .ptr o off b (h.loc _ _ hb)
  | aptr o sz i j b hb => exact .aptr o sz i j b (h.loc _ _ hb)
  | ep cells j b o val h1 h2 => exact .ep cells j b o val (fun i x hi => ⟨h.keep.cell _ _ _ (h1 i x hi).2 (h1 i x hi).1, h.keep.ok _ _ (h1 i x hi).2⟩) (fun i x hi => (h2 i x hi).mono h.keep)
  | msl o sz off len b c e n hb hs h1 h2 => exact .msl o sz off len b c e n (h.loc _ _ hb) (h.shape _ _ hs) h1 h2
  | mslE o sz off a => exact .mslE o sz off a
  | mp o b hb => exact .mp o b (h.loc _ _ hb)
  | fn f cap vs hl _ ih => exact .fn f cap vs hl ih
  | agg cs vs hl _ ih => exact .agg cs vs hl ih
  | tup cs vs hl _ ih => exact .tup cs vs hl ih

theorem Keep.refl (w : World) (ok : CellOk) : Keep w ok w ok := ⟨fun _ _ _ _ h => h, fun _ _ _ _ h => h, fun _ _ h => h⟩
theorem Ext.refl (w : World) (ok : CellOk) (loc : Loc) : Ext w ok loc w ok loc := ⟨Keep.refl _ _, fun _ _ h => h, fun _ _ h => h⟩
theorem Keep.trans {w1 w2 w3 : World} {o1 o2 o3 : CellOk} (h : Keep w1 o1 w2 o2) (k : Keep w2 o2 w3 o3) : Keep w1 o1 w3 o3 :=
  ⟨fun b o v ho hc => k.cell b o v (h.ok _ _ ho) (h.cell b o v ho hc), fun b es c ho hc => k.map b es c (h.ok _ _ ho) (h.map b es c ho hc), fun b o ho => k.ok _ _ (h.ok _ _ ho)⟩
theorem Ext.trans {w1 w2 w3 : World} {o1 o2 o3 : CellOk} {l1 l2 l3 : Loc} (h : Ext w1 o1 l1 w2 o2 l2) (k : Ext w2 o2 l2 w3 o3 l3) : Ext w1 o1 l1 w3 o3 l3 :=
  ⟨h.keep.trans k.keep, fun i b hi => k.loc _ _ (h.loc _ _ hi), fun b x hx => k.shape _ _ (h.shape _ _ hx)⟩

/-- An owned object, in memory. -/
inductive ORel (w : World) (ok : CellOk) (loc : Loc) : LObj → Nat → Prop
  | cells (cs b) (vs : Array Value) (ty) : w.heap[b]? = some (.cells vs ty (0, 0)) → vs.size = cs.length →
      (∀ (j : Nat) (x : AV) (v : Value), cs[j]? = some x → vs[j]? = some v → VRel w ok loc x v) → ORel w ok loc (.cells cs) b
  | arr (sz xs b) (vs : Array Value) (ty) : w.heap[b]? = some (.cells vs ty (0, 0)) → (∀ es ∈ xs, Fit sz es) → xs.length * sz ≤ vs.size →
      (∀ (i j : Nat) (es : List AV) (x : AV) (v : Value), xs[i]? = some es → es[j]? = some x → vs[i * sz + j]? = some v → VDeep w ok x v) → ORel w ok loc (.arr sz xs) b
  | frz (sz xs b) (vs : Array Value) (ty) (fr) : w.heap[b]? = some (.cells vs ty fr) → (∀ es ∈ xs, Fit sz es) → xs.length * sz ≤ vs.size →
      (∀ k, k < xs.length * sz → ok b k) →
      (∀ (i j : Nat) (es : List AV) (x : AV) (v : Value), xs[i]? = some es → es[j]? = some x → vs[i * sz + j]? = some v → VDeep w ok x v) → ORel w ok loc (.frz sz xs) b
  | map (es b) (entries : Array MapEntry) (clock) : w.heap[b]? = some (.map entries clock) → entries.size = es.length →
      (∀ (i : Nat) (x : AV × AV) (e : MapEntry), es[i]? = some x → entries[i]? = some e → VDeep w ok x.1 e.key) →
      (∀ (i : Nat) (x : AV × AV) (e : MapEntry), es[i]? = some x → entries[i]? = some e → VDeep w ok x.2 e.val) → ORel w ok loc (.map es) b

structure Own (w : World) (ok : CellOk) (loc : Loc) (σ : List LObj) : Prop where
  rel : ∀ i o, σ[i]? = some o → o ≠ .gone → (o.void = true ∧ loc i = none) ∨ ∃ b, loc i = some b ∧ ORel w ok loc o b
  ex : ∀ i o b, σ[i]? = some o → o.excl = true → loc i = some b → ∀ k, ¬ ok b k
  inj : ∀ i j oi oj b, σ[i]? = some oi → σ[j]? = some oj → oi.excl = true → oj.excl = true → loc i = some b → loc j = some b → i = j
  dom : ∀ i, σ.length ≤ i → loc i = none
  bd : ∀ b o, ok b o → b < w.heap.size
  lbd : ∀ i b, loc i = some b → b < w.heap.size

theorem ORel.keep {w w' : World} {ok ok' : CellOk} {loc loc' : Loc} {o : LObj} {b : Nat} (h : Ext w ok loc w' ok' loc') (hb : w'.heap[b]? = w.heap[b]?) (r : ORel w ok loc o b) : ORel w' ok' loc' o b := by
  cases r with
  | cells cs b vs ty h1 h2 h3 => exact .cells cs b vs ty (hb.trans h1) h2 fun j x v hx hv => (h3 j x v hx hv).mono h
  | arr sz xs b vs ty h1 h2 h3 h4 => exact .arr sz xs b vs ty (hb.trans h1) h2 h3 fun i j es x v hx hv hw => (h4 i j es x v hx hv hw).mono h.keep
  | frz sz xs b vs ty fr h1 h2 h3 h5 h4 => exact .frz sz xs b vs ty fr (hb.trans h1) h2 h3 (fun k hk => h.keep.ok _ _ (h5 k hk)) fun i j es x v hx hv hw => (h4 i j es x v hx hv hw).mono h.keep
  | map es b entries clock h1 h2 h3 h4 => exact .map es b entries clock (hb.trans h1) h2 (fun i x e hx he => (h3 i x e hx he).mono h.keep) (fun i x e hx he => (h4 i x e hx he).mono h.keep)

section
variable {w : World} {ok : CellOk} {loc : Loc} {σ : List LObj}
theorem Own.at (h : Own w ok loc σ) {i o b} (hi : σ[i]? = some o) (hg : o ≠ .gone) (hb : loc i = some b) : ORel w ok loc o b := by
  rcases h.rel i o hi hg with ⟨_, h0⟩ | ⟨b', hb', hr⟩
  · rw [hb] at h0; cases h0
  · rw [hb] at hb'; cases hb'; exact hr
theorem Own.at_ (h : Own w ok loc σ) {i o} (hi : σ[i]? = some o) (hg : o ≠ .gone) (hv : o.void = false) : ∃ b, loc i = some b ∧ ORel w ok loc o b := by
  rcases h.rel i o hi hg with ⟨h0, _⟩ | h1
  · rw [hv] at h0; cases h0
  · exact h1
end
end Go.Vi
