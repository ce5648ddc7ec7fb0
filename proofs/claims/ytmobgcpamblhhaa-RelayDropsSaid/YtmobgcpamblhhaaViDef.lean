/- The interpreter over abstract values. -/
import Derived.Test.YtmobgcpamblhhaaViBase
set_option linter.unusedVariables false
set_option linter.unusedSimpArgs false
namespace Go.Vi

inductive TyD where
  | bool | int (k : IntKind) | string | ptr (e : TypeId) | slice (e : TypeId) | struct (fs : List (Nat × TypeId)) | array (n : Nat) (e : TypeId) | map (k e : TypeId) | other
  deriving DecidableEq, Inhabited

structure TyI where
  size : Nat
  bytes : Nat
  zero : AV
  desc : TyD
  deriving Inhabited

def TyD.isAgg : TyD → Bool
  | .struct _ | .array _ _ => true
  | _ => false

abbrev TE := TypeId → Option TyI

structure St where
  slots : Nat → AV
  σ : List LObj

def upd (f : Nat → AV) (d : Nat) (v : AV) : Nat → AV := fun t => if t = d then v else f t
def St.put (s : St) (d : Option Tmp) (v : AV) : St := match d with | some d => ⟨upd s.slots d v, s.σ⟩ | none => s

def cstLeaf : Value → AV
  | .bool b => .bool b
  | .int k n => .int k n
  | .string s => .str s
  | .pointer none => .ptr none
  | .slice none 0 0 => .sl 0 true []
  | .map none => .mp none
  | .nilFunc => .nilfn
  | .nilIface => .nilif
  | _ => .junk
def cst : Value → AV
  | .agg vs => .agg (vs.toList.map cstLeaf)
  | v => cstLeaf v

def ev (s : St) : Operand → AV
  | .tmp t => s.slots t
  | .const v => cst v
  | .func f => .fn f []
  | .global _ => .junk

/-! ### What leads to nothing that is owned -/
def sub (off len : Nat) (xs : List (List AV)) : List (List AV) := (xs.drop off).take len
def deepC (σ : List LObj) : AV → Option AV
  | .bool b => some (.bool b)
  | .int k n => some (.int k n)
  | .str s => some (.str s)
  | .ptr none => some (.ptr none)
  | .mp none => some (.mp none)
  | .mv es => some (.mv es)
  | .sl z f xs => some (.sl z f xs)
  | .nilfn => some .nilfn
  | .nilif => some .nilif
  | .fn f [] => some (.fn f [])
  | .msl o z off len => match σ[o]? with
    | some (.arr z' xs) => if z' = z ∧ off + len ≤ xs.length then some (.sl z false (sub off len xs)) else none
    | some (.frz z' xs) => if z' = z ∧ off + len ≤ xs.length then some (.sl z false (sub off len xs)) else none
    | _ => none
  | .mp (some o) => match σ[o]? with
    | some (.map es) => some (.mv es)
    | _ => none
  | _ => none
def deepL (σ : List LObj) : List AV → Option (List AV)
  | [] => some []
  | x :: xs => (deepC σ x).bind fun y => (deepL σ xs).bind fun ys => some (y :: ys)
def deepA (σ : List LObj) : AV → Option AV
  | .agg cs => (deepL σ cs).bind fun ds => some (.agg ds)
  | v => deepC σ v
def deepAs (σ : List LObj) : List AV → Option (List AV)
  | [] => some []
  | x :: xs => (deepA σ x).bind fun y => (deepAs σ xs).bind fun ys => some (y :: ys)

def idC : AV → List Nat
  | .msl o _ _ _ => [o]
  | .mp (some o) => [o]
  | _ => []
def idA : AV → List Nat
  | .agg cs => cs.flatMap idC
  | v => idC v
/-- What was given away: read on, never written. -/
def frzO (σ : List LObj) (o : Nat) : List LObj := match σ[o]? with
  | some (.arr z xs) => σ.set o (.frz z xs)
  | some (.map _) => σ.set o .gone
  | _ => σ
def frzL (σ : List LObj) (ids : List Nat) : List LObj := ids.foldl frzO σ

def scal1 : AV → Bool
  | .bool _ | .int _ _ | .str _ | .ptr none | .mp none | .nilfn | .nilif | .sl _ _ [] => true
  | _ => false
def scal : AV → Bool
  | .tup vs => vs.all scal1
  | .agg vs => vs.all scal1
  | v => scal1 v

/-! ### Numbers, strings, equality -/
def cmpInt (op : BinOp) (a b : Int) : Option AV := match op with
  | .eql => some (.bool (decide (a = b)))
  | .neq => some (.bool (!decide (a = b)))
  | .lss => some (.bool (decide (a < b)))
  | .leq => some (.bool (decide (a ≤ b)))
  | .gtr => some (.bool (decide (b < a)))
  | .geq => some (.bool (decide (b ≤ a)))
  | _ => none
def bitsI (op : BinOp) (k : IntKind) (x y : Int) : Int :=
  let a := BitVec.ofInt k.bits x
  let b := BitVec.ofInt k.bits y
  k.wrap (match op with | .and => a &&& b | .or => a ||| b | .xor => a ^^^ b | _ => a &&& ~~~b).toNat
def binInt (op : BinOp) (k : IntKind) (a b : Int) : Option AV := match op with
  | .add => some (.int k (k.wrap (a + b)))
  | .sub => some (.int k (k.wrap (a - b)))
  | .mul => some (.int k (k.wrap (a * b)))
  | .quo => if b = 0 then none else some (.int k (k.wrap (a.tdiv b)))
  | .rem => if b = 0 then none else some (.int k (a.tmod b))
  | .and => some (.int k (bitsI .and k a b))
  | .or => some (.int k (bitsI .or k a b))
  | .xor => some (.int k (bitsI .xor k a b))
  | .andNot => some (.int k (bitsI .andNot k a b))
  | op => cmpInt op a b
def shInt (op : BinOp) (k : IntKind) (a b : Int) : Option AV :=
  if b < 0 then none else match op with
  | .shl => some (.int k (k.wrap (a * 2 ^ (min b.toNat k.bits))))
  | .shr => some (.int k (a.fdiv (2 ^ (min b.toNat k.bits))))
  | _ => none
def binStr (op : BinOp) (a b : ByteArray) : Option AV := match op with
  | .add => if a.size + b.size ≤ 9223372036854775807 then some (.str (a ++ b)) else none
  | .eql => some (.bool (decide (a = b)))
  | .neq => some (.bool (!decide (a = b)))
  | .lss => some (.bool (Op.bytesLess a.toList b.toList))
  | .leq => some (.bool (Op.bytesLess a.toList b.toList || decide (a = b)))
  | .gtr => some (.bool (!(Op.bytesLess a.toList b.toList || decide (a = b))))
  | .geq => some (.bool (!Op.bytesLess a.toList b.toList))
  | _ => none
def leafEq : TyD → AV → AV → Option Bool
  | .int _, .int k a, .int k' b => if k = k' then some (decide (a = b)) else none
  | .bool, .bool a, .bool b => some (a == b)
  | .string, .str a, .str b => some (decide (a = b))
  | _, _, _ => none
def part (i : TyI) (cs : List AV) (off : Nat) : Option AV :=
  if i.desc.isAgg then (if off + i.size ≤ cs.length then some (.agg ((cs.drop off).take i.size)) else none) else cs[off]?
mutual
def eqT (te : TE) : Nat → TypeId → AV → AV → Option Bool
  | 0, _, _, _ => none
  | d + 1, t, a, b => match te t, a, b with
    | some ⟨_, _, _, .struct fs⟩, .agg xs, .agg ys => if xs.length = ys.length then eqF te d fs xs ys else none
    | some i, a, b => leafEq i.desc a b
    | _, _, _ => none
def eqF (te : TE) : Nat → List (Nat × TypeId) → List AV → List AV → Option Bool
  | _, [], _, _ => some true
  | d, (off, ft) :: fs, xs, ys => (te ft).bind fun i => (part i xs off).bind fun a => (part i ys off).bind fun b => (eqT te d ft a b).bind fun r =>
      (eqF te d fs xs ys).bind fun rs => some (r && rs)
end
/-- Against nil; two leaves; two structs. -/
def eqNil : TyD → AV → AV → Option Bool
  | .ptr _, .ptr none, .ptr b => some b.isNone
  | .ptr _, .ptr a, .ptr none => some a.isNone
  | .ptr _, .ptr none, .ep _ _ => some false
  | .ptr _, .ep _ _, .ptr none => some false
  | .ptr _, .aptr _ _ _ _, .ptr none => some false
  | .map _ _, .mp none, .mp b => some b.isNone
  | .map _ _, .mp a, .mp none => some a.isNone
  | .map _ _, .mv _, .mp none => some false
  | _, _, _ => none
def eqA (te : TE) (t : TypeId) (a b : AV) : Option Bool := (te t).bind fun i => match i.desc with
  | .ptr e => eqNil (.ptr e) a b
  | .map k e => eqNil (.map k e) a b
  | _ => eqT te 8 t a b
def AV.isIS : AV → Bool
  | .int _ _ | .str _ => true
  | _ => false
def eqX (te : TE) (t : TypeId) (x y : AV) : Option Bool := if x.isIS = true then none else eqA te t x y
def binX (te : TE) (op : BinOp) (t : TypeId) (x y : AV) : Option AV := match op with
  | .eql => (eqX te t x y).bind fun r => some (.bool r)
  | .neq => (eqX te t x y).bind fun r => some (.bool (!r))
  | _ => none
def binI (op : BinOp) (k : IntKind) (a : Int) (k' : IntKind) (b : Int) : Option AV := match op with
  | .shl => shInt .shl k a b
  | .shr => shInt .shr k a b
  | op => if k = k' then binInt op k a b else none
def binD (te : TE) (op : BinOp) (t : TypeId) (x y : AV) : Option AV := match x, y with
  | .int k a, .int k' b => binI op k a k' b
  | .str a, .str b => binStr op a b
  | x, y => binX te op t x y
def unD (op : UnOp) (x : AV) : Option AV := match op, x with
  | .neg, .int k n => some (.int k (k.wrap (0 - n)))
  | .xor, .int k n => some (.int k (bitsI .xor k (if k.signed then -1 else k.max) n))
  | .not, .bool b => some (.bool (!b))
  | _, _ => none
def byteOf : List AV → UInt8
  | [.int _ n] => UInt8.ofNat n.toNat
  | _ => 0
def isByte : List AV → Bool
  | [.int .u8 _] => true
  | _ => false
def bytesOf (s : ByteArray) : List (List AV) := s.data.toList.map fun b => [.int .u8 b.toNat]
def listOf (σ : List LObj) : AV → Option (Nat × List (List AV))
  | .sl z _ xs => some (z, xs)
  | .msl o z off len => match σ[o]? with
    | some (.arr z' xs) => if z' = z ∧ off + len ≤ xs.length then some (z, sub off len xs) else none
    | some (.frz z' xs) => if z' = z ∧ off + len ≤ xs.length then some (z, sub off len xs) else none
    | _ => none
  | .str s => some (1, bytesOf s)
  | _ => none
def convD (te : TE) (σ : List LObj) (src dst : TypeId) (x : AV) : Option AV := match te src, te dst, x with
  | some ⟨_, _, _, .int _⟩, some ⟨_, _, _, .int k⟩, .int _ n => some (.int k (k.wrap n))
  | some ⟨_, _, _, .string⟩, some ⟨_, _, _, .string⟩, .str s => some (.str s)
  | some ⟨_, _, _, .slice e⟩, some ⟨_, _, _, .string⟩, _ => match te e, x.isIS with
    | some ⟨_, _, _, .int .u8⟩, false => (listOf σ x).bind fun p => if p.2.all isByte = true then some (.str ⟨(p.2.map byteOf).toArray⟩) else none
    | _, _ => none
  | _, _, _ => none

/-! ### Structs, cells -/
def over (cs : List AV) (off : Nat) (new : List AV) : List AV := cs.take off ++ new ++ cs.drop (off + new.length)
def AV.solid : AV → Bool
  | .junk => false
  | _ => true
def fillD (place : Nat → Option (Nat × Nat)) : List AV → List (Nat × AV) → Option (List AV)
  | cs, [] => some cs
  | cs, (i, v) :: rest => (place i).bind fun p => if v.solid = true ∧ v.flat.length = p.2 ∧ p.1 + p.2 ≤ cs.length then fillD place (over cs p.1 v.flat) rest else none
def placesD (te : TE) : List (Nat × TypeId) → Option (List (Nat × Nat))
  | [] => some []
  | p :: ps => (te p.2).bind fun i => (placesD te ps).bind fun r => some ((p.1, i.size) :: r)
def buildD (te : TE) (t : TypeId) (parts : List (Nat × AV)) : Option AV := (te t).bind fun i => if i.zero.solid = true then match i.desc with
  | .struct fs => (placesD te fs).bind fun pl => (fillD (fun j => pl[j]?) i.zero.flat parts).bind fun cs => some (.agg cs)
  | .array _ e => (te e).bind fun ei => (fillD (fun j => some (j * ei.size, ei.size)) i.zero.flat parts).bind fun cs => some (.agg cs)
  | _ => none
  else none
def chunks (z : Nat) : Nat → List AV → List (List AV)
  | 0, _ => []
  | n + 1, cs => cs.take z :: chunks z n (cs.drop z)
def reps (n : Nat) (z : List AV) : List AV := match n with | 0 => [] | n + 1 => z ++ reps n z
def buildSlD (te : TE) (σ : List LObj) (t : TypeId) (n : Nat) (parts : List (Nat × AV)) : Option (AV × List LObj) := (te t).bind fun i => match i.desc with
  | .slice e => (te e).bind fun ei => if n * ei.size ≤ 1000 ∧ 0 < ei.size ∧ ei.zero.solid = true ∧ ei.zero.flat.length = ei.size then
      (fillD (fun j => some (j * ei.size, ei.size)) (reps n ei.zero.flat) parts).bind fun cs => (deepL σ cs).bind fun ds => some (.sl ei.size true (chunks ei.size n ds), frzL σ (cs.flatMap idC)) else none
  | _ => none
def fieldD (te : TE) (t : TypeId) (x : AV) (f : Nat) : Option AV := match te t, x with
  | some ⟨_, _, _, .struct fs⟩, .agg cs => (fs[f]?).bind fun p => (te p.2).bind fun i => part i cs p.1
  | _, _ => none
def fieldAddrD (te : TE) (t : TypeId) (x : AV) (f : Nat) : Option AV := match te t with
  | some ⟨_, _, _, .struct fs⟩ => (fs[f]?).bind fun p => (te p.2).bind fun i => if i.size = 0 then none else match x with
    | .ptr (some (o, off)) => some (.ptr (some (o, off + p.1)))
    | .aptr o z i j => some (.aptr o z i (j + p.1))
    | .ep cs j => some (.ep cs (j + p.1))
    | _ => none
  | _ => none
def loadD (te : TE) (σ : List LObj) (t : TypeId) (x : AV) : Option AV := (te t).bind fun i => match x with
  | .ptr (some (o, off)) => match σ[o]? with
    | some (.cells cs) => part i cs off
    | _ => none
  | .aptr o z e j => match σ[o]? with
    | some (.arr z' xs) => if z' = z then (xs[e]?).bind fun es => part i es j else none
    | some (.frz z' xs) => if z' = z then (xs[e]?).bind fun es => part i es j else none
    | _ => none
  | .ep cs j => part i cs j
  | _ => none
def storeD (te : TE) (σ : List LObj) (t : TypeId) (x v : AV) : Option (List LObj) := (te t).bind fun i =>
  if v.flat.length = i.size ∧ v.flat.all AV.one = true then match x with
  | .ptr (some (o, off)) => match σ[o]? with
    | some (.cells cs) => if off + i.size ≤ cs.length then some (σ.set o (.cells (over cs off v.flat))) else none
    | _ => none
  | .aptr o z e j => match (frzL σ (idA v))[o]? with
    | some (.arr z' xs) => if z' = z then (xs[e]?).bind fun es => (deepL σ v.flat).bind fun ds => if j + i.size ≤ z then some ((frzL σ (idA v)).set o (.arr z (xs.set e (over es j ds)))) else none else none
    | _ => none
  | _ => none
  else none
def indexAddrD (te : TE) (t : TypeId) (x ix : AV) : Option AV := match te t, ix with
  | some ⟨_, _, _, .slice e⟩, .int _ i => (te e).bind fun ei => match x with
    | .sl z _ xs => if 0 ≤ i ∧ i < xs.length then (if z = ei.size then (xs[i.toNat]?).bind fun es => some (.ep es 0) else none) else none
    | .msl o z off len => if 0 ≤ i ∧ i < len then (if z = ei.size then some (.aptr o z (off + i.toNat) 0) else none) else none
    | _ => none
  | _, _ => none
def indexD (te : TE) (t : TypeId) (x ix : AV) : Option AV := match te t, x, ix with
  | some ⟨_, _, _, .string⟩, .str s, .int _ i => if 0 ≤ i then (s[i.toNat]?).bind fun b => some (.int .u8 b.toNat) else none
  | some ⟨_, _, _, .array n e⟩, .agg cs, .int _ i => if 0 ≤ i ∧ i < n then (te e).bind fun ei => part ei cs (i.toNat * ei.size) else none
  | _, _, _ => none
def numOf : Option AV → Option (Option Int)
  | none => some none
  | some (.int _ n) => some (some n)
  | _ => none
/-- A cut: 0 ≤ lo ≤ hi ≤ length. A cut with a capacity is served where that is hi. -/
def sliceD (te : TE) (t : TypeId) (x : AV) (lo hi mx : Option AV) : Option AV := match te t, numOf lo, numOf hi, numOf mx with
  | some ⟨_, _, _, .string⟩, some l, some h, some none => match x with
    | .str s => if 0 ≤ l.getD 0 ∧ l.getD 0 ≤ h.getD s.size ∧ h.getD s.size ≤ s.size then some (.str (s.extract (l.getD 0).toNat (h.getD s.size).toNat)) else none
    | _ => none
  | some ⟨_, _, _, .slice e⟩, some l, some h, some m => (te e).bind fun ei => match x with
    | .sl z f xs => if 0 ≤ l.getD 0 ∧ l.getD 0 ≤ h.getD xs.length ∧ h.getD xs.length ≤ xs.length ∧ (m.isSome = true → m = h) ∧ z = ei.size then
        some (.sl z (m.isSome || (f && h.isNone)) (sub (l.getD 0).toNat ((h.getD xs.length).toNat - (l.getD 0).toNat) xs)) else none
    | .msl o z off len => if 0 ≤ l.getD 0 ∧ l.getD 0 ≤ h.getD len ∧ h.getD len ≤ len ∧ m.isNone = true ∧ z = ei.size then
        some (.msl o z (off + (l.getD 0).toNat) ((h.getD len).toNat - (l.getD 0).toNat)) else none
    | _ => none
  | _, _, _, _ => none
def sl3D (te : TE) (σ : List LObj) (t : TypeId) (x : AV) (lo hi mx : Option AV) : Option (AV × List LObj) := match x, mx with
  | .msl o z off len, some _ => (deepC σ (.msl o z off len)).bind fun y => (sliceD te t y lo hi mx).bind fun v => some (v, frzO σ o)
  | x, mx => (sliceD te t x lo hi mx).bind fun v => some (v, σ)

/-! ### append, copy, make -/
def srcOk (te : TE) (u : TypeId) : Bool := match te u with
  | some ⟨_, _, _, .slice _⟩ => true
  | some ⟨_, _, _, .string⟩ => true
  | _ => false
def elemOk (ei : TyI) : Bool := decide (0 < ei.size) && decide (0 < ei.bytes) && ei.zero.solid && decide (ei.zero.flat.length = ei.size)
def appendD (te : TE) (σ : List LObj) (t u : TypeId) (s x : AV) : Option (AV × List LObj) := (te t).bind fun ti => match ti.desc with
  | .slice e => (te e).bind fun ei => (listOf σ x).bind fun p => if (p.1 = ei.size ∨ p.2 = []) ∧ elemOk ei = true ∧ srcOk te u = true then match s with
    | .sl z f xs => if f = true ∧ (z = ei.size ∨ xs = []) ∧ (xs = [] ∨ p.2 ≠ []) ∧ (xs.length + p.2.length) * ei.bytes ≤ 140737488355328 then
        some (.msl σ.length ei.size 0 (xs.length + p.2.length), σ ++ [.arr ei.size (xs ++ p.2)]) else none
    | .msl o z off len => match σ[o]? with
      | some (.arr z' xs) => if off = 0 ∧ z' = z ∧ z = ei.size ∧ len ≤ xs.length ∧ (len + p.2.length) * ei.bytes ≤ 140737488355328 then
          some (.msl σ.length ei.size 0 (len + p.2.length), σ.set o .gone ++ [.arr ei.size (xs.take len ++ p.2)]) else none
      | _ => none
    | _ => none
    else none
  | _ => none
def lenD (te : TE) (σ : List LObj) (t : TypeId) (x : AV) : Option AV := (te t).bind fun i => match i.desc, x with
  | .string, .str s => some (.int .i64 s.size)
  | .slice _, .sl _ _ xs => some (.int .i64 xs.length)
  | .slice _, .msl _ _ _ len => some (.int .i64 len)
  | .map _ _, .mp none => some (.int .i64 0)
  | .map _ _, .mp (some o) => match σ[o]? with | some (.map es) => some (.int .i64 es.length) | _ => none
  | .map _ _, .mv es => some (.int .i64 es.length)
  | .array n _, _ => some (.int .i64 n)
  | _, _ => none
def minGo (mx : Bool) (k : IntKind) : Int → List AV → Option AV
  | x, [] => some (.int k x)
  | x, .int _ y :: ys => minGo mx k (if mx = true then (if x < y then y else x) else (if y < x then y else x)) ys
  | _, _ => none
def minD (mx : Bool) : List AV → Option AV
  | .int k a :: rest => minGo mx k a rest
  | _ => none

/-! ### Maps -/
def findK (te : TE) (kt : TypeId) (k : AV) : List (AV × AV) → Nat → Option (Option (Nat × AV))
  | [], _ => some none
  | (k', v) :: es, i => (eqT te 8 kt k k').bind fun r => if r then some (some (i, v)) else findK te kt k es (i + 1)
def entriesOf (σ : List LObj) : AV → Option (List (AV × AV))
  | .mp none => some []
  | .mp (some o) => match σ[o]? with | some (.map es) => some es | _ => none
  | .mv es => some es
  | _ => none
/-- A key of whole numbers, bools, strings, or a struct of them: it can be hashed. -/
def leafTy (te : TE) (t : TypeId) : Bool := match te t with
  | some ⟨_, _, _, .int _⟩ => true
  | some ⟨_, _, _, .string⟩ => true
  | some ⟨_, _, _, .bool⟩ => true
  | _ => false
def keyOk (te : TE) (kt : TypeId) (k : AV) : Bool := leafTy te kt || (match te kt, k with
  | some ⟨_, _, _, .struct fs⟩, .agg cs => decide (fs.map Prod.fst = List.range cs.length) && fs.all fun p => leafTy te p.2 && decide (p.1 < cs.length)
  | _, _ => false)
def lookupD (te : TE) (σ : List LObj) (t : TypeId) (m k : AV) (ok : Bool) : Option AV := match te t with
  | some ⟨_, _, _, .map kt et⟩ => (te et).bind fun ei => (entriesOf σ m).bind fun es => if keyOk te kt k = true then (findK te kt k es 0).bind fun r =>
      some (match r with | some (_, v) => (if ok then .tup [v, .bool true] else v) | none => (if ok then .tup [ei.zero, .bool false] else ei.zero)) else none
  | _ => none
def mapUpdD (te : TE) (σ : List LObj) (t : TypeId) (m k v : AV) : Option (List LObj) := match te t, m with
  | some ⟨_, _, _, .map kt _⟩, .mp (some o) => match (frzL σ (idA v))[o]? with
    | some (.map es) => if keyOk te kt k = true ∧ idA k = [] then (deepA σ k).bind fun k' => (deepA σ v).bind fun v' => (findK te kt k' es 0).bind fun r =>
        some ((frzL σ (idA v)).set o (.map (match r with | some (i, _) => es.set i (k', v') | none => es ++ [(k', v')]))) else none
    | _ => none
  | _, _ => none
def deleteD (te : TE) (σ : List LObj) (t : TypeId) (m k : AV) : Option (List LObj) := match te t, m with
  | some ⟨_, _, _, .map kt _⟩, .mp (some o) => match σ[o]? with
    | some (.map es) => if keyOk te kt k = true then (findK te kt k es 0).bind fun r => some (σ.set o (.map (match r with | some (i, _) => es.eraseIdx i | none => es))) else none
    | _ => none
  | _, _ => none

/-! ### Calls -/
inductive Sp where
  | none
  | pure (F : List AV → Option AV)
  | eff (F : List AV → List LObj → Option (AV × List LObj))
abbrev KT := FuncId → Sp

def idsC : AV → List Nat
  | .ptr (some (o, _)) => [o]
  | .aptr o _ _ _ => [o]
  | .msl o _ _ _ => [o]
  | .mp (some o) => [o]
  | _ => []
def idsA : AV → List Nat
  | .agg cs => cs.flatMap idsC
  | .fn _ cs => cs.flatMap idsC
  | v => idsC v
def idsO (σ : List LObj) (o : Nat) : List Nat := match σ[o]? with
  | some (.cells cs) => cs.flatMap idsA
  | _ => []
def addNew (l : List Nat) : List Nat → List Nat
  | [] => l
  | x :: xs => if x ∈ l then addNew l xs else addNew (l ++ [x]) xs
/-- What a call can reach: three steps far. -/
def foot (σ : List LObj) (args : List AV) : List Nat :=
  let a := addNew [] (args.flatMap idsA)
  let b := addNew a (a.flatMap (idsO σ))
  addNew b (b.flatMap (idsO σ))
abbrev Ren := Nat → Option Nat
def renC (ρ : Ren) : AV → AV
  | .ptr (some (o, off)) => match ρ o with | some o' => .ptr (some (o', off)) | none => .junk
  | .aptr o z i j => match ρ o with | some o' => .aptr o' z i j | none => .junk
  | .msl o z off len => match ρ o with | some o' => .msl o' z off len | none => .junk
  | .mp (some o) => match ρ o with | some o' => .mp (some o') | none => .junk
  | .agg _ => .junk
  | .tup [] => .tup []
  | .tup _ => .junk
  | .fn f [] => .fn f []
  | .fn _ _ => .junk
  | v => v
def renA (ρ : Ren) : AV → AV
  | .agg cs => .agg (cs.map (renC ρ))
  | .tup cs => .tup (cs.map (renC ρ))
  | .fn f cs => .fn f (cs.map (renC ρ))
  | v => renC ρ v
def renB (ρ : Ren) : AV → AV
  | .agg cs => .agg (cs.map (renA ρ))
  | .tup cs => .tup (cs.map (renA ρ))
  | .fn f cs => .fn f (cs.map (renA ρ))
  | v => renC ρ v
def renO (ρ : Ren) : LObj → LObj
  | .cells cs => .cells (cs.map (renA ρ))
  | o => o
def into (l : List Nat) : Ren := fun o => if o ∈ l then some (l.idxOf o) else none
def back (l : List Nat) (n : Nat) : Ren := fun j => some (if j < l.length then l.getD j 0 else n + (j - l.length))
def callE (F : List AV → List LObj → Option (AV × List LObj)) (σ : List LObj) (l : List Nat) (args : List AV) : Option (AV × List LObj) :=
  if (l.all fun o => (σ.getD o .gone).excl) = true then
    (F (args.map (renB (into l))) (l.map fun o => renO (into l) (σ.getD o .gone))).bind fun p =>
      if l.length ≤ p.2.length then
        some (renB (back l σ.length) p.1, (σ.mapIdx fun i x => if i ∈ l then renO (back l σ.length) (p.2.getD (l.idxOf i) .gone) else x) ++ (p.2.drop l.length).map (renO (back l σ.length)))
      else none
  else none
def callD (K : KT) (σ : List LObj) (f : FuncId) (args : List AV) : Option (AV × List LObj) := match K f with
  | .none => none
  | .pure F => (deepAs σ args).bind fun as => (F as).bind fun r => some (r, if scal r then σ else frzL σ (args.flatMap idA))
  | .eff F => callE F σ (foot σ args) args

/-! ### One operation -/
def opsAV (s : St) (xs : Array Operand) : List AV := xs.toList.map (ev s)
def nilD : AV → Option AV
  | .ptr (some p) => some (.ptr (some p))
  | .aptr o z i j => some (.aptr o z i j)
  | .ep cs j => some (.ep cs j)
  | .fn f cs => some (.fn f cs)
  | _ => none
def biD (te : TE) (σ : List LObj) (b : Builtin) (args : List AV) (ts : List TypeId) : Option (AV × List LObj) := match b, args, ts with
  | .len, [x], t :: _ => (lenD te σ t x).bind fun v => some (v, σ)
  | .append, [x, y], t :: u :: _ => appendD te σ t u x y
  | .min, xs, _ => (minD false xs).bind fun v => some (v, σ)
  | .max, xs, _ => (minD true xs).bind fun v => some (v, σ)
  | .delete, [m, k], t :: _ => (deleteD te σ t m k).bind fun σ' => some (.tup [], σ')
  | _, _, _ => none
def opD (te : TE) (K : KT) (s : St) : Op → Option (AV × List LObj)
  | .move x | .assign x => some (ev s x, s.σ)
  | .pick c a b => match ev s c with
    | .bool p => if p = true then some (ev s a, s.σ) else some (ev s b, s.σ)
    | _ => none
  | .alloc t => (te t).bind fun i => if i.zero.solid = true then some (.ptr (some (s.σ.length, 0)), s.σ ++ [.cells i.zero.flat]) else none
  | .box t x => match ev s x with
    | .junk => none
    | v => some (.ptr (some (s.σ.length, 0)), s.σ ++ [.cells v.flat])
  | .build t parts => (buildD te t (parts.toList.map fun p => (p.1, ev s p.2))).bind fun v => some (v, s.σ)
  | .buildSlice t n parts => buildSlD te s.σ t n (parts.toList.map fun p => (p.1, ev s p.2))
  | .load t x => (loadD te s.σ t (ev s x)).bind fun v => some (v, s.σ)
  | .store t x v => (storeD te s.σ t (ev s x) (ev s v)).bind fun σ => some (.junk, σ)
  | .nilCheck x => (nilD (ev s x)).bind fun v => some (v, s.σ)
  | .binOp op t x y _ => (binD te op t (ev s x) (ev s y)).bind fun v => some (v, s.σ)
  | .unOp op _ x => (unD op (ev s x)).bind fun v => some (v, s.σ)
  | .convert a b x => (convD te s.σ a b (ev s x)).bind fun v => some (v, s.σ)
  | .makeFunc fn first cap => match fn, first.toList with
    | .func f, [] => some (.fn f (opsAV s cap), s.σ)
    | _, _ => none
  | .makeMap _ r => match r with
    | none => some (.mp (some s.σ.length), s.σ ++ [.map []])
    | some _ => none
  | .slice t x lo hi mx => sl3D te s.σ t (ev s x) (lo.map (ev s)) (hi.map (ev s)) (mx.map (ev s))
  | .fieldAddr t x f => (fieldAddrD te t (ev s x) f).bind fun v => some (v, s.σ)
  | .field t x f => (fieldD te t (ev s x) f).bind fun v => some (v, s.σ)
  | .indexAddr t x i => (indexAddrD te t (ev s x) (ev s i)).bind fun v => some (v, s.σ)
  | .index t x i => (indexD te t (ev s x) (ev s i)).bind fun v => some (v, s.σ)
  | .lookup t m k ok => (lookupD te s.σ t (ev s m) (ev s k) ok).bind fun v => some (v, s.σ)
  | .mapUpdate t m k v => (mapUpdD te s.σ t (ev s m) (ev s k) (ev s v)).bind fun σ => some (.junk, σ)
  | .extract t i => match ev s t with
    | .tup vs => (vs[i]?).bind fun v => some (v, s.σ)
    | _ => none
  | .call c => match c.callee with
    | .value f => match ev s f with
      | .fn f cap => callD K s.σ f (opsAV s c.args ++ cap)
      | _ => none
    | .builtin b => biD te s.σ b (opsAV s c.args) c.argTypes.toList
    | _ => none
  | _ => none

def wantD (ops : Array Oper) (s : St) (g : Option (Nat × Bool)) : Option Bool := match g with
  | none => some true
  | some (j, b) => match (ops[j]?).bind (·.dst) with
    | some d => match s.slots d with
      | .bool x => some (x == b)
      | .tup [] => some false
      | _ => none
    | none => none
def stepD (te : TE) (K : KT) (ops : Array Oper) (s : St) (o : Oper) : Option St :=
  (wantD ops s o.guard).bind fun w => if w = true then (opD te K s o.op).bind fun r => some (St.put ⟨s.slots, r.2⟩ o.dst r.1) else some (s.put o.dst (.tup []))
end Go.Vi
