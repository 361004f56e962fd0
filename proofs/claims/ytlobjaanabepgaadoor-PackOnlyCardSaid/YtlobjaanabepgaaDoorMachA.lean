/- The abstract machine: values, memory, operations, code. Its soundness over the model stands in the texts behind this one. -/
import Derived.Orders
import Derived.Tactics
import Derived.Below
import Derived.KernelRfl
import Derived.Scope
import Derived.Laws.Entries
import Derived.Laws.Sem
import Derived.Laws.Small
import Derived.Laws.Strings
import Derived.Laws.Append
import Derived.Laws.Tables
import Derived.Laws.AppendOwn
namespace Go.AM
open Go

inductive AV where
  | unk
  | bool (b : Bool)
  | int (k : IntKind) (n : Int)
  | str (s : List Int)
  | ptr (b g i f : Nat)
  | nilp
  | sl (b g i n : Nat)
  | nils
  | map (r : Nat)
  | nilm
  | fn (f : FuncId) (caps : List AV)
  | nilf
  | agg (cs : List AV)
  | tup (vs : List AV)
  deriving Inhabited

def AV.cells : AV → List AV
  | .agg cs => cs
  | v => [v]
/-- May it stand in a cell? -/
def AV.isCell : AV → Bool
  | .unk | .agg _ | .tup _ => false
  | _ => true

structure Blk where
  esz : Nat
  cells : List (List AV)
  gen : Nat
  sgen : Nat
  ro : Bool
inductive AObj where
  | blk (B : Blk)
  | mp (es : List (AV × AV))
structure AHeap where
  m : Nat → Option AObj
  n : Nat
def AHeap.push (h : AHeap) (o : AObj) : AHeap := ⟨fun i => if i = h.n then some o else h.m i, h.n + 1⟩
def AHeap.set (h : AHeap) (b : Nat) (o : AObj) : AHeap := ⟨fun i => if i = b then some o else h.m i, h.n⟩

def Blk.get (B : Blk) (g i f sz : Nat) : Option (List AV) :=
  if B.sgen ≤ g then
    match B.cells[i]? with
    | some e => if f + sz ≤ e.length then some ((e.drop f).take sz)
      else if i = 0 ∧ f = 0 ∧ g = B.gen ∧ sz = B.cells.length * B.esz then some B.cells.flatten else none
    | none => none
  else none
def AHeap.get (h : AHeap) (b g i f sz : Nat) : Option (List AV) :=
  match h.m b with
  | some (.blk B) => B.get g i f sz
  | _ => none
def AHeap.getA (h : AHeap) (a : AV) (sz : Nat) : Option (List AV) :=
  match a with
  | .ptr b g i f => h.get b g i f sz
  | _ => none
def Blk.put (B : Blk) (i f : Nat) (cs : List AV) : Option Blk :=
  match B.cells[i]? with
  | some e => if f + cs.length ≤ e.length then
      some { B with cells := B.cells.set i (e.take f ++ (cs ++ e.drop (f + cs.length))), sgen := B.gen } else none
  | none => none

/-! ### Constants -/
def ofCell : Value → AV
  | .bool b => .bool b
  | .int k n => .int k n
  | .string s => .str (s.data.toList.map fun b => (b.toNat : Int))
  | .pointer none => .nilp
  | .slice none 0 0 => .nils
  | .map none => .nilm
  | .nilFunc => .nilf
  | _ => .unk
def ofValue : Value → AV
  | .agg cs => .agg (cs.toList.map ofCell)
  | .tuple ⟨[]⟩ => .tup []
  | v => ofCell v

abbrev Fr := List AV
def evalO (f : Fr) : Operand → AV
  | .tmp t => f.getD t (.tup [])
  | .const v => ofValue v
  | .global _ => .unk
  | .func g => .fn g []
def putO (f : Fr) (d : Option Tmp) (v : AV) : Fr :=
  match d with
  | some d => f.set d v
  | none => f

/-! ### Operations -/
def ifB (b : Bool) (A B : Prop) : Prop := match b with | true => A | false => B
def bindP {α : Type} (o : Option α) (k : α → Prop) : Prop := match o with | some a => k a | none => False
def bind2 (o : Option (AV × AHeap)) (k : AV → AHeap → Prop) : Prop := match o with | some p => k p.1 p.2 | none => False

def aBits (op : BinOp) (k : IntKind) (x y : Int) : Int :=
  let a := BitVec.ofInt k.bits x
  let b := BitVec.ofInt k.bits y
  match op with
  | .and => k.wrap (a &&& b).toNat
  | .or => k.wrap (a ||| b).toNat
  | .xor => k.wrap (a ^^^ b).toNat
  | _ => k.wrap (a &&& ~~~b).toNat
def intBin (op : BinOp) (kd : IntKind) (a b : Int) : Option AV :=
  match op with
  | .add => some (.int kd (kd.wrap (a + b)))
  | .sub => some (.int kd (kd.wrap (a - b)))
  | .mul => some (.int kd (kd.wrap (a * b)))
  | .quo => if b = 0 then none else some (.int kd (kd.wrap (a.tdiv b)))
  | .rem => if b = 0 then none else some (.int kd (a.tmod b))
  | .and | .or | .xor | .andNot => some (.int kd (aBits op kd a b))
  | .eql => some (.bool (a == b))
  | .neq => some (.bool (a != b))
  | .lss => some (.bool (decide (a < b)))
  | .leq => some (.bool (decide (a ≤ b)))
  | .gtr => some (.bool (decide (a > b)))
  | .geq => some (.bool (decide (a ≥ b)))
  | .shl => if b < 0 then none else some (.int kd (kd.wrap (a * 2 ^ min b.toNat kd.bits)))
  | .shr => if b < 0 then none else some (.int kd (a.fdiv (2 ^ min b.toNat kd.bits)))
def isShift : BinOp → Bool
  | .shl | .shr => true
  | _ => false
def strBin (op : BinOp) (a b : List Int) : Option AV :=
  match op with
  | .add => if a.length + b.length ≤ 9223372036854775807 then some (.str (a ++ b)) else none
  | .eql => some (.bool (a == b))
  | .neq => some (.bool (!(a == b)))
  | _ => none
/-- Cells of whole numbers, bools and strings: are they alike? -/
def sameCell : AV → AV → Option Bool
  | .int k a, .int k' b => if k = k' then some (a == b) else none
  | .bool a, .bool b => some (a == b)
  | .str a, .str b => some (a == b)
  | _, _ => none
def sameK : Nat → AV → AV → Option Bool
  | 0, .bool a, .bool b => some (a == b)
  | 1, .int k a, .int k' b => if k = k' then some (a == b) else none
  | 2, .str a, .str b => some (a == b)
  | _, _, _ => none
def sameCells : List Nat → List AV → List AV → Option Bool
  | [], [], [] => some true
  | k :: ks, a :: as, b :: bs => match sameK k a b, sameCells ks as bs with
    | some x, some y => some (x && y)
    | _, _ => none
  | _, _, _ => none
def asEq (op : BinOp) (r : Bool) : Option AV :=
  match op with
  | .eql => some (.bool r)
  | .neq => some (.bool (!r))
  | _ => none
/-- flat: of a struct whose cells are plain, their kinds. nl: its values may be nil, and be held against nil (1: pointers, 2: slices; 3: bools). -/
def fBin (op : BinOp) (flat : Option (List Nat)) (nl : Nat) (x y : AV) : Option AV :=
  match x, y with
  | .int kd a, .int kd' b => if kd = kd' ∨ isShift op = true then intBin op kd a b else none
  | .str a, .str b => strBin op a b
  | .bool a, .bool b => if nl = 3 then asEq op (a == b) else none
  | .agg a, .agg b => match flat with
    | some ks => (sameCells ks a b).bind (asEq op)
    | none => none
  | .ptr .., .nilp => if nl = 1 then asEq op false else none
  | .nilp, .nilp => if nl = 1 then asEq op true else none
  | .sl .., .nils => if nl = 2 then asEq op false else none
  | .nils, .nils => if nl = 2 then asEq op true else none
  | _, _ => none
def fUn (op : UnOp) (x : AV) : Option AV :=
  match op, x with
  | .not, .bool b => some (.bool (!b))
  | .neg, .int kd n => some (.int kd (kd.wrap (0 - n)))
  | .xor, .int kd n => some (.int kd (aBits .xor kd (if kd.signed then -1 else kd.max) n))
  | _, _ => none
def pickV (b : Bool) (x y : AV) : AV :=
  match x, y with
  | .bool x, .bool y => .bool (cond b x y)
  | .int k x, .int k' y => if k = k' then .int k (cond b x y) else cond b (.int k x) (.int k' y)
  | x, y => cond b x y
def fPick (c x y : AV) : Option AV :=
  match c with
  | .bool b => some (pickV b x y)
  | _ => none
def one? : List AV → Option AV
  | [c] => some c
  | _ => none
def fLoad (ag : Bool) (sz : Nat) (h : AHeap) (a : AV) : Option AV :=
  match h.getA a sz with
  | some cs => match ag with
    | true => some (.agg cs)
    | false => one? cs
  | none => none
def fStore (sz : Nat) (h : AHeap) (a v : AV) : Option AHeap :=
  if v.cells.length = sz ∧ v.cells.all AV.isCell = true then
    match a with
    | .ptr b g i f => match h.m b with
      | some (.blk B) => if B.ro = false ∧ g = B.gen then (B.put i f v.cells).map fun B' => h.set b (.blk B') else none
      | _ => none
    | _ => none
  else none
/-- A new block: elements of so many cells. -/
def fNew (esz : Nat) (cs : List (List AV)) (h : AHeap) : AV × AHeap :=
  (.ptr h.n 0 0 0, h.push (.blk ⟨esz, cs, 0, 0, false⟩))
def fNewSl (esz : Nat) (cs : List (List AV)) (h : AHeap) : AV × AHeap :=
  (.sl h.n 0 0 cs.length, h.push (.blk ⟨esz, cs, 0, 0, false⟩))
def fMake (esz bytes : Nat) (zero : List AV) (h : AHeap) (len : AV) : Option (AV × AHeap) :=
  match len with
  | .int .i64 n => if 0 ≤ n ∧ n ≤ 9223372036854775807 ∧ (bytes : Int) * n ≤ 281474976710656 then some (fNewSl esz (List.replicate n.toNat zero) h) else none
  | _ => none
def fFieldAddr (off : Nat) (a : AV) : Option AV :=
  match a with
  | .ptr b g i f => some (.ptr b g i (f + off))
  | _ => none
def fField (ag : Bool) (off sz : Nat) (x : AV) : Option AV :=
  match x with
  | .agg cs => (match ag with
    | true => some (.agg ((cs.drop off).take sz))
    | false => cs[off]?)
  | _ => none
def AHeap.esz (h : AHeap) (b : Nat) : Option Nat :=
  match h.m b with
  | some (.blk B) => some B.esz
  | _ => none
/-- A block that holds an array: so many elements, of so many cells. -/
def AHeap.isArr (h : AHeap) (b g n sz : Nat) : Bool :=
  match h.m b with
  | some (.blk B) => B.esz == sz && B.cells.length == n && g == B.gen && !B.ro
  | _ => false
/-- arr: of an array (so many elements), by its address. -/
def fIndexAddr (arr : Option Nat) (sz : Nat) (h : AHeap) (x i : AV) : Option AV :=
  match arr, x, i with
  | none, .sl b g o n, .int _ j => if h.esz b = some sz ∧ 0 ≤ j ∧ j < n then some (.ptr b g (o + j.toNat) 0) else none
  | some n, .ptr b g 0 0, .int _ j => if h.isArr b g n sz = true ∧ 0 ≤ j ∧ j < n then some (.ptr b g j.toNat 0) else none
  | _, _, _ => none
def fIndexStr (x i : AV) : Option AV :=
  match x, i with
  | .str s, .int _ j => if 0 ≤ j then s[j.toNat]?.map (.int .u8) else none
  | _, _ => none
def fIndexArr (ag : Bool) (n sz : Nat) (x i : AV) : Option AV :=
  match x, i with
  | .agg cs, .int _ j => if 0 ≤ j ∧ j < n then (match ag with
      | true => some (.agg ((cs.drop (j.toNat * sz)).take sz))
      | false => cs[j.toNat * sz]?) else none
  | _, _ => none
def bound (x : Option AV) (d : Nat) : Option Nat :=
  match x with
  | none => some d
  | some (.int _ j) => if 0 ≤ j then some j.toNat else none
  | _ => none
/-- Two bounds that fit. -/
def bounds (lo hi : Option AV) (n : Nat) : Option (Nat × Nat) :=
  match bound lo 0, bound hi n with
  | some l, some h => if l ≤ h ∧ h ≤ n then some (l, h) else none
  | _, _ => none
def fSliceStr (x : AV) (lo hi : Option AV) : Option AV :=
  match x with
  | .str s => (bounds lo hi s.length).map fun p => .str ((s.drop p.1).take (p.2 - p.1))
  | _ => none
def maxOk (mx hi : Option AV) (h n : Nat) : Bool :=
  match mx with
  | none => true
  | some (.int _ m) => hi.isSome && decide ((h : Int) ≤ m) && decide (m ≤ (n : Int))
  | _ => false
def fSlice (sz : Nat) (h : AHeap) (x : AV) (lo hi mx : Option AV) : Option AV :=
  match x with
  | .sl b g o n => match bounds lo hi n with
    | some p => if h.esz b = some sz ∧ maxOk mx hi p.2 n = true then some (.sl b g (o + p.1) (p.2 - p.1)) else none
    | none => none
  | .nils => match bounds lo hi 0 with
    | some _ => if maxOk mx hi 0 0 = true then some .nils else none
    | none => none
  | _ => none
def fSliceArr (N sz : Nat) (h : AHeap) (x : AV) (lo hi : Option AV) : Option AV :=
  match x with
  | .ptr b g 0 0 => if h.isArr b g N sz = true then (bounds lo hi N).map fun p => .sl b g p.1 (p.2 - p.1) else none
  | _ => none
/-- k: 0 a string, 1 a slice, 2 a map. -/
def fLen (k : Nat) (h : AHeap) (x : AV) : Option AV :=
  match k, x with
  | 0, .str s => some (.int .i64 s.length)
  | 1, .sl _ _ _ n => some (.int .i64 n)
  | 1, .nils | 2, .nilm => some (.int .i64 0)
  | 2, .map r => match h.m r with
    | some (.mp es) => some (.int .i64 es.length)
    | _ => none
  | _, _ => none
/-- The elements that a slice (or a string, as bytes) holds. -/
def elems (esz : Nat) (h : AHeap) (x : AV) : Option (List (List AV)) :=
  match x with
  | .nils => some []
  | .str s => if esz = 1 then some (s.map fun c => [.int .u8 c]) else none
  | .sl b g i n => match h.m b with
    | some (.blk B) => if B.esz = esz ∧ B.sgen ≤ g then some ((B.cells.drop i).take n) else none
    | _ => none
  | _ => none
/-- The block behind an append: n of its elements, and es. -/
def Blk.app (B : Blk) (n : Nat) (es : List (List AV)) : Blk :=
  { B with cells := B.cells.take n ++ es, gen := B.gen + 1, sgen := if n = B.cells.length then B.sgen else B.gen + 1 }
/-- lim: so many elements may there be. -/
def fAppend (esz lim : Nat) (h : AHeap) (s x : AV) : Option (AV × AHeap) :=
  match elems esz h x with
  | none => none
  | some es => match s with
    | .nils => if es.length = 0 then some (.nils, h) else if es.length ≤ lim then some (fNewSl esz es h) else none
    | .sl b g i n => if es.length = 0 then some (.sl b g i n, h) else
      match h.m b with
      | some (.blk B) => if i = 0 ∧ B.ro = false ∧ g = B.gen ∧ B.esz = esz ∧ n + es.length ≤ lim then
          some (.sl b (g + 1) 0 (n + es.length), h.set b (.blk (B.app n es))) else none
      | _ => none
    | _ => none
def Blk.over (B : Blk) (i : Nat) (es : List (List AV)) : Blk :=
  { B with cells := B.cells.take i ++ (es ++ B.cells.drop (i + es.length)), sgen := B.gen }
def fCopy (esz : Nat) (h : AHeap) (d x : AV) : Option (AV × AHeap) :=
  match elems esz h x, d with
  | some _, .nils => some (.int .i64 0, h)
  | some es, .sl b g i n => match h.m b with
    | some (.blk B) => if B.ro = false ∧ g = B.gen ∧ B.esz = esz then
        some (.int .i64 (min es.length n : Nat), h.set b (.blk (B.over i (es.take n)))) else none
    | _ => none
  | _, _ => none
def min2 (x y : AV) : Option AV :=
  match x, y with
  | .int kd a, .int _ b => some (.int kd (if b < a then b else a))
  | _, _ => none
def max2 (x y : AV) : Option AV :=
  match x, y with
  | .int kd a, .int _ b => some (.int kd (if b > a then b else a))
  | _, _ => none
def fold2 (g : AV → AV → Option AV) : AV → List AV → Option AV
  | x, [] => some x
  | x, y :: r => match g x y with
    | some z => fold2 g z r
    | none => none
def byteOf : List AV → Option Int
  | [.int .u8 n] => some (n.toNat % 256 : Nat)
  | _ => none
def bytesOf : List (List AV) → Option (List Int)
  | [] => some []
  | e :: r => match byteOf e, bytesOf r with
    | some c, some s => some (c :: s)
    | _, _ => none
def fStrOf (h : AHeap) (x : AV) : Option AV :=
  match x with
  | .str _ => none
  | x => match elems 1 h x with
    | some es => (bytesOf es).map .str
    | none => none
def fBytesOf (h : AHeap) (x : AV) : Option (AV × AHeap) :=
  match x with
  | .str s => some (fNewSl 1 (s.map fun c => [.int .u8 c]) h)
  | _ => none
/-- Bytes that are to be seen as a string's. -/
def fMark (h : AHeap) (x : AV) : Option AV :=
  match x with
  | .sl b g i n => match h.m b with
    | some (.blk B) => if B.ro = false ∧ g = B.gen ∧ 0 < n then some (.sl b g i n) else none
    | _ => none
  | _ => none
def fConvInt (kd : IntKind) (x : AV) : Option AV :=
  match x with
  | .int _ n => some (.int kd (kd.wrap n))
  | _ => none
def isKey : AV → Bool
  | .int .. | .str _ => true
  | _ => false
def findE (key : AV) : List (AV × AV) → Option AV
  | [] => none
  | (x, v) :: r => match sameCell key x with
    | some true => some v
    | _ => findE key r
def setE (key v : AV) : List (AV × AV) → List (AV × AV)
  | [] => [(key, v)]
  | (x, u) :: r => match sameCell key x with
    | some true => (key, v) :: r
    | _ => (x, u) :: setE key v r
def sameKinds (key : AV) (es : List (AV × AV)) : Bool := es.all fun e => (sameCell key e.1).isSome
/-- Is it a key, of a map whose keys are strings (or whole numbers)? -/
def keyAt (ks : Bool) (key : AV) : Bool :=
  match ks, key with
  | true, .str _ => true
  | false, .int .. => true
  | _, _ => false
def fMakeMap (h : AHeap) : AV × AHeap := (.map h.n, h.push (.mp []))
def fMapUpdate (ks : Bool) (h : AHeap) (m key v : AV) : Option AHeap :=
  match m with
  | .map r => match h.m r with
    | some (.mp es) => if keyAt ks key = true ∧ v.isCell = true ∧ sameKinds key es = true then some (h.set r (.mp (setE key v es))) else none
    | _ => none
  | _ => none
def fLookup (ks ok : Bool) (zero : AV) (h : AHeap) (m key : AV) : Option AV :=
  match m with
  | .map r => match h.m r with
    | some (.mp es) => if keyAt ks key = true ∧ sameKinds key es = true then
        (match ok with
          | true => some (match findE key es with
            | some v => .tup [v, .bool true]
            | none => .tup [zero, .bool false])
          | false => some ((findE key es).getD zero)) else none
    | _ => none
  | _ => none
def fExtract (x : AV) (j : Nat) : Option AV :=
  match x with
  | .tup vs => vs[j]?
  | _ => none
def fNilCheck (x : AV) : Option AV :=
  match x with
  | .ptr b g i f => some (.ptr b g i f)
  | .fn g cs => some (.fn g cs)
  | _ => none

/-! ### What types say -/
structure TI where
  ag : Bool
  sz : Nat
  bytes : Nat
  zero : List AV
  zv : AV
def isAggD : TypeDesc → Bool
  | .struct _ | .array _ _ => true
  | _ => false
def tinfo (P : Program) (t : TypeId) : Option TI :=
  match P.underlying t, P.info? t with
  | some d, some i => match i.zero with
    | some z => some ⟨isAggD d, i.size, i.bytes, (ofValue z).cells, ofValue z⟩
    | none => none
  | _, _ => none
/-- A value's cells as a block's elements. -/
def chunk (k n : Nat) (cs : List AV) : List (List AV) := (List.range n).map fun i => (cs.drop (i * k)).take k
def blkOf (P : Program) (t : TypeId) (cs : List AV) : Option (Nat × List (List AV)) :=
  match P.underlying t with
  | some (.array n e) => match tinfo P e with
    | some i => if 0 < i.sz ∧ 0 < n ∧ cs.length = n * i.sz ∧ cs.all AV.isCell = true then some (i.sz, chunk i.sz n cs) else none
    | none => none
  | some _ => if 0 < cs.length ∧ cs.all AV.isCell = true then some (cs.length, [cs]) else none
  | none => none
def AV.known : AV → Bool
  | .unk => false
  | _ => true
def zeroOk : List AV → Bool
  | [.unk] => false
  | _ => true
/-- Parts into a list of cells. -/
def fillA (place : Nat → Option (Nat × Nat)) : List AV → List (Nat × AV) → Option (List AV)
  | cells, [] => some cells
  | cells, (i, v) :: rest => match place i with
    | none => none
    | some (off, size) => if v.known = true ∧ v.cells.length = size ∧ off + v.cells.length ≤ cells.length then
        fillA place (cells.take off ++ (v.cells ++ cells.drop (off + v.cells.length))) rest else none
def fieldOf (P : Program) (s : TypeId) (j : Nat) : Option (Nat × TI) :=
  match P.underlying s with
  | some (.struct fs) => match fs[j]? with
    | some f => (tinfo P f.type).map fun i => (f.offset, i)
    | none => none
  | _ => none
/-- Fields one behind the other, from a place on: the kinds of their cells. -/
def flatFs (P : Program) (ok : TypeId → Option (List Nat)) : List Field → Nat → Option (List Nat)
  | [], _ => some []
  | f :: r, o => if f.offset = o ∧ f.name ≠ "_" then
      match ok f.type, flatFs P ok r (o + P.cellsOf f.type) with
      | some k, some l => if k.length = P.cellsOf f.type then some (k ++ l) else none
      | _, _ => none
    else none
/-- Where '==' at a type is its cells' own: the cells' kinds (0: bools, 1: whole numbers, 2: strings). -/
def flatAt (P : Program) : Nat → TypeId → Option (List Nat)
  | 0, _ => none
  | d + 1, t => match P.underlying t with
    | some .bool => if P.cellsOf t = 1 then some [0] else none
    | some (.int _) => if P.cellsOf t = 1 then some [1] else none
    | some .string => if P.cellsOf t = 1 then some [2] else none
    | some (.struct fs) => if P.stoodInHeld t = false ∧ P.eqGuardType P.depth t = false then
        match flatFs P (flatAt P d) fs.toList 0 with
        | some l => if l.length = P.cellsOf t then some l else none
        | none => none
      else none
    | _ => none
def flatN (P : Program) (t : TypeId) : Option (List Nat) :=
  match P.underlying t with
  | some (.struct _) => flatAt P 10 t
  | _ => none
def sameOp : Operand → Operand → Bool
  | .tmp a, .tmp b => a == b
  | .const (.int _ a), .const (.int _ b) => a == b
  | _, _ => false

/-! ### One operation -/
abbrev PT := List AV → AHeap → (AV → AHeap → Prop) → Prop
def at_ (h : AHeap) (o : Option AV) : Option (AV × AHeap) := o.map fun v => (v, h)
def lenK : Option TypeDesc → Nat
  | some .string => 0
  | some (.slice _) => 1
  | some (.map _ _) => 2
  | _ => 3
def bltF (P : Program) (h : AHeap) (b : Builtin) (ts : Array TypeId) (args : List AV) : Option (AV × AHeap) :=
  match b, args with
  | .len, [x] => at_ h (fLen (lenK ((ts[0]?).bind P.underlying)) h x)
  | .append, [s, x] => match (ts[0]?).bind P.underlying, (ts[1]?).bind P.underlying with
    | some (.slice e), some (.slice _) | some (.slice e), some .string => match tinfo P e with
      | some i => if 0 < i.sz ∧ 0 < i.bytes ∧ i.zero.length = i.sz ∧ zeroOk i.zero = true then fAppend i.sz (140737488355328 / i.bytes) h s x else none
      | none => none
    | _, _ => none
  | .copy, [d, x] => match (ts[0]?).bind P.underlying with
    | some (.slice e) => match tinfo P e with
      | some i => if 0 < i.sz then fCopy i.sz h d x else none
      | none => none
    | _ => none
  | .min, x :: r => at_ h (fold2 min2 x r)
  | .max, x :: r => at_ h (fold2 max2 x r)
  | _, _ => none
/-- Is it a type whose values may be nil, and are then held against nil alone? -/
def nilAt (P : Program) (t : TypeId) : Nat :=
  match P.underlying t with
  | some (.pointer _) => 1
  | some (.slice _) => 2
  | some .bool => 3
  | _ => 0
def keyK (P : Program) (t : TypeId) : Option Bool :=
  match P.underlying t with
  | some (.int _) => some false
  | some .string => some true
  | _ => none
def fMakeFunc (fn : Fn) (first : Array Operand) (caps : List AV) : Option AV :=
  match fn, first with
  | .func g, ⟨[]⟩ => some (.fn g caps)
  | _, _ => none
def aopE (P : Program) (ev : Operand → AV) (h : AHeap) (op : Op) : Option (AV × AHeap) :=
  match op with
  | .move x | .assign x => some (ev x, h)
  | .pick c a b => at_ h (fPick (ev c) (ev a) (ev b))
  | .alloc t => match tinfo P t with
    | some i => (blkOf P t i.zero).map fun p => fNew p.1 p.2 h
    | none => none
  | .box t x => match tinfo P t with
    | some i => if i.sz = (ev x).cells.length then (blkOf P t (ev x).cells).map fun p => fNew p.1 p.2 h else none
    | none => none
  | .build t parts => match tinfo P t, P.underlying t with
    | some i, some (.struct fs) => if zeroOk i.zero = false then none else match fs.toList.mapM (fun f => (P.info? f.type).map fun i => (f.offset, i.size)) with
      | some places => at_ h ((fillA (fun j => places[j]?) i.zero (parts.toList.map fun p => (p.1, ev p.2))).map .agg)
      | none => none
    | some i, some (.array _ e) => if zeroOk i.zero = false then none else match tinfo P e with
      | some ie => at_ h ((fillA (fun j => some (j * ie.sz, ie.sz)) i.zero (parts.toList.map fun p => (p.1, ev p.2))).map .agg)
      | none => none
    | _, _ => none
  | .buildSlice t len parts => match P.underlying t with
    | some (.slice e) => match tinfo P e with
      | some i => if 0 < i.sz ∧ len * i.sz ≤ 16777216 ∧ i.zero.length = i.sz ∧ zeroOk i.zero = true then
          (fillA (fun j => some (j * i.sz, i.sz)) (List.replicate len i.zero).flatten (parts.toList.map fun p => (p.1, ev p.2))).bind fun cs =>
            if cs.all AV.isCell = true then some (fNewSl i.sz (chunk i.sz len cs) h) else none
          else none
      | none => none
    | _ => none
  | .load t a => match tinfo P t with
    | some i => if 0 < i.sz then at_ h (fLoad i.ag i.sz h (ev a)) else none
    | none => none
  | .store t a x => match tinfo P t with
    | some i => if 0 < i.sz then (fStore i.sz h (ev a) (ev x)).map fun h' => (.tup [], h') else none
    | none => none
  | .nilCheck x => at_ h (fNilCheck (ev x))
  | .binOp op t x y _ => at_ h (fBin op (flatN P t) (nilAt P t) (ev x) (ev y))
  | .unOp op _ x => at_ h (fUn op (ev x))
  | .convert s t x => match P.underlying s, P.underlying t with
    | some (.int _), some (.int kd) => at_ h (fConvInt kd (ev x))
    | some .string, some .string => (match ev x with
      | .str s => some (.str s, h)
      | _ => none)
    | some (.slice e), some .string => match P.underlying e with
      | some (.int .u8) => at_ h (fStrOf h (ev x))
      | _ => none
    | some .string, some (.slice e) => match P.underlying e with
      | some (.int .u8) => fBytesOf h (ev x)
      | _ => none
    | some (.slice e), some (.slice _) => match P.underlying e with
      | some (.int .u8) => if s = t then at_ h (fMark h (ev x)) else none
      | _ => none
    | _, _ => none
  | .makeFunc fn first caps => at_ h (fMakeFunc fn first (caps.toList.map ev))
  | .makeInterface t _ => match P.underlying t with
    | some (.interface _) => none
    | some _ => some (.unk, h)
    | none => none
  | .makeMap _ r => match r with
    | none => some (fMakeMap h)
    | some _ => none
  | .makeSlice t l c => match P.underlying t with
    | some (.slice e) => match tinfo P e with
      | some i => if 0 < i.sz ∧ 0 < i.bytes ∧ i.zero.length = i.sz ∧ i.zero.all AV.isCell = true ∧ sameOp l c = true then fMake i.sz i.bytes i.zero h (ev l) else none
      | none => none
    | _ => none
  | .slice t x lo hi mx => match P.underlying t with
    | some .string => if mx.isNone = true then at_ h (fSliceStr (ev x) (lo.map ev) (hi.map ev)) else none
    | some (.slice e) => match tinfo P e with
      | some i => at_ h (fSlice i.sz h (ev x) (lo.map ev) (hi.map ev) (mx.map ev))
      | none => none
    | some (.array n e) => match tinfo P e with
      | some i => if mx.isNone = true then at_ h (fSliceArr n i.sz h (ev x) (lo.map ev) (hi.map ev)) else none
      | none => none
    | _ => none
  | .fieldAddr s x j => match fieldOf P s j with
    | some (off, i) => if 0 < i.sz then at_ h (fFieldAddr off (ev x)) else none
    | none => none
  | .field s x j => match fieldOf P s j with
    | some (off, i) => at_ h (fField i.ag off i.sz (ev x))
    | none => none
  | .indexAddr t x i => match P.underlying t with
    | some (.slice e) => match tinfo P e with
      | some ie => at_ h (fIndexAddr none ie.sz h (ev x) (ev i))
      | none => none
    | some (.array n e) => match tinfo P e with
      | some ie => at_ h (fIndexAddr (some n) ie.sz h (ev x) (ev i))
      | none => none
    | _ => none
  | .index t x i => match P.underlying t with
    | some .string => at_ h (fIndexStr (ev x) (ev i))
    | some (.array n e) => match tinfo P e with
      | some ie => at_ h (fIndexArr ie.ag n ie.sz (ev x) (ev i))
      | none => none
    | _ => none
  | .lookup t x i ok => match P.underlying t with
    | some (.map kt e) => match tinfo P e, keyK P kt with
      | some ie, some ks => at_ h (fLookup ks ok ie.zv h (ev x) (ev i))
      | _, _ => none
    | _ => none
  | .mapUpdate t m key x => match P.underlying t with
    | some (.map kt _) => match keyK P kt with
      | some ks => (fMapUpdate ks h (ev m) (ev key) (ev x)).map fun h' => (.tup [], h')
      | none => none
    | _ => none
  | .extract t j => at_ h (fExtract (ev t) j)
  | .call c => match c.callee with
    | .builtin b => bltF P h b c.argTypes (c.args.toList.map ev)
    | _ => none
  | _ => none
def aopF (P : Program) (f : Fr) (h : AHeap) (op : Op) : Option (AV × AHeap) := aopE P (evalO f) h op
/-- The function that a call goes to, and what it is handed. -/
def calleeF (f : Fr) : Op → Option (FuncId × List AV)
  | .call c => match c.callee with
    | .value x => match evalO f x with
      | .fn g caps => some (g, c.args.toList.map (evalO f) ++ caps)
      | _ => none
    | _ => none
  | _ => none
def isCallV : Op → Bool
  | .call c => match c.callee with
    | .value _ => true
    | _ => false
  | _ => false
def aop (P : Program) (call : FuncId → PT) (f : Fr) (h : AHeap) (op : Op) (k : AV → AHeap → Prop) : Prop :=
  match isCallV op with
  | true => match calleeF f op with
    | some p => call p.1 p.2 h k
    | none => False
  | false => bind2 (aopF P f h op) k

/-! ### Regions -/
/-- Is it to be run? A test that isn't known parts the ways, and is known then. -/
def wantedA (ops : Array Oper) (f : Fr) (o : Oper) (yes no : Fr → Prop) : Prop :=
  match o.guard with
  | none => yes f
  | some (j, want) => match (ops[j]?).bind (·.dst) with
    | some d => (match f.getD d (.tup []) with
      | .bool b => ifB b (if want = true then yes (f.set d (.bool true)) else no (f.set d (.bool true))) (if want = true then no (f.set d (.bool false)) else yes (f.set d (.bool false)))
      | .tup [] => no f
      | _ => False)
    | none => no f
def execOps (P : Program) (call : FuncId → PT) (ops : Array Oper) : List Oper → Fr → AHeap → (Fr → AHeap → Prop) → Prop
  | [], f, h, k => k f h
  | o :: rest, f, h, k => wantedA ops f o
      (fun f => aop P call f h o.op fun v h' => execOps P call ops rest (putO f o.dst v) h' k)
      (fun f => execOps P call ops rest (putO f o.dst (.tup [])) h k)
/-- Does it change memory, or a variable? -/
def solidOp (P : Program) : Op → Bool
  | .move _ | .pick .. | .build .. | .nilCheck _ | .binOp .. | .unOp .. | .makeFunc .. | .makeInterface .. | .slice .. | .fieldAddr .. | .field ..
  | .indexAddr .. | .index .. | .extract .. | .load .. | .lookup .. => false
  | .convert _ t _ => match P.underlying t with
    | some (.int _) => false
    | _ => true
  | .call c => match c.callee with
    | .builtin .len | .builtin .min | .builtin .max => false
    | _ => true
  | _ => true
/-- Does it look at no memory? -/
def steadyOp : Op → Bool
  | .load .. | .lookup .. | .slice .. | .indexAddr .. | .call _ => false
  | _ => true
def ordB (b : Array Nat) (i j : Nat) : Bool := (b.getD j 0).testBit i
def readsT (ops : Array Oper) (o : Oper) : List Tmp :=
  (o.op.operands.toList.filterMap fun | .tmp t => some t | _ => none) ++ (match o.guard with
    | some (g, _) => ((ops[g]?).bind (·.dst)).toList
    | none => [])
/-- What a region whose order is open must be. -/
def drawOk (P : Program) (ops : Array Oper) (b : Array Nat) : Bool :=
  ops.toList.zipIdx.all fun (o, j) =>
    o.after.toList.all (fun e => !Region.binds .any e || decide (e.on < j)) &&
    ops.toList.zipIdx.all fun (q, i) => match q.dst with
      | none => true
      | some d => if i = j then !(readsT ops o).contains d || solidOp P o.op else
          (!(readsT ops o).contains d || ordB b i j || (ordB b j i && solidOp P q.op)) && (o.dst != some d || (solidOp P q.op && solidOp P o.op))
def maskOf (o : Oper) : Nat := o.after.toList.foldl (fun s e => if Region.binds .any e then s ||| 2 ^ e.on else s) 0
def availB (ops : Array Oper) (C i : Nat) : Bool := !C.testBit i && (match ops[i]? with
  | some o => maskOf o &&& C == maskOf o
  | none => false)
def softAt (P : Program) (ops : Array Oper) (i : Nat) : Bool := match ops[i]? with
  | some o => !solidOp P o.op
  | none => false
def soft (P : Program) (ops : Array Oper) (C : Nat) : Option Nat := (List.range ops.size).find? fun i => availB ops C i && softAt P ops i
def hards (ops : Array Oper) (C : Nat) : List Nat := (List.range ops.size).filter fun i => availB ops C i
abbrev Pend := List (Nat × Op × AV)
def lagsOk (P : Program) (b : Array Nat) (i : Nat) (f : Fr) (h : AHeap) : Pend → Prop
  | [] => True
  | (j, op, v) :: r => if ordB b j i = true then lagsOk P b i f h r else (aopF P f h op = some (v, h) ∧ lagsOk P b i f h r)
def allP : List Nat → (Nat → Prop) → Prop
  | [], _ => True
  | [x], p => p x
  | x :: r, p => p x ∧ allP r p
def execD (P : Program) (call : FuncId → PT) (ops : Array Oper) (b : Array Nat) : Nat → Nat → Pend → Fr → AHeap → (Fr → AHeap → Prop) → Prop
  | 0, _, _, _, _, _ => False
  | n + 1, C, pend, f, h, k => match soft P ops C with
    | some i => match ops[i]? with
      | some o => wantedA ops f o
          (fun f => bind2 (aopF P f h o.op) fun v _ => execD P call ops b n (C ||| 2 ^ i) (match steadyOp o.op with | true => pend | false => (i, o.op, v) :: pend) (putO f o.dst v) h k)
          (fun f => execD P call ops b n (C ||| 2 ^ i) pend (putO f o.dst (.tup [])) h k)
      | none => False
    | none => match hards ops C with
      | [] => k f h
      | l => allP l fun i => match ops[i]? with
        | some o => wantedA ops f o
            (fun f => aop P call f h o.op fun v h' => lagsOk P b i f h' pend ∧ execD P call ops b n (C ||| 2 ^ i) pend (putO f o.dst v) h' k)
            (fun f => execD P call ops b n (C ||| 2 ^ i) pend (putO f o.dst (.tup [])) h k)
        | none => False

/-! ### Code -/
inductive Ex where
  | normal
  | exit (id : Nat)
  | ret
def keep (l : List Nat) (f : Fr) : Fr := f.mapIdx fun i v => if l.contains i then v else .unk
/-- The region that a piece of code begins with. -/
def firstId : Code → Option Nat
  | .region id _ _ => some id
  | .seq .skip b => firstId b
  | .seq a _ => firstId a
  | .block _ a => firstId a
  | .loop a => firstId a
  | .scope a => firstId a
  | _ => none
def clr (hints : Nat → Option (List Nat)) (c : Code) (f : Fr) : Fr :=
  match (firstId c).bind hints with
  | some l => keep l f
  | none => f
abbrev AK := Ex → Fr → AHeap → Prop
/-- A loop: what holds of every state that all its rounds lead to. -/
def loopW (step : Fr → AHeap → AK → Prop) (cl : Fr → Fr) (f : Fr) (h : AHeap) (k : AK) : Prop :=
  ∀ I : Fr → AHeap → Prop, (∀ f h, step (cl f) h (fun e f' h' => match e with
    | .normal => I f' h'
    | e => k e f' h') → I f h) → I f h
def exec (P : Program) (call : FuncId → PT) (hints : Nat → Option (List Nat)) : Code → Fr → AHeap → AK → Prop
  | .skip, f, h, k | .label _, f, h, k => k .normal f h
  | .region _ ops draw, f, h, k => match draw with
    | false => execOps P call ops ops.toList f h fun f h => k .normal f h
    | true => drawOk P ops (Region.before ops) = true ∧ execD P call ops (Region.before ops) (ops.size + 1) 0 [] f h fun f h => k .normal f h
  | .seq a b, f, h, k => exec P call hints a f h fun e f h => match e with
    | .normal => exec P call hints b (clr hints b f) h k
    | e => k e f h
  | .cond c a b, f, h, k => match evalO f c with
    | .bool t => (match c with
      | .tmp d => ifB t (exec P call hints a (f.set d (.bool true)) h k) (exec P call hints b (f.set d (.bool false)) h k)
      | _ => ifB t (exec P call hints a f h k) (exec P call hints b f h k))
    | _ => False
  | .block id a, f, h, k => exec P call hints a f h fun e f h => match e with
    | .exit id' => if id' = id then k .normal f h else k (.exit id') f h
    | e => k e f h
  | .loop a, f, h, k => loopW (fun f h k => exec P call hints a f h k) (clr hints a) f h k
  | .scope a, f, h, k => exec P call hints a f h k
  | .exit id, f, h, k => k (.exit id) f h
  | .ret, f, h, k => k .ret f h
  | _, _, _, _ => False

def resOf (P : Program) (f : Fr) (h : AHeap) : ResultVar → Option AV
  | .tmp t => some (f.getD t (.tup []))
  | .cell a t => match tinfo P t with
    | some i => match h.getA (f.getD a (.tup [])) i.sz with
      | some cs => match i.ag, cs with
        | true, cs => some (.agg cs)
        | false, [c] => some c
        | _, _ => none
      | none => none
    | none => none
def resultsA (P : Program) (fn : Func) (f : Fr) (h : AHeap) (Q : AV → AHeap → Prop) : Prop :=
  match fn.results.toList.mapM (resOf P f h) with
  | some [v] => Q v h
  | some vs => Q (.tup vs) h
  | none => False

structure Env where
  P : Program
  hints : FuncId → Nat → Option (List Nat)
  ext : FuncId → Option PT
def W (E : Env) : Nat → FuncId → PT
  | 0, _, _, _, _ => False
  | n + 1, g, args, h, Q => match E.ext g with
    | some F => F args h Q
    | none => match E.P.funcs[g]? with
      | some fn => (fn.name == "runtime.NumGoroutine") = false ∧ (match fn.body with
        | some c => exec E.P (W E n) (E.hints g) c (args ++ List.replicate (fn.ntmps - args.length) (.tup [])) h fun e f h => match e with
          | .exit _ => False
          | _ => resultsA E.P fn f h Q
        | none => False)
      | none => False
def Run (E : Env) (g : FuncId) : PT := fun args h Q => ∃ n, W E n g args h Q
end Go.AM
/- How the abstract machine's values and memory stand in the model's world. -/
namespace Go.AM
open Go Go.RowKit
set_option linter.unusedVariables false

structure Loc where
  k : Nat
  o : Nat
  L : Nat
  C : Nat
  esz : Nat
  ro : Bool
structure Emb where
  bl : Nat → Nat → Option Loc
  mp : Nat → Option Nat

inductive RV (β : Emb) : AV → Value → Prop
  | unk (v : Value) : RV β .unk v
  | bool (b : Bool) : RV β (.bool b) (.bool b)
  | int (k : IntKind) (n : Int) : RV β (.int k n) (.int k n)
  | str (s : ByteArray) (l : List Int) (h : s.data.toList.map (fun b => (b.toNat : Int)) = l) : RV β (.str l) (.string s)
  | ptr (b g i f : Nat) (l : Loc) (hl : β.bl b g = some l) (hi : i < l.L) : RV β (.ptr b g i f) (.pointer (some ⟨l.k, l.o + (i * l.esz + f), none⟩))
  | nilp : RV β .nilp (.pointer none)
  | sl (b g i n : Nat) (l : Loc) (a : Addr) (cap : Nat) (hl : β.bl b g = some l) (hi : i + n ≤ l.L) (hn : n ≤ cap) (hc : i + cap ≤ l.C)
      (ha : cap = 0 ∨ a = ⟨l.k, l.o + i * l.esz, none⟩) : RV β (.sl b g i n) (.slice (some a) n cap)
  | nils : RV β .nils (.slice none 0 0)
  | map (r k : Nat) (h : β.mp r = some k) : RV β (.map r) (.map (some k))
  | nilm : RV β .nilm (.map none)
  | fn (g : FuncId) (caps : List AV) (cvs : Array Value) (hl : caps.length = cvs.size) (h : ∀ (i : Nat) (a : AV) (v : Value), caps[i]? = some a → cvs[i]? = some v → RV β a v) :
      RV β (.fn g caps) (.func (.func g) #[] cvs)
  | nilf : RV β .nilf .nilFunc
  | agg (cs : List AV) (cvs : Array Value) (hl : cs.length = cvs.size) (h : ∀ (i : Nat) (a : AV) (v : Value), cs[i]? = some a → cvs[i]? = some v → RV β a v) : RV β (.agg cs) (.agg cvs)
  | tup (cs : List AV) (cvs : Array Value) (hl : cs.length = cvs.size) (h : ∀ (i : Nat) (a : AV) (v : Value), cs[i]? = some a → cvs[i]? = some v → RV β a v) : RV β (.tup cs) (.tuple cvs)

def RVs (β : Emb) (as : List AV) (vs : Array Value) : Prop := as.length = vs.size ∧ ∀ (i : Nat) (a : AV) (v : Value), as[i]? = some a → vs[i]? = some v → RV β a v

structure Ext (β β' : Emb) : Prop where
  bl : ∀ b g l, β.bl b g = some l → β'.bl b g = some l
  mp : ∀ r k, β.mp r = some k → β'.mp r = some k
theorem Ext.refl (β : Emb) : Ext β β := ⟨fun _ _ _ h => h, fun _ _ h => h⟩
theorem Ext.trans {a b c : Emb} (h : Ext a b) (k : Ext b c) : Ext a c := ⟨fun b g l x => k.bl b g l (h.bl b g l x), fun r q x => k.mp r q (h.mp r q x)⟩

theorem RV.mono {β β' : Emb} (e : Ext β β') {v : AV} {c : Value} (h : RV β v c) : RV β' v c := by
  induction h with
  | unk v => exact .unk v
  | bool b => exact .bool b
  | int k n => exact .int k n
  | str s l h => exact .str s l h
  | ptr b g i f l hl hi => exact .ptr b g i f l (e.bl _ _ _ hl) hi
  | nilp => exact .nilp
  | sl b g i n l a cap hl hi hn hc ha => exact .sl b g i n l a cap (e.bl _ _ _ hl) hi hn hc ha
  | nils => exact .nils
  | map r k h => exact .map r k (e.mp _ _ h)
  | nilm => exact .nilm
  | fn g caps cvs hl h ih => exact .fn g caps cvs hl ih
  | nilf => exact .nilf
  | agg cs cvs hl h ih => exact .agg cs cvs hl ih
  | tup cs cvs hl h ih => exact .tup cs cvs hl ih
theorem RVs.mono {β β' : Emb} (e : Ext β β') {as : List AV} {vs : Array Value} (h : RVs β as vs) : RVs β' as vs := ⟨h.1, fun i a v x y => (h.2 i a v x y).mono e⟩

/-- No cell of a block is shared with a string. -/
def Frz (c : Array Value) (fr : Nat × Nat) : Prop := fr.1 = fr.2 ∨ c.size ≤ fr.1
theorem Frz.free {c : Array Value} {fr : Nat × Nat} (h : Frz c fr) {j : Nat} (hj : j < c.size) : ¬ (fr.1 ≤ j ∧ j < fr.2) := by
  unfold Frz at h
  omega
theorem Frz.same {c c' : Array Value} {fr : Nat × Nat} (h : Frz c fr) (e : c'.size = c.size) : Frz c' fr := by
  unfold Frz at *
  rw [e]; exact h
/-- A block of the abstract memory, where it lies. -/
structure BRel (β : Emb) (B : Blk) (g : Nat) (l : Loc) (w : World) : Prop where
  esz : l.esz = B.esz
  ro : l.ro = B.ro
  gle : g ≤ B.gen
  Lle : B.sgen ≤ g → l.L ≤ B.cells.length
  Leq : g = B.gen → l.L = B.cells.length
  sle : B.sgen ≤ B.gen
  pos : 0 < B.esz
  len : ∀ e ∈ B.cells, e.length = B.esz
  isc : ∀ e ∈ B.cells, ∀ v ∈ e, v.isCell = true
  klt : l.k < w.heap.size
  cell : B.sgen ≤ g → ∀ (i : Nat) (e : List AV) (f : Nat) (v : AV), i < l.L → B.cells[i]? = some e → e[f]? = some v → ∃ cv, w.cell? ⟨l.k, l.o + (i * l.esz + f), none⟩ = some cv ∧ RV β v cv
  room : l.ro = false → ∃ c t fr, w.heap[l.k]? = some (.cells c t fr) ∧ l.o + l.C * l.esz ≤ c.size ∧ l.L ≤ l.C ∧ Frz c fr

structure Rel (β : Emb) (h : AHeap) (w : World) : Prop where
  dom : ∀ b g l, β.bl b g = some l → b < h.n
  mdom : ∀ r k, β.mp r = some k → r < h.n
  blk : ∀ b g l, β.bl b g = some l → ∃ B, h.m b = some (.blk B) ∧ BRel β B g l w
  inj : ∀ b g l b' g' l', β.bl b g = some l → β.bl b' g' = some l' → l.k = l'.k → l.ro = false → b = b'
  off : ∀ b g l g' l', β.bl b g = some l → β.bl b g' = some l' → l.k = l'.k → l.o = l'.o
  mp : ∀ r k, β.mp r = some k → ∃ es, h.m r = some (.mp es) ∧ ∃ ents clock, w.heap[k]? = some (.map ents clock) ∧ ents.size = es.length ∧
    ∀ (i : Nat) (key v : AV), es[i]? = some (key, v) → ∃ e, ents[i]? = some e ∧ isKey key = true ∧ RV β key e.key ∧ RV β v e.val
  minj : ∀ r r' k, β.mp r = some k → β.mp r' = some k → r = r'

/-- What a step may do to the world: what isn't the image of a block that may be written stands. -/
structure Fc (β : Emb) (w w' : World) : Prop where
  os : w'.os = w.os
  tape : w'.tape = w.tape
  output : w'.output = w.output
  size : w.heap.size ≤ w'.heap.size
  block : ∀ k, k < w.heap.size → (∀ b g l, β.bl b g = some l → l.k = k → l.ro = true) → (∀ r, β.mp r ≠ some k) → w'.heap[k]? = w.heap[k]?
structure Post (β β' : Emb) (h h' : AHeap) (w w' : World) : Prop where
  ext : Ext β β'
  fc : Fc β w w'
  n : h.n ≤ h'.n
  newk : ∀ b g l, β'.bl b g = some l → β.bl b g = some l ∨ w.heap.size ≤ l.k ∨ ∃ g' l', β.bl b g' = some l' ∧ l'.k = l.k
  newb : ∀ b g l, β'.bl b g = some l → (∃ g' l', β.bl b g' = some l') ∨ (h.n ≤ b ∧ b < h'.n)
  newm : ∀ r k, β'.mp r = some k → β.mp r = some k ∨ (w.heap.size ≤ k ∧ h.n ≤ r ∧ r < h'.n)
theorem Post.refl (β : Emb) (h : AHeap) (w : World) : Post β β h h w w :=
  ⟨.refl β, ⟨rfl, rfl, rfl, Nat.le_refl _, fun _ _ _ _ => rfl⟩, Nat.le_refl _, fun _ _ _ x => .inl x, fun b g l x => .inl ⟨g, l, x⟩, fun _ _ x => .inl x⟩

theorem Post.trans {β β' β'' : Emb} {h h' h'' : AHeap} {w w' w'' : World} (R : Rel β' h' w') (p : Post β β' h h' w w') (q : Post β' β'' h' h'' w' w'') : Post β β'' h h'' w w'' where
  ext := p.ext.trans q.ext
  n := Nat.le_trans p.n q.n
  fc := by
    refine ⟨q.fc.os.trans p.fc.os, q.fc.tape.trans p.fc.tape, q.fc.output.trans p.fc.output, Nat.le_trans p.fc.size q.fc.size, fun k hk hb hm => ?_⟩
    have h1 := p.fc.block k hk hb hm
    refine (q.fc.block k (Nat.lt_of_lt_of_le hk p.fc.size) (fun b g l hl e => ?_) (fun r hr => ?_)).trans h1
    · rcases p.newk b g l hl with h2 | h2 | ⟨g', l', h2, h3⟩
      · exact hb b g l h2 e
      · omega
      · have h4 := hb b g' l' h2 (h3.trans e)
        obtain ⟨B, hB, b1⟩ := R.blk b g l hl
        obtain ⟨B', hB', b2⟩ := R.blk b g' l' (p.ext.bl _ _ _ h2)
        rw [hB] at hB'
        injection hB' with hB'
        injection hB' with hB'
        subst hB'
        rw [b1.ro, ← b2.ro, h4]
    · rcases p.newm r k hr with h2 | ⟨h2, _⟩
      · exact hm r h2
      · omega
  newk := by
    intro b g l hl
    rcases q.newk b g l hl with h1 | h1 | ⟨g', l', h1, h2⟩
    · exact p.newk b g l h1
    · exact .inr (.inl (Nat.le_trans p.fc.size h1))
    · rcases p.newk b g' l' h1 with h3 | h3 | ⟨g2, l2, h3, h4⟩
      · exact .inr (.inr ⟨g', l', h3, h2⟩)
      · exact .inr (.inl (by omega))
      · exact .inr (.inr ⟨g2, l2, h3, h4.trans h2⟩)
  newb := by
    intro b g l hl
    rcases q.newb b g l hl with ⟨g', l', h1⟩ | ⟨h1, h2⟩
    · rcases p.newb b g' l' h1 with h3 | ⟨h3, h4⟩
      · exact .inl h3
      · exact .inr ⟨h3, Nat.lt_of_lt_of_le h4 q.n⟩
    · exact .inr ⟨Nat.le_trans p.n h1, h2⟩
  newm := by
    intro r k hr
    rcases q.newm r k hr with h1 | ⟨h1, h2, h3⟩
    · rcases p.newm r k h1 with h4 | ⟨h4, h5, h6⟩
      · exact .inl h4
      · exact .inr ⟨h4, h5, Nat.lt_of_lt_of_le h6 q.n⟩
    · exact .inr ⟨Nat.le_trans p.fc.size h1, Nat.le_trans p.n h2, h3⟩
end Go.AM
/- One operation of the abstract machine: what it answers, the model's operation answers (values alone). -/
namespace Go.AM
open Go Go.RowKit
set_option linter.unusedVariables false
set_option linter.unusedSimpArgs false

theorem RV.undef (β : Emb) : RV β (.tup []) Go.undef := .tup [] #[] rfl (fun i a v h => by simp at h)
theorem ofCell_rv (β : Emb) (v : Value) : RV β (ofCell v) v := by
  unfold ofCell
  split
  · exact .bool _
  · exact .int _ _
  · exact .str _ _ rfl
  · exact .nilp
  · exact .nils
  · exact .nilm
  · exact .nilf
  · exact .unk _
theorem ofValue_rv (β : Emb) (v : Value) : RV β (ofValue v) v := by
  unfold ofValue
  split
  · rename_i cs
    refine .agg _ _ (by simp) (fun i a v ha hv => ?_)
    rw [List.getElem?_map] at ha
    simp only [Array.getElem?_toList, hv, Option.map_some, Option.some.injEq] at ha
    subst ha
    exact ofCell_rv β v
  · exact .tup _ _ rfl (fun i a v ha hv => by simp at ha)
  · exact ofCell_rv β _
theorem getD_rv {β : Emb} {f : Fr} {tmps : Array Value} (h : RVs β f tmps) (t : Nat) : RV β (f.getD t (.tup [])) (tmps.getD t Go.undef) := by
  rcases Nat.lt_or_ge t tmps.size with ht | ht
  · have hf : t < f.length := by have := h.1; omega
    rw [List.getD_eq_getElem?_getD, List.getElem?_eq_getElem hf]
    have e : tmps.getD t Go.undef = tmps[t] := by simp [Array.getD, ht]
    rw [e]
    exact h.2 t _ _ (List.getElem?_eq_getElem hf) (Array.getElem?_eq_getElem ht)
  · have hf : f.length ≤ t := by have := h.1; omega
    rw [List.getD_eq_getElem?_getD, List.getElem?_eq_none hf]
    have e : tmps.getD t Go.undef = Go.undef := by
      rw [Array.getD_eq_getD_getElem?, Array.getElem?_eq_none ht]; rfl
    rw [e]
    exact RV.undef β
theorem eval_rv {β : Emb} {f : Fr} {a : Act} (h : RVs β f a.tmps) (x : Operand) : RV β (evalO f x) (a.eval x) := by
  cases x with
  | tmp t => exact getD_rv h t
  | const v => exact ofValue_rv β v
  | global g => exact .unk _
  | func g => exact .fn g [] #[] rfl (fun i a v ha => by simp at ha)
theorem put_rv {β : Emb} {f : Fr} {a : Act} (h : RVs β f a.tmps) (d : Option Tmp) {v : AV} {c : Value} (hv : RV β v c) : RVs β (putO f d v) (a.put d c).tmps := by
  cases d with
  | none => exact h
  | some d =>
    have hl : f.length = a.tmps.size := h.1
    refine ⟨by simpa [putO, Act.put] using h.1, fun i x y hx hy => ?_⟩
    simp only [putO, Act.put, List.getElem?_set, Array.getElem?_setIfInBounds] at hx hy
    by_cases e : d = i
    · subst e
      rw [if_pos rfl] at hx hy
      by_cases l : d < f.length
      · rw [if_pos l] at hx
        rw [if_pos (hl ▸ l)] at hy
        cases hx; cases hy; exact hv
      · rw [if_neg l] at hx; cases hx
    · rw [if_neg e] at hx hy
      exact h.2 i x y hx hy
theorem evals_rv {β : Emb} {f : Fr} {a : Act} (h : RVs β f a.tmps) (xs : Array Operand) : RVs β (xs.toList.map (evalO f)) (xs.map a.eval) := by
  refine ⟨by simp, fun i x y hx hy => ?_⟩
  rw [List.getElem?_map] at hx
  rw [Array.getElem?_map] at hy
  cases e : xs[i]? with
  | none => rw [e] at hy; cases hy
  | some z =>
    rw [e] at hy
    rw [Array.getElem?_toList, e] at hx
    cases hx; cases hy
    exact eval_rv h z
theorem RVs.append {β : Emb} {as bs : List AV} {vs ws : Array Value} (h : RVs β as vs) (k : RVs β bs ws) : RVs β (as ++ bs) (vs ++ ws) := by
  refine ⟨by simp [h.1, k.1], fun i x y hx hy => ?_⟩
  rw [List.getElem?_append] at hx
  rw [Array.getElem?_append] at hy
  have := h.1
  by_cases l : i < as.length
  · rw [if_pos l] at hx; rw [if_pos (by omega)] at hy; exact h.2 i x y hx hy
  · rw [if_neg l] at hx; rw [if_neg (by omega)] at hy; rw [this] at hx; exact k.2 _ x y hx hy
theorem RV.cells {β : Emb} {v : AV} {c : Value} (h : RV β v c) (hu : v ≠ .unk) : RVs β v.cells c.cells := by
  cases h with
  | unk v => exact absurd rfl hu
  | agg cs cvs hl h => exact ⟨hl, h⟩
  | _ =>
    refine ⟨by simp [AV.cells, Value.cells], fun i x y hx hy => ?_⟩
    simp only [AV.cells, Value.cells] at hx hy
    match i, hx, hy with
    | 0, hx, hy => simp at hx hy; subst hx; subst hy; constructor <;> assumption

/-! ### What an operation comes to -/
def OpOut (P : Program) (o : Oper) (f : Fr) (h : AHeap) (v : AV) (h' : AHeap) : Prop :=
  ∀ (β : Emb) (w : World) (a : Act), Rel β h w → RVs β f a.tmps → ∀ (next : Act → World → Prop) (Q : Exit → Act → World → Prop),
    (∀ β' w' cv, RV β' v cv → Rel β' h' w' → Post β β' h h' w w' → next (a.put o.dst cv) w') → o.wp P a w next Q
theorem OpOut.val {P : Program} {o : Oper} {f : Fr} {h h' : AHeap} {v : AV}
    (H : ∀ (β : Emb) (w : World) (a : Act), Rel β h w → RVs β f a.tmps → ∃ cv w' β', (execOp a.eval o).run P w = .ok (.value cv) w' ∧ RV β' v cv ∧ Rel β' h' w' ∧ Post β β' h h' w w') :
    OpOut P o f h v h' := by
  intro β w a R F next Q k
  obtain ⟨cv, w', β', h1, h2, h3, h4⟩ := H β w a R F
  unfold Oper.wp
  rw [h1]
  exact k β' w' cv h2 h3 h4
theorem OpOut.skip {P : Program} {o : Oper} {f : Fr} {h h' : AHeap}
    (H : ∀ (β : Emb) (w : World) (a : Act), Rel β h w → RVs β f a.tmps → ∃ w' β', (execOp a.eval o).run P w = .ok .skip w' ∧ Rel β' h' w' ∧ Post β β' h h' w w') :
    OpOut P o f h (.tup []) h' := by
  intro β w a R F next Q k
  obtain ⟨w', β', h1, h3, h4⟩ := H β w a R F
  unfold Oper.wp
  rw [h1]
  exact k β' w' undef (RV.undef _) h3 h4
theorem OpOut.pure {P : Program} {o : Oper} {f : Fr} {h : AHeap} {v : AV}
    (H : ∀ (β : Emb) (w : World) (a : Act), Rel β h w → RVs β f a.tmps → ∃ cv, (execOp a.eval o).run P w = .ok (.value cv) w ∧ RV β v cv) : OpOut P o f h v h :=
  .val fun β w a R F => by
    obtain ⟨cv, h1, h2⟩ := H β w a R F
    exact ⟨cv, w, β, h1, h2, R, Post.refl ..⟩
/-! ### Memory -/
theorem addr_add (k o n : Nat) : (⟨k, o, none⟩ : Addr).add n = ⟨k, o + n, none⟩ := by
  unfold Addr.add
  split <;> simp_all
theorem cell_heap {w w' : World} {k : Nat} (h : w'.heap[k]? = w.heap[k]?) (o : Nat) (s : Option Nat) : w'.cell? ⟨k, o, s⟩ = w.cell? ⟨k, o, s⟩ := by
  unfold World.cell?
  simp only [h]
theorem cell_cells {w : World} {k : Nat} {c : Array Value} {t : TypeId} {fr : Nat × Nat} (h : w.heap[k]? = some (.cells c t fr)) (o : Nat) : w.cell? ⟨k, o, none⟩ = c[o]? := by
  unfold World.cell?
  simp [h]
theorem BRel.keep {β β' : Emb} {B : Blk} {g : Nat} {l : Loc} {w w' : World} (b : BRel β B g l w) (e : Ext β β') (hh : w'.heap[l.k]? = w.heap[l.k]?) (hs : w.heap.size ≤ w'.heap.size) : BRel β' B g l w' := by
  refine ⟨b.esz, b.ro, b.gle, b.Lle, b.Leq, b.sle, b.pos, b.len, b.isc, Nat.lt_of_lt_of_le b.klt hs, fun x i e' f v h1 h2 h3 => ?_, fun h => ?_⟩
  · obtain ⟨cv, h4, h5⟩ := b.cell x i e' f v h1 h2 h3
    exact ⟨cv, (cell_heap hh _ _).trans h4, h5.mono e⟩
  · obtain ⟨c, t, fr, h1, h2⟩ := b.room h
    exact ⟨c, t, fr, hh.trans h1, h2⟩
def Emb.add (β : Emb) (b g : Nat) (l : Loc) : Emb := ⟨fun b' g' => if b' = b ∧ g' = g then some l else β.bl b' g', β.mp⟩
theorem Emb.add_at (β : Emb) (b g : Nat) (l : Loc) : (β.add b g l).bl b g = some l := by simp [Emb.add]
theorem Emb.add_ext {β : Emb} {b g : Nat} {l : Loc} (h : β.bl b g = none) : Ext β (β.add b g l) := by
  refine ⟨fun b' g' l' hl => ?_, fun r k hr => hr⟩
  simp only [Emb.add]
  split
  · rename_i e; rw [e.1, e.2, h] at hl; cases hl
  · exact hl
theorem Emb.add_inv {β : Emb} {b g b' g' : Nat} {l l' : Loc} (h : (β.add b g l).bl b' g' = some l') : (b' = b ∧ g' = g ∧ l' = l) ∨ β.bl b' g' = some l' := by
  simp only [Emb.add] at h
  split at h
  · rename_i e; exact .inl ⟨e.1, e.2, by cases h; rfl⟩
  · exact .inr h
theorem fresh_bl {β : Emb} {h : AHeap} {w : World} (R : Rel β h w) (g : Nat) : β.bl h.n g = none := by
  cases e : β.bl h.n g with
  | none => rfl
  | some l => exact absurd (R.dom _ _ _ e) (Nat.lt_irrefl _)
/-- A new block. -/
theorem push_rel {β : Emb} {h : AHeap} {w w' : World} {esz C : Nat} {cs : List (List AV)} {c : Array Value} {t : TypeId} {fr : Nat × Nat} (R : Rel β h w) (hpos : 0 < esz)
    (hlen : ∀ e ∈ cs, e.length = esz) (hisc : ∀ e ∈ cs, ∀ v ∈ e, v.isCell = true) (os : w'.os = w.os) (tape : w'.tape = w.tape) (output : w'.output = w.output) (hs : w'.heap.size = w.heap.size + 1)
    (hold : ∀ k, k < w.heap.size → w'.heap[k]? = w.heap[k]?) (hnew : w'.heap[w.heap.size]? = some (.cells c t fr)) (hC : cs.length ≤ C) (hc : C * esz ≤ c.size)
    (hfr : Frz c fr)
    (hrv : ∀ (i : Nat) (e : List AV) (f : Nat) (v : AV), cs[i]? = some e → e[f]? = some v → ∃ cv, c[i * esz + f]? = some cv ∧ RV β v cv) :
    Rel (β.add h.n 0 ⟨w.heap.size, 0, cs.length, C, esz, false⟩) (h.push (.blk ⟨esz, cs, 0, 0, false⟩)) w' ∧
      Post β (β.add h.n 0 ⟨w.heap.size, 0, cs.length, C, esz, false⟩) h (h.push (.blk ⟨esz, cs, 0, 0, false⟩)) w w' := by
  have E : Ext β (β.add h.n 0 ⟨w.heap.size, 0, cs.length, C, esz, false⟩) := Emb.add_ext (fresh_bl R 0)
  refine ⟨⟨fun b g l hl => ?_, fun r k hr => Nat.lt_succ_of_lt (R.mdom r k hr), fun b g l hl => ?_, fun b g l b' g' l' hl hl' hk hro => ?_, fun b g l g' l' hl hl' hk => ?_, fun r k hr => ?_, R.minj⟩, ⟨E, ⟨os, tape, output, by omega, fun k hk _ _ => hold k hk⟩, Nat.le_succ _, fun b g l hl => ?_, fun b g l hl => ?_, fun r k hr => .inl hr⟩⟩
  · rcases Emb.add_inv hl with ⟨rfl, rfl, rfl⟩ | h1
    · exact Nat.lt_succ_self _
    · exact Nat.lt_succ_of_lt (R.dom b g l h1)
  · rcases Emb.add_inv hl with ⟨rfl, rfl, rfl⟩ | h1
    · refine ⟨⟨esz, cs, 0, 0, false⟩, by simp [AHeap.push], rfl, rfl, Nat.le_refl _, fun _ => Nat.le_refl _, fun _ => rfl, Nat.le_refl _, hpos, hlen, hisc, by simp [hs], fun _ i e f v _ h2 h3 => ?_, fun _ => ⟨c, t, fr, hnew, by simpa using hc, hC, hfr⟩⟩
      obtain ⟨cv, h4, h5⟩ := hrv i e f v h2 h3
      exact ⟨cv, by rw [cell_cells hnew]; simpa using h4, h5.mono E⟩
    · obtain ⟨B, hB, b⟩ := R.blk b g l h1
      have hb := R.dom _ _ _ h1
      exact ⟨B, by simp only [AHeap.push]; rw [if_neg (by omega)]; exact hB, b.keep E (hold _ b.klt) (by omega)⟩
  · rcases Emb.add_inv hl with ⟨rfl, rfl, rfl⟩ | h1 <;> rcases Emb.add_inv hl' with ⟨rfl, rfl, rfl⟩ | h2
    · rfl
    · obtain ⟨B, hB, b⟩ := R.blk _ _ _ h2
      have := b.klt
      simp only at hk
      omega
    · obtain ⟨B, hB, b⟩ := R.blk _ _ _ h1
      have := b.klt
      simp only at hk
      omega
    · exact R.inj _ _ _ _ _ _ h1 h2 hk hro
  · rcases Emb.add_inv hl with ⟨rfl, rfl, rfl⟩ | h1 <;> rcases Emb.add_inv hl' with ⟨h3, h4, h5⟩ | h2
    · rw [h5]
    · exact absurd (R.dom _ _ _ h2) (Nat.lt_irrefl _)
    · subst h3; exact absurd (R.dom _ _ _ h1) (Nat.lt_irrefl _)
    · exact R.off _ _ _ _ _ h1 h2 hk
  · obtain ⟨es, h1, ents, clock, h2, h3, h4⟩ := R.mp r k hr
    have hk : k < w.heap.size := (Array.getElem?_eq_some_iff.1 h2).1
    have hb := R.mdom r k hr
    refine ⟨es, by simp only [AHeap.push]; rw [if_neg (by omega)]; exact h1, ents, clock, (hold k hk).trans h2, h3, fun i key v hi => ?_⟩
    obtain ⟨e, h5, h6, h7, h8⟩ := h4 i key v hi
    exact ⟨e, h5, h6, h7.mono E, h8.mono E⟩
  · rcases Emb.add_inv hl with ⟨rfl, rfl, rfl⟩ | h1
    · exact .inr (.inl (Nat.le_refl _))
    · exact .inl h1
  · rcases Emb.add_inv hl with ⟨rfl, rfl, rfl⟩ | h1
    · exact .inr ⟨Nat.le_refl _, Nat.lt_succ_self _⟩
    · exact .inl ⟨g, l, h1⟩
theorem set_at (h : AHeap) (b : Nat) (o : AObj) : (h.set b o).m b = some o := by simp [AHeap.set]
theorem set_ne (h : AHeap) {b b' : Nat} (o : AObj) (e : b' ≠ b) : (h.set b o).m b' = h.m b' := by simp [AHeap.set, e]
/-- A block that changes; its maps' side. -/
theorem mp_keep {β β' : Emb} {h h' : AHeap} {w w' : World} {kk : Nat} (R : Rel β h w) (E : Ext β β') (hm : ∀ r es, h.m r = some (.mp es) → h'.m r = some (.mp es))
    {c : Array Value} {t : TypeId} {fr : Nat × Nat} (hk : w.heap[kk]? = some (.cells c t fr)) (hold : ∀ k, k < w.heap.size → k ≠ kk → w'.heap[k]? = w.heap[k]?) :
    ∀ r k, β.mp r = some k → ∃ es, h'.m r = some (.mp es) ∧ ∃ ents clock, w'.heap[k]? = some (.map ents clock) ∧ ents.size = es.length ∧
    ∀ (i : Nat) (key v : AV), es[i]? = some (key, v) → ∃ e, ents[i]? = some e ∧ isKey key = true ∧ RV β' key e.key ∧ RV β' v e.val := by
  intro r k hr
  obtain ⟨es, h1, ents, clock, h2, h3, h4⟩ := R.mp r k hr
  have hlt : k < w.heap.size := (Array.getElem?_eq_some_iff.1 h2).1
  have hne : k ≠ kk := by
    rintro rfl
    rw [hk] at h2
    cases h2
  refine ⟨es, hm r es h1, ents, clock, (hold k hlt hne).trans h2, h3, fun i key v hi => ?_⟩
  obtain ⟨e, h5, h6, h7, h8⟩ := h4 i key v hi
  exact ⟨e, h5, h6, h7.mono E, h8.mono E⟩
/-- A block that is written over, in place. -/
theorem upd0 {β : Emb} {h : AHeap} {w w' : World} {b : Nat} {B B' : Blk} {l : Loc} (R : Rel β h w) (hB : h.m b = some (.blk B)) (hl : β.bl b B.gen = some l) (hro : B.ro = false)
    (os : w'.os = w.os) (tape : w'.tape = w.tape) (output : w'.output = w.output) (hs : w.heap.size ≤ w'.heap.size)
    (hold : ∀ k, k < w.heap.size → k ≠ l.k → w'.heap[k]? = w.heap[k]?) (hb : ∀ g0 l0, β.bl b g0 = some l0 → BRel β B' g0 l0 w') :
    Rel β (h.set b (.blk B')) w' ∧ Post β β h (h.set b (.blk B')) w w' := by
  obtain ⟨B2, hB2, bl⟩ := R.blk _ _ _ hl
  rw [hB] at hB2
  cases hB2
  have lro : l.ro = false := bl.ro.trans hro
  obtain ⟨c, t, fr, hc, _⟩ := bl.room lro
  refine ⟨⟨R.dom, R.mdom, fun b' g l' hl' => ?_, R.inj, R.off, ?_, R.minj⟩, ⟨.refl β, ⟨os, tape, output, hs, fun k hk hk2 _ => hold k hk (fun e => ?_)⟩, Nat.le_refl _, fun _ _ _ x => .inl x, fun _ g l' x => .inl ⟨g, l', x⟩, fun _ _ x => .inl x⟩⟩
  · by_cases e : b' = b
    · subst e
      exact ⟨B', set_at .., hb g l' hl'⟩
    · obtain ⟨B2, h2, b2⟩ := R.blk _ _ _ hl'
      refine ⟨B2, (set_ne h _ e).trans h2, b2.keep (.refl β) (hold _ b2.klt (fun e2 => e ?_)) hs⟩
      exact (R.inj _ _ _ _ _ _ hl hl' e2.symm lro).symm
  · refine mp_keep R (.refl β) (fun r es hr => ?_) hc hold
    rw [set_ne _ _ (fun e => by rw [e, hB] at hr; cases hr)]
    exact hr
  · have := hk2 _ _ _ hl e.symm
    rw [lro] at this
    cases this
/-- A block that gets a new generation. -/
theorem upd1 {β : Emb} {h : AHeap} {w w' : World} {b : Nat} {B B' : Blk} {l l' : Loc} (R : Rel β h w) (hB : h.m b = some (.blk B)) (hl : β.bl b B.gen = some l) (hro : B.ro = false)
    (os : w'.os = w.os) (tape : w'.tape = w.tape) (output : w'.output = w.output) (hs : w.heap.size ≤ w'.heap.size)
    (hold : ∀ k, k < w.heap.size → k ≠ l.k → w'.heap[k]? = w.heap[k]?) (hk : (l'.k = l.k ∧ l'.o = l.o) ∨ l'.k = w.heap.size)
    (hb : ∀ g0 l0, β.bl b g0 = some l0 → BRel (β.add b (B.gen + 1) l') B' g0 l0 w') (hn : BRel (β.add b (B.gen + 1) l') B' (B.gen + 1) l' w') :
    Rel (β.add b (B.gen + 1) l') (h.set b (.blk B')) w' ∧ Post β (β.add b (B.gen + 1) l') h (h.set b (.blk B')) w w' := by
  obtain ⟨B2, hB2, bl⟩ := R.blk _ _ _ hl
  rw [hB] at hB2
  cases hB2
  have lro : l.ro = false := bl.ro.trans hro
  obtain ⟨c, t, fr, hc, _⟩ := bl.room lro
  have hfresh : β.bl b (B.gen + 1) = none := by
    cases e : β.bl b (B.gen + 1) with
    | none => rfl
    | some l2 =>
      obtain ⟨B2, hB2, b2⟩ := R.blk _ _ _ e
      rw [hB] at hB2
      cases hB2
      have := b2.gle
      omega
  have E := Emb.add_ext (l := l') hfresh
  have klt : ∀ b2 g2 l2, β.bl b2 g2 = some l2 → l2.k < w.heap.size := fun b2 g2 l2 h2 => by
    obtain ⟨_, _, x⟩ := R.blk _ _ _ h2
    exact x.klt
  have key : ∀ b2 g2 l2, β.bl b2 g2 = some l2 → l2.k = l'.k → b2 = b := fun b2 g2 l2 h2 e => by
    rcases hk with ⟨h3, _⟩ | h3
    · exact (R.inj _ _ _ _ _ _ hl h2 (by rw [← h3, e]) lro).symm
    · have := klt _ _ _ h2; omega
  refine ⟨⟨fun b' g2 l2 hl2 => ?_, R.mdom, fun b' g2 l2 hl2 => ?_, fun b1 g1 l1 b2 g2 l2 h1 h2 e hr => ?_, fun b1 g1 l1 g2 l2 h1 h2 e => ?_, ?_, R.minj⟩,
    ⟨E, ⟨os, tape, output, hs, fun k hk hk2 _ => hold k hk (fun e => ?_)⟩, Nat.le_refl _, fun b2 g2 l2 hl2 => ?_, fun b2 g2 l2 hl2 => ?_, fun _ _ x => .inl x⟩⟩
  · rcases Emb.add_inv hl2 with ⟨rfl, rfl, rfl⟩ | h2
    · exact R.dom _ _ _ hl
    · exact R.dom _ _ _ h2
  · rcases Emb.add_inv hl2 with ⟨rfl, rfl, rfl⟩ | h2
    · exact ⟨B', set_at .., hn⟩
    · by_cases e : b' = b
      · subst e
        exact ⟨B', set_at .., hb _ _ h2⟩
      · obtain ⟨B2, h3, b2⟩ := R.blk _ _ _ h2
        refine ⟨B2, (set_ne h _ e).trans h3, b2.keep E (hold _ b2.klt (fun e2 => e ?_)) hs⟩
        exact (R.inj _ _ _ _ _ _ hl h2 e2.symm lro).symm
  · rcases Emb.add_inv h1 with ⟨rfl, rfl, rfl⟩ | h3 <;> rcases Emb.add_inv h2 with ⟨rfl, rfl, rfl⟩ | h4
    · rfl
    · exact (key _ _ _ h4 e.symm).symm
    · exact key _ _ _ h3 e
    · exact R.inj _ _ _ _ _ _ h3 h4 e hr
  · rcases Emb.add_inv h1 with ⟨e1, e2, e3⟩ | h3 <;> rcases Emb.add_inv h2 with ⟨e4, e5, e6⟩ | h4
    · rw [e3, e6]
    · subst e1; subst e3
      rcases hk with ⟨h5, h6⟩ | h5
      · rw [h6]; exact R.off _ _ _ _ _ hl h4 (by rw [← h5, e])
      · have := klt _ _ _ h4; omega
    · subst e4; subst e6
      rcases hk with ⟨h5, h6⟩ | h5
      · rw [h6]; exact R.off _ _ _ _ _ h3 hl (by rw [e, h5])
      · have := klt _ _ _ h3; omega
    · exact R.off _ _ _ _ _ h3 h4 e
  · exact mp_keep (β := β) (h' := h.set b (.blk B')) R E (fun r es hr => (set_ne _ _ (fun e => by rw [e, hB] at hr; cases hr)).trans hr) hc hold
  · have := hk2 _ _ _ hl e.symm
    rw [lro] at this
    cases this
  · rcases Emb.add_inv hl2 with ⟨rfl, rfl, rfl⟩ | h2
    · rcases hk with ⟨h5, _⟩ | h5
      · exact .inr (.inr ⟨_, _, hl, h5.symm⟩)
      · exact .inr (.inl (by omega))
    · exact .inl h2
  · rcases Emb.add_inv hl2 with ⟨rfl, rfl, rfl⟩ | h2
    · exact .inl ⟨_, _, hl⟩
    · exact .inl ⟨_, _, h2⟩
end Go.AM
/- The model's reads and writes of cells, run. -/
namespace Go.AM
open Go Go.RowKit
set_option linter.unusedVariables false
set_option linter.unusedSimpArgs false

def oneV : Value → Bool
  | .agg _ | .tuple _ => false
  | _ => true
theorem isCell_one {β : Emb} {v : AV} {c : Value} (h : RV β v c) (hv : v.isCell = true) : oneV c = true := by
  cases h <;> first | rfl | (simp [AV.isCell] at hv)
theorem loadCellsFrom_run (P : Program) (w : World) (k o : Nat) : ∀ (n i : Nat) (acc : Array Value) (vs : List Value), vs.length = n →
    (∀ (j : Nat) (v : Value), vs[j]? = some v → w.cell? ⟨k, o + (i + j), none⟩ = some v) → (loadCellsFrom ⟨k, o, none⟩ i n acc).run P w = .ok (acc ++ vs.toArray) w
  | 0, i, acc, vs, hl, h => by
    have : vs = [] := List.length_eq_zero_iff.1 hl
    subst this
    simp [loadCellsFrom, Sem.run]
  | n + 1, i, acc, [], hl, h => by simp at hl
  | n + 1, i, acc, v :: vs, hl, h => by
    have h0 := h 0 v rfl
    have ih := loadCellsFrom_run P w k o n (i + 1) (acc.push v) vs (by simpa using hl) (fun j u hu => by
      have := h (j + 1) u (by simpa using hu)
      rw [show i + 1 + j = i + (j + 1) by omega]; exact this)
    simp only [loadCellsFrom, load, addr_add, Sem.run_bind]
    have e : (Sem.load .plain ⟨k, o + i, none⟩ Sem.pure : Sem Value).run P w = .ok v w := by
      simp only [Nat.add_zero] at h0
      simp [Sem.run, h0]
    rw [e]
    simp only [Result.andThen]
    rw [ih]
    simp
theorem loadCells_run (P : Program) (w : World) (k o n : Nat) (vs : List Value) (hl : vs.length = n)
    (h : ∀ (j : Nat) (v : Value), vs[j]? = some v → w.cell? ⟨k, o + j, none⟩ = some v) : (loadCells ⟨k, o, none⟩ n).run P w = .ok vs.toArray w := by
  unfold loadCells
  rw [loadCellsFrom_run P w k o n 0 #[] vs hl (fun j v hv => by simpa using h j v hv)]
  simp
theorem loadCells_zero (P : Program) (w : World) (a : Addr) : (loadCells a 0).run P w = .ok #[] w := rfl
/-- Cells written one behind the other. -/
theorem storeCells_run (P : Program) (k o : Nat) : ∀ (vs : List Value) (i : Nat) (w : World) (c : Array Value) (t : TypeId) (fr : Nat × Nat), (∀ v ∈ vs, oneV v = true) →
    w.heap[k]? = some (.cells c t fr) → o + i + vs.length ≤ c.size → (∀ j, o + i ≤ j → j < o + i + vs.length → ¬ (fr.1 ≤ j ∧ j < fr.2)) →
    ∃ w' c', (storeCells ⟨k, o, none⟩ vs i).run P w = .ok () w' ∧ w'.heap[k]? = some (.cells c' t fr) ∧ c'.size = c.size ∧ w'.heap.size = w.heap.size ∧
      (∀ q, q ≠ k → w'.heap[q]? = w.heap[q]?) ∧ w'.os = w.os ∧ w'.tape = w.tape ∧ w'.output = w.output ∧
      ∀ j, c'[j]? = if o + i ≤ j ∧ j < o + i + vs.length then vs[j - (o + i)]? else c[j]?
  | [], i, w, c, t, fr, h1, h2, h3, h4 => ⟨w, c, by simp [storeCells, Sem.run], h2, rfl, rfl, fun _ _ => rfl, rfl, rfl, rfl, fun j => by
      rw [if_neg (by simp only [List.length_nil]; omega)]⟩
  | v :: vs, i, w, c, t, fr, h1, h2, h3, h4 => by
    have hlen : o + i < c.size := by simp at h3; omega
    have hcell : w.cell? ⟨k, o + i, none⟩ = some c[o + i] := by rw [cell_cells h2]; exact Array.getElem?_eq_getElem hlen
    have hfr : w.frozen? ⟨k, o + i, none⟩ = false := by
      unfold World.frozen?
      rw [h2]
      have := h4 (o + i) (Nat.le_refl _) (by simp)
      simp only [Bool.and_eq_false_iff, decide_eq_false_iff_not]
      omega
    have hw : (w.setCell ⟨k, o + i, none⟩ v).heap[k]? = some (.cells (c.setIfInBounds (o + i) v) t fr) := by
      simp [World.setCell, Array.getElem?_modify, h2]
    obtain ⟨w', c', g1, g2, g3, g4, g5, g6, g7, g8, g9⟩ := storeCells_run P k o vs (i + 1) (w.setCell ⟨k, o + i, none⟩ v) (c.setIfInBounds (o + i) v) t fr
      (fun u hu => h1 u (List.mem_cons_of_mem _ hu)) hw (by simp at h3 ⊢; omega) (fun j hj1 hj2 => h4 j (by omega) (by simp; omega))
    refine ⟨w', c', ?_, g2, g3.trans (by simp), g4.trans (by simp [World.setCell]), fun q hq => (g5 q hq).trans ?_, g6, g7, g8, fun j => ?_⟩
    · simp only [storeCells, store, addr_add, Sem.run_bind]
      have ho := h1 v List.mem_cons_self
      have e : (Sem.store .plain ⟨k, o + i, none⟩ v (.pure ()) : Sem Unit).run P w = .ok () (w.setCell ⟨k, o + i, none⟩ v) := by
        cases v <;> simp [oneV] at ho <;> simp [Sem.run, hcell, hfr]
      rw [e]
      exact g1
    · exact Below.heap_setCell w _ _ _ hq
    · rw [g9 j]
      by_cases e : j = o + i
      · subst e
        rw [if_neg (by omega), if_pos (by simp), Nat.sub_self]
        simp [hlen]
      · by_cases e2 : o + (i + 1) ≤ j ∧ j < o + (i + 1) + vs.length
        · rw [if_pos e2, if_pos (by simp; omega)]
          obtain ⟨d, hd⟩ : ∃ d, j - (o + i) = d + 1 := ⟨j - (o + i) - 1, by omega⟩
          rw [hd, List.getElem?_cons_succ]
          congr 1
          omega
        · rw [if_neg e2, if_neg (by simp; omega), Array.getElem?_setIfInBounds_ne (by omega)]

/-! ### What types say -/
theorem tinfo_some {P : Program} {t : TypeId} {i : TI} (h : tinfo P t = some i) : ∃ d inf z, P.underlying t = some d ∧ P.info? t = some inf ∧ inf.zero = some z ∧
    i = ⟨isAggD d, inf.size, inf.bytes, (ofValue z).cells, ofValue z⟩ := by
  unfold tinfo at h
  split at h
  · rename_i d inf h1 h2
    split at h
    · rename_i z hz
      exact ⟨d, inf, z, h1, h2, hz, by cases h; rfl⟩
    · cases h
  · cases h
theorem run_underlying {P : Program} {t : TypeId} {d : TypeDesc} (h : P.underlying t = some d) (w : World) : (underlying t).run P w = .ok d w := by
  simp [underlying, program, Sem.run_bind, Sem.run, Result.andThen, h]
theorem run_typeInfo {P : Program} {t : TypeId} {i : TypeInfo} (h : P.info? t = some i) (w : World) : (typeInfo t).run P w = .ok i w := by
  simp [typeInfo, program, Sem.run_bind, Sem.run, Result.andThen, h]
theorem run_sizeOf {P : Program} {t : TypeId} {i : TI} (h : tinfo P t = some i) (w : World) : (sizeOf t).run P w = .ok i.sz w := by
  obtain ⟨d, inf, z, h1, h2, h3, rfl⟩ := tinfo_some h
  simp [sizeOf, Sem.run_bind, run_typeInfo h2, Result.andThen]
theorem run_zeroValue {P : Program} {t : TypeId} {inf : TypeInfo} {z : Value} (h : P.info? t = some inf) (hz : inf.zero = some z) (w : World) : (zeroValue t).run P w = .ok z w := by
  simp [zeroValue, Sem.run_bind, run_typeInfo h, Result.andThen, hz]
theorem run_isAgg {P : Program} {t : TypeId} {d : TypeDesc} (h : P.underlying t = some d) (w : World) : (isAgg t).run P w = .ok (isAggD d) w := by
  simp only [isAgg, Sem.run_bind, run_underlying h, Result.andThen]
  cases d <;> rfl
end Go.AM
/- The operations' soundness, one by one. -/
namespace Go.AM
open Go Go.RowKit
set_option linter.unusedVariables false
set_option linter.unusedSimpArgs false

theorem flat_get {k : Nat} (hk : 0 < k) : ∀ (cells : List (List AV)) (j : Nat), (∀ e ∈ cells, e.length = k) → cells.flatten[j]? = (cells[j / k]?).bind (fun e => e[j % k]?)
  | [], j, _ => by simp
  | e :: r, j, h => by
    have he := h e List.mem_cons_self
    rw [List.flatten_cons, List.getElem?_append]
    by_cases l : j < e.length
    · rw [if_pos l]
      have h1 : j / k = 0 := Nat.div_eq_of_lt (by omega)
      have h2 : j % k = j := Nat.mod_eq_of_lt (by omega)
      rw [h1, h2]; rfl
    · rw [if_neg l, flat_get hk r _ (fun x hx => h x (List.mem_cons_of_mem _ hx)), he]
      have h1 : j / k = (j - k) / k + 1 := by
        have : j = (j - k) + k := by omega
        conv => lhs; rw [this]
        rw [Nat.add_div_right _ hk]
      have h2 : j % k = (j - k) % k := by
        have : j = (j - k) + k := by omega
        conv => lhs; rw [this]
        rw [Nat.add_mod_right]
      rw [h1, h2]; rfl
theorem flat_length {k : Nat} : ∀ (cells : List (List AV)), (∀ e ∈ cells, e.length = k) → cells.flatten.length = cells.length * k
  | [], _ => by simp
  | e :: r, h => by
    rw [List.flatten_cons, List.length_append, h e List.mem_cons_self, flat_length r (fun x hx => h x (List.mem_cons_of_mem _ hx)), List.length_cons, Nat.add_mul]
    omega
/-- Cells that are read, in the world. -/
theorem get_cells {β : Emb} {B : Blk} {g i f sz : Nat} {l : Loc} {w : World} {cs : List AV} (b : BRel β B g l w) (hi : i < l.L) (h : B.get g i f sz = some cs) :
    cs.length = sz ∧ ∃ vs : List Value, vs.length = sz ∧ (∀ (j : Nat) (v : Value), vs[j]? = some v → w.cell? ⟨l.k, l.o + (i * l.esz + f) + j, none⟩ = some v) ∧ RVs β cs vs.toArray := by
  unfold Blk.get at h
  split at h
  rotate_left
  · cases h
  rename_i hs
  split at h
  rotate_left
  · cases h
  rename_i e he
  have hel : e.length = B.esz := b.len e (List.mem_of_getElem? he)
  let vs : List Value := (List.range sz).map fun j => (w.cell? ⟨l.k, l.o + (i * l.esz + f) + j, none⟩).getD Go.undef
  have fin : cs.length = sz → (∀ (j : Nat) (v : AV), cs[j]? = some v → ∃ cv, w.cell? ⟨l.k, l.o + (i * l.esz + f) + j, none⟩ = some cv ∧ RV β v cv) →
      cs.length = sz ∧ ∃ vs : List Value, vs.length = sz ∧ (∀ (j : Nat) (v : Value), vs[j]? = some v → w.cell? ⟨l.k, l.o + (i * l.esz + f) + j, none⟩ = some v) ∧ RVs β cs vs.toArray := by
    intro hl H
    refine ⟨hl, vs, by simp [vs], fun j v hv => ?_, by simp [vs, hl], fun j x y hx hy => ?_⟩
    · have hj : j < sz := by
        have := (List.getElem?_eq_some_iff.1 hv).1
        simpa [vs] using this
      obtain ⟨cv, h1, _⟩ := H j _ (List.getElem?_eq_getElem (by omega))
      simp only [vs, List.getElem?_map, List.getElem?_range hj, Option.map_some, h1, Option.getD_some, Option.some.injEq] at hv
      rw [h1, hv]
    · obtain ⟨cv, h1, h2⟩ := H j x hx
      have hj : j < sz := by have := (List.getElem?_eq_some_iff.1 hx).1; omega
      simp only [vs, List.getElem?_toArray, List.getElem?_map, List.getElem?_range hj, Option.map_some, h1, Option.getD_some, Option.some.injEq] at hy
      rw [← hy]; exact h2
  split at h
  · rename_i hf
    cases h
    refine fin (by simp; omega) (fun j v hv => ?_)
    have hj : j < sz := by have := (List.getElem?_eq_some_iff.1 hv).1; simp at this; omega
    rw [List.getElem?_take, if_pos hj, List.getElem?_drop] at hv
    obtain ⟨cv, h1, h2⟩ := b.cell hs i e (f + j) v hi he hv
    exact ⟨cv, by rw [← h1]; congr 2; omega, h2⟩
  · split at h
    rotate_left
    · cases h
    rename_i hc
    obtain ⟨rfl, rfl, rfl, rfl⟩ := hc
    cases h
    have hL := b.Leq rfl
    refine fin (flat_length _ b.len) (fun j v hv => ?_)
    rw [flat_get b.pos _ _ b.len] at hv
    cases hx : B.cells[j / B.esz]? with
    | none => rw [hx] at hv; cases hv
    | some e2 =>
      rw [hx] at hv
      have hlt := (List.getElem?_eq_some_iff.1 hx).1
      obtain ⟨cv, h1, h2⟩ := b.cell hs (j / B.esz) e2 (j % B.esz) v (by omega) hx hv
      refine ⟨cv, ?_, h2⟩
      rw [← h1, b.esz]
      congr 2
      have := Nat.div_add_mod j B.esz
      rw [Nat.mul_comm] at this
      omega
theorem ptr_inv {β : Emb} {b g i f : Nat} {c : Value} (h : RV β (.ptr b g i f) c) : ∃ l, β.bl b g = some l ∧ i < l.L ∧ c = .pointer (some ⟨l.k, l.o + (i * l.esz + f), none⟩) := by
  cases h with
  | ptr _ _ _ _ l hl hi => exact ⟨l, hl, hi, rfl⟩
theorem int_inv {β : Emb} {k : IntKind} {n : Int} {c : Value} (h : RV β (.int k n) c) : c = .int k n := by cases h; rfl
theorem bool_inv {β : Emb} {b : Bool} {c : Value} (h : RV β (.bool b) c) : c = .bool b := by cases h; rfl
theorem getA_inv {h : AHeap} {a : AV} {sz : Nat} {cs : List AV} (H : h.getA a sz = some cs) : ∃ b g i f B, a = .ptr b g i f ∧ h.m b = some (.blk B) ∧ B.get g i f sz = some cs := by
  unfold AHeap.getA at H
  split at H
  · rename_i b g i f
    unfold AHeap.get at H
    split at H
    · rename_i B hB
      exact ⟨b, g, i, f, B, rfl, hB, H⟩
    · cases H
  · cases H
theorem run_loadVar {P : Program} {t : TypeId} {i : TI} (ht : tinfo P t = some i) {k o : Nat} {vs : List Value} {w : World} (hl : vs.length = i.sz)
    (h : ∀ (j : Nat) (v : Value), vs[j]? = some v → w.cell? ⟨k, o + j, none⟩ = some v) (h1 : i.ag = false → i.sz = 1) :
    (loadVar t ⟨k, o, none⟩).run P w = .ok (if i.ag = true then .agg vs.toArray else vs.headD Go.undef) w := by
  obtain ⟨d, inf, z, hd, hi, hz, rfl⟩ := tinfo_some ht
  simp only [loadVar, Sem.run_bind, run_isAgg hd, Result.andThen]
  cases hag : isAggD d with
  | true =>
    simp only [if_true, Sem.run_bind, run_sizeOf ht, Result.andThen, loadCells_run P w k o _ vs hl h]
    rfl
  | false =>
    have := h1 hag
    simp only at this hl
    rw [this] at hl
    match vs, hl, h with
    | [v], _, h =>
      have h0 := h 0 v rfl
      simp only [Nat.add_zero] at h0
      simp [load, Sem.run, h0]
theorem load_out {P : Program} {o : Oper} {t : TypeId} {x : Operand} {f : Fr} {h : AHeap} {i : TI} {v : AV} (ho : o.op = .load t x) (ht : tinfo P t = some i)
    (H : fLoad i.ag i.sz h (evalO f x) = some v) : OpOut P o f h v h := by
  refine .pure fun β w a R F => ?_
  unfold fLoad at H
  cases hg : h.getA (evalO f x) i.sz with
  | none => rw [hg] at H; cases H
  | some cs =>
    rw [hg] at H
    obtain ⟨b, g, j, q, B, he, hB, hget⟩ := getA_inv hg
    have hx := eval_rv F x
    rw [he] at hx
    obtain ⟨l, hl, hi, hc⟩ := ptr_inv hx
    obtain ⟨B2, hB2, bl⟩ := R.blk _ _ _ hl
    rw [hB] at hB2
    cases hB2
    obtain ⟨hcl, vs, hvl, hvs, hrv⟩ := get_cells bl hi hget
    have hone : i.ag = false → i.sz = 1 := fun e => by
      rw [e] at H
      simp only [one?] at H
      split at H
      · simpa using hcl.symm
      · cases H
    have run := run_loadVar (P := P) ht hvl hvs hone
    refine ⟨if i.ag = true then .agg vs.toArray else vs.headD Go.undef, ?_, ?_⟩
    · simp only [execOp, ho, Instr.loadAt, hc, Instr.sureAddr, Sem.run_bind, Sem.run_pure, Result.andThen, run]
    · cases hag : i.ag with
      | true =>
        rw [hag] at H
        cases H
        simp only [if_true]
        exact .agg _ _ hrv.1 hrv.2
      | false =>
        rw [hag] at H
        simp only [one?] at H
        split at H
        · rename_i c
          cases H
          match vs, hvl, hrv with
          | [u], _, hrv => exact hrv.2 0 _ _ rfl rfl
          | [], hvl, _ => simp at hvl; simp at hcl; omega
          | u :: u' :: r, hvl, _ => simp at hvl; simp at hcl; omega
        · cases H
end Go.AM
/- The operations that answer values alone. -/
namespace Go.AM
open Go Go.RowKit
set_option linter.unusedVariables false
set_option linter.unusedSimpArgs false

theorem str_inv {β : Emb} {l : List Int} {c : Value} (h : RV β (.str l) c) : ∃ s : ByteArray, c = .string s ∧ s.data.toList.map (fun b => (b.toNat : Int)) = l := by
  cases h with
  | str s l h => exact ⟨s, rfl, h⟩
theorem sl_inv {β : Emb} {b g i n : Nat} {c : Value} (h : RV β (.sl b g i n) c) : ∃ (l : Loc) (a : Addr) (cap : Nat), β.bl b g = some l ∧ i + n ≤ l.L ∧ n ≤ cap ∧ i + cap ≤ l.C ∧
    (cap = 0 ∨ a = ⟨l.k, l.o + i * l.esz, none⟩) ∧ c = .slice (some a) n cap := by
  cases h with
  | sl _ _ _ _ l a cap hl hi hn hc ha => exact ⟨l, a, cap, hl, hi, hn, hc, ha, rfl⟩
theorem nilp_inv {β : Emb} {c : Value} (h : RV β .nilp c) : c = .pointer none := by cases h; rfl
theorem nils_inv {β : Emb} {c : Value} (h : RV β .nils c) : c = .slice none 0 0 := by cases h; rfl
theorem agg_inv {β : Emb} {cs : List AV} {c : Value} (h : RV β (.agg cs) c) : ∃ cvs, c = .agg cvs ∧ RVs β cs cvs := by
  cases h with
  | agg _ cvs hl h => exact ⟨cvs, rfl, hl, h⟩
theorem tup_inv {β : Emb} {cs : List AV} {c : Value} (h : RV β (.tup cs) c) : ∃ cvs, c = .tuple cvs ∧ RVs β cs cvs := by
  cases h with
  | tup _ cvs hl h => exact ⟨cvs, rfl, hl, h⟩
theorem fn_inv {β : Emb} {g : FuncId} {cs : List AV} {c : Value} (h : RV β (.fn g cs) c) : ∃ cvs, c = .func (.func g) #[] cvs ∧ RVs β cs cvs := by
  cases h with
  | fn _ _ cvs hl h => exact ⟨cvs, rfl, hl, h⟩
theorem run_pureV {P : Program} {v : Value} {w : World} : (pure (Next.value v) : Sem Next).run P w = .ok (.value v) w := rfl
theorem vrun {P : Program} {s : Sem Value} {v : Value} {w w' : World} (h : s.run P w = .ok v w') : (do pure (Next.value (← s)) : Sem Next).run P w = .ok (.value v) w' := by
  simp [Sem.run_bind, h, Result.andThen]

theorem move_out {P : Program} {o : Oper} {x : Operand} {f : Fr} {h : AHeap} (ho : o.op = .move x ∨ o.op = .assign x) : OpOut P o f h (evalO f x) h :=
  .pure fun β w a R F => ⟨a.eval x, by rcases ho with ho | ho <;> simp only [execOp, ho] <;> rfl, eval_rv F x⟩
theorem pickV_true (x y : AV) : pickV true x y = x := by
  unfold pickV
  split
  · rfl
  · split
    · rename_i e; rw [e]; rfl
    · rfl
  · rfl
theorem pickV_false (x y : AV) : pickV false x y = y := by
  unfold pickV
  split
  · rfl
  · split
    · rename_i e; rw [e]; rfl
    · rfl
  · rfl
theorem pick_out {P : Program} {o : Oper} {c x y : Operand} {f : Fr} {h : AHeap} {v : AV} (ho : o.op = .pick c x y) (H : fPick (evalO f c) (evalO f x) (evalO f y) = some v) : OpOut P o f h v h := by
  refine .pure fun β w a R F => ?_
  have hc := eval_rv F c
  unfold fPick at H
  split at H
  · rename_i b e
    rw [e] at hc
    have := bool_inv hc
    cases H
    refine ⟨if b = true then a.eval x else a.eval y, by simp [execOp, ho, this, asBool, Sem.run_bind, Result.andThen], ?_⟩
    cases b
    · rw [pickV_false]; exact eval_rv F y
    · rw [pickV_true]; exact eval_rv F x
  · cases H
theorem extract_out {P : Program} {o : Oper} {x : Operand} {j : Nat} {f : Fr} {h : AHeap} {v : AV} (ho : o.op = .extract x j) (H : fExtract (evalO f x) j = some v) : OpOut P o f h v h := by
  refine .pure fun β w a R F => ?_
  have hx := eval_rv F x
  unfold fExtract at H
  split at H
  · rename_i vs e
    rw [e] at hx
    obtain ⟨cvs, hc, hrv⟩ := tup_inv hx
    have hj : j < cvs.size := by have := (List.getElem?_eq_some_iff.1 H).1; have := hrv.1; omega
    have hg := Array.getElem?_eq_getElem hj
    exact ⟨cvs[j], by simp only [execOp, ho]; exact vrun (by simp [hc, Instr.extract, hg]), hrv.2 j _ _ H hg⟩
  · cases H
theorem nilCheck_out {P : Program} {o : Oper} {x : Operand} {f : Fr} {h : AHeap} {v : AV} (ho : o.op = .nilCheck x) (H : fNilCheck (evalO f x) = some v) : OpOut P o f h v h := by
  refine .pure fun β w a R F => ?_
  have hx := eval_rv F x
  unfold fNilCheck at H
  split at H
  · rename_i e
    rw [e] at hx
    cases H
    obtain ⟨l, hl, hi, hc⟩ := ptr_inv hx
    exact ⟨a.eval x, by simp only [execOp, ho, hc]; rfl, hx⟩
  · rename_i e
    rw [e] at hx
    cases H
    obtain ⟨cvs, hc, hrv⟩ := fn_inv hx
    exact ⟨.func (.func _) #[] cvs, by simp only [execOp, ho, hc]; rfl, .fn _ _ _ hrv.1 hrv.2⟩
  · cases H
theorem makeFunc_out {P : Program} {o : Oper} {g : FuncId} {caps : Array Operand} {f : Fr} {h : AHeap} (ho : o.op = .makeFunc (.func g) ⟨[]⟩ caps) :
    OpOut P o f h (.fn g (caps.toList.map (evalO f))) h :=
  .pure fun β w a R F => ⟨.func (.func g) #[] (caps.map a.eval), by simp only [execOp, ho]; exact vrun (by simp [Instr.makeFunc]), .fn _ _ _ (evals_rv F caps).1 (evals_rv F caps).2⟩
theorem makeInterface_out {P : Program} {o : Oper} {t : TypeId} {x : Operand} {f : Fr} {h : AHeap} {d : TypeDesc} (ho : o.op = .makeInterface t x) (hd : P.underlying t = some d)
    (hn : ∀ ms, d ≠ .interface ms) : OpOut P o f h .unk h :=
  .pure fun β w a R F => ⟨.iface t (a.eval x), by
    simp only [execOp, ho]
    refine vrun ?_
    simp only [Instr.makeInterface, Sem.run_bind, run_underlying hd, Result.andThen]
    cases d <;> first | rfl | exact absurd rfl (hn _), .unk _⟩
theorem fieldOf_some {P : Program} {s : TypeId} {j off : Nat} {i : TI} (h : fieldOf P s j = some (off, i)) : ∃ fs fd, P.underlying s = some (.struct fs) ∧ fs[j]? = some fd ∧ tinfo P fd.type = some i ∧ fd.offset = off := by
  unfold fieldOf at h
  split at h
  · rename_i fs hs
    split at h
    · rename_i fd hf
      cases ht : tinfo P fd.type with
      | none => rw [ht] at h; cases h
      | some i' => rw [ht] at h; simp at h; exact ⟨fs, fd, hs, hf, by rw [ht, h.2], h.1⟩
    · cases h
  · cases h
theorem fieldAddr_out {P : Program} {o : Oper} {s : TypeId} {x : Operand} {j off : Nat} {i : TI} {f : Fr} {h : AHeap} {v : AV} (ho : o.op = .fieldAddr s x j) (hf : fieldOf P s j = some (off, i))
    (hp : 0 < i.sz) (H : fFieldAddr off (evalO f x) = some v) : OpOut P o f h v h := by
  refine .pure fun β w a R F => ?_
  have hx := eval_rv F x
  unfold fFieldAddr at H
  split at H
  · rename_i b g q p e
    rw [e] at hx
    cases H
    obtain ⟨l, hl, hi, hc⟩ := ptr_inv hx
    obtain ⟨fs, fd, h1, h2, h3, h4⟩ := fieldOf_some hf
    refine ⟨.pointer (some ⟨l.k, l.o + (q * l.esz + (p + off)), none⟩), ?_, .ptr _ _ _ _ l hl hi⟩
    simp only [execOp, ho]
    refine vrun ?_
    simp only [Instr.fieldAt, Sem.run_bind, run_underlying h1, Result.andThen, h2, hc, Instr.sureAddr, Sem.run_pure, fieldPlace, run_sizeOf h3]
    rw [if_neg (by omega)]
    simp only [Sem.run_pure, h4, addr_add]
    congr 4
    omega
  · cases H
theorem part_run {P : Program} {t : TypeId} {i : TI} (ht : tinfo P t = some i) {β : Emb} {cs : List AV} {cvs : Array Value} (h : RVs β cs cvs) {off : Nat} {v : AV}
    (H : (match i.ag with | true => some (.agg ((cs.drop off).take i.sz)) | false => cs[off]?) = some v) (w : World) : ∃ cv, (part t cvs off).run P w = .ok cv w ∧ RV β v cv := by
  obtain ⟨d, inf, z, hd, hi, hz, e⟩ := tinfo_some ht
  simp only [part, Sem.run_bind, run_isAgg hd, Result.andThen]
  have ea : i.ag = isAggD d := by rw [e]
  cases hag : i.ag with
  | true =>
    rw [hag] at H
    rw [← ea, hag]
    cases H
    simp only [if_true, Sem.run_bind, run_sizeOf ht, Result.andThen, Sem.run_pure]
    have hl := h.1
    refine ⟨_, rfl, .agg _ _ (by simp; omega) (fun j x y hx hy => ?_)⟩
    rw [List.getElem?_take] at hx
    split at hx
    · rename_i hj
      rw [List.getElem?_drop] at hx
      rw [Array.getElem?_extract] at hy
      split at hy
      · exact h.2 _ _ _ hx hy
      · cases hy
    · cases hx
  | false =>
    rw [hag] at H
    rw [← ea, hag]
    simp only at H
    have hj : off < cvs.size := by have := (List.getElem?_eq_some_iff.1 H).1; have := h.1; omega
    have hg := Array.getElem?_eq_getElem hj
    exact ⟨cvs[off], by simp [hg], h.2 off _ _ H hg⟩
theorem field_out {P : Program} {o : Oper} {s : TypeId} {x : Operand} {j off : Nat} {i : TI} {f : Fr} {h : AHeap} {v : AV} (ho : o.op = .field s x j) (hf : fieldOf P s j = some (off, i))
    (H : fField i.ag off i.sz (evalO f x) = some v) : OpOut P o f h v h := by
  refine .pure fun β w a R F => ?_
  have hx := eval_rv F x
  unfold fField at H
  split at H
  · rename_i cs e
    rw [e] at hx
    obtain ⟨cvs, hc, hrv⟩ := agg_inv hx
    obtain ⟨fs, fd, h1, h2, h3, h4⟩ := fieldOf_some hf
    obtain ⟨cv, h5, h6⟩ := part_run (P := P) h3 hrv (off := off) H w
    refine ⟨cv, ?_, h6⟩
    simp only [execOp, ho]
    refine vrun ?_
    simp only [Instr.field, Sem.run_bind, run_underlying h1, Result.andThen, h2, hc, asAgg, Sem.run_pure, h4, h5]
  · cases H
theorem esz_inv {h : AHeap} {b n : Nat} (H : h.esz b = some n) : ∃ B, h.m b = some (.blk B) ∧ B.esz = n := by
  unfold AHeap.esz at H
  split at H
  · rename_i B hB; exact ⟨B, hB, by cases H; rfl⟩
  · cases H
theorem isArr_inv {h : AHeap} {b g n sz : Nat} (H : h.isArr b g n sz = true) : ∃ B, h.m b = some (.blk B) ∧ B.esz = sz ∧ B.cells.length = n ∧ g = B.gen ∧ B.ro = false := by
  unfold AHeap.isArr at H
  split at H
  · rename_i B hB; simp at H; exact ⟨B, hB, H.1.1.1, H.1.1.2, H.1.2, H.2⟩
  · cases H
theorem blk_esz {β : Emb} {h : AHeap} {w : World} (R : Rel β h w) {b g : Nat} {l : Loc} {B : Blk} (hl : β.bl b g = some l) (hB : h.m b = some (.blk B)) : BRel β B g l w := by
  obtain ⟨B2, hB2, bl⟩ := R.blk _ _ _ hl
  rw [hB] at hB2
  cases hB2
  exact bl
theorem indexAddr_out {P : Program} {o : Oper} {t e : TypeId} {x y : Operand} {i : TI} {f : Fr} {h : AHeap} {v : AV} (ho : o.op = .indexAddr t x y) (hu : P.underlying t = some (.slice e)) (ht : tinfo P e = some i)
    (H : fIndexAddr none i.sz h (evalO f x) (evalO f y) = some v) : OpOut P o f h v h := by
  refine .pure fun β w a R F => ?_
  have hx := eval_rv F x
  have hy := eval_rv F y
  unfold fIndexAddr at H
  split at H
  · rename_i b g q n kd j hn ex ey
    rw [ex] at hx
    rw [ey] at hy
    split at H
    rotate_left
    · cases H
    rename_i hc
    obtain ⟨h1, h2, h3⟩ := hc
    cases H
    obtain ⟨l, ad, cap, hl, hi, hnc, hC, ha, hs⟩ := sl_inv hx
    have hi2 := int_inv hy
    obtain ⟨B, hB, hE⟩ := esz_inv h1
    have bl := blk_esz R hl hB
    have hcap : cap ≠ 0 := by omega
    have had := ha.resolve_left hcap
    refine ⟨.pointer (some ⟨l.k, l.o + ((q + j.toNat) * l.esz + 0), none⟩), ?_, .ptr _ _ _ _ l hl (by omega)⟩
    simp only [execOp, ho]
    refine vrun ?_
    simp only [Instr.indexAt, hi2, asIntOf, Sem.run_bind, Sem.run_pure, Result.andThen, run_underlying hu, hs]
    rw [if_pos ⟨h2, h3⟩]
    simp only [Sem.run_bind, run_sizeOf ht, Result.andThen, Sem.run_pure, had, addr_add]
    congr 4
    rw [bl.esz, hE, Nat.add_mul]
    omega
  · rename_i hn _ _; cases hn
  · cases H
theorem indexArr_out {P : Program} {o : Oper} {t e : TypeId} {N : Nat} {x y : Operand} {i : TI} {f : Fr} {h : AHeap} {v : AV} (ho : o.op = .indexAddr t x y) (hu : P.underlying t = some (.array N e)) (ht : tinfo P e = some i)
    (H : fIndexAddr (some N) i.sz h (evalO f x) (evalO f y) = some v) : OpOut P o f h v h := by
  refine .pure fun β w a R F => ?_
  have hx := eval_rv F x
  have hy := eval_rv F y
  unfold fIndexAddr at H
  split at H
  · rename_i hn _ _; cases hn
  · rename_i n b g kd j hn ex ey
    cases hn
    rw [ex] at hx
    rw [ey] at hy
    split at H
    rotate_left
    · cases H
    rename_i hc
    obtain ⟨h1, h2, h3⟩ := hc
    cases H
    obtain ⟨l, hl, hi, hs⟩ := ptr_inv hx
    have hi2 := int_inv hy
    obtain ⟨B, hB, hE, hN, hg, hro⟩ := isArr_inv h1
    have bl := blk_esz R hl hB
    have hL := bl.Leq hg
    refine ⟨.pointer (some ⟨l.k, l.o + (j.toNat * l.esz + 0), none⟩), ?_, .ptr _ _ _ _ l hl (by omega)⟩
    simp only [execOp, ho]
    refine vrun ?_
    simp only [Instr.indexAt, hi2, asIntOf, Sem.run_bind, Sem.run_pure, Result.andThen, run_underlying hu, hs, Instr.sureAddr]
    rw [if_pos ⟨h2, h3⟩]
    simp only [Sem.run_bind, run_sizeOf ht, Result.andThen, Sem.run_pure, addr_add]
    congr 4
    rw [bl.esz, hE]
    omega
  · cases H

theorem index_str_out {P : Program} {o : Oper} {t : TypeId} {x y : Operand} {f : Fr} {h : AHeap} {v : AV} (ho : o.op = .index t x y) (hu : P.underlying t = some .string)
    (H : fIndexStr (evalO f x) (evalO f y) = some v) : OpOut P o f h v h := by
  refine .pure fun β w a R F => ?_
  have hx := eval_rv F x
  have hy := eval_rv F y
  unfold fIndexStr at H
  split at H
  rotate_left
  · cases H
  rename_i s kd j ex ey
  rw [ex] at hx
  rw [ey] at hy
  split at H
  rotate_left
  · cases H
  rename_i h0
  obtain ⟨b, hs, hb⟩ := str_inv hx
  have hi2 := int_inv hy
  cases hj : s[j.toNat]? with
  | none => rw [hj] at H; cases H
  | some n =>
    rw [hj] at H
    cases H
    rw [← hb, List.getElem?_map] at hj
    cases hc : b.data.toList[j.toNat]? with
    | none => rw [hc] at hj; cases hj
    | some c =>
      rw [hc] at hj
      cases hj
      refine ⟨.int .u8 c.toNat, ?_, .int _ _⟩
      simp only [execOp, ho]
      refine vrun ?_
      have hg : b[j.toNat]? = some c := by
        rw [Array.getElem?_toList] at hc
        have hlt : j.toNat < b.size := (Array.getElem?_eq_some_iff.1 hc).1
        rw [getElem?_pos b j.toNat hlt]
        have := (Array.getElem?_eq_some_iff.1 hc).2
        exact congrArg some this
      simp only [Instr.index, hi2, asIntOf, Sem.run_bind, Sem.run_pure, Result.andThen, run_underlying hu, hs, if_pos h0, hg]
theorem index_arr_out {P : Program} {o : Oper} {t e : TypeId} {N : Nat} {x y : Operand} {i : TI} {f : Fr} {h : AHeap} {v : AV} (ho : o.op = .index t x y) (hu : P.underlying t = some (.array N e)) (ht : tinfo P e = some i)
    (H : fIndexArr i.ag N i.sz (evalO f x) (evalO f y) = some v) : OpOut P o f h v h := by
  refine .pure fun β w a R F => ?_
  have hx := eval_rv F x
  have hy := eval_rv F y
  unfold fIndexArr at H
  split at H
  rotate_left
  · cases H
  rename_i cs kd j ex ey
  rw [ex] at hx
  rw [ey] at hy
  split at H
  rotate_left
  · cases H
  rename_i hc
  obtain ⟨cvs, hs, hrv⟩ := agg_inv hx
  have hi2 := int_inv hy
  obtain ⟨cv, h5, h6⟩ := part_run (P := P) ht hrv (off := j.toNat * i.sz) H w
  refine ⟨cv, ?_, h6⟩
  simp only [execOp, ho]
  refine vrun ?_
  simp only [Instr.index, hi2, asIntOf, Sem.run_bind, Sem.run_pure, Result.andThen, run_underlying hu, hs]
  rw [if_pos hc]
  simp only [Sem.run_bind, run_sizeOf ht, Result.andThen, h5]
theorem bound_run {P : Program} {β : Emb} {f : Fr} {a : Act} (F : RVs β f a.tmps) {x : Operand} {d n y : Nat} (H : bound (some (evalO f x)) d = some n) (hn : n ≤ y) (code : BoundsCode) (w : World) :
    (Instr.sliceBound (a.eval x) y code).run P w = .ok n w := by
  have hx := eval_rv F x
  unfold bound at H
  split at H
  · rename_i e; cases e
  · rename_i k j e
    injection e with e
    rw [e] at hx
    have := int_inv hx
    split at H
    · rename_i h0
      cases H
      simp only [Instr.sliceBound, this, asIntOf, Sem.run_bind, Sem.run_pure, Result.andThen]
      rw [if_pos ⟨h0, by omega⟩]
      rfl
    · cases H
  · cases H
theorem bounds_inv {lo hi : Option AV} {n : Nat} {p : Nat × Nat} (H : bounds lo hi n = some p) : bound lo 0 = some p.1 ∧ bound hi n = some p.2 ∧ p.1 ≤ p.2 ∧ p.2 ≤ n := by
  unfold bounds at H
  split at H
  · rename_i l h h1 h2
    split at H
    · rename_i hc
      cases H
      exact ⟨h1, h2, hc.1, hc.2⟩
    · cases H
  · cases H
theorem low_run {α : Type} {P : Program} {β : Emb} {f : Fr} {a : Act} (F : RVs β f a.tmps) {lo : Option Operand} {l h : Nat} (H : bound (lo.map (evalO f)) 0 = some l) (hl : l ≤ h) (code : BoundsCode) (w : World) (K : Nat → Sem α) :
    (match lo.map a.eval with | some v => (do let l ← Instr.sliceBound v h code; K l) | none => (do let l ← pure 0; K l) : Sem α).run P w = (K l).run P w := by
  cases lo with
  | none => simp [bound] at H; subst H; simp [Sem.run_bind, Result.andThen]
  | some x => simp only [Option.map_some, Sem.run_bind, bound_run F H hl code w, Result.andThen]
theorem sliceBounds_run {P : Program} {β : Emb} {f : Fr} {a : Act} (F : RVs β f a.tmps) {lo hi mx : Option Operand} {n cap : Nat} {p : Nat × Nat} (H : bounds (lo.map (evalO f)) (hi.map (evalO f)) n = some p)
    (hm : maxOk (mx.map (evalO f)) (hi.map (evalO f)) p.2 n = true) (hc : n ≤ cap) (isS : Bool) (w : World) :
    ∃ m, (Instr.sliceBounds isS n cap (lo.map a.eval) (hi.map a.eval) (mx.map a.eval)).run P w = .ok (p.1, p.2, m) w ∧ p.2 ≤ m ∧ m ≤ cap := by
  obtain ⟨h1, h2, h3, h4⟩ := bounds_inv H
  cases mx with
  | none =>
    refine ⟨cap, ?_, by omega, Nat.le_refl _⟩
    cases hi with
    | none =>
      simp only [Option.map_none, bound, Option.some.injEq] at h2
      simp only [Instr.sliceBounds, Option.map_none, Sem.run_bind, Sem.run_pure, Result.andThen]
      refine (low_run (P := P) F h1 (h2 ▸ h3) _ w _).trans ?_
      simp only [h2, Sem.run_pure]
    | some y =>
      simp only [Instr.sliceBounds, Option.map_none, Option.map_some, Sem.run_bind, Sem.run_pure, Result.andThen]
      rw [bound_run (P := P) F h2 (by omega)]
      simp only []
      exact (low_run (P := P) F h1 h3 _ w _).trans rfl
  | some z =>
    simp only [Option.map_some, maxOk] at hm
    split at hm
    · rename_i e; cases e
    · rename_i k m e
      injection e with e
      cases hi with
      | none => simp at hm
      | some y =>
        simp only [Option.map_some, Option.isSome_some, Bool.true_and, Bool.and_eq_true, decide_eq_true_eq] at hm
        have hz := eval_rv F z
        rw [e] at hz
        have hz := int_inv hz
        refine ⟨m.toNat, ?_, by omega, by omega⟩
        simp only [Instr.sliceBounds, Option.map_some, Sem.run_bind, Sem.run_pure, Result.andThen]
        have hm1 : ∀ code, (Instr.sliceBound (a.eval z) cap code).run P w = .ok m.toNat w := fun code => by
          simp only [Instr.sliceBound, hz, asIntOf, Sem.run_bind, Sem.run_pure, Result.andThen]
          rw [if_pos ⟨by omega, by omega⟩]
          rfl
        rw [hm1]
        simp only []
        rw [bound_run (P := P) F h2 (by omega)]
        simp only []
        exact (low_run (P := P) F h1 h3 _ w _).trans rfl
    · cases hm
theorem slice_str_out {P : Program} {o : Oper} {t : TypeId} {x : Operand} {lo hi : Option Operand} {f : Fr} {h : AHeap} {v : AV} (ho : o.op = .slice t x lo hi none) (hu : P.underlying t = some .string)
    (H : fSliceStr (evalO f x) (lo.map (evalO f)) (hi.map (evalO f)) = some v) : OpOut P o f h v h := by
  refine .pure fun β w a R F => ?_
  have hx := eval_rv F x
  unfold fSliceStr at H
  split at H
  rotate_left
  · cases H
  rename_i s ex
  rw [ex] at hx
  obtain ⟨b, hs, hb⟩ := str_inv hx
  cases hp : bounds (lo.map (evalO f)) (hi.map (evalO f)) s.length with
  | none => rw [hp] at H; cases H
  | some p =>
    rw [hp] at H
    cases H
    have hlen : b.size = s.length := by rw [← hb, List.length_map]; rfl
    obtain ⟨m, h1, h2, h3⟩ := sliceBounds_run (P := P) F hp (mx := none) rfl (Nat.le_refl _) false w
    refine ⟨.string (b.extract p.1 p.2), ?_, .str _ _ ?_⟩
    · simp only [execOp, ho]
      refine vrun ?_
      simp only [Instr.sliceAt, Sem.run_bind, run_underlying hu, Result.andThen, Instr.slice, hs, Option.map_none, Option.isSome_none, Bool.false_eq_true, if_false, Sem.run_pure]
      rw [hlen]
      simp only [Option.map_none] at h1
      rw [h1]
    · rw [← hb]
      simp only [ByteArray.data_extract, Array.toList_extract, List.extract_eq_take_drop, List.map_take, List.map_drop]
theorem slice_out {P : Program} {o : Oper} {t e : TypeId} {i : TI} {x : Operand} {lo hi mx : Option Operand} {f : Fr} {h : AHeap} {v : AV} (ho : o.op = .slice t x lo hi mx) (hu : P.underlying t = some (.slice e))
    (ht : tinfo P e = some i) (H : fSlice i.sz h (evalO f x) (lo.map (evalO f)) (hi.map (evalO f)) (mx.map (evalO f)) = some v) : OpOut P o f h v h := by
  refine .pure fun β w a R F => ?_
  have hx := eval_rv F x
  unfold fSlice at H
  split at H
  · rename_i b g q n ex
    rw [ex] at hx
    split at H
    rotate_left
    · cases H
    rename_i p hp
    split at H
    rotate_left
    · cases H
    rename_i hc
    cases H
    obtain ⟨l, ad, cap, hl, hi', hnc, hC, ha, hs⟩ := sl_inv hx
    obtain ⟨B, hB, hE⟩ := esz_inv hc.1
    have bl := blk_esz R hl hB
    obtain ⟨_, _, h4, h5⟩ := bounds_inv hp
    obtain ⟨m, h1, h2, h3⟩ := sliceBounds_run (P := P) F hp hc.2 hnc true w
    refine ⟨.slice (if m = p.1 then some ad else (some ad).map (·.add (p.1 * i.sz))) (p.2 - p.1) (m - p.1), ?_, ?_⟩
    · simp only [execOp, ho]
      refine vrun ?_
      simp only [Instr.sliceAt, Sem.run_bind, run_underlying hu, Result.andThen, Instr.slice, hs, h1, run_sizeOf ht, Sem.run_pure]
    · by_cases hm : m = p.1
      · rw [if_pos hm]
        exact .sl _ _ _ _ l ad (m - p.1) hl (by omega) (by omega) (by omega) (.inl (by omega))
      · rw [if_neg hm]
        refine .sl _ _ _ _ l _ (m - p.1) hl (by omega) (by omega) (by omega) (.inr ?_)
        rw [ha.resolve_left (by omega)]
        show (⟨l.k, l.o + q * l.esz, none⟩ : Addr).add (p.1 * i.sz) = _
        rw [addr_add, bl.esz, hE, Nat.add_mul]
        congr 1
        omega
  · rename_i ex
    rw [ex] at hx
    split at H
    rotate_left
    · cases H
    rename_i p hp
    split at H
    rotate_left
    · cases H
    rename_i hc
    cases H
    have hs : a.eval x = .slice none 0 0 := nils_inv hx
    obtain ⟨_, _, h4, h5⟩ := bounds_inv hp
    have h6 : p = (0, 0) := Prod.ext (by simp; omega) (by simp; omega)
    subst h6
    obtain ⟨m, h1, h2, h3⟩ := sliceBounds_run (P := P) F hp hc (Nat.le_refl 0) true w
    have hm : m = 0 := by omega
    subst hm
    refine ⟨.slice none 0 0, ?_, .nils⟩
    simp only [execOp, ho]
    refine vrun ?_
    simp only [Instr.sliceAt, Sem.run_bind, run_underlying hu, Result.andThen, Instr.slice, hs, h1, run_sizeOf ht, Sem.run_pure]
    rfl
  · cases H
theorem slice_arr_out {P : Program} {o : Oper} {t e : TypeId} {N : Nat} {i : TI} {x : Operand} {lo hi : Option Operand} {f : Fr} {h : AHeap} {v : AV} (ho : o.op = .slice t x lo hi none) (hu : P.underlying t = some (.array N e))
    (ht : tinfo P e = some i) (H : fSliceArr N i.sz h (evalO f x) (lo.map (evalO f)) (hi.map (evalO f)) = some v) : OpOut P o f h v h := by
  refine .pure fun β w a R F => ?_
  have hx := eval_rv F x
  unfold fSliceArr at H
  split at H
  rotate_left
  · cases H
  rename_i b g ex
  rw [ex] at hx
  split at H
  rotate_left
  · cases H
  rename_i hc
  cases hp : bounds (lo.map (evalO f)) (hi.map (evalO f)) N with
  | none => rw [hp] at H; cases H
  | some p =>
    rw [hp] at H
    cases H
    obtain ⟨l, hl, hi', hs⟩ := ptr_inv hx
    obtain ⟨B, hB, hE, hN, hg, hro⟩ := isArr_inv hc
    have bl := blk_esz R hl hB
    have hL := bl.Leq hg
    obtain ⟨_, _, h4, h5⟩ := bounds_inv hp
    obtain ⟨m, h1, h2, h3⟩ := sliceBounds_run (P := P) F hp (mx := none) rfl (Nat.le_refl N) false w
    obtain ⟨_, _, _, _, _, hLC, _⟩ := bl.room (bl.ro.trans hro)
    refine ⟨.slice (some (if m = p.1 then ⟨l.k, l.o + (0 * l.esz + 0), none⟩ else (⟨l.k, l.o + (0 * l.esz + 0), none⟩ : Addr).add (p.1 * i.sz))) (p.2 - p.1) (m - p.1), ?_, ?_⟩
    · simp only [execOp, ho]
      refine vrun ?_
      simp only [Option.map_none] at h1
      simp only [Instr.sliceAt, Sem.run_bind, run_underlying hu, Result.andThen, hs, Instr.sureAddr, h1, run_sizeOf ht, Sem.run_pure, Option.map_none]
    · by_cases hm : m = p.1
      · rw [if_pos hm]
        exact .sl _ _ _ _ l _ (m - p.1) hl (by omega) (by omega) (by omega) (.inl (by omega))
      · rw [if_neg hm]
        refine .sl _ _ _ _ l _ (m - p.1) hl (by omega) (by omega) (by omega) (.inr ?_)
        rw [addr_add, bl.esz, hE]
        congr 1
        omega
end Go.AM
/- Arithmetic, comparisons, conversions, lengths. -/
namespace Go.AM
open Go Go.RowKit
set_option linter.unusedVariables false
set_option linter.unusedSimpArgs false

theorem guard_int (op : BinOp) (t : TypeId) (x y : Operand) (k k' : IntKind) (a b : Int) : eqGuard op t x y (.int k a) (.int k' b) = pure () := by cases op <;> rfl
theorem guard_str (op : BinOp) (t : TypeId) (x y : Operand) (a b : ByteArray) : eqGuard op t x y (.string a) (.string b) = pure () := by cases op <;> rfl
theorem guard_bool (op : BinOp) (t : TypeId) (x y : Operand) (a b : Bool) : eqGuard op t x y (.bool a) (.bool b) = pure () := by cases op <;> rfl
theorem guard_ptr (op : BinOp) (t : TypeId) (x y : Operand) (a : Option Addr) (v : Value) : eqGuard op t x y (.pointer a) v = pure () := by cases op <;> rfl
theorem guard_slice (op : BinOp) (t : TypeId) (x y : Operand) (a : Option Addr) (n c : Nat) (v : Value) : eqGuard op t x y (.slice a n c) v = pure () := by cases op <;> rfl
theorem brun {P : Program} {op : BinOp} {t : TypeId} {x y : Operand} {a b : Value} {w : World} {v : Value} (hg : eqGuard op t x y a b = pure ()) (h : (binOp op t a b).run P w = .ok v w) :
    (do eqGuard op t x y a b; binOp op t a b : Sem Value).run P w = .ok v w := by
  rw [hg]
  simpa [Sem.run_bind, Result.andThen] using h
theorem intBin_run {P : Program} {op : BinOp} {kd kd' : IntKind} {a b : Int} {v : AV} (hk : kd = kd' ∨ isShift op = true) (H : intBin op kd a b = some v) (t : TypeId) (w : World) (β : Emb) :
    ∃ cv, (binOp op t (.int kd a) (.int kd' b)).run P w = .ok cv w ∧ RV β v cv := by
  have hk' : isShift op = false → kd = kd' := fun h => hk.resolve_right (by rw [h]; simp)
  cases op <;> simp only [intBin] at H
  case shl =>
    split at H
    · cases H
    · rename_i h0; cases H; exact ⟨_, by simp [binOp, Op.shift, if_neg h0], .int _ _⟩
  case shr =>
    split at H
    · cases H
    · rename_i h0; cases H; exact ⟨_, by simp [binOp, Op.shift, if_neg h0], .int _ _⟩
  all_goals obtain rfl := hk' rfl
  case quo =>
    split at H
    · cases H
    · rename_i h0; cases H; exact ⟨_, by simp [binOp, Op.intDiv, if_neg h0], .int _ _⟩
  case rem =>
    split at H
    · cases H
    · rename_i h0; cases H; exact ⟨_, by simp [binOp, Op.intDiv, if_neg h0], .int _ _⟩
  all_goals cases H
  all_goals first
    | (refine ⟨_, ?_, .bool _⟩; simp [binOp, Op.intCmp]; done)
    | (refine ⟨_, ?_, .int _ _⟩; simp [binOp, Op.intArith]; done)
    | (refine ⟨_, ?_, .int _ _⟩; simp [binOp, Op.intBits, aBits]; done)
theorem map_toNat_inj : ∀ (a b : List UInt8), a.map (fun b => (b.toNat : Int)) = b.map (fun b => (b.toNat : Int)) → a = b
  | [], [], _ => rfl
  | [], _ :: _, h => by simp at h
  | _ :: _, [], h => by simp at h
  | x :: a, y :: b, h => by
    simp only [List.map_cons, List.cons.injEq] at h
    rw [map_toNat_inj a b h.2]
    have : x.toNat = y.toNat := by omega
    rw [UInt8.toNat_inj.1 this]
theorem toList_data (s : ByteArray) : s.toList = s.data.toList := ByteArray.toList_eq s
theorem str_beq (a b : ByteArray) : ((a.data.toList.map fun b => (b.toNat : Int)) == (b.data.toList.map fun b => (b.toNat : Int))) = (a.toList == b.toList) := by
  rw [toList_data, toList_data, Bool.eq_iff_iff, beq_iff_eq, beq_iff_eq]
  exact ⟨map_toNat_inj _ _, fun h => by rw [h]⟩
theorem asEq_inv {op : BinOp} {r : Bool} {v : AV} (h : asEq op r = some v) : (op = .eql ∧ v = .bool r) ∨ (op = .neq ∧ v = .bool (!r)) := by
  unfold asEq at h
  split at h
  · exact .inl ⟨rfl, by cases h; rfl⟩
  · exact .inr ⟨rfl, by cases h; rfl⟩
  · cases h
theorem eq_run {P : Program} {op : BinOp} {t : TypeId} {x y : Operand} {a b : Value} {w : World} {r : Bool} {v : AV} (hg : eqGuard op t x y a b = pure ()) (h1 : (binOp .eql t a b).run P w = .ok (.bool r) w)
    (h2 : (binOp .neq t a b).run P w = .ok (.bool (!r)) w) (H : asEq op r = some v) (β : Emb) :
    ∃ cv, (do eqGuard op t x y a b; binOp op t a b : Sem Value).run P w = .ok cv w ∧ RV β v cv := by
  rcases asEq_inv H with ⟨rfl, rfl⟩ | ⟨rfl, rfl⟩
  · exact ⟨_, brun hg h1, .bool _⟩
  · exact ⟨_, brun hg h2, .bool _⟩
theorem nilAt_ptr {P : Program} {t : TypeId} (h : nilAt P t = 1) : ∃ e, P.underlying t = some (.pointer e) := by
  unfold nilAt at h
  split at h
  · rename_i e; exact ⟨_, e⟩
  · cases h
  · cases h
  · cases h
theorem nilAt_bool {P : Program} {t : TypeId} (h : nilAt P t = 3) : P.underlying t = some .bool := by
  unfold nilAt at h
  split at h
  · cases h
  · cases h
  · assumption
  · cases h
theorem equal_run {P : Program} {t : TypeId} {d : TypeDesc} (hd : P.underlying t = some d) {x y : Value} {r : Bool} {w : World} (h : (match d, x, y with
    | .bool, .bool a, .bool b => some (a == b)
    | .pointer _, .pointer none, .pointer b => some b.isNone
    | .pointer _, .pointer (some _), .pointer none => some false
    | .slice _, .slice none _ _, .slice b _ _ => some b.isNone
    | .slice _, .slice (some _) _ _, .slice none _ _ => some false
    | _, _, _ => none) = some r) : (Op.equal t x y).run P w = .ok r w := by
  show (Op.equalIn (9999 + 1) t x y).run P w = _
  rw [Op.equalIn]
  simp only [Sem.run_bind, run_underlying hd, Result.andThen]
  split at h <;> cases h <;> rfl
theorem eqs_run {P : Program} {op : BinOp} {t : TypeId} {x y : Operand} {a b : Value} {w : World} {r : Bool} {v : AV} (hg : eqGuard op t x y a b = pure ()) (he : (Op.equal t a b).run P w = .ok r w)
    (h1 : binOp .eql t a b = (do pure (.bool (← Op.equal t a b)))) (h2 : binOp .neq t a b = (do pure (.bool (!(← Op.equal t a b))))) (H : asEq op r = some v) (β : Emb) :
    ∃ cv, (do eqGuard op t x y a b; binOp op t a b : Sem Value).run P w = .ok cv w ∧ RV β v cv :=
  eq_run hg (by rw [h1]; simp [Sem.run_bind, he, Result.andThen]) (by rw [h2]; simp [Sem.run_bind, he, Result.andThen]) H β
theorem nilAt_sl {P : Program} {t : TypeId} (h : nilAt P t = 2) : ∃ e, P.underlying t = some (.slice e) := by
  unfold nilAt at h
  split at h
  · cases h
  · rename_i e; exact ⟨_, e⟩
  · cases h
  · cases h
theorem sizeOf_cells {P : Program} {t : TypeId} {d : TypeDesc} (h : P.underlying t = some d) (w : World) : (sizeOf t).run P w = .ok (P.cellsOf t) w := by
  cases hi : P.info? t with
  | none => simp [Program.underlying, hi] at h
  | some i => simp [sizeOf, Sem.run_bind, run_typeInfo hi, Result.andThen, Program.cellsOf, hi]
theorem sameCells_append : ∀ {k l : List Nat} {a b c d : List AV} {r : Bool}, a.length = k.length → sameCells (k ++ l) (a ++ b) (c ++ d) = some r → c.length = k.length →
    ∃ p q, sameCells k a c = some p ∧ sameCells l b d = some q ∧ r = (p && q)
  | [], l, [], b, [], d, r, _, h, _ => ⟨true, r, rfl, h, by simp⟩
  | [], _, _ :: _, _, _, _, _, hl, _, _ => by simp at hl
  | [], _, [], _, _ :: _, _, _, _, _, hl => by simp at hl
  | _ :: _, _, [], _, _, _, _, hl, _, _ => by simp at hl
  | _ :: _, _, _ :: _, _, [], _, _, _, _, hl => by simp at hl
  | k :: ks, l, x :: a, b, y :: c, d, r, hl, h, hl2 => by
    simp only [List.cons_append, sameCells] at h
    cases h1 : sameK k x y with
    | none => rw [h1] at h; cases h
    | some p =>
      cases h2 : sameCells (ks ++ l) (a ++ b) (c ++ d) with
      | none => rw [h1, h2] at h; cases h
      | some q =>
        rw [h1, h2] at h
        cases h
        obtain ⟨p2, q2, h3, h4, h5⟩ := sameCells_append (by simpa using hl) h2 (by simpa using hl2)
        exact ⟨p && p2, q2, by simp [sameCells, h1, h3], h4, by rw [h5, Bool.and_assoc]⟩
theorem sameCells_length : ∀ {k : List Nat} {a b : List AV} {r : Bool}, sameCells k a b = some r → a.length = k.length ∧ b.length = k.length
  | [], [], [], _, _ => ⟨rfl, rfl⟩
  | [], [], _ :: _, _, h => by simp [sameCells] at h
  | [], _ :: _, _, _, h => by simp [sameCells] at h
  | _ :: _, [], _, _, h => by simp [sameCells] at h
  | _ :: _, _ :: _, [], _, h => by simp [sameCells] at h
  | k :: ks, x :: a, y :: c, r, h => by
    simp only [sameCells] at h
    cases h1 : sameK k x y with
    | none => rw [h1] at h; cases h
    | some p =>
      cases h2 : sameCells ks a c with
      | none => rw [h1, h2] at h; cases h
      | some q =>
        have := sameCells_length h2
        exact ⟨by rw [List.length_cons, List.length_cons, this.1], by rw [List.length_cons, List.length_cons, this.2]⟩
/-- A value of a type, its cells. -/
def Fits (β : Emb) (P : Program) (t : TypeId) (a : List AV) (x : Value) : Prop :=
  a.length = P.cellsOf t ∧ (match P.underlying t with
    | some (.struct _) => ∃ ca, x = .agg ca ∧ RVs β a ca
    | _ => ∃ u, a = [u] ∧ RV β u x)
theorem RVs.seg {β : Emb} {a : List AV} {ca : Array Value} (h : RVs β a ca) (o n : Nat) : RVs β ((a.drop o).take n) (ca.extract o (o + n)) := by
  have hl : a.length = ca.size := h.1
  refine ⟨by simp; omega, fun j x y hx hy => ?_⟩
  rw [List.getElem?_take] at hx
  split at hx
  · rw [List.getElem?_drop] at hx
    rw [Array.getElem?_extract] at hy
    split at hy
    · exact h.2 _ _ _ hx hy
    · cases hy
  · cases hx
theorem part_fits {P : Program} {t : TypeId} {d : TypeDesc} (hd : P.underlying t = some d) (hp : isAggD d = true → ∃ fs, d = .struct fs) (hone : isAggD d = false → P.cellsOf t = 1) {β : Emb} {a : List AV} {ca : Array Value}
    (h : RVs β a ca) {o : Nat} (hlen : o + P.cellsOf t ≤ a.length) (w : World) : ∃ x, (part t ca o).run P w = .ok x w ∧ Fits β P t ((a.drop o).take (P.cellsOf t)) x := by
  have hl : a.length = ca.size := h.1
  simp only [part, Sem.run_bind, run_isAgg hd, Result.andThen]
  cases hag : isAggD d with
  | true =>
    obtain ⟨fs, rfl⟩ := hp hag
    simp only [if_true, Sem.run_bind, sizeOf_cells hd, Result.andThen, Sem.run_pure]
    refine ⟨_, rfl, by simp; omega, ?_⟩
    rw [hd]
    exact ⟨_, rfl, h.seg _ _⟩
  | false =>
    have h1 := hone hag
    rw [h1] at hlen ⊢
    have hlt : o < ca.size := by omega
    have ho : o < a.length := by omega
    simp only [Bool.false_eq_true, if_false, Array.getElem?_eq_getElem hlt, Sem.run_pure]
    refine ⟨_, rfl, by simp; omega, ?_⟩
    have e : (a.drop o).take 1 = [a[o]] := by
      rw [List.drop_eq_getElem_cons ho]; rfl
    rw [e]
    have := h.2 o _ _ (List.getElem?_eq_getElem ho) (Array.getElem?_eq_getElem hlt)
    rw [hd]
    cases d <;> first | exact ⟨_, rfl, this⟩ | simp [isAggD] at hag
theorem flatAt_agg {P : Program} {d : Nat} {t : TypeId} {ks : List Nat} (h : flatAt P d t = some ks) : ∃ de, P.underlying t = some de ∧ (isAggD de = true → ∃ fs, de = .struct fs) ∧ (isAggD de = false → P.cellsOf t = 1) := by
  cases d with
  | zero => cases h
  | succ d =>
    unfold flatAt at h
    split at h
    · rename_i e; refine ⟨_, e, by simp [isAggD], fun _ => ?_⟩; split at h; · assumption
      · cases h
    · rename_i e; refine ⟨_, e, by simp [isAggD], fun _ => ?_⟩; split at h; · assumption
      · cases h
    · rename_i e; refine ⟨_, e, by simp [isAggD], fun _ => ?_⟩; split at h; · assumption
      · cases h
    · rename_i e; exact ⟨_, e, fun _ => ⟨_, rfl⟩, by simp [isAggD]⟩
    · cases h
theorem fields_run {P : Program} {d D : Nat} (ih : ∀ t ks, flatAt P d t = some ks → ∀ (β : Emb) (a b : List AV) (x y : Value) (r : Bool), Fits β P t a x → Fits β P t b y → sameCells ks a b = some r → ∀ w, (Op.equalIn D t x y).run P w = .ok r w)
    {β : Emb} {a b : List AV} {ca cb : Array Value} (ha : RVs β a ca) (hb : RVs β b cb) (w : World) :
    ∀ (fs : List Field) (o : Nat) (ks : List Nat) (r : Bool), flatFs P (flatAt P d) fs o = some ks → o ≤ a.length → o ≤ b.length → sameCells ks (a.drop o) (b.drop o) = some r →
      ∃ s : Option Bool × Unit, ((forIn fs (none, ()) fun f __s =>
          if f.name ≠ "_" then do
            let l ← part f.type ca f.offset
            let l2 ← part f.type cb f.offset
            let l3 ← Op.equalIn D f.type l l2
            if (!l3) = true then pure (ForInStep.done (some false, ())) else pure (ForInStep.yield (none, ()))
          else pure (ForInStep.yield (none, ()))) : Sem (Option Bool × Unit)).run P w = .ok s w ∧ (match s.1 with | some x => x | none => true) = r
  | [], o, ks, r, h, hoa, hob, hs => by
    cases h
    have := sameCells_length hs
    have e1 : a.drop o = [] := List.length_eq_zero_iff.1 this.1
    have e2 : b.drop o = [] := List.length_eq_zero_iff.1 this.2
    rw [e1, e2] at hs
    cases hs
    exact ⟨(none, ()), rfl, rfl⟩
  | f :: fs, o, ks, r, h, hoa, hob, hs => by
    simp only [flatFs] at h
    split at h
    rotate_left
    · cases h
    rename_i hc
    obtain ⟨h1, h2⟩ := hc
    split at h
    rotate_left
    · cases h
    rename_i k l h3 h4
    split at h
    rotate_left
    · cases h
    rename_i hkl
    cases h
    obtain ⟨de, hd, hp, hone⟩ := flatAt_agg h3
    have hlen := sameCells_length hs
    simp only [List.length_drop, List.length_append] at hlen
    obtain ⟨x, hx, fx⟩ := part_fits hd hp hone ha (o := o) (by omega) w
    obtain ⟨y, hy, fy⟩ := part_fits hd hp hone hb (o := o) (by omega) w
    have e1 : a.drop o = (a.drop o).take (P.cellsOf f.type) ++ a.drop (o + P.cellsOf f.type) := by rw [← List.drop_drop, List.take_append_drop]
    have e2 : b.drop o = (b.drop o).take (P.cellsOf f.type) ++ b.drop (o + P.cellsOf f.type) := by rw [← List.drop_drop, List.take_append_drop]
    rw [e1, e2] at hs
    obtain ⟨p, q, h5, h6, h7⟩ := sameCells_append (by simp; omega) hs (by simp; omega)
    have hr := ih _ _ h3 β _ _ x y p fx fy h5 w
    subst h7
    simp only [List.forIn_cons, ne_eq, h2, not_false_eq_true, if_true, h1, Sem.run_bind, hx, hy, hr, Result.andThen]
    cases p with
    | false => exact ⟨(some false, ()), rfl, rfl⟩
    | true =>
      obtain ⟨s, hs1, hs2⟩ := fields_run ih ha hb w fs _ l q h4 (by omega) (by omega) h6
      exact ⟨s, by simpa [Sem.run_bind, Result.andThen] using hs1, by simpa using hs2⟩
theorem flat_eq {P : Program} : ∀ (d D : Nat) (t : TypeId) (ks : List Nat), d ≤ D → flatAt P d t = some ks → ∀ (β : Emb) (a b : List AV) (x y : Value) (r : Bool), Fits β P t a x → Fits β P t b y → sameCells ks a b = some r →
    ∀ w, (Op.equalIn D t x y).run P w = .ok r w
  | 0, D, t, ks, _, h => by cases h
  | d + 1, D, t, ks, hD, h => by
    obtain ⟨D, rfl⟩ : ∃ E, D = E + 1 := ⟨D - 1, by omega⟩
    intro β a b x y r fa fb hs w
    obtain ⟨la, fa⟩ := fa
    obtain ⟨lb, fb⟩ := fb
    have one : ∀ k, ks = [k] → ∀ u v, a = [u] → b = [v] → sameK k u v = some r := by
      intro k hk u v hu hv
      subst hk; subst hu; subst hv
      simp only [sameCells] at hs
      cases h1 : sameK k u v with
      | none => rw [h1] at hs; cases hs
      | some p => rw [h1] at hs; simpa using hs
    unfold flatAt at h
    split at h
    · rename_i hd
      split at h
      rotate_left
      · cases h
      cases h
      rw [hd] at fa fb
      obtain ⟨u, rfl, hu⟩ := fa
      obtain ⟨v, rfl, hv⟩ := fb
      have := one 0 rfl u v rfl rfl
      unfold sameK at this
      split at this
      · cases this
        rw [bool_inv hu, bool_inv hv, Op.equalIn]
        simp only [Sem.run_bind, run_underlying hd, Result.andThen, Sem.run_pure]
      · rename_i e; cases e
      · rename_i e; cases e
      · cases this
    · rename_i hd
      split at h
      rotate_left
      · cases h
      cases h
      rw [hd] at fa fb
      obtain ⟨u, rfl, hu⟩ := fa
      obtain ⟨v, rfl, hv⟩ := fb
      have := one 1 rfl u v rfl rfl
      unfold sameK at this
      split at this
      · rename_i e; cases e
      · split at this
        · rename_i hk
          cases this
          rw [int_inv hu, int_inv hv, Op.equalIn]
          simp only [Sem.run_bind, run_underlying hd, Result.andThen, if_pos hk, Sem.run_pure]
        · cases this
      · rename_i e; cases e
      · cases this
    · rename_i hd
      split at h
      rotate_left
      · cases h
      cases h
      rw [hd] at fa fb
      obtain ⟨u, rfl, hu⟩ := fa
      obtain ⟨v, rfl, hv⟩ := fb
      have := one 2 rfl u v rfl rfl
      unfold sameK at this
      split at this
      · rename_i e; cases e
      · rename_i e; cases e
      · cases this
        obtain ⟨p, hp, hp2⟩ := str_inv hu
        obtain ⟨q, hq, hq2⟩ := str_inv hv
        rw [hp, hq, Op.equalIn]
        simp only [Sem.run_bind, run_underlying hd, Result.andThen, Sem.run_pure, ← hp2, ← hq2]
        congr 1
        have hb : (p == q) = (p.data == q.data) := by cases p; cases q; rfl
        rw [hb, Bool.eq_iff_iff, beq_iff_eq, beq_iff_eq]
        constructor
        · intro h; rw [h]
        · intro h
          have := map_toNat_inj _ _ h
          exact Array.toList_inj.1 this
      · cases this
    · rename_i fs hd
      split at h
      rotate_left
      · cases h
      rename_i hst
      split at h
      rotate_left
      · cases h
      rename_i l hl
      split at h
      rotate_left
      · cases h
      cases h
      rw [hd] at fa fb
      obtain ⟨ca, rfl, ra⟩ := fa
      obtain ⟨cb, rfl, rb⟩ := fb
      obtain ⟨s, h1, h2⟩ := fields_run (D := D) (fun t ks hf β a b x y r fa fb hs w => flat_eq d D t ks (by omega) hf β a b x y r fa fb hs w) ra rb w fs.toList 0 _ r (by first | exact hl | assumption) (Nat.zero_le _) (Nat.zero_le _) (by simpa using hs)
      rw [Op.equalIn]
      simp only [Sem.run_bind, run_underlying hd, Result.andThen, program, Sem.run, hst.1]
      rw [← Array.forIn_toList]
      simp only [Bool.false_eq_true, if_false, Sem.run_bind, h1, Result.andThen]
      subst h2
      cases s.1 <;> rfl
    · cases h
/-- Structs whose cells are plain. -/
theorem flat_run {P : Program} {op : BinOp} {t : TypeId} {x y : Operand} {a b : List AV} {ca cb : Array Value} {ks : List Nat} {r : Bool} {v : AV} {β : Emb} (hf : flatN P t = some ks) (ha : RVs β a ca) (hb : RVs β b cb)
    (hs : sameCells ks a b = some r) (H : asEq op r = some v) (w : World) : ∃ cv, (do eqGuard op t x y (.agg ca) (.agg cb); binOp op t (.agg ca) (.agg cb) : Sem Value).run P w = .ok cv w ∧ RV β v cv := by
  unfold flatN at hf
  split at hf
  rotate_left
  · cases hf
  rename_i fs hd
  have hlen := sameCells_length hs
  have hk : ks.length = P.cellsOf t ∧ P.eqGuardType P.depth t = false := by
    unfold flatAt at hf
    rw [hd] at hf
    simp only at hf
    split at hf
    rotate_left
    · cases hf
    rename_i hst
    split at hf
    rotate_left
    · cases hf
    split at hf
    · rename_i e; cases hf; exact ⟨e, hst.2⟩
    · cases hf
  have fa : Fits β P t a (.agg ca) := ⟨by omega, by rw [hd]; exact ⟨ca, rfl, ha⟩⟩
  have fb : Fits β P t b (.agg cb) := ⟨by omega, by rw [hd]; exact ⟨cb, rfl, hb⟩⟩
  have he : (Op.equal t (.agg ca) (.agg cb)).run P w = .ok r w := flat_eq 10 Op.maxDepth t ks (by decide) hf β a b _ _ r fa fb hs w
  have hg : ∀ w, (eqGuard op t x y (.agg ca) (.agg cb)).run P w = .ok () w := fun w => by
    rcases asEq_inv H with ⟨rfl, _⟩ | ⟨rfl, _⟩ <;> simp [eqGuard, Sem.run_bind, program, Sem.run, Result.andThen, hk.2]
  rcases asEq_inv H with ⟨rfl, rfl⟩ | ⟨rfl, rfl⟩
  · refine ⟨.bool r, ?_, .bool _⟩
    simp only [Sem.run_bind, hg, Result.andThen]
    show (do pure (Value.bool (← Op.equal t (.agg ca) (.agg cb))) : Sem Value).run P w = _
    simp [Sem.run_bind, he, Result.andThen]
  · refine ⟨.bool (!r), ?_, .bool _⟩
    simp only [Sem.run_bind, hg, Result.andThen]
    show (do pure (Value.bool (!(← Op.equal t (.agg ca) (.agg cb)))) : Sem Value).run P w = _
    simp [Sem.run_bind, he, Result.andThen]
theorem bin_out {P : Program} {o : Oper} {op : BinOp} {t u : TypeId} {x y : Operand} {f : Fr} {h : AHeap} {v : AV} (ho : o.op = .binOp op t x y u)
    (H : fBin op (flatN P t) (nilAt P t) (evalO f x) (evalO f y) = some v) : OpOut P o f h v h := by
  refine .pure fun β w a R F => ?_
  have hx := eval_rv F x
  have hy := eval_rv F y
  suffices hh : ∃ cv, (do eqGuard op t x y (a.eval x) (a.eval y); binOp op t (a.eval x) (a.eval y) : Sem Value).run P w = .ok cv w ∧ RV β v cv by
    obtain ⟨cv, h1, h2⟩ := hh
    exact ⟨cv, by simp only [execOp, ho]; exact vrun h1, h2⟩
  unfold fBin at H
  split at H
  · rename_i kd n kd' m ex ey
    rw [ex] at hx
    rw [ey] at hy
    rw [int_inv hx, int_inv hy]
    split at H
    rotate_left
    · cases H
    rename_i hk
    obtain ⟨cv, h1, h2⟩ := intBin_run (P := P) hk H t w β
    exact ⟨cv, brun (guard_int ..) h1, h2⟩
  · rename_i s s' ex ey
    rw [ex] at hx
    rw [ey] at hy
    obtain ⟨p, hp, hp2⟩ := str_inv hx
    obtain ⟨q, hq, hq2⟩ := str_inv hy
    rw [hp, hq]
    unfold strBin at H
    split at H
    · split at H
      rotate_left
      · cases H
      rename_i hl
      cases H
      have l1 : p.size = s.length := by rw [← hp2, List.length_map]; rfl
      have l2 : q.size = s'.length := by rw [← hq2, List.length_map]; rfl
      refine ⟨.string (p ++ q), brun (guard_str ..) ?_, .str _ _ ?_⟩
      · simp only [binOp, Op.stringOp]
        rw [if_neg (by rw [show IntKind.i64.max = 9223372036854775807 from by decide]; omega)]
        rfl
      · rw [← hp2, ← hq2, ByteArray.data_append, Array.toList_append, List.map_append]
    · cases H
      refine ⟨_, brun (guard_str ..) ?_, .bool _⟩
      rw [← hp2, ← hq2, str_beq]
      rfl
    · cases H
      refine ⟨_, brun (guard_str ..) ?_, .bool _⟩
      rw [← hp2, ← hq2, str_beq]
      rfl
    · cases H
  · rename_i p q ex ey
    rw [ex] at hx
    rw [ey] at hy
    rw [bool_inv hx, bool_inv hy]
    split at H
    rotate_left
    · cases H
    rename_i hn
    exact eqs_run (guard_bool ..) (equal_run (nilAt_bool hn) rfl) rfl rfl H β
  · rename_i p q ex ey
    rw [ex] at hx
    rw [ey] at hy
    obtain ⟨ca, hca, hra⟩ := agg_inv hx
    obtain ⟨cb, hcb, hrb⟩ := agg_inv hy
    rw [hca, hcb]
    split at H
    rotate_left
    · cases H
    rename_i ks hf
    cases hs : sameCells ks p q with
    | none => rw [hs] at H; cases H
    | some r => rw [hs] at H; exact flat_run hf hra hrb hs H w
  · rename_i ex ey
    rw [ex] at hx
    rw [ey] at hy
    split at H
    rotate_left
    · cases H
    rename_i hn
    obtain ⟨e, he⟩ := nilAt_ptr hn
    obtain ⟨l, _, _, hc⟩ := ptr_inv hx
    have hc2 : a.eval y = .pointer none := by rw [nilp_inv hy]
    rw [hc, hc2]
    exact eqs_run (guard_ptr ..) (equal_run he rfl) rfl rfl H β
  · rename_i ex ey
    rw [ex] at hx
    rw [ey] at hy
    split at H
    rotate_left
    · cases H
    rename_i hn
    obtain ⟨e, he⟩ := nilAt_ptr hn
    rw [nilp_inv hx, nilp_inv hy]
    exact eqs_run (guard_ptr ..) (equal_run he rfl) rfl rfl H β
  · rename_i ex ey
    rw [ex] at hx
    rw [ey] at hy
    split at H
    rotate_left
    · cases H
    rename_i hn
    obtain ⟨e, he⟩ := nilAt_sl hn
    obtain ⟨l, ad, cap, _, _, _, _, _, hc⟩ := sl_inv hx
    rw [hc, nils_inv hy]
    exact eqs_run (guard_slice ..) (equal_run he rfl) rfl rfl H β
  · rename_i ex ey
    rw [ex] at hx
    rw [ey] at hy
    split at H
    rotate_left
    · cases H
    rename_i hn
    obtain ⟨e, he⟩ := nilAt_sl hn
    rw [nils_inv hx, nils_inv hy]
    exact eqs_run (guard_slice ..) (equal_run he rfl) rfl rfl H β
  · cases H
theorem un_out {P : Program} {o : Oper} {op : UnOp} {t : TypeId} {x : Operand} {f : Fr} {h : AHeap} {v : AV} (ho : o.op = .unOp op t x) (H : fUn op (evalO f x) = some v) : OpOut P o f h v h := by
  refine .pure fun β w a R F => ?_
  have hx := eval_rv F x
  unfold fUn at H
  split at H
  · rename_i ex; rw [ex] at hx; cases H
    exact ⟨_, by simp only [execOp, ho]; exact vrun (by rw [bool_inv hx]; rfl), .bool _⟩
  · rename_i ex; rw [ex] at hx; cases H
    exact ⟨_, by simp only [execOp, ho]; exact vrun (by rw [int_inv hx]; rfl), .int _ _⟩
  · rename_i ex; rw [ex] at hx; cases H
    exact ⟨_, by simp only [execOp, ho]; exact vrun (by rw [int_inv hx]; rfl), .int _ _⟩
  · cases H
theorem convInt_out {P : Program} {o : Oper} {s t : TypeId} {x : Operand} {k kd : IntKind} {f : Fr} {h : AHeap} {v : AV} (ho : o.op = .convert s t x) (hs : P.underlying s = some (.int k)) (ht : P.underlying t = some (.int kd))
    (H : fConvInt kd (evalO f x) = some v) : OpOut P o f h v h := by
  refine .pure fun β w a R F => ?_
  have hx := eval_rv F x
  unfold fConvInt at H
  split at H
  · rename_i ex; rw [ex] at hx; cases H
    refine ⟨_, ?_, .int _ _⟩
    simp only [execOp, ho]
    refine vrun ?_
    rw [int_inv hx]
    simp [convert, Sem.run_bind, run_underlying hs, run_underlying ht, Result.andThen, Conv.intToInt]
  · cases H
theorem convStr_out {P : Program} {o : Oper} {s t : TypeId} {x : Operand} {f : Fr} {h : AHeap} {l : List Int} (ho : o.op = .convert s t x) (hs : P.underlying s = some .string) (ht : P.underlying t = some .string)
    (H : evalO f x = .str l) : OpOut P o f h (.str l) h := by
  refine .pure fun β w a R F => ?_
  have hx := eval_rv F x
  rw [H] at hx
  obtain ⟨p, hp, hp2⟩ := str_inv hx
  refine ⟨.string p, ?_, .str _ _ hp2⟩
  simp only [execOp, ho]
  refine vrun ?_
  rw [hp]
  simp [convert, Sem.run_bind, run_underlying hs, run_underlying ht, Result.andThen]
end Go.AM
/- Sources and new memory. -/
namespace Go.AM
open Go Go.RowKit
set_option linter.unusedVariables false
set_option linter.unusedSimpArgs false

theorem lenOf_slice {P : Program} {w : World} (a : Option Addr) (n c : Nat) : (Builtin.lenOf (.slice a n c)).run P w = .ok n w := rfl
theorem cells_of {β : Emb} {w : World} {k o : Nat} (cs : List AV) (H : ∀ (j : Nat) (v : AV), cs[j]? = some v → ∃ cv, w.cell? ⟨k, o + j, none⟩ = some cv ∧ RV β v cv) :
    ∃ vs : List Value, vs.length = cs.length ∧ (∀ (j : Nat) (v : Value), vs[j]? = some v → w.cell? ⟨k, o + j, none⟩ = some v) ∧ RVs β cs vs.toArray := by
  let vs : List Value := (List.range cs.length).map fun j => (w.cell? ⟨k, o + j, none⟩).getD Go.undef
  refine ⟨vs, by simp [vs], fun j v hv => ?_, by simp [vs], fun j x y hx hy => ?_⟩
  · have hj : j < cs.length := by
      have := (List.getElem?_eq_some_iff.1 hv).1
      simpa [vs] using this
    obtain ⟨cv, h1, _⟩ := H j _ (List.getElem?_eq_getElem hj)
    simp only [vs, List.getElem?_map, List.getElem?_range hj, Option.map_some, h1, Option.getD_some, Option.some.injEq] at hv
    rw [h1, hv]
  · obtain ⟨cv, h1, h2⟩ := H j x hx
    have hj : j < cs.length := (List.getElem?_eq_some_iff.1 hx).1
    simp only [vs, List.getElem?_toArray, List.getElem?_map, List.getElem?_range hj, Option.map_some, h1, Option.getD_some, Option.some.injEq] at hy
    rw [← hy]; exact h2
theorem RVs.one {β : Emb} {cs : List AV} {vs : List Value} (h : RVs β cs vs.toArray) (hc : ∀ v ∈ cs, v.isCell = true) : ∀ v ∈ vs, oneV v = true := by
  intro v hv
  obtain ⟨j, hj, e⟩ := List.mem_iff_getElem.1 hv
  have hl : cs.length = vs.length := by simpa using h.1
  exact isCell_one (h.2 j cs[j] v (List.getElem?_eq_getElem (by omega)) (by simp [hj, e])) (hc _ (List.getElem_mem _))
theorem flatten_isc {cs : List (List AV)} (h : ∀ e ∈ cs, ∀ v ∈ e, v.isCell = true) : ∀ v ∈ cs.flatten, v.isCell = true := by
  intro v hv
  obtain ⟨e, he, hv⟩ := List.mem_flatten.1 hv
  exact h e he v hv
/-- A source of elements, in the world. -/
theorem src_run {P : Program} {β : Emb} {h : AHeap} {w : World} (R : Rel β h w) {esz : Nat} (hpos : 0 < esz) {x : AV} {c : Value} (hx : RV β x c) {es : List (List AV)} (H : elems esz h x = some es) :
    (∀ e ∈ es, e.length = esz) ∧ (∀ e ∈ es, ∀ v ∈ e, v.isCell = true) ∧ (∀ w2, (Builtin.lenOf c).run P w2 = .ok es.length w2) ∧
    ∀ m, m ≤ es.length → ∃ vs : List Value, vs.length = m * esz ∧ RVs β (es.take m).flatten vs.toArray ∧ (∀ v ∈ vs, oneV v = true) ∧
      ∀ w2 : World, (∀ k, k < w.heap.size → w2.heap[k]? = w.heap[k]?) → (Builtin.firstCells esz m c).run P w2 = .ok vs.toArray w2 := by
  unfold elems at H
  split at H
  · cases H
    have hc := nils_inv hx
    subst hc
    refine ⟨by simp, by simp, fun _ => rfl, fun m hm => ⟨[], by simp at hm; simp [hm], by simp [RVs], by simp, fun w2 _ => rfl⟩⟩
  · rename_i s
    split at H
    rotate_left
    · cases H
    rename_i h1
    subst h1
    cases H
    obtain ⟨p, rfl, hp⟩ := str_inv hx
    have hlen : s.length = p.size := by rw [← hp]; simp
    refine ⟨by simp, by simp [AV.isCell], fun _ => by simp [hlen]; rfl, fun m hm => ?_⟩
    simp only [List.length_map] at hm
    refine ⟨(p.data.toList.take m).map fun b => .int .u8 (b.toNat : Int), ?_, ?_, ?_, fun w2 _ => ?_⟩
    · have : p.data.toList.length = p.size := by simp
      simp; omega
    · have e : ((s.map fun c => [AV.int .u8 c]).take m).flatten = (s.take m).map fun c => AV.int .u8 c := by
        rw [← List.map_take]
        generalize s.take m = r
        induction r with
        | nil => rfl
        | cons a r ih => simp only [List.map_cons, List.flatten_cons, ih]; rfl
      rw [e, ← hp, ← List.map_take, List.map_map]
      refine ⟨by simp, fun i a v ha hv => ?_⟩
      simp only [List.getElem?_map, Option.map_eq_some_iff, List.getElem?_toArray] at ha hv
      obtain ⟨b, hb, rfl⟩ := ha
      obtain ⟨b', hb', rfl⟩ := hv
      rw [hb] at hb'
      cases hb'
      exact .int _ _
    · intro v hv
      obtain ⟨b, _, rfl⟩ := List.mem_map.1 hv
      rfl
    · simp only [Builtin.firstCells, Sem.run_pure]
      congr 1
      apply Array.ext'
      simp [ByteArray.data_extract]
  · rename_i b g i n
    split at H
    rotate_left
    · cases H
    rename_i B hB
    split at H
    rotate_left
    · cases H
    rename_i hc
    cases H
    obtain ⟨l, a, cap, hl, h1, h2, h3, h4, rfl⟩ := sl_inv hx
    have bl := blk_esz R hl hB
    have hL := bl.Lle hc.2
    have hsub : ∀ e ∈ (B.cells.drop i).take n, e ∈ B.cells := fun e he => List.mem_of_mem_drop (List.mem_of_mem_take he)
    have hlen : ((B.cells.drop i).take n).length = n := by simp; omega
    refine ⟨fun e he => (bl.len e (hsub e he)).trans hc.1, fun e he => bl.isc e (hsub e he), fun w2 => by rw [hlen]; rfl, fun m hm => ?_⟩
    rw [hlen] at hm
    have htt : ((B.cells.drop i).take n).take m = (B.cells.drop i).take m := by rw [List.take_take, Nat.min_eq_left hm]
    rw [htt]
    have hfl : ∀ e ∈ (B.cells.drop i).take m, e.length = esz := fun e he => (bl.len e (List.mem_of_mem_drop (List.mem_of_mem_take he))).trans hc.1
    have hfll : (((B.cells.drop i).take m).flatten).length = m * esz := by
      rw [flat_length _ hfl]
      congr 1
      simp; omega
    rcases Nat.eq_zero_or_pos m with h0 | h0
    · subst h0
      refine ⟨[], by simp, by simp [RVs], by simp, fun w2 _ => ?_⟩
      simp [Builtin.firstCells, loadCells, loadCellsFrom, Sem.run]
    · have ha : a = ⟨l.k, l.o + i * l.esz, none⟩ := h4.resolve_left (by omega)
      subst ha
      have he : l.esz = esz := bl.esz.trans hc.1
      obtain ⟨vs, q1, q2, q3⟩ := cells_of (β := β) (w := w) (k := l.k) (o := l.o + i * l.esz) (((B.cells.drop i).take m).flatten) (fun j v hv => by
        rw [flat_get hpos _ _ hfl] at hv
        cases hy : ((B.cells.drop i).take m)[j / esz]? with
        | none => rw [hy] at hv; cases hv
        | some e2 =>
          rw [hy] at hv
          rw [List.getElem?_take] at hy
          split at hy
          rotate_left
          · cases hy
          rename_i hlt
          rw [List.getElem?_drop] at hy
          obtain ⟨cv, q1, q2⟩ := bl.cell hc.2 (i + j / esz) e2 (j % esz) v (by omega) hy hv
          refine ⟨cv, ?_, q2⟩
          rw [← q1, he]
          congr 2
          have := Nat.div_add_mod j esz
          rw [Nat.mul_comm] at this
          rw [Nat.add_mul]
          omega)
      refine ⟨vs, q1.trans hfll, q3, q3.one (flatten_isc fun e he => bl.isc e (List.mem_of_mem_drop (List.mem_of_mem_take he))), fun w2 hw2 => ?_⟩
      simp only [Builtin.firstCells]
      exact loadCells_run P w2 _ _ _ vs (by rw [q1, hfll]) (fun j v hv => (cell_heap (hw2 _ bl.klt) _ _).trans (q2 j v hv))
  · cases H
end Go.AM
/- New blocks. -/
namespace Go.AM
open Go Go.RowKit
set_option linter.unusedVariables false
set_option linter.unusedSimpArgs false

theorem flat_at {k : Nat} (hk : 0 < k) {cells : List (List AV)} (hl : ∀ e ∈ cells, e.length = k) {i f : Nat} {e : List AV} {v : AV} (he : cells[i]? = some e) (hv : e[f]? = some v) :
    cells.flatten[i * k + f]? = some v := by
  have hf : f < k := by
    have h1 := (List.getElem?_eq_some_iff.1 hv).1
    rw [hl e (List.mem_of_getElem? he)] at h1
    exact h1
  rw [flat_get hk _ _ hl, Nat.mul_comm, Nat.mul_add_div hk, Nat.div_eq_of_lt hf, Nat.mul_add_mod, Nat.mod_eq_of_lt hf, Nat.add_zero, he]
  exact hv
theorem run_newRow {P : Program} (t : TypeId) (c : Array Value) (w : World) : (newRow t c).run P w = .ok ⟨w.heap.size, 0, none⟩ (w.alloc (.cells c t)) := by
  rfl
theorem alloc_rel {β : Emb} {h : AHeap} {w w1 : World} {esz C : Nat} {cs : List (List AV)} {c : Array Value} {t : TypeId} {fr : Nat × Nat} (R : Rel β h w) (hpos : 0 < esz)
    (hlen : ∀ e ∈ cs, e.length = esz) (hisc : ∀ e ∈ cs, ∀ v ∈ e, v.isCell = true) (h1 : w1.heap = w.heap.push (.cells c t fr)) (h2 : w1.os = w.os) (h3 : w1.tape = w.tape) (h4 : w1.output = w.output)
    (hC : cs.length ≤ C) (hc : C * esz ≤ c.size) (hfr : Frz c fr) (hrv : ∃ r : Array Value, RVs β cs.flatten r ∧ ∀ j, j < r.size → c[j]? = r[j]?) :
    Rel (β.add h.n 0 ⟨w.heap.size, 0, cs.length, C, esz, false⟩) (h.push (.blk ⟨esz, cs, 0, 0, false⟩)) w1 ∧
      Post β (β.add h.n 0 ⟨w.heap.size, 0, cs.length, C, esz, false⟩) h (h.push (.blk ⟨esz, cs, 0, 0, false⟩)) w w1 := by
  obtain ⟨r, hr, hcr⟩ := hrv
  refine push_rel (c := c) (t := t) (fr := fr) R hpos hlen hisc h2 h3 h4 (by rw [h1]; simp) (fun k hk => by rw [h1, Array.getElem?_push_lt hk]; exact (Array.getElem?_eq_getElem hk).symm) (by rw [h1]; simp) hC hc hfr (fun i e f v he hv => ?_)
  have hfa := flat_at hpos hlen he hv
  have hlt : i * esz + f < r.size := by
    rw [← hr.1]
    exact (List.getElem?_eq_some_iff.1 hfa).1
  exact ⟨r[i * esz + f], by rw [hcr _ hlt]; exact Array.getElem?_eq_getElem hlt, hr.2 _ _ _ hfa (Array.getElem?_eq_getElem hlt)⟩
theorem chunk_flat (k : Nat) : ∀ (n : Nat) (cs : List AV), cs.length = n * k → (chunk k n cs).flatten = cs ∧ ∀ e ∈ chunk k n cs, e.length = k
  | 0, cs, h => by
    have : cs = [] := List.length_eq_zero_iff.1 (by simpa using h)
    subst this
    simp [chunk]
  | n + 1, cs, h => by
    have ih := chunk_flat k n (cs.drop k) (by rw [List.length_drop, h, Nat.add_mul]; omega)
    have e : chunk k (n + 1) cs = cs.take k :: chunk k n (cs.drop k) := by
      unfold chunk
      rw [List.range_succ_eq_map, List.map_cons, List.map_map]
      congr 1
      · simp
      · apply List.map_congr_left
        intro i _
        simp only [Function.comp_apply, List.drop_drop]
        congr 2
        rw [Nat.succ_mul]
        omega
    rw [e]
    refine ⟨by rw [List.flatten_cons, ih.1, List.take_append_drop], fun x hx => ?_⟩
    rcases List.mem_cons.1 hx with rfl | hx
    · rw [List.length_take, h, Nat.add_mul]; omega
    · exact ih.2 x hx
theorem chunk_length (k n : Nat) (cs : List AV) : (chunk k n cs).length = n := by simp [chunk]
theorem blkOf_spec {P : Program} {t : TypeId} {cs : List AV} {p : Nat × List (List AV)} (H : blkOf P t cs = some p) : 0 < p.1 ∧ p.2.flatten = cs ∧ (∀ e ∈ p.2, e.length = p.1) ∧ (∀ v ∈ cs, v.isCell = true) ∧ cs.length = p.2.length * p.1 ∧ 0 < p.2.length := by
  unfold blkOf at H
  split at H
  · split at H
    · split at H
      · rename_i hc
        cases H
        obtain ⟨h1, h2⟩ := chunk_flat _ _ cs hc.2.2.1
        exact ⟨hc.1, h1, h2, fun v hv => List.all_eq_true.1 hc.2.2.2 v hv, by rw [chunk_length]; exact hc.2.2.1, by rw [chunk_length]; exact hc.2.1⟩
      · cases H
    · cases H
  · split at H
    · rename_i hc
      cases H
      exact ⟨hc.1, by simp, by simp, fun v hv => List.all_eq_true.1 hc.2 v hv, by simp, by simp⟩
    · cases H
  · cases H
theorem cells_rv {β : Emb} {v : AV} {c : Value} (h : RV β v c) (hc : ∀ x ∈ v.cells, x.isCell = true) : RVs β v.cells c.cells := by
  refine h.cells ?_
  rintro rfl
  have := hc .unk (by simp [AV.cells])
  cases this
theorem new_out {P : Program} {o : Oper} {f : Fr} {h : AHeap} {t : TypeId} {cs : List AV} {p : Nat × List (List AV)} (H : blkOf P t cs = some p)
    (K : ∀ (β : Emb) (w : World) (a : Act), Rel β h w → RVs β f a.tmps → (∀ v ∈ cs, v.isCell = true) → ∃ c : Array Value, RVs β cs c ∧ (execOp a.eval o).run P w = .ok (.value (.pointer (some ⟨w.heap.size, 0, none⟩))) (w.alloc (.cells c t))) :
    OpOut P o f h (fNew p.1 p.2 h).1 (fNew p.1 p.2 h).2 := by
  refine .val fun β w a R F => ?_
  obtain ⟨h1, h2, h3, h4, h5, h6⟩ := blkOf_spec H
  obtain ⟨c, hc, run⟩ := K β w a R F h4
  have hsz : c.size = p.2.length * p.1 := by rw [← hc.1, h5]
  have al := alloc_rel (β := β) (h := h) (w := w) (w1 := w.alloc (.cells c t)) (esz := p.1) (C := p.2.length) (cs := p.2) (c := c) (t := t) (fr := (0, 0)) R h1 h3
    (fun e he v hv => h4 v (by rw [← h2]; exact List.mem_flatten.2 ⟨e, he, hv⟩)) rfl rfl rfl rfl (Nat.le_refl _) (by omega) (.inl rfl) ⟨c, by rw [h2]; exact hc, fun _ _ => rfl⟩
  refine ⟨_, _, _, run, ?_, al.1, al.2⟩
  have := RV.ptr (β := β.add h.n 0 ⟨w.heap.size, 0, p.2.length, p.2.length, p.1, false⟩) h.n 0 0 0 _ (Emb.add_at ..) h6
  simpa [fNew] using this
theorem alloc_out {P : Program} {o : Oper} {f : Fr} {h : AHeap} {t : TypeId} {i : TI} {p : Nat × List (List AV)} (ho : o.op = .alloc t) (ht : tinfo P t = some i) (H : blkOf P t i.zero = some p) :
    OpOut P o f h (fNew p.1 p.2 h).1 (fNew p.1 p.2 h).2 := by
  obtain ⟨d, inf, z, h1, h2, h3, rfl⟩ := tinfo_some ht
  refine new_out H fun β w a R F hc => ⟨z.cells, cells_rv (ofValue_rv β z) hc, ?_⟩
  simp [execOp, ho, Instr.alloc, newVar, Sem.run_bind, run_zeroValue h2 h3, Result.andThen, run_newRow]
theorem box_out {P : Program} {o : Oper} {f : Fr} {h : AHeap} {t : TypeId} {x : Operand} {p : Nat × List (List AV)} (ho : o.op = .box t x) (H : blkOf P t (evalO f x).cells = some p) :
    OpOut P o f h (fNew p.1 p.2 h).1 (fNew p.1 p.2 h).2 := by
  refine new_out H fun β w a R F hc => ⟨(a.eval x).cells, cells_rv (eval_rv F x) hc, ?_⟩
  simp [execOp, ho, Instr.box, newVar, Sem.run_bind, Result.andThen, run_newRow]
theorem newSl_out {P : Program} {o : Oper} {f : Fr} {h : AHeap} {t : TypeId} {esz : Nat} {cs : List (List AV)} (hpos : 0 < esz) (hlen : ∀ e ∈ cs, e.length = esz) (hisc : ∀ e ∈ cs, ∀ v ∈ e, v.isCell = true)
    (K : ∀ (β : Emb) (w : World) (a : Act), Rel β h w → RVs β f a.tmps → ∃ (c : Array Value) (C : Nat) (fr : Nat × Nat) (r : Array Value) (w1 : World), RVs β cs.flatten r ∧ (∀ j, j < r.size → c[j]? = r[j]?) ∧ cs.length ≤ C ∧ C * esz ≤ c.size ∧
      Frz c fr ∧ w1.heap = w.heap.push (.cells c t fr) ∧ w1.os = w.os ∧ w1.tape = w.tape ∧ w1.output = w.output ∧
      (execOp a.eval o).run P w = .ok (.value (.slice (some ⟨w.heap.size, 0, none⟩) cs.length C)) w1) :
    OpOut P o f h (fNewSl esz cs h).1 (fNewSl esz cs h).2 := by
  refine .val fun β w a R F => ?_
  obtain ⟨c, C, fr, r, w1, k1, k2, k3, k4, k5, k6, k7, k8, k9, run⟩ := K β w a R F
  have al := alloc_rel (β := β) (h := h) (w := w) (w1 := w1) (esz := esz) (C := C) (cs := cs) (c := c) (t := t) (fr := fr) R hpos hlen hisc k6 k7 k8 k9 k3 k4 k5 ⟨r, k1, k2⟩
  refine ⟨_, _, _, run, ?_, al.1, al.2⟩
  exact .sl h.n 0 0 cs.length ⟨w.heap.size, 0, cs.length, C, esz, false⟩ _ C (Emb.add_at ..) (by simp) k3 (by simp) (.inr (by simp))
end Go.AM
/- Values that are built; slices that are made. -/
namespace Go.AM
open Go Go.RowKit
set_option linter.unusedVariables false
set_option linter.unusedSimpArgs false

theorem foldl_set (off : Nat) : ∀ (vs : List Value) (k : Nat) (cs : Array Value), off + k + vs.length ≤ cs.size →
    ((vs.zipIdx k).foldl (fun cs p => cs.setIfInBounds (off + p.2) p.1) cs).size = cs.size ∧
    ∀ j, ((vs.zipIdx k).foldl (fun cs p => cs.setIfInBounds (off + p.2) p.1) cs)[j]? = if off + k ≤ j ∧ j < off + k + vs.length then vs[j - (off + k)]? else cs[j]?
  | [], k, cs, h => ⟨rfl, fun j => by simp only [List.zipIdx_nil, List.foldl_nil, List.length_nil]; rw [if_neg (by omega)]⟩
  | v :: vs, k, cs, h => by
    simp only [List.length_cons] at h
    have ih := foldl_set off vs (k + 1) (cs.setIfInBounds (off + k) v) (by simp; omega)
    simp only [List.zipIdx_cons, List.foldl_cons]
    refine ⟨ih.1.trans (by simp), fun j => ?_⟩
    rw [ih.2 j]
    by_cases e : j = off + k
    · subst e
      have hlen : off + k < cs.size := by omega
      rw [if_neg (by omega), if_pos (by simp), Nat.sub_self]
      simp [hlen]
    · by_cases e2 : off + (k + 1) ≤ j ∧ j < off + (k + 1) + vs.length
      · rw [if_pos e2, if_pos (by simp; omega)]
        obtain ⟨d, hd⟩ : ∃ d, j - (off + k) = d + 1 := ⟨j - (off + k) - 1, by omega⟩
        rw [hd, List.getElem?_cons_succ]
        congr 1
        omega
      · rw [if_neg e2, if_neg (by simp; omega), Array.getElem?_setIfInBounds_ne (by omega)]
theorem known_cells {β : Emb} {v : AV} {c : Value} (h : RV β v c) (hk : v.known = true) : RVs β v.cells c.cells := h.cells (by rintro rfl; cases hk)
/-- The parts' values. -/
def PartsR (β : Emb) : List (Nat × AV) → List (Nat × Value) → Prop
  | [], [] => True
  | (i, v) :: r, (j, c) :: s => i = j ∧ RV β v c ∧ PartsR β r s
  | _, _ => False
theorem parts_rv {β : Emb} {f : Fr} {a : Act} (F : RVs β f a.tmps) : ∀ (l : List (Nat × Operand)), PartsR β (l.map fun p => (p.1, evalO f p.2)) (l.map fun p => (p.1, a.eval p.2))
  | [] => trivial
  | (i, x) :: r => ⟨rfl, eval_rv F x, parts_rv F r⟩
theorem fill_run {β : Emb} {place : Nat → Option (Nat × Nat)} : ∀ (ps : List (Nat × AV)) (qs : List (Nat × Value)) (cs : List AV) (c : Array Value) (r : List AV), PartsR β ps qs → RVs β cs c → fillA place cs ps = some r →
    ∃ cr, Instr.fill place c qs = some cr ∧ RVs β r cr
  | [], [], cs, c, r, hp, hc, H => by cases H; exact ⟨c, rfl, hc⟩
  | (i, v) :: ps, (j, x) :: qs, cs, c, r, hp, hc, H => by
    obtain ⟨rfl, hv, hp⟩ := hp
    unfold fillA at H
    split at H
    · cases H
    rename_i off size hpl
    split at H
    rotate_left
    · cases H
    rename_i hcond
    obtain ⟨hk, hs, hb⟩ := hcond
    have hx := known_cells hv hk
    have hxl : v.cells.length = x.cells.size := hx.1
    have hcl : cs.length = c.size := hc.1
    unfold Instr.fill
    rw [hpl]
    simp only
    rw [if_neg (by simp; omega)]
    refine fill_run ps qs _ _ r hp ?_ H
    have fs := foldl_set off x.cells.toList 0 c (by simp; omega)
    have e : x.cells.zipIdx.foldl (fun cs p => cs.setIfInBounds (off + p.2) p.1) c = (x.cells.toList.zipIdx 0).foldl (fun cs p => cs.setIfInBounds (off + p.2) p.1) c := by
      rw [← Array.foldl_toList, Array.toList_zipIdx]
    have e' : x.cells.zipIdx.foldl (fun cs (c, j) => cs.setIfInBounds (off + j) c) c = x.cells.zipIdx.foldl (fun cs p => cs.setIfInBounds (off + p.2) p.1) c := rfl
    rw [e', e]
    refine ⟨by rw [fs.1]; simp; omega, fun j u y hu hy => ?_⟩
    rw [fs.2 j] at hy
    simp only [Nat.add_zero, Array.length_toList] at hy
    by_cases h1 : j < off
    · rw [if_neg (by omega)] at hy
      rw [List.getElem?_append_left (by simp; omega), List.getElem?_take, if_pos h1] at hu
      exact hc.2 j u y hu hy
    · rw [List.getElem?_append_right (by simp; omega)] at hu
      have hmin : (List.take off cs).length = off := by simp; omega
      rw [hmin] at hu
      by_cases h2 : j - off < v.cells.length
      · rw [List.getElem?_append_left h2] at hu
        rw [if_pos (by omega)] at hy
        exact hx.2 _ u y hu (by simpa using hy)
      · rw [List.getElem?_append_right (by omega), List.getElem?_drop] at hu
        rw [if_neg (by omega)] at hy
        refine hc.2 j u y ?_ hy
        rw [← hu]
        congr 1
        omega
  | [], _ :: _, _, _, _, hp, _, _ => hp.elim
  | _ :: _, [], _, _, _, hp, _, _ => hp.elim
theorem map_parts (a : Act) (parts : Array (Nat × Operand)) : (parts.map fun (i, x) => (i, a.eval x)).toList = parts.toList.map fun p => (p.1, a.eval p.2) := by simp
theorem build_struct_out {P : Program} {o : Oper} {t : TypeId} {parts : Array (Nat × Operand)} {f : Fr} {h : AHeap} {i : TI} {fs : Array Field} {places : List (Nat × Nat)} {r : List AV} (ho : o.op = .build t parts)
    (ht : tinfo P t = some i) (hu : P.underlying t = some (.struct fs)) (hp : fs.toList.mapM (fun f => (P.info? f.type).map fun i => (f.offset, i.size)) = some places)
    (H : fillA (fun j => places[j]?) i.zero (parts.toList.map fun p => (p.1, evalO f p.2)) = some r) (hz : i.zero ≠ [.unk]) : OpOut P o f h (.agg r) h := by
  refine .pure fun β w a R F => ?_
  obtain ⟨d, inf, z, h1, h2, h3, rfl⟩ := tinfo_some ht
  have zr : RVs β (ofValue z).cells z.cells := (ofValue_rv β z).cells (fun e => hz (by simp [e, AV.cells]))
  obtain ⟨cr, k1, k2⟩ := fill_run _ _ _ _ r (parts_rv F parts.toList) zr H
  refine ⟨.agg cr, ?_, .agg _ _ k2.1 k2.2⟩
  have hb : P.built t (parts.map fun (i, x) => (i, a.eval x)).toList = some cr := by
    rw [map_parts]
    unfold Program.built
    simp only [h2, hu, h3, hp]
    simpa using k1
  simp only [execOp, ho, Sem.run_bind, run_build w t _ cr hb, Result.andThen, Sem.run_pure]
theorem build_arr_out {P : Program} {o : Oper} {t e : TypeId} {N : Nat} {parts : Array (Nat × Operand)} {f : Fr} {h : AHeap} {i ie : TI} {r : List AV} (ho : o.op = .build t parts)
    (ht : tinfo P t = some i) (hu : P.underlying t = some (.array N e)) (hie : tinfo P e = some ie)
    (H : fillA (fun j => some (j * ie.sz, ie.sz)) i.zero (parts.toList.map fun p => (p.1, evalO f p.2)) = some r) (hz : i.zero ≠ [.unk]) : OpOut P o f h (.agg r) h := by
  refine .pure fun β w a R F => ?_
  obtain ⟨d, inf, z, h1, h2, h3, rfl⟩ := tinfo_some ht
  obtain ⟨d', inf', z', h1', h2', h3', rfl⟩ := tinfo_some hie
  have zr : RVs β (ofValue z).cells z.cells := (ofValue_rv β z).cells (fun e => hz (by simp [e, AV.cells]))
  obtain ⟨cr, k1, k2⟩ := fill_run _ _ _ _ r (parts_rv F parts.toList) zr H
  refine ⟨.agg cr, ?_, .agg _ _ k2.1 k2.2⟩
  have hb : P.built t (parts.map fun (i, x) => (i, a.eval x)).toList = some cr := by
    rw [map_parts]
    unfold Program.built
    simp only [h2, hu, h3, h2']
    exact k1
  simp only [execOp, ho, Sem.run_bind, run_build w t _ cr hb, Result.andThen, Sem.run_pure]
/-- Many zeros, one behind the other. -/
theorem zeros_rv {β : Emb} {z : List AV} {c : Array Value} (h : RVs β z c) (n k : Nat) (hk : z.length = k) (hpos : 0 < k) :
    RVs β (List.replicate n z).flatten ((Array.range (n * k)).map fun i => c[i % c.size]!) := by
  subst hk
  have hl : ∀ e ∈ List.replicate n z, e.length = z.length := fun e he => by rw [(List.mem_replicate.1 he).2]
  refine ⟨by rw [flat_length _ hl]; simp, fun i a v ha hv => ?_⟩
  rw [flat_get hpos _ _ hl, List.getElem?_replicate] at ha
  split at ha
  rotate_left
  · cases ha
  simp only [Array.getElem?_map, Array.getElem?_range] at hv
  split at hv
  rotate_left
  · cases hv
  simp only [Option.map_some, Option.some.injEq] at hv
  have hlt : i % z.length < c.size := by rw [← h.1]; exact Nat.mod_lt _ hpos
  rw [← h.1] at hv
  rw [getElem!_pos c (i % z.length) hlt] at hv
  exact h.2 _ a v ha (by rw [← hv]; exact Array.getElem?_eq_getElem hlt)
theorem buildSlice_out {P : Program} {o : Oper} {t e : TypeId} {len : Nat} {parts : Array (Nat × Operand)} {f : Fr} {h : AHeap} {i : TI} {cs : List AV} (ho : o.op = .buildSlice t len parts)
    (hu : P.underlying t = some (.slice e)) (ht : tinfo P e = some i) (hc : 0 < i.sz ∧ len * i.sz ≤ 16777216 ∧ i.zero.length = i.sz ∧ i.zero ≠ [.unk])
    (H : fillA (fun j => some (j * i.sz, i.sz)) (List.replicate len i.zero).flatten (parts.toList.map fun p => (p.1, evalO f p.2)) = some cs) (hcs : cs.all AV.isCell = true)
    (hlen : cs.length = len * i.sz) : OpOut P o f h (fNewSl i.sz (chunk i.sz len cs) h).1 (fNewSl i.sz (chunk i.sz len cs) h).2 := by
  obtain ⟨hpos, hroom, hzl, hz⟩ := hc
  obtain ⟨q1, q2⟩ := chunk_flat i.sz len cs hlen
  refine newSl_out (t := e) hpos q2 (fun x hx v hv => List.all_eq_true.1 hcs v (by rw [← q1]; exact List.mem_flatten.2 ⟨x, hx, hv⟩)) fun β w a R F => ?_
  have hrun := run_sizeOf (P := P) ht
  obtain ⟨d, inf, z, h1, h2, h3, rfl⟩ := tinfo_some ht
  have zr : RVs β (ofValue z).cells z.cells := (ofValue_rv β z).cells (fun e => hz (by simp [e, AV.cells]))
  have zz := zeros_rv zr len _ hzl hpos
  obtain ⟨cr, k1, k2⟩ := fill_run _ _ _ _ cs (parts_rv F parts.toList) zz H
  have hsz : cr.size = len * inf.size := by rw [← k2.1]; exact hlen
  refine ⟨cr, len, (0, 0), cr, w.alloc (.cells cr e), by rw [q1]; exact k2, fun _ _ => rfl, by rw [chunk_length]; exact Nat.le_refl _, by simp only; omega, .inl rfl, rfl, rfl, rfl, rfl, ?_⟩
  rw [chunk_length]
  simp only [execOp, ho, Instr.buildSlice, Sem.run_bind, run_underlying hu, Result.andThen, hrun, Sem.run_pure]
  have hroom2 : len * inf.size ≤ 16777216 := hroom
  have hpos2 : 0 < inf.size := hpos
  rw [if_neg (show ¬ (len * inf.size > 2 ^ 24) by omega)]
  by_cases h0 : len * inf.size = 0
  · have h0' : len = 0 := by
      rcases Nat.mul_eq_zero.1 h0 with h | h
      · exact h
      · first | omega | (simp only at hpos; omega)
    subst h0'
    simp only [Nat.zero_mul, if_true, Sem.run_bind, Sem.run_pure, Result.andThen]
    simp only [Nat.zero_mul] at k1
    rw [map_parts]
    have ee : (Array.map (fun x => (#[] : Array Value)[x % (#[] : Array Value).size]!) (Array.range 0)) = Array.map (fun i => z.cells[i % z.cells.size]!) (Array.range 0) := by simp
    rw [ee, k1]
    simp only [Sem.run_bind, run_newRow, Result.andThen, Sem.run_pure]
  · rw [if_neg h0]
    simp only [Sem.run_bind, run_zeroValue h2 h3, Sem.run_pure, Result.andThen]
    rw [map_parts, k1]
    simp only [Sem.run_bind, run_newRow, Result.andThen, Sem.run_pure]
end Go.AM
/- Slices that are made; what is written. -/
namespace Go.AM
open Go Go.RowKit
set_option linter.unusedVariables false
set_option linter.unusedSimpArgs false

theorem sameOp_eval {a : Act} {x y : Operand} {β : Emb} {f : Fr} (F : RVs β f a.tmps) (h : sameOp x y = true) {k : IntKind} {n : Int} (e : evalO f x = .int k n) : ∃ k', a.eval y = .int k' n := by
  unfold sameOp at h
  split at h
  · have : a.eval (.tmp _) = .int k n := int_inv (by rw [← e]; exact eval_rv F _)
    rename_i i j
    rw [beq_iff_eq] at h
    subst h
    exact ⟨k, this⟩
  · rename_i k1 n1 k2 n2
    rw [beq_iff_eq] at h
    subst h
    have := int_inv (show RV β (.int k n) (a.eval (.const (.int k1 n1))) by rw [← e]; exact eval_rv F _)
    simp only [Act.eval] at this
    cases this
    exact ⟨k2, rfl⟩
  · cases h
theorem wrap_i64 {n : Int} (h0 : 0 ≤ n) (h1 : n ≤ 9223372036854775807) : IntKind.i64.wrap n = n := by
  have e : n % 2 ^ 64 = n := Int.emod_eq_of_lt h0 (by omega)
  have e2 : ¬ (n ≥ 2 ^ 63) := by omega
  simp only [IntKind.wrap, IntKind.bits, IntKind.signed, e, Bool.true_and, decide_eq_true_eq]
  exact if_neg e2
theorem makeSlice_out {P : Program} {o : Oper} {t e : TypeId} {l c : Operand} {f : Fr} {h : AHeap} {i : TI} {p : AV × AHeap} (ho : o.op = .makeSlice t l c) (hu : P.underlying t = some (.slice e)) (ht : tinfo P e = some i)
    (hc : 0 < i.sz ∧ 0 < i.bytes ∧ i.zero.length = i.sz ∧ i.zero.all AV.isCell = true ∧ sameOp l c = true) (H : fMake i.sz i.bytes i.zero h (evalO f l) = some p) : OpOut P o f h p.1 p.2 := by
  obtain ⟨hpos, hby, hzl, hzc, hsame⟩ := hc
  unfold fMake at H
  split at H
  rotate_left
  · cases H
  rename_i n hn
  split at H
  rotate_left
  · cases H
  rename_i hb
  cases H
  refine newSl_out (t := e) hpos (fun x hx => by rw [(List.mem_replicate.1 hx).2]; exact hzl) (fun x hx v hv => by rw [(List.mem_replicate.1 hx).2] at hv; exact List.all_eq_true.1 hzc v hv) fun β w a R F => ?_
  have hrun := run_sizeOf (P := P) ht
  obtain ⟨d, inf, z, h1, h2, h3, rfl⟩ := tinfo_some ht
  have zr : RVs β (ofValue z).cells z.cells := cells_rv (ofValue_rv β z) (fun x hx => List.all_eq_true.1 hzc x hx)
  have zz := zeros_rv zr n.toNat _ hzl hpos
  have el : a.eval l = .int .i64 n := int_inv (by rw [← hn]; exact eval_rv F l)
  obtain ⟨k', ec⟩ := sameOp_eval F hsame hn
  have hb2 : (inf.bytes : Int) * n ≤ 281474976710656 := hb.2.2
  have hpos2 : 0 < inf.size := hpos
  obtain ⟨m, rfl⟩ : ∃ m : Nat, n = (m : Int) := ⟨n.toNat, by omega⟩
  simp only [Int.toNat_natCast] at zz ⊢
  refine ⟨_, m, (0, 0), _, w.alloc (.cells ((Array.range (m * inf.size)).map fun i => z.cells[i % z.cells.size]!) e), zz, fun _ _ => rfl, by simp, by simp, .inl rfl, rfl, rfl, rfl, rfl, ?_⟩
  have hw := wrap_i64 hb.1 hb.2.1
  have hroom : ∀ b : Nat, (askRoom b).run P w = .ok () w := fun b => by
    unfold askRoom
    split <;> rfl
  simp only [execOp, ho, Instr.makeSlice, Sem.run_bind, run_underlying hu, Result.andThen, hrun, Sem.run_pure, el, ec, asInt, asIntOf, run_typeInfo h2, hw]
  have hnb : ¬ (((m : Int) < 0 || (inf.bytes : Int) * m > 2 ^ 48) || (m : Int) < 0 || (m : Int) > m) = true := by
    simp only [Bool.or_eq_true, decide_eq_true_eq, not_or]
    omega
  rw [if_neg hnb]
  simp only [Int.toNat_natCast, hroom, Result.andThen, hrun, Sem.run_bind, List.length_replicate]
  by_cases h0 : m * inf.size = 0
  · rw [if_pos h0]
    have h0' : m = 0 := by
      rcases Nat.mul_eq_zero.1 h0 with h | h
      · exact h
      · omega
    subst h0'
    simp only [Sem.run_bind, run_newRow, Result.andThen, Sem.run_pure, Nat.zero_mul]
    have ee : (Array.map (fun x => (#[] : Array Value)[x % (#[] : Array Value).size]!) (Array.range 0)) = Array.map (fun i => z.cells[i % z.cells.size]!) (Array.range 0) := by simp
    rw [ee]
  · rw [if_neg h0]
    simp only [Sem.run_bind, run_zeroValue h2 h3, Sem.run_pure, Result.andThen, run_newRow]
theorem byteOf_inv {e : List AV} {n : Int} (h : byteOf e = some n) : ∃ m, e = [.int .u8 m] ∧ n = (m.toNat % 256 : Nat) := by
  unfold byteOf at h
  split at h
  · rename_i m
    exact ⟨m, rfl, by cases h; rfl⟩
  · cases h
theorem bytes_loop {P : Program} {β : Emb} (g : Value → ByteArray → Sem (ForInStep ByteArray)) (hg : ∀ n r, g (.int .u8 n) r = pure (.yield (r.push (UInt8.ofNat n.toNat)))) :
    ∀ (es : List (List AV)) (vs : List Value) (s : List Int) (b : ByteArray) (w : World), bytesOf es = some s → RVs β es.flatten vs.toArray →
    ∃ b' : ByteArray, (forIn vs b g).run P w = .ok b' w ∧ b'.data.toList.map (fun b => (b.toNat : Int)) = b.data.toList.map (fun b => (b.toNat : Int)) ++ s
  | [], vs, s, b, w, h, hv => by
    cases h
    have : vs = [] := by
      have := hv.1
      simpa using this.symm
    subst this
    exact ⟨b, rfl, by simp⟩
  | e :: es, vs, s, b, w, h, hv => by
    unfold bytesOf at h
    split at h
    rotate_left
    · cases h
    rename_i c s' hc hs
    cases h
    obtain ⟨m, rfl, rfl⟩ := byteOf_inv hc
    have hlen := hv.1
    match vs, hv, hlen with
    | [], _, hlen => simp at hlen
    | v :: vs, hv, hlen =>
      have hv0 : v = .int .u8 m := int_inv (hv.2 0 _ v (by simp) (by simp))
      subst hv0
      obtain ⟨b', h1, h2⟩ := bytes_loop g hg es vs s' (b.push (UInt8.ofNat m.toNat)) w hs ⟨by simpa using hlen, fun i a u ha hu => hv.2 (i + 1) a u (by simpa using ha) (by simpa using hu)⟩
      refine ⟨b', ?_, ?_⟩
      · rw [List.forIn_cons]
        simp only [hg, Sem.run_bind, Sem.run_pure, Result.andThen]
        exact h1
      · rw [h2, ByteArray.data_push, Array.toList_push, List.map_append]
        simp
theorem strOf_out {P : Program} {o : Oper} {s t e : TypeId} {x : Operand} {f : Fr} {h : AHeap} {v : AV} (ho : o.op = .convert s t x) (hs : P.underlying s = some (.slice e)) (ht : P.underlying t = some .string)
    (he : P.underlying e = some (.int .u8)) (H : fStrOf h (evalO f x) = some v) : OpOut P o f h v h := by
  refine .pure fun β w a R F => ?_
  have hx := eval_rv F x
  unfold fStrOf at H
  split at H
  · cases H
  rename_i hns
  split at H
  rotate_left
  · cases H
  rename_i es hes
  obtain ⟨l, hl, rfl⟩ := Option.map_eq_some_iff.1 H
  obtain ⟨q1, q2, q3, q4⟩ := src_run (P := P) R (by decide) hx hes
  obtain ⟨vs, r1, r2, r3, r4⟩ := q4 es.length (Nat.le_refl _)
  rw [List.take_length] at r2
  obtain ⟨b', k1, k2⟩ := bytes_loop (P := P) (fun c r => match c with
          | .int .u8 n => pure (ForInStep.yield (r.push (UInt8.ofNat n.toNat)))
          | x => do
            (stuck "bytesToString: byte expected" : Sem PUnit)
            pure (ForInStep.yield r)) (fun _ _ => rfl) es vs l .empty w hl r2
  refine ⟨.string b', ?_, .str b' l (by simpa using k2)⟩
  have run1 := r4 w (fun _ _ => rfl)
  have key : ∀ c, a.eval x = c → (∃ p n m, c = .slice p n m) → (Conv.bytesToString c).run P w = .ok (.string b') w := by
    rintro c hc ⟨p, n, m, rfl⟩
    have hlen := q3 w
    rw [hc] at hlen run1
    simp only [lenOf_slice, Result.ok.injEq, and_true] at hlen
    subst hlen
    cases p with
    | none =>
      simp only [Builtin.firstCells, Sem.run_pure, Result.ok.injEq, and_true] at run1
      have : vs = [] := by simpa using run1.symm
      subst this
      simp only [List.forIn_nil, Sem.run_pure, Result.ok.injEq, and_true] at k1
      rw [← k1]
      rfl
    | some p =>
      simp only [Builtin.firstCells, Nat.mul_one] at run1
      simp only [Conv.bytesToString, Sem.run_bind, run1, Result.andThen]
      rw [← Array.forIn_toList]
      erw [k1]
      rfl
  have hsl : ∃ p n m, a.eval x = .slice p n m := by
    unfold elems at hes
    split at hes
    · rename_i e; rw [e] at hx; exact ⟨_, _, _, nils_inv hx⟩
    · rename_i e; exact absurd e (hns _)
    · rename_i e
      rw [e] at hx
      obtain ⟨l, a', cap, _, _, _, _, _, e2⟩ := sl_inv hx
      exact ⟨_, _, _, e2⟩
    · cases hes
  have run2 := key _ rfl hsl
  obtain ⟨p, n, m, e2⟩ := hsl
  rw [e2] at run2
  simp only [execOp, ho, convert, Sem.run_bind, run_underlying hs, run_underlying ht, run_underlying he, Result.andThen, e2, run2, Sem.run_pure]
end Go.AM
/- What is written: stores, copies, appends. -/
namespace Go.AM
open Go Go.RowKit
set_option linter.unusedVariables false
set_option linter.unusedSimpArgs false

theorem flatten_take {k : Nat} : ∀ (cells : List (List AV)) (i : Nat), (∀ e ∈ cells, e.length = k) → (cells.take i).flatten = cells.flatten.take (i * k)
  | [], i, h => by simp
  | e :: r, 0, h => by simp
  | e :: r, i + 1, h => by
    have he := h e List.mem_cons_self
    rw [List.take_succ_cons, List.flatten_cons, List.flatten_cons, flatten_take r i (fun x hx => h x (List.mem_cons_of_mem _ hx)), List.take_append, he, Nat.succ_mul, Nat.add_sub_cancel]
    rw [show List.take (i * k + k) e = e from List.take_of_length_le (by omega)]
theorem flatten_drop {k : Nat} : ∀ (cells : List (List AV)) (i : Nat), (∀ e ∈ cells, e.length = k) → (cells.drop i).flatten = cells.flatten.drop (i * k)
  | [], i, h => by simp
  | e :: r, 0, h => by simp
  | e :: r, i + 1, h => by
    have he := h e List.mem_cons_self
    rw [List.drop_succ_cons, List.flatten_cons, flatten_drop r i (fun x hx => h x (List.mem_cons_of_mem _ hx)), List.drop_append, he, Nat.succ_mul, Nat.add_sub_cancel]
    rw [show List.drop (i * k + k) e = [] from List.drop_eq_nil_of_le (by omega)]
    simp
/-- A block's cells written over, from a place on. -/
theorem write_rel {P : Program} {β : Emb} {h : AHeap} {w : World} {b : Nat} {B B' : Blk} {l : Loc} (R : Rel β h w) (hB : h.m b = some (.blk B)) (hl : β.bl b B.gen = some l) (hro : B.ro = false)
    (e1 : B'.esz = B.esz) (e2 : B'.ro = B.ro) (e3 : B'.gen = B.gen) (e4 : B'.sgen = B.gen) (e5 : B'.cells.length = B.cells.length) (e6 : ∀ e ∈ B'.cells, e.length = B.esz) (e7 : ∀ e ∈ B'.cells, ∀ v ∈ e, v.isCell = true)
    {p : Nat} {X : List AV} {vs : List Value} (hX : RVs β X vs.toArray) (h1 : ∀ v ∈ vs, oneV v = true) (hp : p + vs.length ≤ B.cells.length * B.esz)
    (hfl : B'.cells.flatten = B.cells.flatten.take p ++ (X ++ B.cells.flatten.drop (p + X.length))) :
    ∃ w', (storeCells ⟨l.k, l.o + p, none⟩ vs).run P w = .ok () w' ∧ Rel β (h.set b (.blk B')) w' ∧ Post β β h (h.set b (.blk B')) w w' := by
  have bl := blk_esz R hl hB
  have lro : l.ro = false := bl.ro.trans hro
  obtain ⟨c, t, fr, hc, hsz, hLC, hfr⟩ := bl.room lro
  have hL := bl.Leq rfl
  have hX1 : X.length = vs.length := by simpa using hX.1
  have hLl : l.L * l.esz ≤ l.C * l.esz := Nat.mul_le_mul_right _ hLC
  rw [hL, bl.esz] at hLl
  rw [bl.esz] at hsz
  have hfull : B.cells.flatten.length = B.cells.length * B.esz := flat_length _ bl.len
  obtain ⟨w', c', g1, g2, g3, g4, g5, g6, g7, g8, g9⟩ := storeCells_run P l.k (l.o + p) vs 0 w c t fr h1 hc (by omega) (fun j q1 q2 => hfr.free (by omega))
  have room' : ∀ l0 : Loc, l0.k = l.k → l0.o = l.o → l0.ro = false → (∃ c t fr, w.heap[l0.k]? = some (.cells c t fr) ∧ l0.o + l0.C * l0.esz ≤ c.size ∧ l0.L ≤ l0.C ∧ Frz c fr) →
      ∃ c t fr, w'.heap[l0.k]? = some (.cells c t fr) ∧ l0.o + l0.C * l0.esz ≤ c.size ∧ l0.L ≤ l0.C ∧ Frz c fr := by
    rintro l0 hk ho hr ⟨c0, t0, fr0, q1, q2, q3, q4⟩
    rw [hk, hc] at q1
    cases q1
    exact ⟨c', t, fr, by rw [hk]; exact g2, by rw [g3]; exact q2, q3, q4.same g3⟩
  have up := upd0 (B' := B') R hB hl hro g6 g7 g8 (by omega) (fun k _ hk => g5 k hk) (fun g0 l0 hl0 => ?_)
  · exact ⟨w', g1, up.1, up.2⟩
  · have b0 := blk_esz R hl0 hB
    have hs := b0.sle
    refine ⟨b0.esz.trans e1.symm, b0.ro.trans e2.symm, by rw [e3]; exact b0.gle, fun hg => ?_, fun hg => by rw [e5]; exact b0.Leq (hg.trans e3), by omega, by rw [e1]; exact b0.pos, by rw [e1]; exact e6, e7, by rw [g4]; exact b0.klt, fun hg i e f v hi he hv => ?_, fun hr => ?_⟩
    · rw [e4] at hg
      have hgg : g0 = B.gen := Nat.le_antisymm b0.gle hg
      rw [e5, b0.Leq hgg]
      exact Nat.le_refl _
    · rw [e4] at hg
      have hgg : g0 = B.gen := Nat.le_antisymm b0.gle hg
      subst hgg
      rw [hl] at hl0
      cases hl0
      have hlt : f < B.esz := by
        have q := (List.getElem?_eq_some_iff.1 hv).1
        rw [e6 e (List.mem_of_getElem? he)] at q
        exact q
      have hat := flat_at bl.pos e6 he hv
      rw [bl.esz, cell_cells g2, g9]
      simp only [Nat.add_zero]
      have hjlt : i * B.esz + f < B.cells.length * B.esz := by
        have q1 : (i + 1) * B.esz ≤ B.cells.length * B.esz := Nat.mul_le_mul_right _ (by omega)
        rw [Nat.succ_mul] at q1
        omega
      rw [hfl] at hat
      have hm : (List.take p B.cells.flatten).length = p := by rw [List.length_take, hfull]; omega
      by_cases q : p ≤ i * B.esz + f ∧ i * B.esz + f < p + vs.length
      · rw [if_pos (by omega)]
        rw [List.getElem?_append_right (by rw [hm]; omega), List.getElem?_append_left (by rw [hm]; omega)] at hat
        rw [hm] at hat
        have hlt2 : i * B.esz + f - p < vs.length := by omega
        refine ⟨vs[i * B.esz + f - p], ?_, hX.2 _ _ _ hat (by simp [hlt2])⟩
        rw [show l.o + (i * B.esz + f) - (l.o + p) = i * B.esz + f - p by omega]
        exact List.getElem?_eq_getElem hlt2
      · rw [if_neg (by omega)]
        have hat2 : B.cells.flatten[i * B.esz + f]? = some v := by
          by_cases q2 : i * B.esz + f < p
          · rw [List.getElem?_append_left (by rw [hm]; omega), List.getElem?_take, if_pos q2] at hat
            exact hat
          · rw [List.getElem?_append_right (by rw [hm]; omega), hm, List.getElem?_append_right (by omega), List.getElem?_drop] at hat
            rw [← hat]
            congr 1
            omega
        rw [flat_get bl.pos _ _ bl.len] at hat2
        cases hx : B.cells[(i * B.esz + f) / B.esz]? with
        | none => rw [hx] at hat2; cases hat2
        | some e0 =>
          rw [hx] at hat2
          have hdiv : (i * B.esz + f) / B.esz = i := by rw [Nat.mul_comm, Nat.mul_add_div bl.pos, Nat.div_eq_of_lt hlt, Nat.add_zero]
          have hmod : (i * B.esz + f) % B.esz = f := by rw [Nat.mul_comm, Nat.mul_add_mod, Nat.mod_eq_of_lt hlt]
          rw [hdiv] at hx
          simp only [Option.bind_some, hmod] at hat2
          obtain ⟨cv, r1, r2⟩ := bl.cell bl.sle i e0 f v hi hx hat2
          rw [bl.esz, cell_cells hc] at r1
          exact ⟨cv, r1, r2⟩
    · by_cases hk : l0.k = l.k
      · exact room' l0 hk (R.off _ _ _ _ _ hl0 hl hk) hr (b0.room hr)
      · obtain ⟨c0, t0, fr0, q1, q2⟩ := b0.room hr
        exact ⟨c0, t0, fr0, (g5 _ hk).trans q1, q2⟩
end Go.AM
/- Stores, copies, appends: the operations. -/
namespace Go.AM
open Go Go.RowKit
set_option linter.unusedVariables false
set_option linter.unusedSimpArgs false

theorem take_add {α : Type} (A Y : List α) (f : Nat) : (A ++ Y).take (A.length + f) = A ++ Y.take f := by
  rw [List.take_append, List.take_of_length_le (by omega), Nat.add_sub_cancel_left]
theorem drop_add {α : Type} (A Y : List α) (f : Nat) : (A ++ Y).drop (A.length + f) = Y.drop f := by
  rw [List.drop_append, List.drop_eq_nil_of_le (by omega), Nat.add_sub_cancel_left, List.nil_append]
theorem put_flat {k i f : Nat} {cells : List (List AV)} {e X : List AV} (hl : ∀ e ∈ cells, e.length = k) (he : cells[i]? = some e) (hf : f + X.length ≤ e.length) :
    (cells.set i (e.take f ++ (X ++ e.drop (f + X.length)))).flatten = cells.flatten.take (i * k + f) ++ (X ++ cells.flatten.drop (i * k + f + X.length)) := by
  have hi : i < cells.length := (List.getElem?_eq_some_iff.1 he).1
  have hee : cells[i] = e := (List.getElem?_eq_some_iff.1 he).2
  have hek : e.length = k := hl e (List.mem_of_getElem? he)
  have hsplit : cells = cells.take i ++ e :: cells.drop (i + 1) := by
    rw [← hee, ← List.drop_eq_getElem_cons hi, List.take_append_drop]
  have hC : cells.flatten = (cells.take i).flatten ++ (e ++ (cells.drop (i + 1)).flatten) := by
    conv => lhs; rw [hsplit]
    simp [List.flatten_append]
  have htl : (cells.take i).flatten.length = i * k := by
    rw [flat_length _ (fun x hx => hl x (List.mem_of_mem_take hx)), List.length_take, Nat.min_eq_left (by omega)]
  rw [List.set_eq_take_append_cons_drop, if_pos hi, List.flatten_append, List.flatten_cons, hC]
  generalize (cells.take i).flatten = A at htl
  generalize (cells.drop (i + 1)).flatten = D
  rw [← htl, take_add, Nat.add_assoc, drop_add, List.take_append_of_le_length (by omega), List.drop_append_of_le_length hf]
  simp [List.append_assoc]
theorem store_out {P : Program} {o : Oper} {t : TypeId} {x y : Operand} {f : Fr} {h h' : AHeap} {i : TI} (ho : o.op = .store t x y) (ht : tinfo P t = some i) (H : fStore i.sz h (evalO f x) (evalO f y) = some h') :
    OpOut P o f h (.tup []) h' := by
  refine .skip fun β w a R F => ?_
  unfold fStore at H
  split at H
  rotate_left
  · cases H
  rename_i hv
  split at H
  rotate_left
  · cases H
  rename_i b g j q hx
  split at H
  rotate_left
  · cases H
  rename_i B hB
  split at H
  rotate_left
  · cases H
  rename_i hcond
  obtain ⟨hro, rfl⟩ := hcond
  obtain ⟨B', hput, rfl⟩ := Option.map_eq_some_iff.1 H
  have rx := eval_rv F x
  rw [hx] at rx
  obtain ⟨l, hl, hj, hc⟩ := ptr_inv rx
  have bl := blk_esz R hl hB
  have hcell : ∀ u ∈ (evalO f y).cells, u.isCell = true := fun u hu => List.all_eq_true.1 hv.2 u hu
  have ry := cells_rv (eval_rv F y) hcell
  unfold Blk.put at hput
  split at hput
  rotate_left
  · cases hput
  rename_i e he
  split at hput
  rotate_left
  · cases hput
  rename_i hfit
  cases hput
  have hek := bl.len e (List.mem_of_getElem? he)
  have hjl : j < B.cells.length := (List.getElem?_eq_some_iff.1 he).1
  have hmem : ∀ z ∈ B.cells.set j (e.take q ++ ((evalO f y).cells ++ e.drop (q + (evalO f y).cells.length))), z ∈ B.cells ∨ z = e.take q ++ ((evalO f y).cells ++ e.drop (q + (evalO f y).cells.length)) := fun z hz => List.mem_or_eq_of_mem_set hz
  have hys : (evalO f y).cells.length = (a.eval y).cells.size := ry.1
  have hrow : (j + 1) * B.esz ≤ B.cells.length * B.esz := Nat.mul_le_mul_right _ (by omega)
  rw [Nat.succ_mul] at hrow
  obtain ⟨w', k1, k2, k3⟩ := write_rel (P := P) (B' := { B with cells := B.cells.set j (e.take q ++ ((evalO f y).cells ++ e.drop (q + (evalO f y).cells.length))), sgen := B.gen }) R hB hl hro rfl rfl rfl rfl (by simp)
    (fun z hz => by
      rcases hmem z hz with h1 | rfl
      · exact bl.len z h1
      · simp only [List.length_append, List.length_take, List.length_drop]; omega)
    (fun z hz => by
      rcases hmem z hz with h1 | rfl
      · exact bl.isc z h1
      · intro v hv
        have hbe := bl.isc e (List.mem_of_getElem? he)
        rcases List.mem_append.1 hv with h1 | h1
        · exact hbe v (List.mem_of_mem_take h1)
        · rcases List.mem_append.1 h1 with h1 | h1
          · exact hcell v h1
          · exact hbe v (List.mem_of_mem_drop h1))
    (p := j * B.esz + q) (X := (evalO f y).cells) (vs := (a.eval y).cells.toList) (by simpa using ry) (RVs.one (cs := (evalO f y).cells) (by simpa using ry) hcell) (by simp only [Array.length_toList]; omega) (put_flat bl.len he hfit)
  refine ⟨w', β, ?_, k2, k3⟩
  rw [← bl.esz] at k1
  have hsz : ((a.eval y).cells.size ≠ i.sz) = False := by simp; omega
  simp only [execOp, ho, Instr.storeAt, hc, Instr.sureAddr, storeVar, Sem.run_bind, Sem.run_pure, Result.andThen, run_sizeOf ht, hsz, if_false, k1]
theorem over_flat {k i : Nat} {cells es : List (List AV)} (hl : ∀ e ∈ cells, e.length = k) (hes : ∀ e ∈ es, e.length = k) :
    (cells.take i ++ (es ++ cells.drop (i + es.length))).flatten = cells.flatten.take (i * k) ++ (es.flatten ++ cells.flatten.drop (i * k + es.flatten.length)) := by
  rw [List.flatten_append, List.flatten_append, flatten_take _ _ hl, flatten_drop _ _ hl, flat_length _ hes, Nat.add_mul]
theorem bcall_run {P : Program} {o : Oper} {c : Call} {b : Builtin} (ho : o.op = .call c) (hb : c.callee = .builtin b) (a : Act) (w : World) :
    (execOp a.eval o).run P w = (builtin b c.argTypes o.type (c.args.map fun | .const _ => true | _ => false) (c.args.map a.eval)).run P w := by
  simp [execOp, ho, resolve, hb, invoke, Sem.run_bind, Result.andThen]
  rfl
theorem args_two {c : Call} {x y : Operand} (h : c.args.toList = [x, y]) (a : Act) : c.args.map a.eval = #[a.eval x, a.eval y] := by
  apply Array.ext'
  rw [Array.toList_map, h]
  rfl
theorem ty_of {P : Program} {ts : Array TypeId} {i : Nat} {d : TypeDesc} (h : (ts[i]?).bind P.underlying = some d) : ∃ t, ts[i]? = some t ∧ P.underlying t = some d := Option.bind_eq_some_iff.1 h
theorem copy_out {P : Program} {o : Oper} {c : Call} {e : TypeId} {x y : Operand} {f : Fr} {h : AHeap} {i : TI} {p : AV × AHeap} (ho : o.op = .call c) (hb : c.callee = .builtin .copy) (ha : c.args.toList = [x, y])
    (h0 : (c.argTypes[0]?).bind P.underlying = some (.slice e)) (ht : tinfo P e = some i) (hpos : 0 < i.sz) (H : fCopy i.sz h (evalO f x) (evalO f y) = some p) : OpOut P o f h p.1 p.2 := by
  obtain ⟨t, t1, t2⟩ := ty_of h0
  refine .val fun β w a R F => ?_
  unfold fCopy at H
  split at H
  · rename_i es hes hx
    cases H
    obtain ⟨q1, q2, q3, q4⟩ := src_run (P := P) R hpos (eval_rv F y) hes
    obtain ⟨vs, r1, r2, r3, r4⟩ := q4 0 (Nat.zero_le _)
    have rx := eval_rv F x
    rw [hx] at rx
    refine ⟨.int .i64 0, w, β, ?_, .int _ _, R, Post.refl ..⟩
    rw [bcall_run ho hb, args_two ha]
    have hm : Nat.min es.length 0 = 0 := Nat.min_zero _
    simp only [builtin, Builtin.copy_, t1, List.getElem?_toArray, List.getElem?_cons_zero, List.getElem?_cons_succ, Sem.run_bind, run_underlying t2, Result.andThen, nils_inv rx, q3, hm, run_sizeOf ht, r4 w (fun _ _ => rfl), Sem.run_pure]
    rfl
  · rename_i es b g j n hes hx
    split at H
    rotate_left
    · cases H
    rename_i B hB
    split at H
    rotate_left
    · cases H
    rename_i hcond
    obtain ⟨hro, rfl, hez⟩ := hcond
    cases H
    obtain ⟨q1, q2, q3, q4⟩ := src_run (P := P) R hpos (eval_rv F y) hes
    obtain ⟨vs, r1, r2, r3, r4⟩ := q4 (min es.length n) (Nat.min_le_left _ _)
    have rx := eval_rv F x
    rw [hx] at rx
    obtain ⟨l, ad, cap, hl, c1, c2, c3, c4, c5⟩ := sl_inv rx
    have bl := blk_esz R hl hB
    have hL := bl.Leq rfl
    have htk : es.take (min es.length n) = es.take n := by
      rcases Nat.le_total es.length n with h1 | h1
      · rw [Nat.min_eq_left h1, List.take_length, List.take_of_length_le h1]
      · rw [Nat.min_eq_right h1]
    rw [htk] at r2
    have hmem : ∀ z ∈ es.take n, z ∈ es := fun z hz => List.mem_of_mem_take hz
    have hlen : (es.take n).length = min n es.length := List.length_take
    have hlk : ∀ z ∈ es.take n, z.length = B.esz := fun z hz => (q1 z (hmem z hz)).trans hez.symm
    have hcm : ∀ z ∈ (B.over j (es.take n)).cells, z ∈ B.cells ∨ z ∈ es := fun z hz => by
      simp only [Blk.over] at hz
      rcases List.mem_append.1 hz with h1 | h1
      · exact .inl (List.mem_of_mem_take h1)
      · rcases List.mem_append.1 h1 with h1 | h1
        · exact .inr (hmem z h1)
        · exact .inl (List.mem_of_mem_drop h1)
    obtain ⟨w', k1, k2, k3⟩ := write_rel (P := P) (B' := B.over j (es.take n)) R hB hl hro rfl rfl rfl rfl (by simp only [Blk.over, List.length_append, List.length_take, List.length_drop]; omega)
      (fun z hz => (hcm z hz).elim (fun h1 => bl.len z h1) (fun h1 => (q1 z h1).trans hez.symm)) (fun z hz => (hcm z hz).elim (fun h1 => bl.isc z h1) (fun h1 => q2 z h1))
      (p := j * B.esz) (X := (es.take n).flatten) (vs := vs) r2 r3 (by
        rw [r1, ← hez, ← Nat.add_mul]
        exact Nat.mul_le_mul_right _ (by omega)) (over_flat bl.len hlk)
    refine ⟨.int .i64 ((min es.length n : Nat) : Int), w', β, ?_, .int _ _, k2, k3⟩
    rw [bcall_run ho hb, args_two ha]
    have hm : Nat.min es.length n = min es.length n := rfl
    simp only [builtin, Builtin.copy_, t1, List.getElem?_toArray, List.getElem?_cons_zero, List.getElem?_cons_succ, Sem.run_bind, run_underlying t2, Result.andThen, c5, q3, hm, run_sizeOf ht, r4 w (fun _ _ => rfl), Sem.run_pure]
    rcases c4 with h1 | h1
    · have h2 : min es.length n = 0 := by omega
      rw [h2, Nat.zero_mul] at r1
      have : vs = [] := List.length_eq_zero_iff.1 r1
      subst this
      simp only [storeCells, Sem.run_pure, Result.ok.injEq, true_and] at k1
      subst k1
      rfl
    · rw [h1, bl.esz, k1]
      rfl
  · cases H
end Go.AM
