/-
  The program's machine is followed here by an interpreter of the proof's own; no statement of the seat is proved in this file.
-/
import Derived.Orders
import Derived.Laws.Append
import Derived.Laws.CopyRow
import Derived.Laws.MakeOwn
import Derived.Below
import Derived.Laws.BytesArg
import Derived.Lib.ConvBytes
import Derived.Laws.Entries
import Derived.Laws.Build
import Derived.Laws.Pointers
import Derived.Laws.Cover3
import Derived.Laws.Slices
import Derived.MapKept
import Derived.WideKeyRuns
import Derived.Laws.StructEq
import Derived.Laws.NewFold
import Derived.Conc.MuLone
namespace Go.Abs

/-- A table of things by numbers. -/
inductive T (α : Type) where
  | leaf
  | node (l : T α) (v : Option α) (r : T α)

namespace T
variable {α : Type}
def get : T α → Nat → Option α
  | .leaf, _ => none
  | .node l v r, n =>
    match n with
    | 0 => v
    | n + 1 => match n % 2 with
      | 0 => l.get (n / 2)
      | _ => r.get (n / 2)
def left : T α → T α
  | .leaf => .leaf
  | .node l _ _ => l
def here : T α → Option α
  | .leaf => none
  | .node _ v _ => v
def right : T α → T α
  | .leaf => .leaf
  | .node _ _ r => r
def setIn : Nat → T α → Nat → α → T α
  | 0, t, _, _ => t
  | k + 1, t, n, x =>
    match n with
    | 0 => .node t.left (some x) t.right
    | n + 1 => match n % 2 with
      | 0 => .node (setIn k t.left (n / 2) x) t.here t.right
      | _ => .node t.left t.here (setIn k t.right (n / 2) x)
def set (t : T α) (n : Nat) (x : α) : T α := setIn (n + 1) t n x
/-- All places of the first levels, empty. -/
def full : Nat → T α
  | 0 => .leaf
  | d + 1 => .node (full d) none (full d)
/-- All places of the first levels, filled. -/
def of : Nat → (Nat → Option α) → T α
  | 0, _ => .leaf
  | d + 1, f => .node (of d fun i => f (2 * i + 1)) (f 0) (of d fun i => f (2 * i + 2))
end T

inductive Blk where
  | cells (sz : Nat) (cs : List Value)
  | map (es : List (Value × Value))
  | iter (s : ByteArray) (pos : Nat)
  | dead
  | hole

structure Heap where
  next : Nat
  tab : T Blk

def Heap.get (h : Heap) (b : Nat) : Option Blk := h.tab.get b
/-- A number that is worked out before it is used. -/
def gNat {α : Type} (n : Nat) (k : Nat → α) : α := match n with | 0 => k 0 | m + 1 => k (m + 1)
theorem gNat_eq {α : Type} (n : Nat) (k : Nat → α) : gNat n k = k n := by cases n <;> rfl
def Heap.put (h : Heap) (b : Nat) (o : Blk) : Heap := match h with | ⟨n, t⟩ => ⟨n, t.set b o⟩
def Heap.push (h : Heap) (o : Blk) : Heap := match h with | ⟨n, t⟩ => gNat n fun n => ⟨n + 1, t.set n o⟩
theorem Heap.put_eq (h : Heap) (b : Nat) (o : Blk) : h.put b o = { next := h.next, tab := h.tab.set b o } := by cases h; rfl
theorem Heap.push_eq (h : Heap) (o : Blk) : h.push o = { next := h.next + 1, tab := h.tab.set h.next o } := by cases h; simp only [Heap.push, gNat_eq]

structure Env where
  nt : Nat
  tab : T Value
def Env.get (e : Env) (t : Nat) : Option Value := e.tab.get t
def Env.set (e : Env) (t : Nat) (v : Value) : Env := match e with | ⟨n, tab⟩ => ⟨n, tab.set t v⟩
theorem Env.set_eq (e : Env) (t : Nat) (v : Value) : e.set t v = { nt := e.nt, tab := e.tab.set t v } := by cases e; rfl

inductive Out where
  | ok (v : Value) (h : Heap)
  | panic (v : Value) (h : Heap)
  | fail

/-- Values without addresses. -/
def plainB : Nat → Value → Bool
  | _, .bool _ => true
  | _, .int _ _ => true
  | _, .string _ => true
  | _, .pointer none => true
  | _, .slice none 0 0 => true
  | _, .map none => true
  | _, .nilFunc => true
  | _, .nilIface => true
  | n + 1, .agg cs => cs.toList.all (plainB n)
  | n + 1, .tuple cs => cs.toList.all (plainB n)
  | n + 1, .func (.func _) a b => a.toList.all (plainB n) && b.toList.all (plainB n)
  | n + 1, .iface _ v => plainB n v
  | _, _ => false

def ev (P : Program) (e : Env) : Operand → Option Value
  | .tmp t => e.get t
  | .const v => if plainB 8 v then some v else none
  | .global g => if g < P.globals.size then some (.pointer (some ⟨g, 0, none⟩)) else none
  | .func f => some (.func (.func f) #[] #[])

def evs (P : Program) (e : Env) : List Operand → Option (List Value)
  | [] => some []
  | x :: xs => match ev P e x with
    | some v => match evs P e xs with
      | some vs => some (v :: vs)
      | none => none
    | none => none

def zeroOf (P : Program) (t : TypeId) : Option Value :=
  match P.info? t with
  | some i => match i.zero with
    | some z => if plainB 8 z && z.cells.size == i.size then some z else none
    | none => none
  | none => none
def sizeOf? (P : Program) (t : TypeId) : Option Nat := match P.info? t with | some i => some i.size | none => none
def isAgg? (P : Program) (t : TypeId) : Option Bool :=
  match P.underlying t with
  | some (.struct _) => some true
  | some (.array _ _) => some true
  | some _ => some false
  | none => none

def take? : List Value → Nat → Nat → Option (List Value)
  | _, _, 0 => some []
  | [], _, _ + 1 => none
  | x :: xs, 0, n + 1 => match take? xs 0 n with
    | some r => some (x :: r)
    | none => none
  | _ :: xs, o + 1, n + 1 => take? xs o (n + 1)

def put? : List Value → Nat → List Value → Option (List Value)
  | cs, _, [] => some cs
  | [], _, _ :: _ => none
  | _ :: cs, 0, v :: vs => match put? cs 0 vs with
    | some r => some (v :: r)
    | none => none
  | c :: cs, o + 1, v :: vs => match put? cs o (v :: vs) with
    | some r => some (c :: r)
    | none => none

def readCells (h : Heap) (a : Addr) (n : Nat) : Option (List Value) :=
  match a.spot with
  | some _ => if n = 0 then some [] else none
  | none => match h.get a.block with
    | some (.cells _ cs) => take? cs a.off n
    | _ => none

def oneCell : Value → Bool
  | .agg _ => false
  | .tuple _ => false
  | _ => true

def writeCells (ro : Nat) (h : Heap) (a : Addr) (vs : List Value) : Option Heap :=
  match vs with
  | [] => some h
  | _ => match a.spot with
    | some _ => none
    | none => if a.block < ro then none else if vs.all oneCell then
      match h.get a.block with
      | some (.cells sz cs) => match put? cs a.off vs with
        | some cs' => some (h.put a.block (.cells sz cs'))
        | none => none
      | _ => none
      else none

/-- The run waits here for a number that is not known. -/
def gInt (x : Int) (k : Int → Int) : Int := match x with | .ofNat a => k (.ofNat a) | .negSucc a => k (.negSucc a)
def bAnd (kd : IntKind) (x y : Int) : Int := gInt x fun x => gInt y fun y => kd.wrap (BitVec.ofInt kd.bits x &&& BitVec.ofInt kd.bits y).toNat
def bOr (kd : IntKind) (x y : Int) : Int := gInt x fun x => gInt y fun y => kd.wrap (BitVec.ofInt kd.bits x ||| BitVec.ofInt kd.bits y).toNat
def bXor (kd : IntKind) (x y : Int) : Int := gInt x fun x => gInt y fun y => kd.wrap (BitVec.ofInt kd.bits x ^^^ BitVec.ofInt kd.bits y).toNat
def bAndNot (kd : IntKind) (x y : Int) : Int := gInt x fun x => gInt y fun y => kd.wrap (BitVec.ofInt kd.bits x &&& ~~~BitVec.ofInt kd.bits y).toNat
theorem gInt_eq (x : Int) (k : Int → Int) : gInt x k = k x := by cases x <;> rfl
theorem bAnd_eq (kd : IntKind) (x y : Int) : bAnd kd x y = kd.wrap (BitVec.ofInt kd.bits x &&& BitVec.ofInt kd.bits y).toNat := by simp only [bAnd, gInt_eq]
theorem bOr_eq (kd : IntKind) (x y : Int) : bOr kd x y = kd.wrap (BitVec.ofInt kd.bits x ||| BitVec.ofInt kd.bits y).toNat := by simp only [bOr, gInt_eq]
theorem bXor_eq (kd : IntKind) (x y : Int) : bXor kd x y = kd.wrap (BitVec.ofInt kd.bits x ^^^ BitVec.ofInt kd.bits y).toNat := by simp only [bXor, gInt_eq]
theorem bAndNot_eq (kd : IntKind) (x y : Int) : bAndNot kd x y = kd.wrap (BitVec.ofInt kd.bits x &&& ~~~BitVec.ofInt kd.bits y).toNat := by simp only [bAndNot, gInt_eq]

def intOp (op : BinOp) (k : IntKind) (x y : Int) : Option Value :=
  match op with
  | .add => some (.int k (k.wrap (x + y)))
  | .sub => some (.int k (k.wrap (x - y)))
  | .mul => some (.int k (k.wrap (x * y)))
  | .quo => if y = 0 then none else some (.int k (k.wrap (x.tdiv y)))
  | .rem => if y = 0 then none else some (.int k (x.tmod y))
  | .and => some (.int k (bAnd k x y))
  | .or => some (.int k (bOr k x y))
  | .xor => some (.int k (bXor k x y))
  | .andNot => some (.int k (bAndNot k x y))
  | .eql => some (.bool (x == y))
  | .neq => some (.bool (x != y))
  | .lss => some (.bool (x < y))
  | .leq => some (.bool (x ≤ y))
  | .gtr => some (.bool (x > y))
  | .geq => some (.bool (x ≥ y))
  | _ => none

def shiftOp (op : BinOp) (k : IntKind) (x y : Int) : Option Value :=
  if y < 0 then none else
  match op with
  | .shl => some (.int k (k.wrap (x * 2 ^ (min y.toNat k.bits))))
  | .shr => some (.int k (x.fdiv (2 ^ (min y.toNat k.bits))))
  | _ => none

def strOp (op : BinOp) (x y : ByteArray) : Option Value :=
  match op with
  | .add => if ((x.size + y.size : Nat) : Int) > IntKind.i64.max then none else some (.string (x ++ y))
  | .eql => some (.bool (x.toList == y.toList))
  | .neq => some (.bool !(x.toList == y.toList))
  | _ => none

def isConstB : Operand → Bool
  | .const _ => true
  | _ => false

/-- 'x == y' where neither side is a number or a string; c: is one of them a constant of the text? -/
def eqOp (P : Program) (t : TypeId) (c : Bool) (x y : Value) : Option Bool :=
  match P.underlying t, x, y with
  | some .bool, .bool a, .bool b => some (a == b)
  | some (.interface _), .nilIface, .nilIface => if c then some true else none
  | some (.interface _), .nilIface, .iface _ _ => some false
  | some (.interface _), .iface _ _, .nilIface => some false
  | some (.pointer _), .pointer none, .pointer none => some true
  | some (.pointer _), .pointer none, .pointer (some _) => some false
  | some (.pointer _), .pointer (some _), .pointer none => some false
  | some (.slice _), .slice none 0 0, .slice none 0 0 => some true
  | some (.slice _), .slice none 0 0, .slice (some _) _ _ => some false
  | some (.slice _), .slice (some _) _ _, .slice none 0 0 => some false
  | _, _, _ => none

def binop (P : Program) (op : BinOp) (t : TypeId) (c : Bool) (a b : Value) : Option Value :=
  match a, b with
  | .int k x, .int k' y => match op with
    | .shl => shiftOp op k x y
    | .shr => shiftOp op k x y
    | _ => if k = k' then intOp op k x y else none
  | .string x, .string y => strOp op x y
  | x, y => match op with
    | .eql => match eqOp P t c x y with | some b => some (.bool b) | none => none
    | .neq => match eqOp P t c x y with | some b => some (.bool !b) | none => none
    | _ => none

def unop (op : UnOp) (x : Value) : Option Value :=
  match op, x with
  | .neg, .int k n => intOp .sub k 0 n
  | .xor, .int k n => intOp .xor k (if k.signed then -1 else k.max) n
  | .not, .bool b => some (.bool !b)
  | _, _ => none

def bytesOf (s : ByteArray) : List Value := s.data.toList.map fun b => .int .u8 b.toNat
def byteVals : List Value → Option (List UInt8)
  | [] => some []
  | .int .u8 n :: r => match byteVals r with
    | some l => some (UInt8.ofNat n.toNat :: l)
    | none => none
  | _ :: _ => none

def pushRow (h : Heap) (sz : Nat) (cs : List Value) : Heap := h.push (.cells sz cs)
def ptrTo (b : Nat) : Value := .pointer (some ⟨b, 0, none⟩)

def conv (P : Program) (ro : Nat) (src dst : TypeId) (x : Value) (h : Heap) : Out :=
  match P.underlying src, P.underlying dst, x with
  | some _, some (.int k), .int _ n => .ok (.int k (k.wrap n)) h
  | some _, some .string, .string s => .ok (.string s) h
  | some _, some (.slice e), .string s =>
    match P.underlying e with
    | some (.int .u8) => .ok (.slice (some ⟨h.next, 0, none⟩) s.size s.size) (h.push (.cells 1 (bytesOf s)))
    | _ => .fail
  | some (.slice _), some (.slice e), .slice (some a) n c =>
    match src == dst, P.underlying e with
    | true, some (.int .u8) => if a.spot.isNone && decide (ro ≤ a.block) then match h.get a.block with
      | some (.cells _ _) => .ok (.slice (some a) n c) h
      | _ => .fail
      else .fail
    | _, _ => .fail
  | some (.slice e), some .string, .slice none _ _ =>
    match P.underlying e with
    | some (.int .u8) => .ok (.string .empty) h
    | _ => .fail
  | some (.slice e), some .string, .slice (some a) n _ =>
    match P.underlying e with
    | some (.int .u8) => match readCells h a n with
      | some cs => match byteVals cs with
        | some l => .ok (.string ⟨l.toArray⟩) h
        | none => .fail
      | none => .fail
    | _ => .fail
  | _, _, _ => .fail

def fillIn (place : Nat → Option (Nat × Nat)) (cells : List Value) : List (Nat × Value) → Option (List Value)
  | [] => some cells
  | (i, v) :: rest =>
    match place i with
    | none => none
    | some (off, size) =>
      if v.cells.size = size ∧ size ≠ 0 then
        match put? cells off v.cells.toList with
        | some cs => fillIn place cs rest
        | none => none
      else none

def evParts (P : Program) (e : Env) : List (Nat × Operand) → Option (List (Nat × Value))
  | [] => some []
  | (i, x) :: xs => match ev P e x with
    | some v => match evParts P e xs with
      | some vs => some ((i, v) :: vs)
      | none => none
    | none => none

def placesOf (P : Program) : List Field → Option (List (Nat × Nat))
  | [] => some []
  | f :: fs => match sizeOf? P f.type with
    | some s => match placesOf P fs with
      | some r => some ((f.offset, s) :: r)
      | none => none
    | none => none

def rep (z : List Value) : Nat → List Value
  | 0 => []
  | n + 1 => z ++ rep z n

def partOf (P : Program) (t : TypeId) (cs : List Value) (off : Nat) : Option Value :=
  match isAgg? P t with
  | some true => match sizeOf? P t with
    | some n => match take? cs off n with
      | some r => some (.agg r.toArray)
      | none => none
    | none => none
  | some false => cs[off]?
  | none => none

def idxIn (n : Nat) : Value → Option Nat
  | .int _ i => if 0 ≤ i ∧ i < n then some i.toNat else none
  | _ => none
/-- A bound of a slice expression: at most n. -/
def bnd (d n : Nat) : Option Value → Option Nat
  | none => some d
  | some (.int _ i) => if 0 ≤ i ∧ i ≤ n then some i.toNat else none
  | _ => none
def evo (P : Program) (e : Env) : Option Operand → Option (Option Value)
  | none => some none
  | some x => match ev P e x with | some v => some (some v) | none => none

def sliceOp (P : Program) (hp : Heap) (t : TypeId) (x : Value) (lo hi : Option Value) : Option Value :=
  match P.underlying t, x with
  | some .string, .string s =>
    match bnd s.size s.size hi with
    | some h => match bnd 0 h lo with
      | some l => some (.string (s.extract l h))
      | none => none
    | none => none
  | some (.slice elem), .slice a n c =>
    match bnd n c hi with
    | some h => match bnd 0 h lo with
      | some l => match sizeOf? P elem with
        | some sz => match a with
          | none => some (.slice none 0 0)
          | some a => if a.spot.isSome then some (.slice (some a) 0 0) else
            if c = l then some (.slice (some ⟨0, 0, some 0⟩) 0 0) else match hp.get a.block with
              | some (.cells sz' _) => if sz' = sz then some (.slice (some (a.add (l * sz))) (h - l) (c - l)) else none
              | _ => none
        | none => none
      | none => none
    | none => none
  | some (.array n elem), .pointer (some a) =>
    match bnd n n hi with
    | some h => match bnd 0 h lo with
      | some l => match sizeOf? P elem with
        | some sz => if a.spot.isSome then none else match hp.get a.block with
          | some (.cells sz' cs) => if sz' = sz ∧ a.off + n * sz ≤ cs.length then
              if n = l then some (.slice (some ⟨0, 0, some 0⟩) 0 0) else some (.slice (some (a.add (l * sz))) (h - l) (n - l))
            else none
          | _ => none
        | none => none
      | none => none
    | none => none
  | _, _ => none

def bigLimit : Nat := 2 ^ 40

def appendOp (ro : Nat) (size bytes : Nat) (s : Value) (new : List Value) (n : Nat) (h : Heap) : Out :=
  match s with
  | .slice none 0 0 => if n = 0 then .ok (.slice none 0 0) h else
    if n * bytes ≤ bigLimit ∧ n ≤ bigLimit then
    .ok (.slice (some ⟨h.next, 0, none⟩) n n) (h.push (.cells size new)) else .fail
  | .slice (some a) len cap =>
    if n = 0 then .ok (.slice (some a) len cap) h else
    if a.spot.isSome then .fail else
    if len + n ≤ cap then
      match writeCells ro h (a.add (len * size)) new with
      | some h' => .ok (.slice (some a) (len + n) cap) h'
      | none => .fail
    else if a.block < ro then .fail else if (len + n) * bytes ≤ bigLimit ∧ len + n ≤ bigLimit then
      match h.get a.block with
      | some (.cells sz cs) => if sz = size ∧ a.off + len * size = cs.length ∧ new.all oneCell = true then match take? cs a.off (len * size) with
        | some old => .ok (.slice (some ⟨h.next, 0, none⟩) (len + n) (len + n)) ((h.put a.block .dead).push (.cells size (old ++ new)))
        | none => .fail
        else .fail
      | _ => .fail
      else .fail
  | _ => .fail

def isStrD : Option TypeDesc → Bool
  | some .string => true
  | _ => false

def builtinOp (P : Program) (ro : Nat) (b : Builtin) (tys : List TypeId) (args : List Value) (h : Heap) : Out :=
  match b, args with
  | .len, [.string s] => match tys with
    | t :: _ => match P.underlying t with
      | some .string => .ok (.int .i64 s.size) h
      | _ => .fail
    | _ => .fail
  | .len, [.slice _ n _] => match tys with
    | t :: _ => match P.underlying t with
      | some (.slice _) => .ok (.int .i64 n) h
      | _ => .fail
    | _ => .fail
  | .cap, [.slice none _ _] => match tys with
    | t :: _ => match P.underlying t with
      | some (.slice _) => .ok (.int .i64 0) h
      | _ => .fail
    | _ => .fail
  | .min, [.int k x, .int _ y] => .ok (.int k (if y < x then y else x)) h
  | .max, [.int k x, .int _ y] => .ok (.int k (if x < y then y else x)) h
  | .append, [s, x] =>
    match tys with
    | [st, xt] => match P.underlying st with
      | some (.slice elem) => match P.info? elem with
        | some i => match i.zero with
         | none => .fail
         | some zz => if zz.cells.size ≠ i.size then .fail else match x with
          | .slice none _ _ => match P.underlying xt with
            | some (.slice _) => appendOp ro i.size i.bytes s [] 0 h
            | _ => .fail
          | .slice (some a) n _ => match P.underlying xt with
            | some (.slice _) => match readCells h a (n * i.size) with
              | some cs => appendOp ro i.size i.bytes s cs n h
              | none => .fail
            | _ => .fail
          | .string str => if i.size = 1 ∧ isStrD (P.underlying xt) = true then appendOp ro i.size i.bytes s (bytesOf str) str.size h else .fail
          | .int _ m => match P.underlying xt with
            | some (.int _) => match zeroOf P elem with
              | some z => if 0 ≤ m ∧ m ≤ bigLimit ∧ m.toNat * i.bytes ≤ bigLimit then appendOp ro i.size i.bytes s (rep z.cells.toList m.toNat) m.toNat h else .fail
              | none => .fail
            | _ => .fail
          | _ => .fail
        | none => .fail
      | _ => .fail
    | _ => .fail
  | .clear, [.slice (some a) n _] => match tys with
    | t :: _ => match P.underlying t with
      | some (.slice elem) => match sizeOf? P elem with
        | some _ => match zeroOf P elem with
          | some z => match writeCells ro h a (rep z.cells.toList n) with
            | some h' => .ok undef h'
            | none => .fail
          | none => .fail
        | none => .fail
      | _ => .fail
    | _ => .fail
  | _, _ => .fail

def opt (h : Heap) : Option Value → Out
  | some v => .ok v h
  | none => .fail

def typeAssertOp (P : Program) (x : Value) (t : TypeId) (ok : Bool) (h : Heap) : Out :=
  match P.underlying t with
  | some (.interface _) => .fail
  | some _ => match x with
    | .nilIface => if ok then match zeroOf P t with
      | some z => .ok (.tuple #[z, .bool false]) h
      | none => .fail
      else .fail
    | .iface u v => if u = t then (if ok then .ok (.tuple #[v, .bool true]) h else .ok v h)
      else if ok then match zeroOf P t with
        | some z => .ok (.tuple #[z, .bool false]) h
        | none => .fail
        else .fail
    | _ => .fail
  | none => .fail

/-- Is the value a number? -/
def isIntV : Value → Bool
  | .int _ _ => true
  | _ => false
/-- Values that may be keys of maps here: booleans, numbers, strings, structs of numbers. -/
def isKeyB : Value → Bool
  | .bool _ => true
  | .int _ _ => true
  | .string _ => true
  | .agg cs => cs.toList.all isIntV
  | _ => false
def isKindB (q : IntKind) : Option TypeDesc → Bool
  | some (.int q') => decide (q = q')
  | _ => false
def intFields (P : Program) : List Field → Nat → List Value → Bool
  | [], _, [] => true
  | f :: fs, i, .int q _ :: cs => isKindB q (P.underlying f.type) && f.offset == i && f.name != "_" && intFields P fs (i + 1) cs
  | _, _, _ => false
def keyOk (P : Program) (kt : TypeId) (k : Value) : Bool :=
  match P.underlying kt, k with
  | some .bool, .bool _ => true
  | some (.int q), .int q' _ => decide (q = q')
  | some .string, .string _ => true
  | some (.struct fs), .agg cs => !P.stoodInHeld kt && intFields P fs.toList 0 cs.toList
  | _, _ => false
def keyEqL : List Value → List Value → Bool
  | [], [] => true
  | .int _ a :: l, .int _ b :: r => a == b && keyEqL l r
  | _, _ => false
def keyEq : Value → Value → Bool
  | .bool a, .bool b => a == b
  | .int _ a, .int _ b => a == b
  | .string a, .string b => a.toList == b.toList
  | .agg a, .agg b => keyEqL a.toList b.toList
  | _, _ => false
def findM (P : Program) (kt : TypeId) (k : Value) : List (Value × Value) → Nat → Option (Option (Nat × Value))
  | [], _ => some none
  | (k', v) :: es, i => if keyOk P kt k' then if keyEq k k' then some (some (i, v)) else findM P kt k es (i + 1) else none
def entriesOf (h : Heap) : Value → Option (List (Value × Value))
  | .map none => some []
  | .map (some r) => match h.get r with
    | some (.map es) => some es
    | _ => none
  | _ => none
def lookupOp (P : Program) (t : TypeId) (x k : Value) (ok : Bool) (h : Heap) : Out :=
  match P.underlying t with
  | some (.map kt elem) => match entriesOf h x with
    | some es => if keyOk P kt k then match findM P kt k es 0 with
      | some (some (_, v)) => .ok (if ok then .tuple #[v, .bool true] else v) h
      | some none => match zeroOf P elem with
        | some z => .ok (if ok then .tuple #[z, .bool false] else z) h
        | none => .fail
      | none => .fail
      else .fail
    | none => .fail
  | _ => .fail
def mapSetOp (P : Program) (ro : Nat) (t : TypeId) (x k v : Value) (h : Heap) : Out :=
  match P.underlying t, x with
  | some (.map kt _), .map (some r) => if r < ro then .fail else match h.get r with
    | some (.map es) => if keyOk P kt k then match findM P kt k es 0 with
      | some (some (i, _)) => .ok undef (h.put r (.map (es.set i (k, v))))
      | some none => .ok undef (h.put r (.map (es ++ [(k, v)])))
      | none => .fail
      else .fail
    | _ => .fail
  | _, _ => .fail
def nextOp (ro : Nat) (x : Value) (isString : Bool) (h : Heap) : Out :=
  match x, isString with
  | .pointer (some ⟨b, 0, none⟩), true => if b < ro then .fail else match h.get b with
    | some (.iter s p) => if p < s.size then
        .ok (.tuple #[.bool true, .int .i64 p, .int .i32 (Utf8.decode s p).1]) (h.put b (.iter s (p + (Utf8.decode s p).2)))
      else .ok (.tuple #[.bool false]) h
    | _ => .fail
  | _, _ => .fail

/-- Has the function a body? -/
def enterB (P : Program) (f : FuncId) : Bool := match P.funcs[f]? with | some fn => fn.body.isSome | none => false

def stepOp (P : Program) (call : Nat → FuncId → List Value → Heap → Out) (ro : Nat) (o : Oper) (e : Env) (h : Heap) : Out :=
  match o.op with
  | .move x => opt h (ev P e x)
  | .assign x => opt h (ev P e x)
  | .pick c a b => match ev P e c with
    | some (.bool t) => opt h (ev P e (if t then a else b))
    | _ => .fail
  | .alloc t => match zeroOf P t with
    | some z => .ok (ptrTo h.next) (h.push (.cells 1 z.cells.toList))
    | none => .fail
  | .box _ x => match ev P e x with
    | some v => .ok (ptrTo h.next) (h.push (.cells 1 v.cells.toList))
    | none => .fail
  | .build t parts => match zeroOf P t with
    | some z => match evParts P e parts.toList with
      | some ps => match P.underlying t with
        | some (.struct fs) => match placesOf P fs.toList with
          | some pl => match fillIn (pl[·]?) z.cells.toList ps with
            | some cs => .ok (.agg cs.toArray) h
            | none => .fail
          | none => .fail
        | some (.array _ elem) => match sizeOf? P elem with
          | some s => match fillIn (fun i => some (i * s, s)) z.cells.toList ps with
            | some cs => .ok (.agg cs.toArray) h
            | none => .fail
          | none => .fail
        | _ => .fail
      | none => .fail
    | none => .fail
  | .buildSlice t n parts => match P.underlying t with
    | some (.slice elem) => match sizeOf? P elem with
      | some s => match zeroOf P elem with
        | some z => match evParts P e parts.toList with
          | some ps => if n * s ≤ 2 ^ 24 then match fillIn (fun i => some (i * s, s)) (rep z.cells.toList n) ps with
            | some cs => .ok (.slice (some ⟨h.next, 0, none⟩) n n) (h.push (.cells s cs))
            | none => .fail
            else .fail
          | none => .fail
        | none => .fail
      | none => .fail
    | _ => .fail
  | .load t x => match ev P e x with
    | some (.pointer (some a)) => match isAgg? P t with
      | some true => match sizeOf? P t with
        | some n => match readCells h a n with
          | some cs => .ok (.agg cs.toArray) h
          | none => .fail
        | none => .fail
      | some false => match readCells h a 1 with
        | some [v] => .ok v h
        | _ => .fail
      | none => .fail
    | _ => .fail
  | .store t x y => match ev P e x, ev P e y with
    | some (.pointer (some a)), some v => match sizeOf? P t with
      | some n => if v.cells.size = n then match writeCells ro h a v.cells.toList with
        | some h' => .ok undef h'
        | none => .fail
        else .fail
      | none => .fail
    | _, _ => .fail
  | .nilCheck x => match ev P e x with
    | some (.pointer (some a)) => .ok (.pointer (some a)) h
    | some (.func (.func f) a b) => .ok (.func (.func f) a b) h
    | _ => .fail
  | .binOp op t x y _ => match ev P e x, ev P e y with
    | some a, some b => opt h (binop P op t (isConstB x || isConstB y) a b)
    | _, _ => .fail
  | .unOp op _ x => match ev P e x with
    | some a => opt h (unop op a)
    | none => .fail
  | .convert s d x => match ev P e x with
    | some v => conv P ro s d v h
    | none => .fail
  | .makeInterface t x => match ev P e x with
    | some v => match P.underlying t with
      | some (.interface _) => .fail
      | some _ => .ok (.iface t v) h
      | none => .fail
    | none => .fail
  | .makeFunc (.func f) first cap => match evs P e first.toList, evs P e cap.toList with
    | some a, some b => .ok (.func (.func f) a.toArray b.toArray) h
    | _, _ => .fail
  | .makeMap _ none => .ok (.map (some h.next)) (h.push (.map []))
  | .lookup t x ix ok => match ev P e x, ev P e ix with
    | some m, some k => lookupOp P t m k ok h
    | _, _ => .fail
  | .mapUpdate t x ix y => match ev P e x, ev P e ix, ev P e y with
    | some m, some k, some v => mapSetOp P ro t m k v h
    | _, _, _ => .fail
  | .range t x => match P.underlying t, ev P e x with
    | some .string, some (.string s) => .ok (ptrTo h.next) (h.push (.iter s 0))
    | _, _ => .fail
  | .next x isString => match ev P e x with
    | some v => nextOp ro v isString h
    | none => .fail
  | .makeSlice t l c => match P.underlying t with
    | some (.slice elem) => match P.info? elem with
      | some i => match zeroOf P elem with
        | some z => match ev P e l, ev P e c with
          | some (.int .i64 n), some (.int .i64 m) => if 0 ≤ n ∧ n ≤ m ∧ m ≤ bigLimit ∧ i.bytes * m.toNat ≤ bigLimit then
            .ok (.slice (some ⟨h.next, 0, none⟩) n.toNat m.toNat) (h.push (.cells i.size (rep z.cells.toList m.toNat))) else .fail
          | _, _ => .fail
        | none => .fail
      | none => .fail
    | _ => .fail
  | .slice t x lo hi mx => if mx.isSome then .fail else match ev P e x, evo P e lo, evo P e hi with
    | some v, some l, some m => opt h (sliceOp P h t v l m)
    | _, _, _ => .fail
  | .fieldAddr t x i => match P.underlying t, ev P e x with
    | some (.struct fs), some (.pointer (some a)) => match fs[i]? with
      | some f => match sizeOf? P f.type with
        | some (_ + 1) => .ok (.pointer (some (a.add f.offset))) h
        | _ => .fail
      | none => .fail
    | _, _ => .fail
  | .field t x i => match P.underlying t, ev P e x with
    | some (.struct fs), some (.agg cs) => match fs[i]? with
      | some f => opt h (partOf P f.type cs.toList f.offset)
      | none => .fail
    | _, _ => .fail
  | .indexAddr t x ix => match P.underlying t, ev P e x, ev P e ix with
    | some (.slice elem), some (.slice (some a) n _), some i => match idxIn n i with
      | some j => match sizeOf? P elem with
        | some s => .ok (.pointer (some (a.add (j * s)))) h
        | none => .fail
      | none => .fail
    | some (.array n elem), some (.pointer (some a)), some i => match idxIn n i with
      | some j => match sizeOf? P elem with
        | some s => .ok (.pointer (some (a.add (j * s)))) h
        | none => .fail
      | none => .fail
    | _, _, _ => .fail
  | .index t x ix => match P.underlying t, ev P e x, ev P e ix with
    | some (.array n elem), some (.agg cs), some i => match idxIn n i with
      | some j => match sizeOf? P elem with
        | some s => opt h (partOf P elem cs.toList (j * s))
        | none => .fail
      | none => .fail
    | some .string, some (.string s), some i => match idxIn s.size i with
      | some j => match s.data.toList[j]? with
        | some b => .ok (.int .u8 b.toNat) h
        | none => .fail
      | none => .fail
    | _, _, _ => .fail
  | .extract x i => match ev P e x with
    | some (.tuple vs) => opt h vs.toList[i]?
    | _ => .fail
  | .typeAssert x _ t ok => match ev P e x with
    | some v => typeAssertOp P v t ok h
    | none => .fail
  | .panic x => match ev P e x with
    | some (.iface t v) => .panic (.iface t v) h
    | _ => .fail
  | .call c => match evs P e c.args.toList with
    | some args => match c.callee with
      | .value f => match ev P e f with
        | some (.func (.func g) first cap) => if enterB P g then call ro g (first.toList ++ args ++ cap.toList) h else .fail
        | _ => .fail
      | .builtin b => builtinOp P ro b c.argTypes.toList args h
      | .invoke _ _ => .fail
    | none => .fail
  | _ => .fail

/-- Is the operation wanted? none: not known. -/
def wantedA (ops : Array Oper) (e : Env) (o : Oper) : Option Bool :=
  match o.guard with
  | none => some true
  | some (j, want) => match ops[j]? with
    | some g => match g.dst with
      | some d => match e.get d with
        | some (.bool b) => some (b == want)
        | some _ => some false
        | none => none
      | none => some false
    | none => some false

inductive COut where
  | normal (e : Env) (h : Heap)
  | exit (id : Nat) (e : Env) (h : Heap)
  | ret (e : Env) (h : Heap)
  | panic (v : Value) (e : Env) (h : Heap)
  | fail


/-- What an operation gives goes into its slot, if there is such a slot. -/
def putA (e : Env) (d : Option Tmp) (v : Value) : Option Env :=
  match d with
  | some t => if t < e.nt then some (e.set t v) else none
  | none => some e

def runOps (P : Program) (call : Nat → FuncId → List Value → Heap → Out) (ops : Array Oper) (ro : Nat) : List Oper → Env → Heap → COut
  | [], e, h => .normal e h
  | o :: os, e, h =>
    match wantedA ops e o with
    | some true => match stepOp P call ro o e h with
      | .ok v h' => match putA e o.dst v with
        | some e' => runOps P call ops ro os e' h'
        | none => .fail
      | .panic v h' => .panic v e h'
      | .fail => .fail
    | some false => match putA e o.dst undef with
      | some e' => runOps P call ops ro os e' h
      | none => .fail
    | none => .fail

/-- Operations that neither read nor write memory. -/
def pureB : Op → Bool
  | .move _ | .assign _ | .pick .. | .unOp .. | .makeInterface .. | .makeFunc .. | .extract .. | .nilCheck _ | .binOp .. | .fieldAddr .. | .field ..
  | .indexAddr .. | .index .. | .build .. => true
  | .call { callee := .builtin .len, .. } | .call { callee := .builtin .min, .. } | .call { callee := .builtin .max, .. } => true
  | _ => false
/-- The operand whose memory an operation reads, if reading is all that it does. -/
def readsAt (P : Program) : Op → Option Operand
  | .load _ x => some x
  | .slice _ x _ _ _ => some x
  | .lookup _ x _ _ => some x
  | .convert s d x => match P.underlying s, P.underlying d with
    | some (.slice _), some .string => some x
    | _, _ => none
  | _ => none
/-- The operand whose memory a store or an append turns. -/
def turnsAt : Op → Option Operand
  | .store _ x _ => some x
  | .call c => match c.callee with
    | .builtin .append => c.args[0]?
    | _ => none
  | _ => none
def doerB (P : Program) (o : Op) : Bool := !pureB o && (readsAt P o).isNone

def maskOf (acc : List Nat) (o : Oper) : Nat :=
  o.after.toList.foldl (fun s e => if Region.binds .any e then s ||| 2 ^ e.on ||| acc.getD e.on 0 else s) 0
def masks : List Oper → List Nat → List Nat
  | [], acc => acc
  | o :: os, acc => masks os (acc ++ [maskOf acc o])
/-- From which operation on does each follow all before it? -/
def tailFrom : List Nat → Nat → Nat → Nat
  | [], _, m => m
  | x :: xs, i, m => tailFrom xs (i + 1) (if x = 2 ^ i - 1 then m else i + 1)
def looks (ops : Array Oper) (o : Oper) : List Tmp :=
  (o.op.operands.toList.filterMap fun | .tmp t => some t | _ => none) ++
  (match o.guard with | some (g, _) => (match ops[g]? with | some x => x.dst.toList | none => []) | none => [])
/-- Is i before k for sure (i < k)? -/
def ordB (ms : List Nat) (i k : Nat) : Bool := (ms.getD k 0).testBit i
def freeB (ms : List Nat) (i k : Nat) : Bool := if i < k then !ordB ms i k else if k < i then !ordB ms k i else false

/-- Operations that only make a block. -/
def allocB : Op → Bool
  | .buildSlice .. => true
  | _ => false

/-- Two operations of the part whose order is open: their slots are kept apart; what makes or writes stands in one order. -/
def pairOk (P : Program) (ops : Array Oper) (ms : List Nat) (o : Oper) (i : Nat) (p : Oper) (k : Nat) : Bool :=
  (k == i || match p.dst with | some d => o.dst != some d | none => true) &&
  (match p.dst with
    | some d => !(looks ops o).contains d || (k < i && ordB ms k i)
    | none => true) &&
  (!(k < i) || !doerB P o.op || !doerB P p.op || (allocB o.op && allocB p.op) || ordB ms k i)
def preOk (P : Program) (ops : Array Oper) (ms : List Nat) (pre : List Oper) : Bool :=
  pre.zipIdx.all fun (o, i) => pre.zipIdx.all fun (p, k) => pairOk P ops ms o i p k
def edgesOk (ops : Array Oper) : Bool :=
  ops.toList.zipIdx.all fun (o, i) => o.after.toList.all fun e => !Region.binds .any e || e.on < i

/-- Must this operation write nothing that is there? -/
def quietB (P : Program) (ms : List Nat) (pre : List Oper) (o : Oper) (i : Nat) : Bool :=
  doerB P o.op && (turnsAt o.op).isNone && pre.zipIdx.any fun (p, k) => (readsAt P p.op).isSome && freeB ms i k

/-- The operations whose order is open, in the text's order. -/
def runPre (P : Program) (call : Nat → FuncId → List Value → Heap → Out) (ops : Array Oper) (ms : List Nat) (pre : List Oper) (ro : Nat) : List Oper → Nat → Env → Heap → COut
  | [], _, e, h => .normal e h
  | o :: os, i, e, h =>
    match wantedA ops e o with
    | some true => match stepOp P call (if quietB P ms pre o i then h.next else ro) o e h with
      | .ok v h' => match putA e o.dst v with
        | some e' => runPre P call ops ms pre ro os (i + 1) e' h'
        | none => .fail
      | _ => .fail
    | some false => match putA e o.dst undef with
      | some e' => runPre P call ops ms pre ro os (i + 1) e' h
      | none => .fail
    | none => .fail

/-- The block behind a value: none: not known; some none: no block. -/
def touch : Option Value → Option (Option Nat)
  | some (.pointer (some ⟨b, _, none⟩)) => some (some b)
  | some (.pointer (some ⟨_, _, some _⟩)) => some none
  | some (.slice (some ⟨b, _, none⟩) _ _) => some (some b)
  | some (.slice (some ⟨_, _, some _⟩) _ _) => some none
  | some (.slice none _ _) => some none
  | some (.string _) => some none
  | some (.map none) => some none
  | some (.map (some b)) => some (some b)
  | _ => none
def apartB : Option (Option Nat) → Option (Option Nat) → Bool
  | some (some a), some (some b) => a != b
  | some _, some _ => true
  | _, _ => false
/-- Behind them: what was read without an order against a store or an append lies in another block. -/
def apartOk (P : Program) (ms : List Nat) (pre : List Oper) (e : Env) : Bool :=
  pre.zipIdx.all fun (o, i) => match turnsAt o.op with
    | none => true
    | some x => pre.zipIdx.all fun (p, k) => match readsAt P p.op with
      | none => true
      | some y => !freeB ms i k || apartB (touch (ev P e x)) (touch (ev P e y))

def runRegion (P : Program) (call : Nat → FuncId → List Value → Heap → Out) (ro : Nat) (ops : Array Oper) (draw : Bool) (e : Env) (h : Heap) : COut :=
  if draw then
    let ms := masks ops.toList []
    let m := tailFrom ms 0 0
    let pre := ops.toList.take m
    if edgesOk ops && preOk P ops ms pre then
      match runPre P call ops ms pre ro pre 0 e h with
      | .normal e' h' => if apartOk P ms pre e' then runOps P call ops ro (ops.toList.drop m) e' h' else .fail
      | _ => .fail
    else .fail
  else runOps P call ops ro ops.toList e h

def envOf : List Value → Nat → Env → Env
  | [], _, e => e
  | v :: vs, i, e => envOf vs (i + 1) (e.set i v)
def envOf0 (args : List Value) (nt : Nat) : Env := envOf args 0 { nt := args.length + (nt - args.length), tab := T.full (Nat.log2 nt + 1) }

def resVals (P : Program) (e : Env) (h : Heap) : List ResultVar → Option (List Value)
  | [] => some []
  | .tmp t :: rs => match e.get t with
    | some v => match resVals P e h rs with
      | some vs => some (v :: vs)
      | none => none
    | none => none
  | .cell a t :: rs => match e.get a with
    | some (.pointer (some ad)) => match isAgg? P t with
      | some true => match sizeOf? P t with
        | some n => match readCells h ad n with
          | some cs => match resVals P e h rs with
            | some vs => some (.agg cs.toArray :: vs)
            | none => none
          | none => none
        | none => none
      | some false => match readCells h ad 1 with
        | some [v] => match resVals P e h rs with
          | some vs => some (v :: vs)
          | none => none
        | _ => none
      | none => none
    | _ => none

def resOf (P : Program) (fn : Func) (e : Env) (h : Heap) : Out :=
  match resVals P e h fn.results.toList with
  | some [v] => .ok v h
  | some vs => .ok (.tuple vs.toArray) h
  | none => .fail

abbrev Ora := Nat → FuncId → List Value → Heap → Option Out

def callWith (P : Program) (ora : Ora) (code : Nat → Code → Env → Heap → COut) (ro : Nat) (f : FuncId) (args : List Value) (h : Heap) : Out :=
  match ora ro f args h with
  | some r => r
  | none => match P.funcs[f]? with
    | none => .fail
    | some fn => match fn.body with
      | none => .fail
      | some c => match code ro c (envOf0 args fn.ntmps) h with
        | .normal e h' => resOf P fn e h'
        | .ret e h' => resOf P fn e h'
        | .panic v _ h' => .panic v h'
        | _ => .fail

def runCode (P : Program) (ora : Ora) : Nat → Nat → Code → Env → Heap → COut
  | 0, _, _, _, _ => .fail
  | n + 1, ro, c, e, h =>
    match c with
    | .skip => .normal e h
    | .region _ ops draw => runRegion P (callWith P ora (runCode P ora n)) ro ops draw e h
    | .seq a b => match runCode P ora n ro a e h with
      | .normal e' h' => runCode P ora n ro b e' h'
      | r => r
    | .cond c a b => match ev P e c with
      | some (.bool true) => runCode P ora n ro a e h
      | some (.bool false) => runCode P ora n ro b e h
      | _ => .fail
    | .block id b => match runCode P ora n ro b e h with
      | .exit j e' h' => if j = id then .normal e' h' else .exit j e' h'
      | r => r
    | .loop b => match runCode P ora n ro b e h with
      | .normal e' h' => runCode P ora n ro (.loop b) e' h'
      | r => r
    | .exit id => .exit id e h
    | .ret => .ret e h
    | .label _ => .normal e h
    | .scope b => runCode P ora n ro b e h
    | _ => .fail

def call (P : Program) (ora : Ora) (n ro : Nat) (f : FuncId) (args : List Value) (h : Heap) : Out :=
  callWith P ora (runCode P ora n) ro f args h
end Go.Abs

namespace Go.Abs
open Go.RowKit
set_option linter.unusedSimpArgs false
set_option linter.unusedVariables false

namespace T
variable {α : Type}
theorem get_even (l : T α) (v : Option α) (r : T α) (n : Nat) (h : n % 2 = 0) : (T.node l v r).get (n + 1) = l.get (n / 2) := by
  simp [T.get, h]
theorem get_odd (l : T α) (v : Option α) (r : T α) (n : Nat) (h : ¬ n % 2 = 0) : (T.node l v r).get (n + 1) = r.get (n / 2) := by
  have h1 : n % 2 = 1 := by omega
  simp [T.get, h1]
theorem get_left (t : T α) (n : Nat) (h : n % 2 = 0) : t.get (n + 1) = t.left.get (n / 2) := by
  cases t with
  | leaf => rfl
  | node l v r => exact get_even l v r n h
theorem get_right (t : T α) (n : Nat) (h : ¬ n % 2 = 0) : t.get (n + 1) = t.right.get (n / 2) := by
  cases t with
  | leaf => rfl
  | node l v r => exact get_odd l v r n h
theorem get_zero (t : T α) : t.get 0 = t.here := by cases t <;> rfl
theorem get_setIn : ∀ (k : Nat) (t : T α) (n : Nat) (x : α) (j : Nat), n < k → (setIn k t n x).get j = if j = n then some x else t.get j := by
  intro k
  induction k with
  | zero => intro t n x j h; omega
  | succ k ih =>
    intro t n x j h
    cases n with
    | zero =>
      cases j with
      | zero => simp [setIn, T.get]
      | succ j =>
        rw [if_neg (by omega)]
        simp only [setIn]
        by_cases hj : j % 2 = 0
        · rw [get_left t j hj, get_even _ _ _ _ hj]
        · rw [get_right t j hj, get_odd _ _ _ _ hj]
    | succ n =>
      by_cases hn : n % 2 = 0
      · have e : setIn (k + 1) t (n + 1) x = .node (setIn k t.left (n / 2) x) t.here t.right := by simp [setIn, hn]
        rw [e]
        cases j with
        | zero => rw [if_neg (by omega), get_zero, get_zero]; rfl
        | succ j =>
          by_cases hj : j % 2 = 0
          · rw [get_even _ _ _ _ hj, ih _ _ _ _ (by omega), get_left t j hj]
            by_cases hh : j = n
            · subst hh; simp
            · rw [if_neg (by omega), if_neg (by omega)]
          · rw [get_right t j hj, get_odd _ _ _ _ hj]
            by_cases hh : j = n
            · subst hh; exact absurd hn hj
            · rw [if_neg (by omega)]
      · have e : setIn (k + 1) t (n + 1) x = .node t.left t.here (setIn k t.right (n / 2) x) := by
          have h1 : n % 2 = 1 := by omega
          simp [setIn, h1]
        rw [e]
        cases j with
        | zero => rw [if_neg (by omega), get_zero, get_zero]; rfl
        | succ j =>
          by_cases hj : j % 2 = 0
          · rw [get_left t j hj, get_even _ _ _ _ hj]
            by_cases hh : j = n
            · subst hh; exact absurd hj hn
            · rw [if_neg (by omega)]
          · rw [get_odd _ _ _ _ hj, ih _ _ _ _ (by omega), get_right t j hj]
            by_cases hh : j = n
            · subst hh; simp
            · rw [if_neg (by omega), if_neg (by omega)]
theorem get_set (t : T α) (n : Nat) (x : α) (j : Nat) : (t.set n x).get j = if j = n then some x else t.get j := get_setIn _ _ _ _ _ (Nat.lt_succ_self n)
end T

theorem Env.get_set (e : Env) (n : Nat) (x : Value) (j : Nat) : (e.set n x).get j = if j = n then some x else e.get j := by rw [Env.set_eq]; exact T.get_set _ _ _ _
theorem Env.nt_set (e : Env) (n : Nat) (x : Value) : (e.set n x).nt = e.nt := by rw [Env.set_eq]
theorem Heap.get_put (h : Heap) (b : Nat) (o : Blk) (j : Nat) : (h.put b o).get j = if j = b then some o else h.get j := by rw [Heap.put_eq]; exact T.get_set _ _ _ _
theorem Heap.get_push (h : Heap) (o : Blk) (j : Nat) : (h.push o).get j = if j = h.next then some o else h.get j := by rw [Heap.push_eq]; exact T.get_set _ _ _ _
theorem Heap.next_put (h : Heap) (b : Nat) (o : Blk) : (h.put b o).next = h.next := by rw [Heap.put_eq]
theorem Heap.next_push (h : Heap) (o : Blk) : (h.push o).next = h.next + 1 := by rw [Heap.push_eq]

/-- Where a block of the interpreter lies: the block, from which cell on, the cells of an element, the cells of the block. -/
structure Loc where
  blk : Nat
  off : Nat
  sz : Nat
  tot : Nat

abbrev Mu := Nat → Option Loc

mutual
inductive VR (μ : Mu) : Value → Value → Prop
  | bool (b : Bool) : VR μ (.bool b) (.bool b)
  | int (k : IntKind) (n : Int) : VR μ (.int k n) (.int k n)
  | string (s : ByteArray) : VR μ (.string s) (.string s)
  | nilp : VR μ (.pointer none) (.pointer none)
  | ptr (b o : Nat) (l : Loc) (h : μ b = some l) : VR μ (.pointer (some ⟨b, o, none⟩)) (.pointer (some ⟨l.blk, l.off + o, none⟩))
  | nils : VR μ (.slice none 0 0) (.slice none 0 0)
  | slice (b o n c c' : Nat) (l : Loc) (h : μ b = some l) (hn : n ≤ c) (hc : c ≤ c') (ht : l.off + o + c' * l.sz ≤ l.tot) : VR μ (.slice (some ⟨b, o, none⟩) n c) (.slice (some ⟨l.blk, l.off + o, none⟩) n c')
  | empty (a' : Addr) (c' : Nat) : VR μ (.slice (some ⟨0, 0, some 0⟩) 0 0) (.slice (some a') 0 c')
  | nilm : VR μ (.map none) (.map none)
  | map (b : Nat) (l : Loc) (h : μ b = some l) : VR μ (.map (some b)) (.map (some l.blk))
  | func (f : FuncId) (a a' c c' : Array Value) (ha : VRs μ a.toList a'.toList) (hc : VRs μ c.toList c'.toList) : VR μ (.func (.func f) a c) (.func (.func f) a' c')
  | nilFunc : VR μ .nilFunc .nilFunc
  | nilIface : VR μ .nilIface .nilIface
  | iface (t : TypeId) (v v' : Value) (h : VR μ v v') : VR μ (.iface t v) (.iface t v')
  | agg (a a' : Array Value) (h : VRs μ a.toList a'.toList) : VR μ (.agg a) (.agg a')
  | tuple (a a' : Array Value) (h : VRs μ a.toList a'.toList) : VR μ (.tuple a) (.tuple a')
inductive VRs (μ : Mu) : List Value → List Value → Prop
  | nil : VRs μ [] []
  | cons (v v' : Value) (l l' : List Value) (h : VR μ v v') (hs : VRs μ l l') : VRs μ (v :: l) (v' :: l')
end

def Ext (μ μ' : Mu) : Prop := ∀ b l, μ b = some l → μ' b = some l
theorem Ext.refl (μ : Mu) : Ext μ μ := fun _ _ h => h
theorem Ext.trans {a b c : Mu} (h : Ext a b) (k : Ext b c) : Ext a c := fun x l hx => k x l (h x l hx)

mutual
theorem VR.mono {μ μ' : Mu} (h : Ext μ μ') : ∀ {v v' : Value}, VR μ v v' → VR μ' v v'
  | _, _, .bool b => .bool b
  | _, _, .int k n => .int k n
  | _, _, .string s => .string s
  | _, _, .nilp => .nilp
  | _, _, .ptr b o l hb => .ptr b o l (h _ _ hb)
  | _, _, .nils => .nils
  | _, _, .slice b o n c c' l hb hn hc ht => .slice b o n c c' l (h _ _ hb) hn hc ht
  | _, _, .empty a' c' => .empty a' c'
  | _, _, .nilm => .nilm
  | _, _, .map b l hb => .map b l (h _ _ hb)
  | _, _, .func f a a' c c' ha hc => .func f a a' c c' (ha.mono h) (hc.mono h)
  | _, _, .nilFunc => .nilFunc
  | _, _, .nilIface => .nilIface
  | _, _, .iface t v v' hv => .iface t v v' (hv.mono h)
  | _, _, .agg a a' ha => .agg a a' (ha.mono h)
  | _, _, .tuple a a' ha => .tuple a a' (ha.mono h)
theorem VRs.mono {μ μ' : Mu} (h : Ext μ μ') : ∀ {v v' : List Value}, VRs μ v v' → VRs μ' v v'
  | _, _, .nil => .nil
  | _, _, .cons v v' l l' hv hl => .cons v v' l l' (hv.mono h) (hl.mono h)
end

theorem VRs.length {μ : Mu} {l l' : List Value} (h : VRs μ l l') : l'.length = l.length := by
  induction l generalizing l' with
  | nil => cases h; rfl
  | cons v l ih => cases h with | cons _ v' _ l' hv hl => simp [ih hl]
theorem VRs.get {μ : Mu} {l l' : List Value} (h : VRs μ l l') {i : Nat} {v : Value} (hi : l[i]? = some v) : ∃ v', l'[i]? = some v' ∧ VR μ v v' := by
  induction l generalizing l' i with
  | nil => simp at hi
  | cons x l ih =>
    cases h with
    | cons _ x' _ l' hx hl =>
      cases i with
      | zero => simp at hi; subst hi; exact ⟨x', by simp, hx⟩
      | succ i => simp at hi; obtain ⟨v', h1, h2⟩ := ih hl hi; exact ⟨v', by simpa using h1, h2⟩
theorem VRs.of_get {μ : Mu} : ∀ {l l' : List Value}, l'.length = l.length → (∀ (i : Nat) (v : Value), l[i]? = some v → ∃ v', l'[i]? = some v' ∧ VR μ v v') → VRs μ l l'
  | [], [], _, _ => .nil
  | [], _ :: _, h, _ => by simp at h
  | _ :: _, [], h, _ => by simp at h
  | v :: l, v' :: l', h, k => by
    obtain ⟨u, hu, hv⟩ := k 0 v rfl
    simp at hu; subst hu
    exact .cons _ _ _ _ hv (VRs.of_get (by simpa using h) (fun i x hx => by simpa using k (i + 1) x (by simpa using hx)))
theorem VRs.append {μ : Mu} {a a' b b' : List Value} (h : VRs μ a a') (k : VRs μ b b') : VRs μ (a ++ b) (a' ++ b') := by
  induction a generalizing a' with
  | nil => cases h; exact k
  | cons v l ih => cases h with | cons _ v' _ l' hv hl => exact .cons _ _ _ _ hv (ih hl)

theorem VRs.plain_of {μ : Mu} : ∀ {l : List Value}, (∀ v ∈ l, VR μ v v) → VRs μ l l
  | [], _ => .nil
  | v :: l, h => .cons _ _ _ _ (h v (by simp)) (VRs.plain_of fun x hx => h x (by simp [hx]))

theorem VR.plain {μ : Mu} : ∀ (n : Nat) (v : Value), plainB n v = true → VR μ v v := by
  intro n
  induction n with
  | zero =>
    intro v h
    cases v with
    | bool b => exact .bool b
    | int k n => exact .int k n
    | string s => exact .string s
    | pointer a => cases a with
      | none => exact .nilp
      | some a => simp [plainB] at h
    | slice a n c => cases a with
      | none => cases n with
        | zero => cases c with
          | zero => exact .nils
          | succ c => simp [plainB] at h
        | succ n => simp [plainB] at h
      | some a => simp [plainB] at h
    | map r => cases r with
      | none => exact .nilm
      | some r => simp [plainB] at h
    | nilFunc => exact .nilFunc
    | nilIface => exact .nilIface
    | _ => simp [plainB] at h
  | succ n ih =>
    intro v h
    cases v with
    | bool b => exact .bool b
    | int k n => exact .int k n
    | string s => exact .string s
    | pointer a => cases a with
      | none => exact .nilp
      | some a => simp [plainB] at h
    | slice a n c => cases a with
      | none => cases n with
        | zero => cases c with
          | zero => exact .nils
          | succ c => simp [plainB] at h
        | succ n => simp [plainB] at h
      | some a => simp [plainB] at h
    | map r => cases r with
      | none => exact .nilm
      | some r => simp [plainB] at h
    | nilFunc => exact .nilFunc
    | nilIface => exact .nilIface
    | agg cs =>
      simp only [plainB, List.all_eq_true] at h
      exact .agg _ _ (VRs.plain_of fun v hv => ih v (h v hv))
    | tuple cs =>
      simp only [plainB, List.all_eq_true] at h
      exact .tuple _ _ (VRs.plain_of fun v hv => ih v (h v hv))
    | iface t v =>
      simp only [plainB] at h
      exact .iface _ _ _ (ih v h)
    | func f a c =>
      cases f with
      | func f =>
        simp only [plainB, Bool.and_eq_true, List.all_eq_true] at h
        exact .func _ _ _ _ _ (VRs.plain_of fun v hv => ih v (h.1 v hv)) (VRs.plain_of fun v hv => ih v (h.2 v hv))
      | _ => simp [plainB] at h
    | _ => simp [plainB] at h

theorem VR.undef (μ : Mu) : VR μ undef undef := .tuple _ _ .nil

/-- The cells of a value: related one by one. -/
theorem VR.cells {μ : Mu} {v v' : Value} (h : VR μ v v') : VRs μ v.cells.toList v'.cells.toList := by
  cases h with
  | agg a a' h => exact h
  | _ => exact .cons _ _ _ _ (by constructor <;> assumption) .nil
theorem VR.size {μ : Mu} {v v' : Value} (h : VR μ v v') : v'.cells.size = v.cells.size := by
  have := h.cells.length
  simpa using this
theorem VR.oneCell {μ : Mu} {v v' : Value} (h : VR μ v v') : oneCell v' = oneCell v := by cases h <;> rfl

/-- A block of the interpreter and what stands in its place. -/
def BR (μ : Mu) (own : Prop) (l : Loc) : Blk → Obj → Prop
  | .cells sz cs, .cells cc _ fr => l.sz = sz ∧ cc.size = l.tot ∧ l.off + cs.length ≤ l.tot ∧ (∀ (i : Nat) (v : Value), cs[i]? = some v → ∃ v', cc[l.off + i]? = some v' ∧ VR μ v v') ∧ (own → fr.1 = fr.2 ∨ l.tot ≤ fr.1)
  | .map es, .map es' _ => es.length = es'.size ∧ ∀ (i : Nat) (k v : Value), es[i]? = some (k, v) → ∃ e' : MapEntry, es'[i]? = some e' ∧ VR μ k e'.key ∧ VR μ v e'.val
  | .iter s p, .stringIter s' p' => s = s' ∧ p = p' ∧ l.off = 0
  | _, _ => False

theorem BR.mono {μ μ' : Mu} {own : Prop} {l : Loc} {b : Blk} {o : Obj} (h : BR μ own l b o) (hx : Ext μ μ') : BR μ' own l b o := by
  cases b <;> cases o <;> simp only [BR] at h ⊢ <;> try exact h
  · obtain ⟨h1, h2, h3, h4, h5⟩ := h
    refine ⟨h1, h2, h3, fun i v hv => ?_, h5⟩
    obtain ⟨v', a, b⟩ := h4 i v hv
    exact ⟨v', a, b.mono hx⟩
  · obtain ⟨h1, h2⟩ := h
    refine ⟨h1, fun i k v hv => ?_⟩
    obtain ⟨e', a, b, c⟩ := h2 i k v hv
    exact ⟨e', a, b.mono hx, c.mono hx⟩

def live (h : Heap) (b : Nat) : Prop := ∃ o, h.get b = some o ∧ o ≠ .dead

/-- Memory: P's variables lie at their own numbers; from ro0 on blocks are the run's own and stand from B0 on; below B0 the world is as w0 was. -/
structure HR (P : Program) (ro0 B0 : Nat) (w0 : World) (μ : Mu) (h : Heap) (w : World) : Prop where
  dom : ∀ b l, μ b = some l → b < h.next
  undom : ∀ b, h.next ≤ b → h.get b = none
  ro : ro0 ≤ h.next
  glob : ∀ g, g < P.globals.size → ∃ l, μ g = some l ∧ l.blk = g ∧ l.off = 0
  blk : ∀ b l o, μ b = some l → h.get b = some o → o ≠ .dead → ∃ obj, w.heap[l.blk]? = some obj ∧ BR μ (ro0 ≤ b) l o obj
  low : ∀ b l, μ b = some l → b < ro0 → l.blk < B0
  high : ∀ b l, μ b = some l → ro0 ≤ b → B0 ≤ l.blk
  inj : ∀ b b' l l', μ b = some l → μ b' = some l' → ro0 ≤ b → live h b → live h b' → l'.blk = l.blk → b' = b
  below : Below B0 w0 w
  base : B0 ≤ w0.heap.size
  gl : P.globals.size ≤ B0

end Go.Abs

namespace Go.Abs
open Go.RowKit
set_option linter.unusedSimpArgs false
set_option linter.unusedVariables false
variable {P : Program} {ro0 B0 : Nat} {w0 : World} {μ : Mu} {h : Heap} {w : World}

/-! ### The world's steps -/

theorem HR.same (hr : HR P ro0 B0 w0 μ h w) {w' : World} (hh : w'.heap = w.heap) (ho : w'.os = w.os) (ht : w'.tape = w.tape) (hp : w'.output = w.output) : HR P ro0 B0 w0 μ h w' :=
  { hr with
    blk := fun b l o hm hg hd => by rw [hh]; exact hr.blk b l o hm hg hd
    below := ⟨ho.trans hr.below.os, ht.trans hr.below.tape, hp.trans hr.below.output, by rw [hh]; exact hr.below.size, fun k hk => by rw [hh]; exact hr.below.block k hk⟩ }

theorem HR.drew (hr : HR P ro0 B0 w0 μ h w) : HR P ro0 B0 w0 μ h w.drew := hr.same rfl rfl rfl rfl

def upd (μ : Mu) (n : Nat) (l : Loc) : Mu := fun b => if b = n then some l else μ b

theorem Ext.upd {μ : Mu} {n : Nat} {l : Loc} (hn : μ n = none) : Ext μ (upd μ n l) := by
  intro b k hb
  unfold Go.Abs.upd
  split
  · subst_vars; rw [hn] at hb; cases hb
  · exact hb

theorem HR.fresh (hr : HR P ro0 B0 w0 μ h w) : μ h.next = none := by
  cases hm : μ h.next with
  | none => rfl
  | some l => exact absurd (hr.dom _ _ hm) (Nat.lt_irrefl _)

theorem HR.ext (hr : HR P ro0 B0 w0 μ h w) (l : Loc) : Ext μ (upd μ h.next l) := Ext.upd hr.fresh

theorem below_obj {B : Nat} {a w : World} (h : Below B a w) {k : Nat} (hk : B ≤ k) (o : Obj) : Below B a { w with heap := w.heap.setIfInBounds k o } :=
  h.trans ⟨rfl, rfl, rfl, by simp, fun i hi => by simp only [Array.getElem?_setIfInBounds]; rw [if_neg (by omega)]⟩

theorem HR.push (hr : HR P ro0 B0 w0 μ h w) {l : Loc} {o : Blk} {obj : Obj} (hl : l.blk = w.heap.size) (hb : BR (upd μ h.next l) (ro0 ≤ h.next) l o obj) :
    HR P ro0 B0 w0 (upd μ h.next l) (h.push o) (w.alloc obj) := by
  have hx := hr.ext l
  have hsz : ∀ b k o', μ b = some k → h.get b = some o' → o' ≠ .dead → k.blk < w.heap.size := fun b k o' hm hg hd => by
    obtain ⟨ob, h1, _⟩ := hr.blk b k o' hm hg hd
    exact (Array.getElem?_eq_some_iff.1 h1).1
  refine { dom := ?_, undom := ?_, ro := ?_, glob := ?_, blk := ?_, low := ?_, high := ?_, inj := ?_, below := ?_, base := hr.base, gl := hr.gl }
  · intro b k hm
    rw [Heap.next_push]
    unfold upd at hm
    split at hm
    · omega
    · have := hr.dom b k hm; omega
  · intro b hb'
    rw [Heap.next_push] at hb'
    rw [Heap.get_push, if_neg (by omega)]
    exact hr.undom b (by omega)
  · rw [Heap.next_push]; have := hr.ro; omega
  · intro g hg
    obtain ⟨k, h1, h2, h3⟩ := hr.glob g hg
    exact ⟨k, hx _ _ h1, h2, h3⟩
  · intro b k o' hm hg hd
    rw [Heap.get_push] at hg
    unfold upd at hm
    split at hm
    · rename_i e
      subst e
      rw [if_pos rfl] at hg
      cases hg; cases hm
      refine ⟨obj, ?_, hb⟩
      rw [hl]
      show (w.heap.push obj)[w.heap.size]? = some obj
      simp
    · rename_i e
      rw [if_neg e] at hg
      obtain ⟨ob, h1, h2⟩ := hr.blk b k o' hm hg hd
      refine ⟨ob, ?_, h2.mono hx⟩
      rw [← h1]
      exact Below.heap_alloc w obj k.blk (hsz b k o' hm hg hd)
  · intro b k hm hb'
    unfold upd at hm
    split at hm
    · have := hr.ro; omega
    · exact hr.low b k hm hb'
  · intro b k hm hb'
    unfold upd at hm
    split at hm
    · cases hm; rw [hl]; exact Nat.le_trans hr.base hr.below.size
    · exact hr.high b k hm hb'
  · intro b b' k k' hm hm' hb' hlb hlb' he
    unfold upd at hm hm'
    have old : ∀ c, c ≠ h.next → live (h.push o) c → live h c := fun c hc ⟨x, hx1, hx2⟩ => by
      rw [Heap.get_push, if_neg hc] at hx1
      exact ⟨x, hx1, hx2⟩
    split at hm <;> split at hm'
    · omega
    · rename_i e e'
      cases hm
      obtain ⟨x, hx1, hx2⟩ := old b' e' hlb'
      have := hsz b' k' x hm' hx1 hx2
      omega
    · rename_i e e'
      cases hm'
      obtain ⟨x, hx1, hx2⟩ := old b e hlb
      have := hsz b k x hm hx1 hx2
      omega
    · rename_i e e'
      exact hr.inj b b' k k' hm hm' hb' (old b e hlb) (old b' e' hlb') he
  · exact hr.below.alloc (Nat.le_trans hr.base hr.below.size) obj

theorem live_put {h : Heap} {b : Nat} {o : Blk} (hb : live h b) : ∀ c, live (h.put b o) c → live h c := fun c ⟨x, hx1, hx2⟩ => by
  rw [Heap.get_put] at hx1
  split at hx1
  · rename_i e; subst e; exact hb
  · exact ⟨x, hx1, hx2⟩

theorem HR.put (hr : HR P ro0 B0 w0 μ h w) {b : Nat} {l : Loc} {o : Blk} {obj : Obj} (hm : μ b = some l) (hro : ro0 ≤ b) (hlv : live h b) (hb : BR μ (ro0 ≤ b) l o obj) :
    HR P ro0 B0 w0 μ (h.put b o) { w with heap := w.heap.setIfInBounds l.blk obj } := by
  refine { dom := ?_, undom := ?_, ro := hr.ro, glob := hr.glob, blk := ?_, low := hr.low, high := hr.high, inj := ?_, below := ?_, base := hr.base, gl := hr.gl }
  · intro c k hc; exact hr.dom c k hc
  · intro c hc
    rw [Heap.next_put] at hc
    have := hr.dom b l hm
    rw [Heap.get_put, if_neg (by omega)]
    exact hr.undom c hc
  · intro c k o' hc hg hd
    rw [Heap.get_put] at hg
    by_cases e : c = b
    · subst e
      rw [if_pos rfl] at hg
      rw [hm] at hc
      cases hc; cases hg
      refine ⟨obj, ?_, hb⟩
      obtain ⟨x, hx1, hx2⟩ := hlv
      obtain ⟨ob, h1, _⟩ := hr.blk c l x hm hx1 hx2
      have := (Array.getElem?_eq_some_iff.1 h1).1
      simp [Array.getElem?_setIfInBounds, this]
    · rw [if_neg e] at hg
      obtain ⟨ob, h1, h2⟩ := hr.blk c k o' hc hg hd
      refine ⟨ob, ?_, h2⟩
      rw [← h1]
      simp only [Array.getElem?_setIfInBounds]
      rw [if_neg]
      intro he
      exact e (hr.inj b c l k hm hc hro hlv ⟨o', hg, hd⟩ he.symm)
  · intro c c' k k' hc hc' h1 h2 h3 h4
    exact hr.inj c c' k k' hc hc' h1 (live_put hlv c h2) (live_put hlv c' h3) h4
  · exact below_obj hr.below (hr.high b l hm hro) obj

theorem HR.kill (hr : HR P ro0 B0 w0 μ h w) {b : Nat} (hlv : live h b) : HR P ro0 B0 w0 μ (h.put b .dead) w := by
  have hbn : b < h.next := by
    rcases Nat.lt_or_ge b h.next with hh | hh
    · exact hh
    · obtain ⟨x, hx1, _⟩ := hlv
      rw [hr.undom b hh] at hx1; cases hx1
  refine { hr with dom := hr.dom, undom := ?_, ro := hr.ro, blk := ?_, inj := ?_ }
  · intro c hc
    rw [Heap.next_put] at hc
    rw [Heap.get_put, if_neg (by omega)]
    exact hr.undom c hc
  · intro c k o' hc hg hd
    rw [Heap.get_put] at hg
    split at hg
    · cases hg; exact absurd rfl hd
    · exact hr.blk c k o' hc hg hd
  · intro c c' k k' hc hc' h1 h2 h3 h4
    exact hr.inj c c' k k' hc hc' h1 (live_put hlv c h2) (live_put hlv c' h3) h4

/-- A block is given up, and a new one lies where it lay. -/
theorem HR.rebind (hr : HR P ro0 B0 w0 μ h w) {b : Nat} {l l' : Loc} {o : Blk} {obj : Obj} (hm : μ b = some l) (hro : ro0 ≤ b) (hlv : live h b) (hl : l'.blk = l.blk)
    (hb : BR (upd μ h.next l') (ro0 ≤ h.next) l' o obj) :
    HR P ro0 B0 w0 (upd μ h.next l') ((h.put b .dead).push o) { w with heap := w.heap.setIfInBounds l.blk obj } := by
  have hx := hr.ext l'
  have hbn : b < h.next := hr.dom b l hm
  have oldlive : ∀ c, c ≠ h.next → live ((h.put b .dead).push o) c → live h c ∧ c ≠ b := fun c hc ⟨x, hx1, hx2⟩ => by
    rw [Heap.get_push, Heap.next_put, if_neg hc, Heap.get_put] at hx1
    split at hx1
    · cases hx1; exact absurd rfl hx2
    · rename_i e; exact ⟨⟨x, hx1, hx2⟩, e⟩
  refine { dom := ?_, undom := ?_, ro := ?_, glob := ?_, blk := ?_, low := ?_, high := ?_, inj := ?_, below := ?_, base := hr.base, gl := hr.gl }
  · intro c k hc
    rw [Heap.next_push, Heap.next_put]
    unfold upd at hc
    split at hc
    · omega
    · have := hr.dom c k hc; omega
  · intro c hc
    rw [Heap.next_push, Heap.next_put] at hc
    rw [Heap.get_push, Heap.next_put, if_neg (by omega), Heap.get_put, if_neg (by omega)]
    exact hr.undom c (by omega)
  · rw [Heap.next_push, Heap.next_put]; have := hr.ro; omega
  · intro g hg
    obtain ⟨k, h1, h2, h3⟩ := hr.glob g hg
    exact ⟨k, hx _ _ h1, h2, h3⟩
  · intro c k o' hc hg hd
    unfold upd at hc
    split at hc
    · rename_i e
      subst e
      cases hc
      rw [Heap.get_push, Heap.next_put, if_pos rfl] at hg
      cases hg
      refine ⟨obj, ?_, hb⟩
      obtain ⟨x, hx1, hx2⟩ := hlv
      obtain ⟨ob, h1, _⟩ := hr.blk b l x hm hx1 hx2
      have := (Array.getElem?_eq_some_iff.1 h1).1
      rw [hl]
      simp [Array.getElem?_setIfInBounds, this]
    · rename_i e
      obtain ⟨hl1, hne⟩ := oldlive c e ⟨o', hg, hd⟩
      rw [Heap.get_push, Heap.next_put, if_neg e, Heap.get_put, if_neg hne] at hg
      obtain ⟨ob, h1, h2⟩ := hr.blk c k o' hc hg hd
      refine ⟨ob, ?_, h2.mono hx⟩
      rw [← h1]
      simp only [Array.getElem?_setIfInBounds]
      rw [if_neg]
      intro he
      exact hne (hr.inj b c l k hm hc hro hlv hl1 he.symm)
  · intro c k hc hb'
    unfold upd at hc
    split at hc
    · have := hr.ro; omega
    · exact hr.low c k hc hb'
  · intro c k hc hb'
    unfold upd at hc
    split at hc
    · cases hc; rw [hl]; exact hr.high b l hm hro
    · exact hr.high c k hc hb'
  · intro c c' k k' hc hc' h1 h2 h3 h4
    unfold upd at hc hc'
    split at hc <;> split at hc'
    · omega
    · rename_i e e'
      cases hc
      obtain ⟨hl1, hne⟩ := oldlive c' e' h3
      exact absurd (hr.inj b c' l k' hm hc' hro hlv hl1 (by rw [h4, hl])) hne
    · rename_i e e'
      cases hc'
      obtain ⟨hl1, hne⟩ := oldlive c e h2
      exact absurd (hr.inj c b k l hc hm h1 hl1 hlv (by rw [← hl, h4])) (fun hh => hne hh.symm)
    · rename_i e e'
      exact hr.inj c c' k k' hc hc' h1 (oldlive c e h2).1 (oldlive c' e' h3).1 h4
  · exact below_obj hr.below (hr.high b l hm hro) obj

/-! ### Lists of cells -/

theorem take?_spec : ∀ {cs : List Value} {o n : Nat} {r : List Value}, take? cs o n = some r → r.length = n ∧ ∀ j, j < n → cs[o + j]? = r[j]? := by
  intro cs
  induction cs with
  | nil =>
    intro o n r hr
    cases n with
    | zero => simp [take?] at hr; subst hr; simp
    | succ n => simp [take?] at hr
  | cons x xs ih =>
    intro o n r hr
    cases n with
    | zero => simp [take?] at hr; subst hr; simp
    | succ n =>
      cases o with
      | zero =>
        simp only [take?] at hr
        split at hr
        · rename_i r' hr'
          cases hr
          obtain ⟨h1, h2⟩ := ih hr'
          refine ⟨by simp [h1], fun j hj => ?_⟩
          cases j with
          | zero => simp
          | succ j => have := h2 j (by omega); simpa using this
        · cases hr
      | succ o =>
        simp only [take?] at hr
        obtain ⟨h1, h2⟩ := ih hr
        refine ⟨h1, fun j hj => ?_⟩
        have := h2 j hj
        rw [← this, show o + 1 + j = (o + j) + 1 by omega]
        simp

theorem put?_spec : ∀ {cs : List Value} {o : Nat} {vs r : List Value}, put? cs o vs = some r → r.length = cs.length ∧ (vs = [] ∨ o + vs.length ≤ cs.length) ∧ ∀ j, r[j]? = if o ≤ j ∧ j < o + vs.length then vs[j - o]? else cs[j]? := by
  intro cs
  induction cs with
  | nil =>
    intro o vs r hr
    cases vs with
    | nil => simp [put?] at hr; subst hr; simp
    | cons v vs => simp [put?] at hr
  | cons c cs ih =>
    intro o vs r hr
    cases vs with
    | nil =>
      simp [put?] at hr; subst hr
      refine ⟨rfl, .inl rfl, fun j => ?_⟩
      rw [if_neg (by simp)]
    | cons v vs =>
      cases o with
      | zero =>
        simp only [put?] at hr
        split at hr
        · rename_i r' hr'
          cases hr
          obtain ⟨h1, h2, h3⟩ := ih hr'
          refine ⟨by simp [h1], .inr (by rcases h2 with h2 | h2 <;> simp_all), fun j => ?_⟩
          cases j with
          | zero => simp
          | succ j =>
            have := h3 j
            simp only [List.getElem?_cons_succ, this, Nat.zero_le, true_and, Nat.zero_add, Nat.sub_zero, List.length_cons]
            by_cases hj : j < vs.length
            · rw [if_pos hj, if_pos (by omega)]
            · rw [if_neg hj, if_neg (by omega)]
        · cases hr
      | succ o =>
        simp only [put?] at hr
        split at hr
        · rename_i r' hr'
          cases hr
          obtain ⟨h1, h2, h3⟩ := ih hr'
          refine ⟨by simp [h1], .inr (by rcases h2 with h2 | h2 <;> simp_all; omega), fun j => ?_⟩
          cases j with
          | zero => simp
          | succ j =>
            have := h3 j
            simp only [List.getElem?_cons_succ, this, List.length_cons]
            by_cases hj : o ≤ j ∧ j < o + (vs.length + 1)
            · rw [if_pos hj, if_pos (by omega)]
              have e : j + 1 - (o + 1) = j - o := by omega
              rw [e]
            · rw [if_neg hj, if_neg (by omega)]
        · cases hr

theorem addr_add (b o j : Nat) : (⟨b, o, none⟩ : Addr).add j = ⟨b, o + j, none⟩ := by unfold Addr.add; split <;> simp_all

/-- What a reading of the interpreter's cells is in the world. -/
theorem HR.read (hr : HR P ro0 B0 w0 μ h w) {b o n : Nat} {l : Loc} {cs : List Value} (hm : μ b = some l) (hc : readCells h ⟨b, o, none⟩ n = some cs) :
    ∃ cs', VRs μ cs cs' ∧ cs.length = n ∧ ∀ j v, cs'[j]? = some v → w.cell? ((⟨l.blk, l.off + o, none⟩ : Addr).add j) = some v := by
  simp only [readCells] at hc
  split at hc
  · rename_i sz ds hg
    obtain ⟨h1, h2⟩ := take?_spec hc
    obtain ⟨obj, h3, h4⟩ := hr.blk b l _ hm hg (by simp)
    cases obj with
    | cells cc t fr =>
      simp only [BR] at h4
      obtain ⟨_, k2, k3, k4, _⟩ := h4
      have hex : ∀ j v, cs[j]? = some v → ∃ v', cc[l.off + o + j]? = some v' ∧ VR μ v v' := fun j v hv => by
        have hj : j < n := by rw [← h1]; exact (List.getElem?_eq_some_iff.1 hv).1
        rw [← h2 j hj] at hv
        obtain ⟨v', a1, a2⟩ := k4 _ v hv
        exact ⟨v', by rw [← Nat.add_assoc] at a1; exact a1, a2⟩
      refine ⟨(cc.toList.drop (l.off + o)).take n, VRs.of_get ?_ ?_, h1, ?_⟩
      · have : n = 0 ∨ l.off + o + n ≤ cc.size := by
          rcases Nat.eq_zero_or_pos n with hn | hn
          · exact .inl hn
          · right
            have hj : n - 1 < cs.length := by omega
            obtain ⟨v', a1, _⟩ := hex (n - 1) cs[n - 1] (by simp [hj])
            have := (Array.getElem?_eq_some_iff.1 a1).1
            omega
        simp [List.length_take, List.length_drop, h1]
        omega
      · intro i v hv
        obtain ⟨v', a1, a2⟩ := hex i v hv
        have hi : i < n := by rw [← h1]; exact (List.getElem?_eq_some_iff.1 hv).1
        refine ⟨v', ?_, a2⟩
        rw [List.getElem?_take, if_pos hi, List.getElem?_drop, Array.getElem?_toList]
        exact a1
      · intro j v hv
        rw [List.getElem?_take] at hv
        split at hv
        · rw [List.getElem?_drop, Array.getElem?_toList] at hv
          rw [addr_add]
          simp [World.cell?, h3, hv]
        · cases hv
    | _ => simp [BR] at h4
  · cases hc

theorem HR.loadCells (hr : HR P ro0 B0 w0 μ h w) {b o n : Nat} {l : Loc} {cs : List Value} (hm : μ b = some l) (hc : readCells h ⟨b, o, none⟩ n = some cs) :
    ∃ cs', VRs μ cs cs' ∧ (loadCells ⟨l.blk, l.off + o, none⟩ n).run P w = .ok cs'.toArray w := by
  obtain ⟨cs', h1, h2, h3⟩ := hr.read hm hc
  refine ⟨cs', h1, ?_⟩
  have := run_loadCells_list (P := P) w ⟨l.blk, l.off + o, none⟩ cs' h3
  rwa [h1.length, h2] at this

theorem run_storeCells' (g o : Nat) (t : TypeId) (fr : Nat × Nat) : ∀ (vs : List Value) (i : Nat) (cur : Array Value) (w : World), w.heap[g]? = some (.cells cur t fr) → o + i + vs.length ≤ cur.size → (∀ v ∈ vs, v.oneCell' = true) → (∀ j, j < cur.size → ¬ (fr.1 ≤ j ∧ j < fr.2)) →
    ∃ cur' : Array Value, (storeCells ⟨g, o, none⟩ vs i).run P w = .ok () { w with heap := w.heap.setIfInBounds g (.cells cur' t fr) } ∧ cur'.size = cur.size ∧
      ∀ j, cur'[j]? = if o + i ≤ j ∧ j < o + i + vs.length then vs[j - (o + i)]? else cur[j]?
  | [], i, cur, w, hg, _, _, _ => by
    refine ⟨cur, ?_, rfl, fun j => by rw [if_neg (by simp)]⟩
    simp only [storeCells, Sem.run_pure]
    have : w.heap.setIfInBounds g (.cells cur t fr) = w.heap := by
      apply Array.ext_getElem?
      intro k
      rw [Array.getElem?_setIfInBounds]
      split
      · subst_vars
        split
        · exact hg.symm
        · rename_i hh; exact (Array.getElem?_eq_none (by omega)).symm
      · rfl
    rw [this]
  | v :: rest, i, cur, w, hg, hl, h1, hf => by
    have hi : o + i < cur.size := by simp at hl; omega
    have hgs : g < w.heap.size := (Array.getElem?_eq_some_iff.1 hg).1
    have hcell : w.cell? ⟨g, o + i, none⟩ = some cur[o + i] := by simp [World.cell?, hg, hi]
    have hfro : w.frozen? ⟨g, o + i, none⟩ = false := by
      simp only [World.frozen?, hg]
      have := hf (o + i) hi
      simpa using this
    have hset : w.setCell ⟨g, o + i, none⟩ v = { w with heap := w.heap.setIfInBounds g (.cells (cur.setIfInBounds (o + i) v) t fr) } := by
      simp only [World.setCell]
      congr 1
      apply Array.ext_getElem?
      intro k
      rw [Array.getElem?_modify, Array.getElem?_setIfInBounds]
      split
      · subst_vars
        have hgk := (Array.getElem?_eq_some_iff.1 hg).2
        simp [hgs, hgk]
      · rfl
    have hst : (store ((⟨g, o, none⟩ : Addr).add i) v).run P w = .ok () (w.setCell ⟨g, o + i, none⟩ v) := by
      rw [addr_add, run_store P w _ v _ (h1 v (by simp)), hcell]
      simp [hfro]
    have hg' : ({ w with heap := w.heap.setIfInBounds g (.cells (cur.setIfInBounds (o + i) v) t fr) } : World).heap[g]? = some (.cells (cur.setIfInBounds (o + i) v) t fr) := by
      simp [Array.getElem?_setIfInBounds, hgs]
    obtain ⟨cur', r1, r2, r3⟩ := run_storeCells' g o t fr rest (i + 1) (cur.setIfInBounds (o + i) v) _ hg' (by simp at hl ⊢; omega) (fun x hx => h1 x (by simp [hx])) (by simpa using hf)
    refine ⟨cur', ?_, by simpa using r2, fun j => ?_⟩
    · simp only [storeCells, Sem.run_bind, hst, Result.andThen_ok]
      rw [hset, r1]
      congr 2
      apply Array.ext_getElem?
      intro k
      simp only [Array.getElem?_setIfInBounds]
      split <;> simp_all
    · rw [r3 j, Array.getElem?_setIfInBounds]
      by_cases hj : j = o + i
      · subst hj
        rw [if_neg (by omega), if_pos rfl, if_pos hi, if_pos ⟨by omega, by simp only [List.length_cons]; omega⟩]
        simp
      · by_cases hj2 : o + (i + 1) ≤ j ∧ j < o + (i + 1) + rest.length
        · rw [if_pos hj2, if_pos ⟨by omega, by simp only [List.length_cons]; omega⟩]
          have e : j - (o + i) = (j - (o + (i + 1))) + 1 := by omega
          rw [e]; simp
        · rw [if_neg hj2, if_neg (fun e => hj e.symm), if_neg (by simp only [List.length_cons]; omega)]

theorem oneCell_eq (v : Value) : v.oneCell' = oneCell v := by cases v <;> rfl

theorem VRs.all_oneCell {l l' : List Value} (hv : VRs μ l l') (hl : l.all oneCell = true) : ∀ v ∈ l', v.oneCell' = true := by
  induction l generalizing l' with
  | nil => cases hv; simp
  | cons x l ih =>
    cases hv with
    | cons _ x' _ l' hx hl' =>
      simp only [List.all_cons, Bool.and_eq_true] at hl
      intro v hv'
      rcases List.mem_cons.1 hv' with rfl | hv'
      · rw [oneCell_eq, hx.oneCell]; exact hl.1
      · exact ih hl' hl.2 v hv'

/-- What a store of the interpreter's is in the world. -/
theorem HR.storeCells (hr : HR P ro0 B0 w0 μ h w) {ro b o : Nat} {l : Loc} {vs vs' : List Value} {h' : Heap} (hro : ro0 ≤ ro) (hm : μ b = some l) (hv : VRs μ vs vs')
    (hc : writeCells ro h ⟨b, o, none⟩ vs = some h') :
    ∃ w', (storeCells ⟨l.blk, l.off + o, none⟩ vs').run P w = .ok () w' ∧ HR P ro0 B0 w0 μ h' w' := by
  cases vs with
  | nil =>
    cases hv
    have hc : some h = some h' := hc
    cases hc
    exact ⟨w, rfl, hr⟩
  | cons v vs =>
    simp only [Go.Abs.writeCells] at hc
    split at hc
    · cases hc
    · rename_i hb
      split at hc
      · rename_i hone
        split at hc
        · rename_i sz cs hg
          split at hc
          · rename_i cs' hp
            cases hc
            obtain ⟨p1, p2, p3⟩ := put?_spec hp
            obtain ⟨obj, h3, h4⟩ := hr.blk b l _ hm hg (by simp)
            cases obj with
            | cells cc t fr =>
              simp only [BR] at h4
              obtain ⟨k1, k2, k3, k4, k5⟩ := h4
              have hrb : ro0 ≤ b := by omega
              have hlen := hv.length
              have hp2 : o + (v :: vs).length ≤ cs.length := by rcases p2 with p2 | p2; · cases p2
                                                                · exact p2
              obtain ⟨cur', r1, r2, r3⟩ := run_storeCells' (P := P) l.blk (l.off + o) t fr vs' 0 cc w h3 (by rw [hlen, k2]; omega) (hv.all_oneCell hone) (fun j hj => by rcases k5 hrb with k5 | k5 <;> omega)
              refine ⟨_, r1, hr.put hm hrb ⟨_, hg, by simp⟩ ?_⟩
              refine ⟨k1, r2.trans k2, by rw [p1]; exact k3, fun i x hx => ?_, k5⟩
              rw [p3 i] at hx
              rw [r3 (l.off + i)]
              by_cases hi : o ≤ i ∧ i < o + (v :: vs).length
              · rw [if_pos hi] at hx
                rw [if_pos (by rw [hlen]; omega)]
                obtain ⟨v', a1, a2⟩ := hv.get hx
                have e : l.off + i - (l.off + o + 0) = i - o := by omega
                rw [e]
                exact ⟨v', a1, a2⟩
              · rw [if_neg hi] at hx
                rw [if_neg (by rw [hlen]; omega)]
                exact k4 i x hx
            | _ => simp [BR] at h4
          · cases hc
        · cases hc
      · cases hc

end Go.Abs

namespace Go.Abs
open Go.RowKit
set_option linter.unusedSimpArgs false
set_option linter.unusedVariables false
variable {ds : List Deferred}
variable {P : Program} {ro0 B0 : Nat} {w0 : World} {μ : Mu} {h : Heap} {w : World}

structure ER (ds : List Deferred) (μ : Mu) (e : Env) (a : Act) : Prop where
  size : a.tmps.size = e.nt
  defers : a.defers = ds
  get : ∀ t v, e.get t = some v → t < e.nt ∧ VR μ v (a.tmps.getD t undef)

variable {e : Env} {a : Act}

theorem ER.mono {μ' : Mu} (he : ER ds μ e a) (hx : Ext μ μ') : ER ds μ' e a := ⟨he.size, he.defers, fun t v hv => ⟨(he.get t v hv).1, (he.get t v hv).2.mono hx⟩⟩

theorem ER.ev (he : ER ds μ e a) (hr : HR P ro0 B0 w0 μ h w) {x : Operand} {v : Value} (hx : ev P e x = some v) : VR μ v (a.eval x) := by
  cases x with
  | tmp t => exact (he.get t v hx).2
  | const u =>
    simp only [Go.Abs.ev] at hx
    split at hx
    · cases hx; exact VR.plain 8 _ ‹_›
    · cases hx
  | global g =>
    simp only [Go.Abs.ev] at hx
    split at hx
    · cases hx
      obtain ⟨l, h1, h2, h3⟩ := hr.glob g ‹_›
      have := VR.ptr (μ := μ) g 0 l h1
      rw [h2, h3] at this
      exact this
    · cases hx
  | func f =>
    simp only [Go.Abs.ev] at hx
    cases hx
    exact .func _ _ _ _ _ .nil .nil

theorem ER.evs (he : ER ds μ e a) (hr : HR P ro0 B0 w0 μ h w) : ∀ {xs : List Operand} {vs : List Value}, evs P e xs = some vs → VRs μ vs (xs.map a.eval)
  | [], vs, hx => by simp only [Go.Abs.evs] at hx; cases hx; exact .nil
  | x :: xs, vs, hx => by
    simp only [Go.Abs.evs] at hx
    split at hx
    · split at hx
      · cases hx; exact .cons _ _ _ _ (he.ev hr ‹_›) (ER.evs he hr ‹_›)
      · cases hx
    · cases hx

theorem ER.put (he : ER ds μ e a) {d : Option Tmp} {v v' : Value} {e' : Env} (hv : VR μ v v') (hp : putA e d v = some e') : ER ds μ e' (a.put d v') := by
  cases d with
  | none => simp only [putA] at hp; cases hp; exact he
  | some t =>
    simp only [putA] at hp
    split at hp
    · rename_i ht
      cases hp
      refine ⟨by simp [Act.put, he.size, Env.nt_set], he.defers, fun j u hj => ?_⟩
      rw [Env.get_set] at hj
      rw [Env.nt_set]
      split at hj
      · rename_i ej
        subst ej
        cases hj
        refine ⟨ht, ?_⟩
        have hs : j < a.tmps.size := by rw [he.size]; exact ht
        simp only [Act.put, Array.getD_eq_getD_getElem?, Array.getElem?_setIfInBounds_self_of_lt hs]
        exact hv
      · rename_i ej
        obtain ⟨h1, h2⟩ := he.get j u hj
        refine ⟨h1, ?_⟩
        simp only [Act.put, Array.getD_eq_getD_getElem?, Array.getElem?_setIfInBounds_ne (fun hh => ej hh.symm)]
        rw [Array.getD_eq_getD_getElem?] at h2
        exact h2
    · cases hp

/-- What a run of the machine's gives, against what the interpreter says. -/
def GoodV (P : Program) (ro0 B0 : Nat) (w0 : World) (μ : Mu) (h' : Heap) (v : Value) (r : Result Value) : Prop :=
  ∃ μ' w' v', r = .ok v' w' ∧ Ext μ μ' ∧ HR P ro0 B0 w0 μ' h' w' ∧ VR μ' v v'
def Good (P : Program) (ro0 B0 : Nat) (w0 : World) (μ : Mu) (h' : Heap) (v : Value) (r : Result Next) : Prop :=
  ∃ μ' w', Ext μ μ' ∧ HR P ro0 B0 w0 μ' h' w' ∧ ((∃ v', r = .ok (.value v') w' ∧ VR μ' v v') ∨ (r = .ok .skip w' ∧ v = undef))

theorem GoodV.pure (hr : HR P ro0 B0 w0 μ h w) {v v' : Value} (hv : VR μ v v') : GoodV P ro0 B0 w0 μ h v (.ok v' w) := ⟨μ, w, v', rfl, Ext.refl _, hr, hv⟩
theorem GoodV.good {h' : Heap} {v : Value} {s : Sem Value} (hg : GoodV P ro0 B0 w0 μ h' v (s.run P w)) : Good P ro0 B0 w0 μ h' v ((do let x ← s; Pure.pure (Next.value x) : Sem Next).run P w) := by
  obtain ⟨μ', w', v', h1, h2, h3, h4⟩ := hg
  refine ⟨μ', w', h2, h3, .inl ⟨v', ?_, h4⟩⟩
  simp only [Sem.run_bind, h1, Result.andThen_ok, Sem.run_pure]

/-! ### The tables -/
theorem run_typeInfo' {t : TypeId} {i : TypeInfo} (hi : P.info? t = some i) (w : World) : (typeInfo t).run P w = .ok i w := by simp [typeInfo, hi]
theorem run_sizeOf' {t : TypeId} {n : Nat} (hi : sizeOf? P t = some n) (w : World) : (sizeOf t).run P w = .ok n w := by
  unfold sizeOf? at hi
  split at hi
  · rename_i i hh; cases hi; simp [sizeOf, run_typeInfo' hh]
  · cases hi
theorem run_isAgg' {t : TypeId} {b : Bool} (hi : isAgg? P t = some b) (w : World) : (isAgg t).run P w = .ok b w := by
  unfold isAgg? at hi
  split at hi
  · rename_i hh; cases hi; simp [isAgg, run_underlying hh]
  · rename_i hh; cases hi; simp [isAgg, run_underlying hh]
  · rename_i d hn1 hn2 hh
    cases hi
    simp only [isAgg, Sem.run_bind, run_underlying hh, Result.andThen_ok]
    cases d <;> first | rfl | simp_all
  · cases hi
theorem zeroOf_spec {t : TypeId} {z : Value} (hz : zeroOf P t = some z) : ∃ i, P.info? t = some i ∧ i.zero = some z ∧ plainB 8 z = true ∧ z.cells.size = i.size := by
  unfold zeroOf at hz
  split at hz
  · rename_i i hi
    split at hz
    · rename_i z' hz'
      split at hz
      · rename_i hp
        cases hz
        simp only [Bool.and_eq_true, beq_iff_eq] at hp
        exact ⟨i, hi, hz', hp.1, hp.2⟩
      · cases hz
    · cases hz
  · cases hz
theorem run_zeroValue' {t : TypeId} {z : Value} (hz : zeroOf P t = some z) (w : World) : (zeroValue t).run P w = .ok z w := by
  obtain ⟨i, h1, h2, _⟩ := zeroOf_spec hz
  simp [zeroValue, run_typeInfo' h1, h2]

/-! ### New rows -/
theorem run_newRow' (t : TypeId) (cs : Array Value) (w : World) : (newRow t cs).run P w = .ok ⟨w.heap.size, 0, none⟩ (w.alloc (.cells cs t)) := by
  simp [newRow]

theorem HR.row (hr : HR P ro0 B0 w0 μ h w) (t : TypeId) (sz : Nat) {cs : List Value} {cs' : Array Value} (hv : VRs μ cs cs'.toList) :
    HR P ro0 B0 w0 (upd μ h.next ⟨w.heap.size, 0, sz, cs'.size⟩) (h.push (.cells sz cs)) (w.alloc (.cells cs' t)) := by
  refine hr.push rfl ⟨rfl, rfl, ?_, fun i v hi => ?_, fun _ => .inl rfl⟩
  · have := hv.length; simp at this; simp [this]
  · obtain ⟨v', h1, h2⟩ := hv.get hi
    exact ⟨v', by simpa using h1, h2.mono (hr.ext _)⟩

theorem upd_self (μ : Mu) (n : Nat) (l : Loc) : upd μ n l n = some l := by simp [upd]

theorem good_newVar (hr : HR P ro0 B0 w0 μ h w) (t : TypeId) {v v' : Value} (hv : VR μ v v') :
    GoodV P ro0 B0 w0 μ (h.push (.cells 1 v.cells.toList)) (ptrTo h.next) ((do Pure.pure (Value.pointer (some (← newVar t v'))) : Sem Value).run P w) := by
  refine ⟨_, _, .pointer (some ⟨w.heap.size, 0, none⟩), ?_, hr.ext _, hr.row t 1 hv.cells, ?_⟩
  · simp [newVar, run_newRow']
  · have := VR.ptr (μ := upd μ h.next ⟨w.heap.size, 0, 1, v'.cells.size⟩) h.next 0 _ (upd_self _ _ _)
    simpa [ptrTo] using this

/-! ### Whole numbers, strings -/
theorem good_intOp (op : BinOp) (t : TypeId) (x y : Operand) (k : IntKind) (m n : Int) {v : Value} (hv : intOp op k m n = some v) (hop : op ≠ .shl ∧ op ≠ .shr) :
    (binOp op t (.int k m) (.int k n)).run P w = .ok v w ∧ VR μ v v := by
  cases op <;> simp only [intOp] at hv
  case quo => split at hv; · cases hv
              · rename_i hn; cases hv; exact ⟨by simp [binOp, Op.intDiv, hn], .int _ _⟩
  case rem => split at hv; · cases hv
              · rename_i hn; cases hv; exact ⟨by simp [binOp, Op.intDiv, hn], .int _ _⟩
  case shl => exact absurd rfl hop.1
  case shr => exact absurd rfl hop.2
  all_goals (cases hv; refine ⟨by simp [binOp, Op.intArith, Op.intBits, Op.intCmp, bAnd_eq, bOr_eq, bXor_eq, bAndNot_eq], ?_⟩; first | exact .int _ _ | exact .bool _)

theorem good_shiftOp (op : BinOp) (t : TypeId) (k k' : IntKind) (m n : Int) {v : Value} (hv : shiftOp op k m n = some v) :
    (binOp op t (.int k m) (.int k' n)).run P w = .ok v w ∧ VR μ v v := by
  unfold shiftOp at hv
  split at hv
  · cases hv
  · rename_i hn
    cases op <;> simp only at hv <;> first | (cases hv; done) | skip
    · cases hv; exact ⟨by simp [binOp, Op.shift, hn], .int _ _⟩
    · cases hv; exact ⟨by simp [binOp, Op.shift, hn], .int _ _⟩

theorem good_strOp (op : BinOp) (t : TypeId) (x y : ByteArray) {v : Value} (hv : strOp op x y = some v) :
    (binOp op t (.string x) (.string y)).run P w = .ok v w ∧ VR μ v v := by
  unfold strOp at hv
  cases op <;> simp only at hv <;> first | (cases hv; done) | skip
  · split at hv
    · cases hv
    · rename_i hn; cases hv
      refine ⟨?_, .string _⟩
      simp only [binOp, Op.stringOp]
      rw [if_neg hn]; rfl
  · cases hv; exact ⟨by simp [binOp, Op.stringOp], .bool _⟩
  · cases hv; exact ⟨by simp [binOp, Op.stringOp], .bool _⟩

theorem VR.bool_inv {b : Bool} {v' : Value} (hv : VR μ (.bool b) v') : v' = .bool b := by cases hv; rfl
theorem VR.int_inv {k : IntKind} {n : Int} {v' : Value} (hv : VR μ (.int k n) v') : v' = .int k n := by cases hv; rfl
theorem VR.string_inv {s : ByteArray} {v' : Value} (hv : VR μ (.string s) v') : v' = .string s := by cases hv; rfl

theorem run_eqGuard_ne (op : BinOp) (t : TypeId) (x y : Operand) (p q : Value) (h1 : ∀ c d, p = .agg c → q = .agg d → False) (h2 : p = .nilIface → q = .nilIface → (isConstB x || isConstB y) = true) :
    (eqGuard op t x y p q).run P w = .ok () w := by
  unfold eqGuard
  cases op <;> simp only [Bool.not_true, Bool.not_false, Bool.false_eq_true, if_false, if_true, Sem.run_pure]
  all_goals first
    | rfl
    | (split
       · have h3 := h2 rfl rfl
         rw [if_pos (by cases x <;> cases y <;> simp_all [isConstB])]
         rfl
       · exact (h1 _ _ rfl rfl).elim
       · rfl)

theorem good_equalIn (t : TypeId) (c : Bool) (d : Nat) {p q p' q' : Value} {b : Bool} (hp : VR μ p p') (hq : VR μ q q') (hv : eqOp P t c p q = some b) :
    (Op.equalIn (d + 1) t p' q').run P w = .ok b w := by
  unfold eqOp at hv
  split at hv <;> try (cases hv; done)
  case h_2 hu =>
    split at hv
    · cases hv; cases hp; cases hq
      simp [Op.equalIn, run_underlying hu]
    · cases hv
  all_goals
    rename_i hu
    cases hv
    cases hp <;> cases hq <;> simp [Op.equalIn, run_underlying hu]

theorem good_eqGuard (op : BinOp) (t : TypeId) (x y : Operand) {p q p' q' : Value} {b : Bool} (hp : VR μ p p') (hq : VR μ q q') (hv : eqOp P t (isConstB x || isConstB y) p q = some b) :
    (eqGuard op t x y p' q').run P w = .ok () w := by
  unfold eqOp at hv
  split at hv <;> try (cases hv; done)
  case h_2 hu =>
    split at hv
    · rename_i hc
      cases hp; cases hq
      exact run_eqGuard_ne _ _ _ _ _ _ (by simp) (fun _ _ => hc)
    · cases hv
  all_goals
    cases hp <;> cases hq <;> exact run_eqGuard_ne _ _ _ _ _ _ (by simp) (by simp)

theorem eqOp_binOp (t : TypeId) (c : Bool) {p q p' q' : Value} {b : Bool} (hp : VR μ p p') (hq : VR μ q q') (hv : eqOp P t c p q = some b) :
    binOp .eql t p' q' = (do Pure.pure (Value.bool (← Op.equal t p' q')) : Sem Value) ∧ binOp .neq t p' q' = (do Pure.pure (Value.bool (!(← Op.equal t p' q'))) : Sem Value) := by
  unfold eqOp at hv
  split at hv <;> try (cases hv; done)
  all_goals
    cases hp <;> cases hq <;> exact ⟨rfl, rfl⟩

theorem good_binop (op : BinOp) (t : TypeId) (x y : Operand) (hr : HR P ro0 B0 w0 μ h w) {p q p' q' v : Value} (hp : VR μ p p') (hq : VR μ q q') (hv : binop P op t (isConstB x || isConstB y) p q = some v) :
    GoodV P ro0 B0 w0 μ h v ((do eqGuard op t x y p' q'; binOp op t p' q' : Sem Value).run P w) := by
  have guard : (∀ c d, p' = .agg c → q' = .agg d → False) → (p' = .nilIface → q' = .nilIface → (isConstB x || isConstB y) = true) → (eqGuard op t x y p' q').run P w = .ok () w := fun h1 h2 => run_eqGuard_ne op t x y p' q' h1 h2
  unfold binop at hv
  split at hv
  · rename_i k m k' n
    have e1 := hp.int_inv; have e2 := hq.int_inv
    subst e1; subst e2
    have hg := guard (by simp) (by simp)
    have hfin : ∀ u, (binOp op t (.int k m) (.int k' n)).run P w = .ok u w → VR μ v u → GoodV P ro0 B0 w0 μ h v ((do eqGuard op t x y (.int k m) (.int k' n); binOp op t (.int k m) (.int k' n) : Sem Value).run P w) := fun u h1 h2 => by
      refine ⟨μ, w, u, ?_, Ext.refl _, hr, h2⟩
      simp only [Sem.run_bind, hg, Result.andThen_ok, h1]
    cases op
    case shl => obtain ⟨a1, a2⟩ := good_shiftOp (P := P) (w := w) (μ := μ) .shl t k k' m n hv; exact hfin _ a1 a2
    case shr => obtain ⟨a1, a2⟩ := good_shiftOp (P := P) (w := w) (μ := μ) .shr t k k' m n hv; exact hfin _ a1 a2
    all_goals
      simp only at hv
      split at hv
      · rename_i hk
        subst hk
        obtain ⟨a1, a2⟩ := good_intOp (P := P) (w := w) (μ := μ) _ t x y k m n hv (by simp)
        exact hfin _ a1 a2
      · cases hv
  · rename_i s1 s2
    have e1 := hp.string_inv; have e2 := hq.string_inv
    subst e1; subst e2
    have hg := guard (by simp) (by simp)
    obtain ⟨a1, a2⟩ := good_strOp (P := P) (w := w) (μ := μ) op t s1 s2 hv
    refine ⟨μ, w, v, ?_, Ext.refl _, hr, a2⟩
    simp only [Sem.run_bind, hg, Result.andThen_ok, a1]
  · rename_i hni hns
    cases op <;> simp only at hv <;> try (cases hv; done)
    · split at hv
      · rename_i b hb
        cases hv
        have a1 := good_equalIn (w := w) t _ 9999 hp hq hb
        have a2 := good_eqGuard (w := w) .eql t x y hp hq hb
        refine ⟨μ, w, .bool b, ?_, Ext.refl _, hr, .bool _⟩
        simp only [Sem.run_bind, a2, Result.andThen_ok]
        rw [(eqOp_binOp t _ hp hq hb).1]
        have a1' : (Op.equal t p' q').run P w = .ok b w := a1
        simp only [Sem.run_bind, a1', Result.andThen_ok, Sem.run_pure]
      · cases hv
    · split at hv
      · rename_i b hb
        cases hv
        have a1 := good_equalIn (w := w) t _ 9999 hp hq hb
        have a2 := good_eqGuard (w := w) .neq t x y hp hq hb
        refine ⟨μ, w, .bool !b, ?_, Ext.refl _, hr, .bool _⟩
        simp only [Sem.run_bind, a2, Result.andThen_ok]
        rw [(eqOp_binOp t _ hp hq hb).2]
        have a1' : (Op.equal t p' q').run P w = .ok b w := a1
        simp only [Sem.run_bind, a1', Result.andThen_ok, Sem.run_pure]
      · cases hv

theorem good_unop (op : UnOp) (hr : HR P ro0 B0 w0 μ h w) {p p' v : Value} (hp : VR μ p p') (hv : unop op p = some v) : GoodV P ro0 B0 w0 μ h v ((Op.unary op p').run P w) := by
  unfold unop at hv
  split at hv
  · rename_i k n
    have e1 := hp.int_inv; subst e1
    simp only [intOp] at hv; cases hv
    exact ⟨μ, w, _, by simp [Op.unary, Op.intArith], Ext.refl _, hr, .int _ _⟩
  · rename_i k n
    have e1 := hp.int_inv; subst e1
    simp only [intOp] at hv; cases hv
    exact ⟨μ, w, _, by simp [Op.unary, Op.intBits, bXor_eq], Ext.refl _, hr, .int _ _⟩
  · rename_i b
    have e1 := hp.bool_inv; subst e1
    cases hv
    exact ⟨μ, w, _, by simp [Op.unary], Ext.refl _, hr, .bool _⟩
  · cases hv

end Go.Abs

namespace Go.Abs
open Go.RowKit
set_option linter.unusedSimpArgs false
set_option linter.unusedVariables false
variable {P : Program} {ro0 B0 : Nat} {w0 : World} {μ : Mu} {h : Heap} {w : World} {e : Env} {a : Act}

/-! ### Conversions -/
theorem byteVals_spec : ∀ {cs : List Value} {l : List UInt8}, byteVals cs = some l → ∃ ns : List Int, cs = ns.map (Value.int .u8) ∧ l = ns.map fun n => UInt8.ofNat n.toNat
  | [], l, hb => by simp only [byteVals] at hb; cases hb; exact ⟨[], rfl, rfl⟩
  | v :: cs, l, hb => by
    unfold byteVals at hb
    split at hb
    · cases ‹_ = []›
    · rename_i n r heq
      cases heq
      split at hb
      · rename_i l' hl'
        cases hb
        obtain ⟨ns, h1, h2⟩ := byteVals_spec hl'
        exact ⟨n :: ns, by simp [h1], by simp [h2]⟩
      · cases hb
    · cases hb

theorem VRs.ints {ns : List Int} {k : IntKind} {l' : List Value} (hv : VRs μ (ns.map (Value.int k)) l') : l' = ns.map (Value.int k) := by
  induction ns generalizing l' with
  | nil => cases hv; rfl
  | cons n ns ih =>
    cases hv with
    | cons _ v' _ l'' hx hl => rw [hx.int_inv, ih hl]; rfl

theorem VRs.bytes (s : ByteArray) : VRs μ (bytesOf s) (bytesOf s) := VRs.plain_of fun v hv => by
  simp only [bytesOf, List.mem_map] at hv
  obtain ⟨b, _, rfl⟩ := hv
  exact .int _ _

/-- 'VR' at a slice's address. -/
theorem VR.slice_inv {b o : Nat} {sp : Option Nat} {n c : Nat} {v' : Value} (hv : VR μ (.slice (some ⟨b, o, sp⟩) n c) v') :
    (∃ l c', sp = none ∧ μ b = some l ∧ n ≤ c ∧ c ≤ c' ∧ l.off + o + c' * l.sz ≤ l.tot ∧ v' = .slice (some ⟨l.blk, l.off + o, none⟩) n c') ∨
    (∃ a' c', sp = some 0 ∧ b = 0 ∧ o = 0 ∧ n = 0 ∧ c = 0 ∧ v' = .slice (some a') 0 c') := by
  cases hv with
  | slice _ _ _ _ c' l h1 h2 h3 h4 => exact .inl ⟨l, c', rfl, h1, h2, h3, h4, rfl⟩
  | empty a' c' => exact .inr ⟨a', c', rfl, rfl, rfl, rfl, rfl, rfl⟩
theorem VR.ptr_inv {b o : Nat} {sp : Option Nat} {v' : Value} (hv : VR μ (.pointer (some ⟨b, o, sp⟩)) v') :
    ∃ l, sp = none ∧ μ b = some l ∧ v' = .pointer (some ⟨l.blk, l.off + o, none⟩) := by
  cases hv with
  | ptr _ _ l h1 => exact ⟨l, rfl, h1, rfl⟩

theorem freeze_heap (w : World) (g m : Nat) (cs : Array Value) (t : TypeId) (fr : Nat × Nat) (hg : w.heap[g]? = some (.cells cs t fr)) :
    w.freeze ⟨g, m, none⟩ 1 = { w with heap := w.heap.setIfInBounds g (.cells cs t (if fr.1 == fr.2 then (m, m + 1) else (min fr.1 m, max fr.2 (m + 1)))) } := by
  have hgs := (Array.getElem?_eq_some_iff.1 hg).1
  have hgk := (Array.getElem?_eq_some_iff.1 hg).2
  simp only [World.freeze, Nat.one_ne_zero, if_false]
  congr 1
  apply Array.ext_getElem?
  intro k
  rw [Array.getElem?_modify, Array.getElem?_setIfInBounds]
  split
  · subst_vars; simp [hgs, hgk]
  · rfl

theorem HR.reput (hr : HR P ro0 B0 w0 μ h w) {b : Nat} {l : Loc} {x : Blk} {obj : Obj} (hm : μ b = some l) (hro : ro0 ≤ b) (hx1 : h.get b = some x) (hx2 : x ≠ .dead) (hb : BR μ (ro0 ≤ b) l x obj) :
    HR P ro0 B0 w0 μ h { w with heap := w.heap.setIfInBounds l.blk obj } := by
  have hput := hr.put hm hro ⟨_, hx1, hx2⟩ hb
  refine { hput with dom := hr.dom, undom := hr.undom, ro := hr.ro, blk := ?_, inj := hr.inj }
  intro c k o' hc hg hd
  by_cases ec : c = b
  · subst ec
    rw [hx1] at hg; cases hg
    exact hput.blk c k _ hc (by rw [Heap.get_put, if_pos rfl]) hx2
  · exact hput.blk c k o' hc (by rw [Heap.get_put, if_neg ec]; exact hg) hd

/-- A mark behind the last cell of a row turns nothing. -/
theorem HR.mark (hr : HR P ro0 B0 w0 μ h w) {b sz : Nat} {cs : List Value} {l : Loc} (hm : μ b = some l) (hro : ro0 ≤ b) (hx1 : h.get b = some (.cells sz cs)) (o : Nat) :
    ∃ w', (markStringish ⟨l.blk, o, none⟩).run P w = .ok () w' ∧ HR P ro0 B0 w0 μ h w' := by
  obtain ⟨obj, h3, h4⟩ := hr.blk b l _ hm hx1 (by simp)
  cases obj with
  | cells cc t fr =>
    simp only [BR] at h4
    obtain ⟨k1, k2, k3, k4, k5⟩ := h4
    have hsh : w.shape? l.blk = some (t, cc.size) := by simp [World.shape?, h3]
    refine ⟨w.freeze ⟨l.blk, cc.size, none⟩ 1, by simp [markStringish, hsh], ?_⟩
    rw [freeze_heap w l.blk cc.size cc t fr h3]
    refine hr.reput hm hro hx1 (by simp) ⟨k1, k2, k3, k4, fun ho => ?_⟩
    rcases k5 ho with k5 | k5
    · rw [if_pos (by simpa using k5)]; right; simp only; omega
    · split
      · right; simp only; omega
      · right; simp only; omega
  | _ => simp [BR] at h4

theorem grownCap_ge (w : World) (need old : Nat) (e : TypeId) : need ≤ grownCap w need old e := Nat.le_add_right _ _

theorem good_conv (hr : HR P ro0 B0 w0 μ h w) {ro : Nat} (hro : ro0 ≤ ro) (s d : TypeId) {x x' v : Value} {h' : Heap} (hx : VR μ x x') (hv : conv P ro s d x h = .ok v h') :
    GoodV P ro0 B0 w0 μ h' v ((convert s d x').run P w) := by
  unfold conv at hv
  split at hv
  · rename_i u k k' n hs hd
    cases hv
    have e1 := hx.int_inv; subst e1
    exact ⟨μ, w, _, by simp [convert, run_underlying hs, run_underlying hd, Conv.intToInt], Ext.refl _, hr, .int _ _⟩
  · rename_i u str hs hd
    cases hv
    have e1 := hx.string_inv; subst e1
    exact ⟨μ, w, _, by simp [convert, run_underlying hs, run_underlying hd], Ext.refl _, hr, .string _⟩
  · rename_i u e str hs hd
    split at hv
    · rename_i he
      cases hv
      have e1 := hx.string_inv; subst e1
      have hrun := Lib.run_convert_string_bytes (P := P) w s d e str hs hd he
      have hcap : str.size ≤ grownCap w str.size 0 e := grownCap_ge w str.size 0 e
      have hlen : (bytesOf str).length = str.size := by simp only [bytesOf, List.length_map, Array.length_toList]; rfl
      have hcsz : (Lib.bytesCells w e str).size = grownCap w str.size 0 e := by
        have : (Array.map (fun b : UInt8 => Value.int .u8 (b.toNat : Int)) str.data).size = str.size := by rw [Array.size_map]; rfl
        simp only [Lib.bytesCells, Array.size_append, Array.size_replicate, this]
        omega
      have hr2 : HR P ro0 B0 w0 (upd μ h.next ⟨w.heap.size, 0, 1, (Lib.bytesCells w e str).size⟩) (h.push (.cells 1 (bytesOf str))) (w.drew.alloc (.cells (Lib.bytesCells w e str) e)) := by
        refine hr.drew.push rfl ⟨rfl, rfl, by rw [hlen, hcsz]; simpa using hcap, fun i v hi => ?_, fun _ => .inl rfl⟩
        refine ⟨v, ?_, ?_⟩
        · have hi2 : i < str.size := by rw [← hlen]; exact (List.getElem?_eq_some_iff.1 hi).1
          simp only [Nat.zero_add]
          have hd1 : i < (Array.map (fun b : UInt8 => Value.int .u8 (b.toNat : Int)) str.data).size := by rw [Array.size_map]; exact hi2
          rw [Lib.bytesCells, Array.getElem?_append_left hd1]
          rw [← Array.getElem?_toList, Array.toList_map]
          exact hi
        · have : v ∈ bytesOf str := List.mem_of_getElem? hi
          simp only [bytesOf, List.mem_map] at this
          obtain ⟨b, _, rfl⟩ := this
          exact .int _ _
      obtain ⟨w', hw1, hw2⟩ := hr2.mark (upd_self _ _ _) (by have := hr.ro; exact this) (by rw [Heap.get_push, if_pos rfl]) 0
      refine ⟨_, w', _, ?_, hr.ext _, hw2, VR.slice h.next 0 str.size str.size (grownCap w str.size 0 e) _ (upd_self _ _ _) (Nat.le_refl _) hcap ?_⟩
      · rw [hrun]
        congr 1
        have hsh : (w.drew.alloc (.cells (Lib.bytesCells w e str) e)).shape? w.heap.size = some (e, (Lib.bytesCells w e str).size) := by
          simp [World.shape?, World.alloc, World.drew, -World.alloc_eq, -World.drew_eq]
        have : (markStringish ⟨w.heap.size, 0, none⟩).run P (w.drew.alloc (.cells (Lib.bytesCells w e str) e)) = .ok () (Lib.bytesWorld w e str) := by
          simp [markStringish, hsh, Lib.bytesWorld]
        rw [this] at hw1
        cases hw1
        rfl
      · simp [hcsz]
    · cases hv
  · rename_i es e2 ad n c hs hd
    split at hv
    · rename_i hsd he
      split at hv
      · rename_i hc
        split at hv
        · rename_i sz cs hg
          cases hv
          obtain ⟨b, o, sp⟩ := ad
          simp only [Bool.and_eq_true, Option.isNone_iff_eq_none, decide_eq_true_eq] at hc
          obtain ⟨rfl, hb⟩ := hc
          rcases hx.slice_inv with ⟨l, c', _, h1, h2, h3, h4, rfl⟩ | ⟨a', c', hh, _⟩
          · obtain ⟨w', hw1, hw2⟩ := hr.mark h1 (by omega) hg (l.off + o)
            refine ⟨μ, w', _, ?_, Ext.refl _, hw2, hx⟩
            have hsd' : (s == d) = true := hsd
            simp only [convert, Sem.run_bind, run_underlying hs, run_underlying hd, Result.andThen_ok, hsd', run_underlying he, hw1, Sem.run_pure]
          · cases hh
        · cases hv
      · cases hv
    · cases hv
  · rename_i e n c hs hd
    split at hv
    · rename_i he
      cases hv
      cases hx
      exact ⟨μ, w, _, run_convert_bytes_nil w s e hs he 0 0 d hd, Ext.refl _, hr, .string _⟩
    · cases hv
  · rename_i e ad n c hs hd
    split at hv
    · rename_i he
      split at hv
      · rename_i cs hcs
        split at hv
        · rename_i l hl
          cases hv
          obtain ⟨ns, rfl, rfl⟩ := byteVals_spec hl
          obtain ⟨b, o, sp⟩ := ad
          rcases hx.slice_inv with ⟨lc, c', rfl, h1, h2, h3, h4, rfl⟩ | ⟨a', c', rfl, _, _, rfl, rfl, rfl⟩
          · obtain ⟨cs', g1, g2⟩ := hr.loadCells h1 hcs
            have := g1.ints
            subst this
            refine ⟨μ, w, _, ?_, Ext.refl _, hr, .string _⟩
            rw [run_convert_bytes_string w s d e _ n c' hs he hd, run_bytesToString w _ n c' ns g2, foldl_push_bytes]
            simp [ByteArray.empty, ByteArray.emptyWithCapacity]
            rfl
          · simp only [readCells, if_true] at hcs
            have hns : ns = [] := by
              simp at hcs
              exact hcs
            subst hns
            refine ⟨μ, w, _, ?_, Ext.refl _, hr, .string _⟩
            rw [run_convert_bytes_string w s d e _ 0 c' hs he hd, run_bytesToString w _ 0 c' [] (by simp [loadCells, loadCellsFrom])]
            rfl
        · cases hv
      · cases hv
    · cases hv
  · cases hv

end Go.Abs

namespace Go.Abs
open Go.RowKit
set_option linter.unusedSimpArgs false
set_option linter.unusedVariables false
variable {P : Program} {ro0 B0 : Nat} {w0 : World} {μ : Mu} {h : Heap} {w : World} {e : Env} {a : Act}

/-! ### Parts, literals -/
theorem VRs.take? {cs cs' r : List Value} {o n : Nat} (hv : VRs μ cs cs') (ht : take? cs o n = some r) : VRs μ r ((cs'.drop o).take n) := by
  obtain ⟨h1, h2⟩ := take?_spec ht
  have hl := hv.length
  have hall : ∀ i v, r[i]? = some v → ∃ v', cs'[o + i]? = some v' ∧ VR μ v v' := fun i v hi => by
    have hi2 : i < n := by rw [← h1]; exact (List.getElem?_eq_some_iff.1 hi).1
    rw [← h2 i hi2] at hi
    exact hv.get hi
  refine VRs.of_get ?_ fun i v hi => ?_
  · rw [List.length_take, List.length_drop, h1]
    rcases Nat.eq_zero_or_pos n with hn | hn
    · omega
    · obtain ⟨v', a1, _⟩ := hall (n - 1) r[n - 1] (by simp [show n - 1 < r.length by omega])
      have := (List.getElem?_eq_some_iff.1 a1).1
      omega
  · obtain ⟨v', a1, a2⟩ := hall i v hi
    have hi2 : i < n := by rw [← h1]; exact (List.getElem?_eq_some_iff.1 hi).1
    refine ⟨v', ?_, a2⟩
    rw [List.getElem?_take, if_pos hi2, List.getElem?_drop]
    exact a1

theorem good_part (hr : HR P ro0 B0 w0 μ h w) (t : TypeId) {cs : List Value} {cs' : Array Value} {o : Nat} {v : Value} (hv : VRs μ cs cs'.toList) (hp : partOf P t cs o = some v) :
    GoodV P ro0 B0 w0 μ h v ((part t cs' o).run P w) := by
  unfold partOf at hp
  split at hp
  · rename_i hagg
    split at hp
    · rename_i n hn
      split at hp
      · rename_i r hr2
        cases hp
        have hvr := hv.take? hr2
        refine ⟨μ, w, .agg (cs'.extract o (o + n)), ?_, Ext.refl _, hr, .agg _ _ ?_⟩
        · simp [part, run_isAgg' hagg, run_sizeOf' hn]
        · simpa [Array.toList_extract, List.extract] using hvr
      · cases hp
    · cases hp
  · rename_i hagg
    obtain ⟨v', h1, h2⟩ := hv.get hp
    rw [Array.getElem?_toList] at h1
    exact ⟨μ, w, v', by simp [part, run_isAgg' hagg, h1], Ext.refl _, hr, h2⟩
  · cases hp

/-- Parts of a literal, related one by one. -/
inductive PRs (μ : Mu) : List (Nat × Value) → List (Nat × Value) → Prop
  | nil : PRs μ [] []
  | cons (i : Nat) (v v' : Value) (l l' : List (Nat × Value)) (h : VR μ v v') (hs : PRs μ l l') : PRs μ ((i, v) :: l) ((i, v') :: l')

theorem foldl_set_get (off : Nat) : ∀ (vs : List Value) (k : Nat) (cs : Array Value), ((vs.zipIdx k).foldl (fun cs (x : Value × Nat) => cs.setIfInBounds (off + x.2) x.1) cs).size = cs.size ∧
    (off + k + vs.length ≤ cs.size → ∀ j, ((vs.zipIdx k).foldl (fun cs (x : Value × Nat) => cs.setIfInBounds (off + x.2) x.1) cs)[j]? = if off + k ≤ j ∧ j < off + k + vs.length then vs[j - (off + k)]? else cs[j]?)
  | [], k, cs => by
    refine ⟨rfl, fun _ j => ?_⟩
    rw [if_neg (by simp only [List.length_nil]; omega)]
    rfl
  | v :: vs, k, cs => by
    obtain ⟨h1, h2⟩ := foldl_set_get off vs (k + 1) (cs.setIfInBounds (off + k) v)
    simp only [List.zipIdx_cons, List.foldl_cons]
    refine ⟨by rw [h1]; simp, fun hl j => ?_⟩
    rw [h2 (by simp at hl ⊢; omega) j]
    by_cases hj : j = off + k
    · subst hj
      rw [if_neg (by omega), if_pos ⟨by omega, by simp only [List.length_cons]; omega⟩]
      have : off + k < cs.size := by simp at hl; omega
      simp [this]
    · by_cases hj2 : off + (k + 1) ≤ j ∧ j < off + (k + 1) + vs.length
      · rw [if_pos hj2, if_pos ⟨by omega, by simp only [List.length_cons]; omega⟩]
        have e : j - (off + k) = (j - (off + (k + 1))) + 1 := by omega
        rw [e]; simp
      · rw [if_neg hj2, if_neg (by simp only [List.length_cons]; omega), Array.getElem?_setIfInBounds_ne (by omega)]

theorem good_fill (place : Nat → Option (Nat × Nat)) : ∀ {ps ps' : List (Nat × Value)} {cs r : List Value} {cs' : Array Value}, PRs μ ps ps' → VRs μ cs cs'.toList → fillIn place cs ps = some r →
    ∃ r', Instr.fill place cs' ps' = some r' ∧ VRs μ r r'.toList
  | [], ps', cs, r, cs', hp, hc, hf => by
    cases hp
    simp only [fillIn] at hf
    cases hf
    exact ⟨cs', rfl, hc⟩
  | (i, v) :: ps, ps', cs, r, cs', hp, hc, hf => by
    cases hp with
    | cons _ _ v' _ ps' hv hps =>
    simp only [fillIn] at hf
    split at hf
    · cases hf
    · rename_i off size hpl
      split at hf
      · rename_i hsz
        split at hf
        · rename_i cs2 hput
          obtain ⟨p1, p2, p3⟩ := put?_spec hput
          have hl := hc.length
          have hvs : v'.cells.size = size := by rw [hv.size]; exact hsz.1
          have hvl : v.cells.toList.length = size := by simpa using hsz.1
          have hvl' : v'.cells.toList.length = size := by simpa using hvs
          have hle : off + v'.cells.size ≤ cs'.size := by
            rw [Array.length_toList] at hl
            rcases p2 with p2 | p2
            · rw [p2] at hvl; exact absurd hvl.symm hsz.2
            · rw [hvs, hl, ← hvl]; exact p2
          have hnext : ∀ cs3 : Array Value, VRs μ cs2 cs3.toList → ∃ r', Instr.fill place cs3 ps' = some r' ∧ VRs μ r r'.toList := fun cs3 h3 => good_fill place hps h3 hf
          have hfold := foldl_set_get off v'.cells.toList 0 cs'
          obtain ⟨r', q1, q2⟩ := hnext (v'.cells.zipIdx.foldl (fun cs (x : Value × Nat) => cs.setIfInBounds (off + x.2) x.1) cs') (by
            rw [← Array.foldl_toList, Array.toList_zipIdx]
            refine VRs.of_get ?_ fun j x hj => ?_
            · rw [Array.length_toList, hfold.1, p1, ← hl, Array.length_toList]
            · rw [Array.getElem?_toList, hfold.2 (by simpa using hle) j]
              rw [p3 j] at hj
              simp only [Nat.add_zero]
              by_cases hcond : off ≤ j ∧ j < off + v.cells.toList.length
              · rw [if_pos hcond] at hj
                rw [if_pos (by rw [hvl']; rw [hvl] at hcond; exact hcond)]
                exact hv.cells.get hj
              · rw [if_neg hcond] at hj
                rw [if_neg (by rw [hvl']; rw [hvl] at hcond; exact hcond)]
                obtain ⟨v2, b1, b2⟩ := hc.get hj
                exact ⟨v2, by simpa using b1, b2⟩)
          refine ⟨r', ?_, q2⟩
          simp only [Instr.fill, hpl]
          rw [if_neg]
          · exact q1
          · simp only [Bool.or_eq_true, decide_eq_true_eq, not_or]
            exact ⟨fun hh => hh hvs, by omega⟩
        · cases hf
      · cases hf

end Go.Abs

namespace Go.Abs
open Go.RowKit
set_option linter.unusedSimpArgs false
set_option linter.unusedVariables false
variable {P : Program} {ro0 B0 : Nat} {w0 : World} {μ : Mu} {h : Heap} {w : World} {e : Env} {a : Act}

theorem rep_length (z : List Value) : ∀ n, (rep z n).length = n * z.length
  | 0 => by simp [rep]
  | n + 1 => by simp [rep, rep_length z n, Nat.succ_mul, Nat.add_comm]
theorem rep_get (z : List Value) : ∀ n j, (rep z n)[j]? = if j < n * z.length then z[j % z.length]? else none
  | 0, j => by simp [rep]
  | n + 1, j => by
    simp only [rep]
    rw [List.getElem?_append]
    by_cases hj : j < z.length
    · rw [if_pos hj, if_pos (by rw [Nat.succ_mul]; omega), Nat.mod_eq_of_lt hj]
    · rw [if_neg hj, rep_get z n (j - z.length)]
      have e1 : (j - z.length < n * z.length) ↔ (j < (n + 1) * z.length) := by rw [Nat.succ_mul]; omega
      by_cases hc : j < (n + 1) * z.length
      · rw [if_pos (e1.2 hc), if_pos hc, Nat.mod_eq_sub_mod (Nat.le_of_not_lt hj)]
      · rw [if_neg (fun hh => hc (e1.1 hh)), if_neg hc]
theorem made_rep (z : Array Value) (n : Nat) : (madeCells z (n * z.size)).toList = rep z.toList n := by
  apply List.ext_getElem?
  intro j
  rw [rep_get, Array.length_toList, Array.getElem?_toList]
  by_cases hj : j < n * z.size
  · rw [if_pos hj]
    have hz : j % z.size < z.size := Nat.mod_lt _ (by rcases Nat.eq_zero_or_pos z.size with h | h; · rw [h] at hj; simp at hj
                                                      · exact h)
    simp [madeCells, hj, hz]
  · rw [if_neg hj]
    simp [madeCells, hj]
theorem plain_cells {n : Nat} {z : Value} (hz : plainB n z = true) : VRs μ z.cells.toList z.cells.toList := (VR.plain n z hz).cells
theorem VRs.rep {z z' : List Value} (hz : VRs μ z z') : ∀ n, VRs μ (rep z n) (rep z' n)
  | 0 => .nil
  | n + 1 => hz.append (VRs.rep hz n)

theorem good_makeSlice (hr : HR P ro0 B0 w0 μ h w) {t elem : TypeId} {i : TypeInfo} {z : Value} (ht : P.underlying t = some (.slice elem)) (hi : P.info? elem = some i) (hz : zeroOf P elem = some z)
    {n m : Int} (h0 : 0 ≤ n) (h1 : n ≤ m) (h2 : m ≤ bigLimit) (h3 : i.bytes * m.toNat ≤ bigLimit) :
    GoodV P ro0 B0 w0 μ (h.push (.cells i.size (rep z.cells.toList m.toNat))) (.slice (some ⟨h.next, 0, none⟩) n.toNat m.toNat) ((Instr.makeSlice t (.int .i64 n) (.int .i64 m)).run P w) := by
  obtain ⟨i', hi', hz1, hz2, hz3⟩ := zeroOf_spec hz
  rw [hi] at hi'; cases hi'
  have hb : (i.bytes : Int) * m ≤ 281474976710656 := by
    have : ((i.bytes * m.toNat : Nat) : Int) ≤ 281474976710656 := by unfold bigLimit at h3; omega
    rw [Int.natCast_mul] at this
    rwa [Int.toNat_of_nonneg (by omega)] at this
  have hrun := run_make (P := P) w t elem i z ht hi hz1 .i64 .i64 n m h0 h1 hb (by unfold bigLimit at h2; omega)
  have hmade : VRs μ (rep z.cells.toList m.toNat) (madeCells z.cells (m.toNat * i.size)).toList := by
    rw [← hz3, made_rep]
    exact (plain_cells hz2).rep _
  have hsz : (madeCells z.cells (m.toNat * i.size)).size = m.toNat * i.size := size_madeCells _ _
  refine ⟨_, _, _, hrun, hr.ext _, hr.row elem i.size hmade, VR.slice h.next 0 n.toNat m.toNat m.toNat _ (upd_self _ _ _) (by omega) (Nat.le_refl _) ?_⟩
  simp [hsz]

theorem run_buildSlice' (hr : HR P ro0 B0 w0 μ h w) {t elem : TypeId} {s n : Nat} {z : Value} (ht : P.underlying t = some (.slice elem)) (hs : sizeOf? P elem = some s) (hz : zeroOf P elem = some z)
    {ps ps' : List (Nat × Value)} {cs : List Value} (hp : PRs μ ps ps') (hb : n * s ≤ 2 ^ 24) (hf : fillIn (fun i => some (i * s, s)) (rep z.cells.toList n) ps = some cs) :
    ∃ r' : Array Value, VRs μ cs r'.toList ∧ r'.size = n * s ∧ (Instr.buildSlice t n ps'.toArray).run P w = .ok (.slice (some ⟨w.heap.size, 0, none⟩) n n) (w.alloc (.cells r' elem)) := by
  obtain ⟨i, hi, hz1, hz2, hz3⟩ := zeroOf_spec hz
  have hsi : i.size = s := by
    unfold sizeOf? at hs; rw [hi] at hs; simpa using hs
  rw [hsi] at hz3
  have hmade : VRs μ (rep z.cells.toList n) (madeCells z.cells (n * s)).toList := by
    rw [← hz3, made_rep]
    exact (plain_cells hz2).rep _
  obtain ⟨r', f1, f2⟩ := good_fill (fun i => some (i * s, s)) hp hmade hf
  have hlen : r'.size = n * s := by
    have h1 : ∀ {ps : List (Nat × Value)} {cs r : List Value}, fillIn (fun i => some (i * s, s)) cs ps = some r → r.length = cs.length := by
      intro ps
      induction ps with
      | nil => intro cs r hh; simp only [fillIn] at hh; cases hh; rfl
      | cons p ps ih =>
        intro cs r hh
        obtain ⟨j, v⟩ := p
        simp only [fillIn] at hh
        split at hh
        · split at hh
          · rename_i c2 hc2
            rw [ih hh, (put?_spec hc2).1]
          · cases hh
        · cases hh
    have := f2.length
    rw [h1 hf, rep_length, Array.length_toList, Array.length_toList, hz3] at this
    exact this
  refine ⟨r', f2, hlen, ?_⟩
  have hnb : ¬ (2 ^ 24 < n * s) := by omega
  have hcells : ∀ zz : Array Value, (n * s = 0 → zz = #[]) → (n * s ≠ 0 → zz = z.cells) → (Array.range (n * s)).map (zz[· % zz.size]!) = madeCells z.cells (n * s) := by
    intro zz e1 e2
    by_cases hh : n * s = 0
    · rw [e1 hh, hh]; simp [madeCells]
    · rw [e2 hh]; rfl
  by_cases hh : n * s = 0
  · have e := hcells #[] (fun _ => rfl) (fun h2 => absurd hh h2)
    simp only [Instr.buildSlice, Sem.run_bind, run_underlying ht, Result.andThen_ok, run_sizeOf' hs, gt_iff_lt, if_neg hnb, if_pos hh, Sem.run_pure, e, f1, run_newRow']
  · have e := hcells z.cells (fun h2 => absurd h2 hh) (fun _ => rfl)
    simp only [Instr.buildSlice, Sem.run_bind, run_underlying ht, Result.andThen_ok, run_sizeOf' hs, gt_iff_lt, if_neg hnb, if_neg hh, Sem.run_pure, run_zeroValue' hz, e, f1, run_newRow']

theorem good_buildSlice (hr : HR P ro0 B0 w0 μ h w) {t elem : TypeId} {s n : Nat} {z : Value} (ht : P.underlying t = some (.slice elem)) (hs : sizeOf? P elem = some s) (hz : zeroOf P elem = some z)
    {ps ps' : List (Nat × Value)} {cs : List Value} (hp : PRs μ ps ps') (hb : n * s ≤ 2 ^ 24) (hf : fillIn (fun i => some (i * s, s)) (rep z.cells.toList n) ps = some cs) :
    GoodV P ro0 B0 w0 μ (h.push (.cells s cs)) (.slice (some ⟨h.next, 0, none⟩) n n) ((Instr.buildSlice t n ps'.toArray).run P w) := by
  obtain ⟨r', f2, hlen, hrun⟩ := run_buildSlice' hr ht hs hz hp hb hf
  exact ⟨_, w.alloc (.cells r' elem), .slice (some ⟨w.heap.size, 0, none⟩) n n, hrun, hr.ext ⟨w.heap.size, 0, s, r'.size⟩, hr.row elem s f2, VR.slice h.next 0 n n n _ (upd_self _ _ _) (Nat.le_refl _) (Nat.le_refl _) (by simp [hlen])⟩

/-! ### Slices, addresses -/
theorem run_sliceBound' (code : BoundsCode) (k : IntKind) (i : Int) (n : Nat) (hi : 0 ≤ i ∧ i ≤ n) (w : World) : (Instr.sliceBound (.int k i) n code).run P w = .ok i.toNat w := by
  simp [Instr.sliceBound, asIntOf, hi.1, hi.2]

inductive OR (μ : Mu) : Option Value → Option Value → Prop
  | none : OR μ none none
  | some (v v' : Value) (h : VR μ v v') : OR μ (some v) (some v')

theorem bnd_some {d n : Nat} {v v' : Value} {m : Nat} (hb : bnd d n (some v) = some m) (hv : VR μ v v') : ∃ k i, v' = .int k i ∧ 0 ≤ i ∧ i ≤ n ∧ m = i.toNat := by
  unfold bnd at hb
  split at hb
  · cases ‹some v = none›
  · rename_i k i heq
    cases heq
    split at hb
    · rename_i hb2
      cases hb
      exact ⟨k, i, hv.int_inv, hb2.1, hb2.2, rfl⟩
    · cases hb
  · cases hb

/-- The bounds, of the interpreter's and of the machine's slice. -/
theorem good_bounds (b : Bool) {n c c' : Nat} (hc : c ≤ c') {lo hi lo' hi' : Option Value} {m l : Nat} (hlo : OR μ lo lo') (hhi : OR μ hi hi')
    (hh : bnd n c hi = some m) (hl : bnd 0 m lo = some l) :
    (Instr.sliceBounds b n c' lo' hi' none).run P w = .ok (l, m, c') w ∧ l ≤ m ∧ (m = n ∨ m ≤ c) := by
  cases hhi with
  | none =>
    simp only [bnd] at hh; cases hh
    cases hlo with
    | none => simp only [bnd] at hl; cases hl; exact ⟨rfl, Nat.zero_le _, .inl rfl⟩
    | some v v' hv =>
      obtain ⟨k, i, rfl, h1, h2, rfl⟩ := bnd_some hl hv
      refine ⟨?_, by omega, .inl rfl⟩
      simp only [Instr.sliceBounds, Sem.run_bind, Sem.run_pure, Result.andThen_ok, run_sliceBound' _ k i n ⟨h1, h2⟩]
  | some u u' hu =>
    obtain ⟨k, i, rfl, h1, h2, rfl⟩ := bnd_some hh hu
    have hb := run_sliceBound' (P := P) (if b then .sliceAcap else .sliceAlen) k i c' ⟨h1, by omega⟩ w
    cases hlo with
    | none =>
      simp only [bnd] at hl; cases hl
      refine ⟨?_, Nat.zero_le _, .inr (by omega)⟩
      simp only [Instr.sliceBounds, Sem.run_bind, Sem.run_pure, Result.andThen_ok, hb]
    | some v v' hv =>
      obtain ⟨k2, i2, rfl, h3, h4, rfl⟩ := bnd_some hl hv
      refine ⟨?_, by omega, .inr (by omega)⟩
      simp only [Instr.sliceBounds, Sem.run_bind, Sem.run_pure, Result.andThen_ok, hb, run_sliceBound' _ k2 i2 i.toNat ⟨h3, h4⟩]

theorem good_slice (hr : HR P ro0 B0 w0 μ h w) (t : TypeId) {x x' v : Value} {lo hi lo' hi' : Option Value} (hx : VR μ x x') (hlo : OR μ lo lo') (hhi : OR μ hi hi')
    (hv : sliceOp P h t x lo hi = some v) : GoodV P ro0 B0 w0 μ h v ((Instr.sliceAt t x' lo' hi' none).run P w) := by
  unfold sliceOp at hv
  split at hv
  · rename_i s ht
    have e1 := hx.string_inv; subst e1
    split at hv
    · rename_i m hm
      split at hv
      · rename_i l hl
        cases hv
        obtain ⟨h1, _⟩ := good_bounds (P := P) (w := w) (μ := μ) false (Nat.le_refl s.size) hlo hhi hm hl
        exact ⟨μ, w, _, by simp [Instr.sliceAt, Instr.slice, run_underlying ht, h1], Ext.refl _, hr, .string _⟩
      · cases hv
    · cases hv
  · rename_i elem ad n c ht
    split at hv
    · rename_i m hm
      split at hv
      · rename_i l hl
        split at hv
        · rename_i sz hsz
          have run : ∀ (ad' : Option Addr) (c' : Nat), c ≤ c' → x' = .slice ad' n c' →
              (Instr.sliceAt t x' lo' hi' none).run P w = .ok (.slice (if c' = l then ad' else ad'.map (·.add (l * sz))) (m - l) (c' - l)) w ∧ l ≤ m ∧ (m = n ∨ m ≤ c) := fun ad' c' hc e => by
            subst e
            obtain ⟨h1, h2, h3⟩ := good_bounds (P := P) (w := w) (μ := μ) true hc hlo hhi hm hl
            exact ⟨by simp [Instr.sliceAt, Instr.slice, run_underlying ht, h1, run_sizeOf' hsz], h2, h3⟩
          split at hv
          · cases hv
            cases hx
            obtain ⟨h1, h2, h3⟩ := run none 0 (Nat.le_refl _) rfl
            have hm0 : m = 0 := by omega
            have hl0 : l = 0 := by omega
            subst hm0; subst hl0
            exact ⟨μ, w, _, by rw [h1]; rfl, Ext.refl _, hr, .nils⟩
          · rename_i ad0
            obtain ⟨b, o, sp⟩ := ad0
            rcases hx.slice_inv with ⟨lc, c', rfl, h1, h2, h3, h4, e⟩ | ⟨a', c', rfl, rfl, rfl, rfl, rfl, e⟩
            · obtain ⟨r1, r2, r3⟩ := run _ c' h3 e
              have hmc : m ≤ c := by omega
              simp only [Option.isSome_none, Bool.false_eq_true, if_false] at hv
              split at hv
              · rename_i hcl
                cases hv
                have : m - l = 0 := by omega
                rw [this] at r1
                refine ⟨μ, w, _, r1, Ext.refl _, hr, ?_⟩
                split
                · exact .empty _ _
                · exact .empty _ _
              · rename_i hcl
                split at hv
                · rename_i sz' cs hg
                  split at hv
                  · rename_i hsz2
                    cases hv
                    subst hsz2
                    have hls : lc.sz = sz' := by
                      obtain ⟨obj, g1, g2⟩ := hr.blk b lc _ h1 hg (by simp)
                      cases obj <;> simp only [BR] at g2
                      exact g2.1
                    refine ⟨μ, w, _, r1, Ext.refl _, hr, ?_⟩
                    rw [if_neg (by omega)]
                    simp only [Option.map_some, addr_add]
                    have := VR.slice (μ := μ) b (o + l * sz') (m - l) (c - l) (c' - l) lc h1 (by omega) (by omega) (by
                      rw [hls] at h4 ⊢
                      have e2 : l * sz' + (c' - l) * sz' = c' * sz' := by rw [← Nat.add_mul]; congr 1; omega
                      omega)
                    rw [← Nat.add_assoc] at this; exact this
                  · cases hv
                · cases hv
            · obtain ⟨r1, r2, r3⟩ := run _ c' (Nat.zero_le _) e
              simp only [Option.isSome_some, if_true] at hv
              cases hv
              have hm0 : m = 0 := by omega
              have hl0 : l = 0 := by omega
              subst hm0; subst hl0
              refine ⟨μ, w, _, r1, Ext.refl _, hr, ?_⟩
              split <;> exact .empty _ _
        · cases hv
      · cases hv
    · cases hv
  · rename_i n elem ad ht
    obtain ⟨b, o, sp⟩ := ad
    obtain ⟨lc, rfl, h1, e⟩ := hx.ptr_inv
    subst e
    split at hv
    · rename_i m hm
      split at hv
      · rename_i l hl
        split at hv
        · rename_i sz hsz
          simp only [Option.isSome_none, Bool.false_eq_true, if_false] at hv
          obtain ⟨r1, r2, r3⟩ := good_bounds (P := P) (w := w) (μ := μ) false (Nat.le_refl n) hlo hhi hm hl
          split at hv
          · rename_i sz' cs hg
            split at hv
            · rename_i hc
              obtain ⟨hc1, hc2⟩ := hc
              subst hc1
              obtain ⟨obj, g1, g2⟩ := hr.blk b lc _ h1 hg (by simp)
              have hls : lc.sz = sz' := by cases obj <;> simp only [BR] at g2; exact g2.1
              have hlen : lc.off + cs.length ≤ lc.tot := by cases obj <;> simp only [BR] at g2; exact g2.2.2.1
              have run : (Instr.sliceAt t (.pointer (some ⟨lc.blk, lc.off + o, none⟩)) lo' hi' none).run P w = .ok (.slice (some (if n = l then ⟨lc.blk, lc.off + o, none⟩ else (⟨lc.blk, lc.off + o, none⟩ : Addr).add (l * sz'))) (m - l) (n - l)) w := by
                simp [Instr.sliceAt, Instr.sureAddr, run_underlying ht, r1, run_sizeOf' hsz]
              split at hv
              · rename_i hnl
                cases hv
                have e0 : m - l = 0 := by omega
                rw [e0] at run
                exact ⟨μ, w, _, run, Ext.refl _, hr, .empty _ _⟩
              · rename_i hnl
                cases hv
                rw [if_neg hnl] at run
                refine ⟨μ, w, _, run, Ext.refl _, hr, ?_⟩
                rw [addr_add, addr_add]
                have := VR.slice (μ := μ) b (o + l * sz') (m - l) (n - l) (n - l) lc h1 (by omega) (Nat.le_refl _) (by
                  rw [hls]
                  have e2 : l * sz' + (n - l) * sz' = n * sz' := by rw [← Nat.add_mul]; congr 1; omega
                  omega)
                rw [← Nat.add_assoc] at this; exact this
            · cases hv
          · cases hv
        · cases hv
      · cases hv
    · cases hv
  · cases hv

end Go.Abs

namespace Go.Abs
open Go.RowKit
set_option linter.unusedSimpArgs false
set_option linter.unusedVariables false
variable {P : Program} {ro0 B0 : Nat} {w0 : World} {μ : Mu} {h : Heap} {w : World}

theorem VRs.intsEq : ∀ {l l' : List Value}, l.all isIntV = true → VRs μ l l' → l' = l
  | [], _, _, hv => by cases hv; rfl
  | v :: l, _, h, hv => by
    cases hv with
    | cons _ v' _ l' hv hl =>
      simp only [List.all_cons, Bool.and_eq_true] at h
      cases v with
      | int k n => rw [hv.int_inv, VRs.intsEq h.2 hl]
      | _ => simp [isIntV] at h
theorem VR.key {k k' : Value} (hv : VR μ k k') (h : isKeyB k = true) : k' = k := by
  cases hv with
  | bool b => rfl
  | int _ _ => rfl
  | string s => rfl
  | agg a a' hv =>
    simp only [isKeyB] at h
    have := hv.intsEq h
    rw [← Array.toList_inj.1 this]
  | _ => simp [isKeyB] at h

theorem isKindB_spec {q : IntKind} {d : Option TypeDesc} (h : isKindB q d = true) : d = some (.int q) := by
  unfold isKindB at h
  split at h
  · simp only [decide_eq_true_eq] at h; subst h; rfl
  · cases h
theorem run_partInt {t : TypeId} {q : IntKind} (hu : P.underlying t = some (.int q)) {cs : Array Value} {o : Nat} {v : Value} (hv : cs[o]? = some v) (w : World) : (part t cs o).run P w = .ok v w := by
  have ha : isAgg? P t = some false := by simp [isAgg?, hu]
  simp [part, run_isAgg' ha, hv]

theorem intFields_cons {f : Field} {fs : List Field} {i : Nat} {l : List Value} (h : intFields P (f :: fs) i l = true) :
    ∃ q n r, l = .int q n :: r ∧ P.underlying f.type = some (.int q) ∧ f.offset = i ∧ f.name ≠ "_" ∧ intFields P fs (i + 1) r = true := by
  cases l with
  | nil => simp [intFields] at h
  | cons v r =>
    cases v with
    | int q n =>
      simp only [intFields, Bool.and_eq_true, beq_iff_eq, bne_iff_ne, ne_eq] at h
      obtain ⟨⟨⟨h1, h2⟩, h3⟩, h4⟩ := h
      exact ⟨q, n, r, rfl, isKindB_spec h1, h2, h3, h4⟩
    | _ => simp [intFields] at h
theorem intFields_nil {i : Nat} {l : List Value} (h : intFields P [] i l = true) : l = [] := by
  cases l with
  | nil => rfl
  | cons v r => simp [intFields] at h
theorem intFields_ints : ∀ {fs : List Field} {i : Nat} {l : List Value}, intFields P fs i l = true → l.all isIntV = true
  | [], _, _, h => by rw [intFields_nil h]; rfl
  | f :: fs, i, l, h => by
    obtain ⟨q, n, r, rfl, _, _, _, h4⟩ := intFields_cons h
    simp [isIntV, intFields_ints h4]

theorem keyOk_isKeyB {kt : TypeId} {k : Value} (h : keyOk P kt k = true) : isKeyB k = true := by
  unfold keyOk at h
  split at h
  · rfl
  · rfl
  · rfl
  · simp only [Bool.and_eq_true] at h; exact intFields_ints h.2
  · cases h

/-- What a key may be. -/
inductive KK (P : Program) (kt : TypeId) : Value → Prop
  | lit (d : TypeDesc) (k : Value) (hu : P.underlying kt = some d) (hk : MapKept.IsKey d k) : KK P kt k
  | str (fs : Array Field) (cs : Array Value) (hu : P.underlying kt = some (.struct fs)) (hs : P.stoodInHeld kt = false) (hf : intFields P fs.toList 0 cs.toList = true) : KK P kt (.agg cs)
theorem keyOk_KK {kt : TypeId} {k : Value} (h : keyOk P kt k = true) : KK P kt k := by
  unfold keyOk at h
  split at h
  · rename_i hu; exact .lit _ _ hu trivial
  · rename_i hu; simp only [decide_eq_true_eq] at h; exact .lit _ _ hu h.symm
  · rename_i hu; exact .lit _ _ hu trivial
  · rename_i hu; simp only [Bool.and_eq_true, Bool.not_eq_true'] at h; exact .str _ _ hu h.1 h.2
  · cases h

theorem run_checkKeyM {kt : TypeId} {k : Value} (h : keyOk P kt k = true) (em : Bool) (n : Nat) (w : World) : (Instr.checkKey em (n + 2) kt k).run P w = .ok () w := by
  cases keyOk_KK h with
  | lit d k hu hk => exact MapKept.run_checkKey hu hk em (n + 1)
  | str fs cs hu hs hf =>
    unfold Instr.checkKey
    simp only [Sem.run_bind, run_underlying hu, Result.andThen_ok]
    rw [← Array.forIn_toList]
    have key : ∀ (fl : List Field) (i : Nat) (l : List Value), (∀ j v, l[j]? = some v → cs[i + j]? = some v) → intFields P fl i l = true →
        (forIn fl PUnit.unit fun f (_ : PUnit) => (if f.name ≠ "_" then (do
            Instr.checkKey em (n + 1) f.type (← part f.type cs f.offset)
            pure (ForInStep.yield PUnit.unit)) else pure (ForInStep.yield PUnit.unit) : Sem (ForInStep PUnit))).run P w = .ok PUnit.unit w := by
      intro fl
      induction fl with
      | nil => intro i l _ _; simp
      | cons f fl ih =>
        intro i l hl hf
        obtain ⟨q, m, r, rfl, h1, h2, h3, h4⟩ := intFields_cons hf
        have hp := run_partInt h1 (hl 0 _ rfl) w
        rw [Nat.add_zero, ← h2] at hp
        have hc : (Instr.checkKey em (n + 1) f.type (.int q m)).run P w = .ok () w := MapKept.run_checkKey (k := .int q m) h1 (by simp [MapKept.IsKey]) em n
        have := ih (i + 1) r (fun j v hj => by have := hl (j + 1) v (by simpa using hj); rw [← this]; congr 1; omega) h4
        simp only [List.forIn_cons, Sem.run_bind, Sem.run_ite, h3, ne_eq, not_false_eq_true, if_true, hp, hc, Result.andThen_ok, Sem.run_pure]
        exact this
    have := key fs.toList 0 cs.toList (fun j v hj => by simpa using hj) hf
    rw [this]
    rfl

theorem run_eqFieldsM (d : Nat) (xs ys : Array Value) (w : World) : ∀ (fs : List Field) (i : Nat) (la lb : List Value), (∀ j v, la[j]? = some v → xs[i + j]? = some v) → (∀ j v, lb[j]? = some v → ys[i + j]? = some v) →
    intFields P fs i la = true → intFields P fs i lb = true → (Op.eqFields (d + 1) xs ys fs).run P w = .ok (keyEqL la lb) w := by
  intro fs
  induction fs with
  | nil => intro i la lb _ _ ha hb; rw [intFields_nil ha, intFields_nil hb]; simp [Op.eqFields, keyEqL]
  | cons f fs ih =>
    intro i la lb ga gb ha hb
    obtain ⟨q, m, r, rfl, h1, h2, h3, h4⟩ := intFields_cons ha
    obtain ⟨q', m', r', rfl, h1', _, _, h4'⟩ := intFields_cons hb
    rw [h1] at h1'; cases h1'
    have hp := run_partInt h1 (ga 0 _ rfl) w
    have hp' := run_partInt h1 (gb 0 _ rfl) w
    rw [Nat.add_zero, ← h2] at hp hp'
    have := ih (i + 1) r r' (fun j v hj => by have := ga (j + 1) v (by simpa using hj); rw [← this]; congr 1; omega) (fun j v hj => by have := gb (j + 1) v (by simpa using hj); rw [← this]; congr 1; omega) h4 h4'
    simp only [Op.eqFields, h3, ne_eq, not_false_eq_true, if_true, Sem.run_bind, hp, hp', Result.andThen_ok, run_equalIn_int w d f.type q q m m' h1]
    cases hm : (m == m')
    · simp [keyEqL, hm]
    · simp [keyEqL, hm, this]

theorem keyEqL_eq : ∀ {fs : List Field} {i : Nat} {la lb : List Value}, intFields P fs i la = true → intFields P fs i lb = true → keyEqL la lb = true → la = lb
  | [], _, _, _, ha, hb, _ => by rw [intFields_nil ha, intFields_nil hb]
  | f :: fs, i, la, lb, ha, hb, h => by
    obtain ⟨q, m, r, rfl, h1, h2, h3, h4⟩ := intFields_cons ha
    obtain ⟨q', m', r', rfl, h1', _, _, h4'⟩ := intFields_cons hb
    rw [h1] at h1'; cases h1'
    simp only [keyEqL, Bool.and_eq_true, beq_iff_eq] at h
    rw [h.1, keyEqL_eq h4 h4' h.2]
theorem bytes_toList_inj {a b : ByteArray} (h : a.toList = b.toList) : a = b := by
  rw [ByteArray.toList_eq, ByteArray.toList_eq] at h
  obtain ⟨x⟩ := a
  obtain ⟨y⟩ := b
  have : x = y := Array.toList_inj.1 h
  rw [this]
theorem keyEq_eq {kt : TypeId} {k k' : Value} (h : keyOk P kt k = true) (h' : keyOk P kt k' = true) (he : keyEq k k' = true) : k = k' := by
  unfold keyOk at h h'
  split at h
  · rename_i hu; rw [hu] at h'
    cases k' <;> simp [keyEq] at he h' ⊢; exact he
  · rename_i hu; rw [hu] at h'
    cases k' <;> simp [keyEq] at he h' ⊢
    simp only [decide_eq_true_eq] at h
    exact ⟨by rw [← h, ← h'], he⟩
  · rename_i hu; rw [hu] at h'
    cases k' <;> simp [keyEq] at he h' ⊢; exact bytes_toList_inj he
  · rename_i fs cs hu; rw [hu] at h'
    cases k' <;> simp [keyEq] at he h' ⊢
    simp only [Bool.and_eq_true, Bool.not_eq_true'] at h
    have := keyEqL_eq h.2 h'.2 he
    exact Array.toList_inj.1 this
  · cases h
theorem sameBits_refl {n : Nat} {k : Value} (h : isKeyB k = true) : Instr.sameBits (n + 1) k k = true := by
  cases k with
  | bool b => simp [Instr.sameBits]
  | int q m => simp [Instr.sameBits]
  | string s => simp [Instr.sameBits, MapKept.bytes_beq]
  | agg cs =>
    simp only [isKeyB] at h
    simp only [Instr.sameBits, beq_self_eq_true, Bool.true_and]
    have : ∀ l : List Value, l.all isIntV = true → ((l.zip l).all fun (x, y) => Instr.sameBits n x y) = true := by
      intro l
      induction l with
      | nil => intro _; rfl
      | cons v l ih =>
        intro hl
        simp only [List.all_cons, Bool.and_eq_true] at hl
        simp only [List.zip_cons_cons, List.all_cons, Bool.and_eq_true]
        refine ⟨?_, ih hl.2⟩
        cases v with
        | int q m => cases n <;> simp [Instr.sameBits]
        | _ => simp [isIntV] at hl
    exact this _ h
  | _ => simp [isKeyB] at h

/-- Are two keys equal? The machine's answers are ours. -/
theorem sameNowM {kt : TypeId} {d : TypeDesc} {k k' : Value} (hu : P.underlying kt = some d) (hk : MapKept.IsKey d k) (h' : keyOk P kt k' = true) : Instr.sameNow d k k' = some (keyEq k k') := by
  cases keyOk_KK h' with
  | lit d' k' hu' hk' =>
    rw [hu] at hu'; cases hu'
    cases d <;> cases k <;> cases k' <;> simp_all [MapKept.IsKey, Instr.sameNow, keyEq, beq_toListBytes]
  | str fs cs hu' hs hf =>
    rw [hu] at hu'; cases hu'
    cases k <;> simp [MapKept.IsKey] at hk

inductive ERs (μ : Mu) : List (Value × Value) → List MapEntry → Prop
  | nil : ERs μ [] []
  | cons (k v : Value) (e : MapEntry) (l : List (Value × Value)) (l' : List MapEntry) (hk : VR μ k e.key) (hv : VR μ v e.val) (hl : ERs μ l l') : ERs μ ((k, v) :: l) (e :: l')
theorem ERs.of : ∀ {es : List (Value × Value)} {l : List MapEntry}, es.length = l.length → (∀ (i : Nat) (k v : Value), es[i]? = some (k, v) → ∃ e' : MapEntry, l[i]? = some e' ∧ VR μ k e'.key ∧ VR μ v e'.val) → ERs μ es l
  | [], [], _, _ => .nil
  | [], _ :: _, h, _ => by simp at h
  | _ :: _, [], h, _ => by simp at h
  | (k, v) :: es, e :: l, h, g => by
    obtain ⟨e', h1, h2, h3⟩ := g 0 k v rfl
    simp at h1; subst h1
    exact .cons _ _ _ _ _ h2 h3 (ERs.of (by simpa using h) fun i k v hi => by simpa using g (i + 1) k v (by simpa using hi))

/-- What the search finds. -/
def Found (μ : Mu) (P : Program) (kt : TypeId) (k : Value) (l : List MapEntry) (i : Nat) : Option (Nat × Value) → Option (Nat × Value) → Prop
  | none, none => True
  | some (j, v), some (j', v') => j = j' ∧ VR μ v v' ∧ ∃ m e, j = i + m ∧ l[m]? = some e ∧ e.val = v' ∧ e.key = k
  | _, _ => False
theorem Found.step {kt : TypeId} {k : Value} {l : List MapEntry} {e : MapEntry} {i : Nat} {r r' : Option (Nat × Value)} (h : Found μ P kt k l (i + 1) r r') : Found μ P kt k (e :: l) i r r' := by
  cases r with
  | none => cases r' with
    | none => trivial
    | some x => exact h.elim
  | some x => cases r' with
    | none => exact h.elim
    | some y =>
      obtain ⟨h1, h2, m, e', h3, h4, h5⟩ := h
      exact ⟨h1, h2, m + 1, e', by omega, by simpa using h4, h5⟩
theorem findNowM {kt : TypeId} {d : TypeDesc} {k : Value} (hu : P.underlying kt = some d) (hd : MapKept.IsKey d k) (hk : keyOk P kt k = true) : ∀ {es : List (Value × Value)} {l : List MapEntry}, ERs μ es l → ∀ {i : Nat} {r : Option (Nat × Value)}, findM P kt k es i = some r →
    ∃ r', Instr.findNow d k l i = some r' ∧ Found μ P kt k l i r r'
  | _, _, .nil, i, r, h => by simp only [findM, Option.some.injEq] at h; subst h; exact ⟨none, rfl, trivial⟩
  | _, _, .cons k' v e es l hk' hv hl, i, r, h => by
    simp only [findM] at h
    split at h
    · rename_i hok
      have ek := hk'.key (keyOk_isKeyB hok)
      rw [← ek] at h hok
      have hs := sameNowM hu hd hok
      split at h
      · rename_i he
        rw [he] at hs
        cases h
        exact ⟨some (i, e.val), by simp [Instr.findNow, hs], rfl, hv, 0, e, rfl, rfl, rfl, (keyEq_eq hk hok he).symm⟩
      · rename_i he
        have he : keyEq k e.key = false := by simpa using he
        rw [he] at hs
        obtain ⟨r', h1, h2⟩ := findNowM hu hd hk hl h
        exact ⟨r', by simp [Instr.findNow, hs, h1], h2.step⟩
    · cases h
theorem findAskM {kt : TypeId} {fs : Array Field} {k : Value} (hu : P.underlying kt = some (.struct fs)) (hs : P.stoodInHeld kt = false) (hk : keyOk P kt k = true) (w : World) : ∀ {es : List (Value × Value)} {l : List MapEntry}, ERs μ es l → ∀ {i : Nat} {r : Option (Nat × Value)}, findM P kt k es i = some r →
    ∃ r', (Instr.findAsking kt k l i).run P w = .ok r' w ∧ Found μ P kt k l i r r'
  | _, _, .nil, i, r, h => by simp only [findM, Option.some.injEq] at h; subst h; exact ⟨none, rfl, trivial⟩
  | _, _, .cons k' v e es l hk' hv hl, i, r, h => by
    simp only [findM] at h
    split at h
    · rename_i hok
      have ek := hk'.key (keyOk_isKeyB hok)
      rw [← ek] at h hok
      have hf : P.fieldsOf kt = fs := by simp [Program.fieldsOf, hu]
      have hq : (Op.equal kt k e.key).run P w = .ok (keyEq k e.key) w := by
        cases keyOk_KK hk with
        | lit d k hu' hk' => rw [hu] at hu'; cases hu'; cases k <;> simp [MapKept.IsKey] at hk'
        | str fs1 cs hu1 hs1 hf1 =>
          generalize e.key = ek2 at hok
          cases keyOk_KK hok with
          | lit d k hu' hk' => rw [hu] at hu'; cases hu'; cases ek2 <;> simp [MapKept.IsKey] at hk'
          | str fs2 cs2 hu2 hs2 hf2 =>
            rw [hu] at hu1 hu2; cases hu1; cases hu2
            have h1 := run_equalIn_struct (P := P) w 9999 kt cs cs2 (by rw [hf]; exact hu) hs
            have h2 := run_eqFieldsM (P := P) 9998 cs cs2 w fs.toList 0 cs.toList cs2.toList (fun j v hj => by simpa using hj) (fun j v hj => by simpa using hj) hf1 hf2
            rw [hf, h2] at h1
            exact h1
      split at h
      · rename_i he
        rw [he] at hq
        cases h
        exact ⟨some (i, e.val), by simp [Instr.findAsking, hq], rfl, hv, 0, e, rfl, rfl, rfl, (keyEq_eq hk hok he).symm⟩
      · rename_i he
        have he : keyEq k e.key = false := by simpa using he
        rw [he] at hq
        obtain ⟨r', h1, h2⟩ := findAskM hu hs hk w hl h
        exact ⟨r', by simp [Instr.findAsking, hq, h1], h2.step⟩
    · cases h
theorem run_findM {kt : TypeId} {k : Value} (hk : keyOk P kt k = true) (w : World) {es : List (Value × Value)} {l : List MapEntry} (hl : ERs μ es l) {r : Option (Nat × Value)} (h : findM P kt k es 0 = some r) :
    ∃ r', (Instr.findKey kt k l).run P w = .ok r' w ∧ Found μ P kt k l 0 r r' := by
  cases keyOk_KK hk with
  | lit d k hu hd =>
    obtain ⟨r', h1, h2⟩ := findNowM hu hd hk hl h
    exact ⟨r', MapKept.run_findKey hu h1, h2⟩
  | str fs cs hu hs hf =>
    obtain ⟨r', h1, h2⟩ := findAskM hu hs hk w hl h
    exact ⟨r', (run_findKey_eq w (by simp [hu]) _ _).trans h1, h2⟩

/-! ### The operations -/
theorem good_makeMap (hr : HR P ro0 B0 w0 μ h w) (t : TypeId) : GoodV P ro0 B0 w0 μ (h.push (.map [])) (.map (some h.next)) ((Instr.makeMap t none).run P w) := by
  refine ⟨upd μ h.next ⟨w.heap.size, 0, 0, 0⟩, w.alloc (.map #[] 0), .map (some w.heap.size), ?_, hr.ext _, hr.push rfl ?_, ?_⟩
  · simp [Instr.makeMap]
  · exact ⟨rfl, fun i k v hi => by simp at hi⟩
  · exact VR.map (μ := upd μ h.next ⟨w.heap.size, 0, 0, 0⟩) h.next _ (upd_self _ _ _)

theorem map_inv {b : Nat} {v' : Value} (hv : VR μ (.map (some b)) v') : ∃ l, μ b = some l ∧ v' = .map (some l.blk) := by
  cases hv with
  | map _ l h => exact ⟨l, h, rfl⟩

theorem HR.entries (hr : HR P ro0 B0 w0 μ h w) {b : Nat} {l : Loc} {es : List (Value × Value)} (hm : μ b = some l) (hg : h.get b = some (.map es)) :
    ∃ es' clock, w.heap[l.blk]? = some (.map es' clock) ∧ ERs μ es es'.toList := by
  obtain ⟨obj, h1, h2⟩ := hr.blk b l _ hm hg (by simp)
  cases obj with
  | map es' clock =>
    simp only [BR] at h2
    refine ⟨es', clock, h1, ERs.of (by simpa using h2.1) fun i k v hi => ?_⟩
    obtain ⟨e', h3, h4⟩ := h2.2 i k v hi
    exact ⟨e', by simpa using h3, h4⟩
  | _ => simp [BR] at h2

def lookTail (kt elem : TypeId) (k : Value) (ok : Bool) (es : Array MapEntry) : Sem Value := do
  Instr.checkKey es.isEmpty 10000 kt k
  let (v, ok') ← match ← Instr.findKey kt k es.toList with
    | some (_, v) => pure (v, true)
    | none => pure (← zeroValue elem, false)
  pure (if ok then .tuple #[v, .bool ok'] else v)
theorem look_nil {t kt elem : TypeId} (hu : P.underlying t = some (.map kt elem)) {k : Value} {ok : Bool} {w : World} : (Instr.lookup t (.map none) k ok).run P w = (lookTail kt elem k ok #[]).run P w := by
  unfold Instr.lookup lookTail
  simp only [Sem.run_bind, run_underlying hu, Result.andThen_ok, Sem.run_pure]
  rfl
theorem look_some {t kt elem : TypeId} (hu : P.underlying t = some (.map kt elem)) {k : Value} {ok : Bool} {w : World} {r : Nat} {es : Array MapEntry} {clock : Nat} (hb : w.heap[r]? = some (.map es clock)) :
    (Instr.lookup t (.map (some r)) k ok).run P w = (lookTail kt elem k ok es).run P w := by
  unfold Instr.lookup lookTail
  simp only [Sem.run_bind, run_underlying hu, Result.andThen_ok, Sem.run_pure, MapKept.run_getObj_map hb]
  rfl

theorem good_lookup (hr : HR P ro0 B0 w0 μ h w) {t : TypeId} {x x' k k' v : Value} {ok : Bool} {h' : Heap} (hx : VR μ x x') (hk : VR μ k k') (hv : lookupOp P t x k ok h = .ok v h') :
    GoodV P ro0 B0 w0 μ h' v ((Instr.lookup t x' k' ok).run P w) := by
  unfold lookupOp at hv
  split at hv
  · rename_i kt elem hu
    split at hv
    · rename_i es hes
      split at hv
      · rename_i hok
        have ek := hk.key (keyOk_isKeyB hok)
        subst ek
        have hE : ∃ es' : Array MapEntry, ERs μ es es'.toList ∧ (Instr.lookup t x' k' ok).run P w = (lookTail kt elem k' ok es').run P w := by
          unfold entriesOf at hes
          split at hes
          · cases hes; cases hx
            exact ⟨#[], .nil, look_nil hu⟩
          · rename_i r
            split at hes
            · rename_i es2 hg
              cases hes
              obtain ⟨l, hm, rfl⟩ := map_inv hx
              obtain ⟨es', clock, h1, h2⟩ := hr.entries hm hg
              exact ⟨es', h2, look_some hu h1⟩
            · cases hes
          · cases hes
        obtain ⟨es', hE1, hE2⟩ := hE
        rw [hE2]
        unfold lookTail
        have hc := run_checkKeyM (P := P) hok es'.isEmpty 9998 w
        split at hv
        · rename_i j v1 hf
          obtain ⟨r', f1, f2⟩ := run_findM hok w hE1 hf
          cases r' with
          | none => exact f2.elim
          | some y =>
            obtain ⟨j', v1'⟩ := y
            obtain ⟨_, hvv, _⟩ := f2
            cases hv
            refine ⟨μ, w, if ok then .tuple #[v1', .bool true] else v1', ?_, Ext.refl _, hr, ?_⟩
            · simp only [Sem.run_bind, hc, f1, Result.andThen_ok, Sem.run_pure]
            · cases ok
              · exact hvv
              · exact .tuple _ _ (.cons _ _ _ _ hvv (.cons _ _ _ _ (.bool _) .nil))
        · rename_i hf
          obtain ⟨r', f1, f2⟩ := run_findM hok w hE1 hf
          cases r' with
          | some y => exact f2.elim
          | none =>
            split at hv
            · rename_i z hz
              cases hv
              have hvz : VR μ z z := VR.plain 8 z (zeroOf_spec hz).choose_spec.2.2.1
              refine ⟨μ, w, if ok then .tuple #[z, .bool false] else z, ?_, Ext.refl _, hr, ?_⟩
              · simp only [Sem.run_bind, hc, f1, Result.andThen_ok, Sem.run_pure, run_zeroValue' hz]
              · cases ok
                · exact hvz
                · exact .tuple _ _ (.cons _ _ _ _ hvz (.cons _ _ _ _ (.bool _) .nil))
            · cases hv
        · cases hv
      · cases hv
    · cases hv
  · cases hv

theorem good_mapUpdate (hr : HR P ro0 B0 w0 μ h w) {ro : Nat} (hro : ro0 ≤ ro) {t : TypeId} {x x' k k' y y' v : Value} {h' : Heap} (hx : VR μ x x') (hk : VR μ k k') (hy : VR μ y y') (hv : mapSetOp P ro t x k y h = .ok v h') :
    v = Go.undef ∧ ∃ w', (Instr.mapUpdate t x' k' y').run P w = .ok () w' ∧ HR P ro0 B0 w0 μ h' w' := by
  unfold mapSetOp at hv
  split at hv
  · rename_i kt elem r hu
    split at hv
    · cases hv
    · rename_i hrr
      split at hv
      · rename_i es hg
        split at hv
        · rename_i hok
          have ek := hk.key (keyOk_isKeyB hok)
          subst ek
          obtain ⟨l, hm, rfl⟩ := map_inv hx
          obtain ⟨es', clock, h1, h2⟩ := hr.entries hm hg
          obtain ⟨obj, g1, g2⟩ := hr.blk r l _ hm hg (by simp)
          rw [h1] at g1; cases g1
          simp only [BR] at g2
          have hrb : ro0 ≤ r := by omega
          have hc := run_checkKeyM (P := P) hok false 9998 w
          split at hv
          · rename_i j v1 hf
            obtain ⟨r', f1, f2⟩ := run_findM hok w h2 hf
            cases r' with
            | none => exact f2.elim
            | some yy =>
              obtain ⟨j', v1'⟩ := yy
              obtain ⟨ejj, hvv, m, e, e1, e2, e3, e4⟩ := f2
              subst ejj
              have : j = m := by omega
              subst this
              have e2' : es'[j]? = some e := by simpa using e2
              cases hv
              refine ⟨rfl, { w with heap := w.heap.setIfInBounds l.blk (.map (es'.modify j fun e => { e with key := k', val := y' }) clock) }, ?_, hr.put hm hrb ⟨_, hg, by simp⟩ ?_⟩
              · have hs : (Instr.keyThatStays k' k').run P w = .ok k' w := by simp [Instr.keyThatStays, sameBits_refl (n := 9999) (keyOk_isKeyB hok)]
                simp only [Instr.mapUpdate, Sem.run_bind, run_underlying hu, MapKept.run_getObj_map h1, hc, f1, Result.andThen_ok, e2', Option.map_some, Option.getD_some, e4, hs]
                rw [MapKept.run_setObj_map _ h1]
              · refine ⟨by simp [g2.1], fun i kk vv hi => ?_⟩
                rw [List.getElem?_set] at hi
                rw [Array.getElem?_modify]
                by_cases hij : j = i
                · subst hij
                  rw [if_pos rfl] at hi
                  split at hi
                  · cases hi
                    rw [if_pos rfl, e2']
                    exact ⟨_, rfl, hk, hy⟩
                  · cases hi
                · rw [if_neg hij] at hi ⊢
                  exact g2.2 i kk vv hi
          · rename_i hf
            obtain ⟨r', f1, f2⟩ := run_findM hok w h2 hf
            cases r' with
            | some yy => exact f2.elim
            | none =>
              cases hv
              refine ⟨rfl, { w with heap := w.heap.setIfInBounds l.blk (.map (es'.push { key := k', val := y', born := clock }) (clock + 1)) }, ?_, hr.put hm hrb ⟨_, hg, by simp⟩ ?_⟩
              · simp only [Instr.mapUpdate, Sem.run_bind, run_underlying hu, MapKept.run_getObj_map h1, hc, f1, Result.andThen_ok]
                rw [MapKept.run_setObj_map _ h1]
              · refine ⟨by simp [g2.1], fun i kk vv hi => ?_⟩
                rw [Array.getElem?_push]
                rw [List.getElem?_append] at hi
                split at hi
                · rename_i hlt
                  rw [if_neg (by rw [← g2.1]; omega)]
                  exact g2.2 i kk vv hi
                · rename_i hlt
                  by_cases hii : i = es.length
                  · subst hii
                    simp only [Nat.sub_self, List.getElem?_cons_zero, Option.some.injEq, Prod.mk.injEq] at hi
                    obtain ⟨rfl, rfl⟩ := hi
                    rw [if_pos g2.1]
                    exact ⟨_, rfl, hk, hy⟩
                  · obtain ⟨n, rfl⟩ : ∃ n, i = es.length + (n + 1) := ⟨i - es.length - 1, by omega⟩
                    have e9 : es.length + (n + 1) - es.length = n + 1 := by omega
                    rw [e9] at hi
                    simp at hi
          · cases hv
        · cases hv
      · cases hv
  · cases hv

theorem good_range (hr : HR P ro0 B0 w0 μ h w) {t : TypeId} (s : ByteArray) (hu : P.underlying t = some .string) :
    GoodV P ro0 B0 w0 μ (h.push (.iter s 0)) (ptrTo h.next) ((Instr.range t (.string s)).run P w) := by
  refine ⟨upd μ h.next ⟨w.heap.size, 0, 0, 0⟩, w.alloc (.stringIter s 0), .pointer (some ⟨w.heap.size, 0, none⟩), ?_, hr.ext _, hr.push rfl ?_, ?_⟩
  · simp [Instr.range, run_underlying hu]
  · exact ⟨rfl, rfl, rfl⟩
  · have := VR.ptr (μ := upd μ h.next ⟨w.heap.size, 0, 0, 0⟩) h.next 0 _ (upd_self _ _ _)
    simpa [ptrTo] using this

theorem good_next (hr : HR P ro0 B0 w0 μ h w) {ro : Nat} (hro : ro0 ≤ ro) (ty : TypeId) {x x' v : Value} {b : Bool} {h' : Heap} (hx : VR μ x x') (hv : nextOp ro x b h = .ok v h') :
    GoodV P ro0 B0 w0 μ h' v ((Instr.next x' b ty).run P w) := by
  unfold nextOp at hv
  split at hv
  · rename_i b
    split at hv
    · cases hv
    · rename_i hrb
      split at hv
      · rename_i s p hg
        obtain ⟨l, hm, rfl⟩ : ∃ l, μ b = some l ∧ x' = .pointer (some ⟨l.blk, l.off + 0, none⟩) := by
          cases hx with
          | ptr _ _ l h => exact ⟨l, h, rfl⟩
        obtain ⟨obj, g1, g2⟩ := hr.blk b l _ hm hg (by simp)
        cases obj with
        | stringIter s' p' =>
          simp only [BR] at g2
          obtain ⟨rfl, rfl, h0⟩ := g2
          rw [h0]
          have hgo : (getObj l.blk).run P w = .ok (.stringIter s p) w := by simp [getObj, Sem.run, g1]
          have hso : ∀ o, (setObj l.blk o).run P w = .ok () { w with heap := w.heap.setIfInBounds l.blk o } := fun o => by simp [setObj, Sem.run, g1]
          split at hv
          · rename_i hp
            cases hv
            refine ⟨μ, { w with heap := w.heap.setIfInBounds l.blk (.stringIter s (p + (Utf8.decode s p).2)) }, .tuple #[.bool true, goInt p, .int .i32 (Utf8.decode s p).1], ?_, Ext.refl _, hr.put hm (by omega) ⟨_, hg, by simp⟩ ⟨rfl, rfl, h0⟩, ?_⟩
            · simp only [Instr.next, Sem.run_bind, hgo, Result.andThen_ok, if_pos hp, hso, Sem.run_pure]
            · exact .tuple _ _ (.cons _ _ _ _ (.bool _) (.cons _ _ _ _ (.int _ _) (.cons _ _ _ _ (.int _ _) .nil)))
          · rename_i hp
            cases hv
            refine ⟨μ, w, .tuple #[.bool false], ?_, Ext.refl _, hr, ?_⟩
            · simp only [Instr.next, Sem.run_bind, hgo, Result.andThen_ok, if_neg hp, Sem.run_pure]
            · exact .tuple _ _ (.cons _ _ _ _ (.bool _) .nil)
        | _ => simp [BR] at g2
      · cases hv
  · cases hv
end Go.Abs

namespace Go.Abs
open Go.RowKit
set_option linter.unusedSimpArgs false
set_option linter.unusedVariables false
variable {P : Program} {ro0 B0 : Nat} {w0 : World} {μ : Mu} {h : Heap} {w : World} {e : Env} {a : Act}

/-! ### append -/

section
variable {sT xT ty e : TypeId} {i : TypeInfo} {z : Value} {base : Option Addr} {sLen sCap : Nat} {olds news : Array Value} {n : Nat}

theorem run_grow_slice (ht : P.underlying sT = some (.slice e)) {e2 : TypeId} (hx : P.underlying xT = some (.slice e2)) (hi : P.info? e = some i) (hz : i.zero = some z) {b : Option Addr} {c : Nat}
    (hfo : (Builtin.firstCells i.size sLen (.slice base sLen sCap)).run P w.drew = .ok olds w.drew) (hf : (Builtin.firstCells i.size n (.slice b n c)).run P w.drew = .ok news w.drew)
    (hg : ¬ sLen + n ≤ sCap) (h63 : sLen + n ≤ 2 ^ 40) (hfit : (sLen + n) * i.bytes ≤ 2 ^ 40) :
    (Builtin.append_ #[sT, xT] ty #[.slice base sLen sCap, .slice b n c]).run P w =
      .ok (.slice (some ⟨w.heap.size, 0, none⟩) (sLen + n) (grownCap w (sLen + n) sCap e))
        (w.drew.alloc (.cells (olds ++ news ++ Builtin.zeroCells z.cells (grownCap w (sLen + n) sCap e - (sLen + n))) e)) := by
  have h63' : ¬ (9223372036854775807 < ((sLen : Int) + (n : Int))) := by omega
  have h48' : ¬ (281474976710656 < Builtin.nextslicecap (sLen + n) sCap * i.bytes) := by
    have := growslice_fits (need := sLen + n) (old := sCap) (bytes := i.bytes) (by omega) (by omega)
    omega
  simp [Builtin.append_, run_underlying ht, run_underlying hx, sizeOf, typeInfo, zeroValue, hi, hz, Builtin.lenOf, hg, h63', h48', Question.forced, hf, hfo, newRow, grownCap]

theorem run_grow_string (ht : P.underlying sT = some (.slice e)) (hx : P.underlying xT = some .string) (hi : P.info? e = some i) (hz : i.zero = some z) {s : ByteArray}
    (hfo : (Builtin.firstCells i.size sLen (.slice base sLen sCap)).run P w.drew = .ok olds w.drew) (hf : (Builtin.firstCells i.size s.size (.string s)).run P w.drew = .ok news w.drew)
    (hg : ¬ sLen + s.size ≤ sCap) (h63 : sLen + s.size ≤ 2 ^ 40) (hfit : (sLen + s.size) * i.bytes ≤ 2 ^ 40) :
    (Builtin.append_ #[sT, xT] ty #[.slice base sLen sCap, .string s]).run P w =
      .ok (.slice (some ⟨w.heap.size, 0, none⟩) (sLen + s.size) (grownCap w (sLen + s.size) sCap e))
        (w.drew.alloc (.cells (olds ++ news ++ Builtin.zeroCells z.cells (grownCap w (sLen + s.size) sCap e - (sLen + s.size))) e)) := by
  have h63' : ¬ (9223372036854775807 < ((sLen : Int) + (s.size : Int))) := by omega
  have h48' : ¬ (281474976710656 < Builtin.nextslicecap (sLen + s.size) sCap * i.bytes) := by
    have := growslice_fits (need := sLen + s.size) (old := sCap) (bytes := i.bytes) (by omega) (by omega)
    omega
  simp [Builtin.append_, run_underlying ht, run_underlying hx, sizeOf, typeInfo, zeroValue, hi, hz, Builtin.lenOf, hg, h63', h48', Question.forced, hf, hfo, newRow, grownCap]

theorem run_grow_zeros (ht : P.underlying sT = some (.slice e)) {k : IntKind} (hx : P.underlying xT = some (.int k)) (hi : P.info? e = some i) (hz : i.zero = some z) {k2 : IntKind}
    (hfo : (Builtin.firstCells i.size sLen (.slice base sLen sCap)).run P w.drew = .ok olds w.drew) (hn : news = if n * i.size = 0 then #[] else Builtin.zeroCells z.cells n)
    (hg : ¬ sLen + n ≤ sCap) (h63 : sLen + n ≤ 2 ^ 40) (hfit : (sLen + n) * i.bytes ≤ 2 ^ 40) :
    (Builtin.append_ #[sT, xT] ty #[.slice base sLen sCap, .int k2 n]).run P w =
      .ok (.slice (some ⟨w.heap.size, 0, none⟩) (sLen + n) (grownCap w (sLen + n) sCap e))
        (w.drew.alloc (.cells (olds ++ news ++ Builtin.zeroCells z.cells (grownCap w (sLen + n) sCap e - (sLen + n))) e)) := by
  have hw : IntKind.i64.wrap (n : Int) = n := by rw [IntKind.wrap_i64]; omega
  have h0 : ¬ ((n : Int) < 0) := by omega
  have hb : ¬ (281474976710656 < (n : Int) * (i.bytes : Int)) := by
    have h1 : n * i.bytes ≤ (sLen + n) * i.bytes := Nat.mul_le_mul_right _ (by omega)
    have h2 : ((n * i.bytes : Nat) : Int) ≤ 281474976710656 := by omega
    rw [Int.natCast_mul] at h2
    omega
  have h63' : ¬ (9223372036854775807 < ((sLen : Int) + (n : Int))) := by omega
  have h48' : ¬ (281474976710656 < Builtin.nextslicecap (sLen + n) sCap * i.bytes) := by
    have := growslice_fits (need := sLen + n) (old := sCap) (bytes := i.bytes) (by omega) (by omega)
    omega
  by_cases hc : n * i.size = 0
  · rw [if_pos hc] at hn; subst hn
    simp [Builtin.append_, run_underlying ht, run_underlying hx, sizeOf, typeInfo, zeroValue, hi, hz, asInt, asIntOf, hw, h0, hb, hc, hg, h63', h48', Question.forced, hfo, newRow, grownCap]
  · rw [if_neg hc] at hn; subst hn
    simp [Builtin.append_, run_underlying ht, run_underlying hx, sizeOf, typeInfo, zeroValue, hi, hz, asInt, asIntOf, hw, h0, hb, hc, hg, h63', h48', Question.forced, hfo, newRow, grownCap]

/-- In place. -/
theorem run_fit_slice (ht : P.underlying sT = some (.slice e)) {e2 : TypeId} (hx : P.underlying xT = some (.slice e2)) (hi : P.info? e = some i) {b : Option Addr} {c : Nat}
    (hf : (Builtin.firstCells i.size n (.slice b n c)).run P w = .ok news w) (hg : sLen + n ≤ sCap) :
    (Builtin.append_ #[sT, xT] ty #[.slice base sLen sCap, .slice b n c]).run P w =
      (match base with | some a => (storeCells (a.add (sLen * i.size)) news.toList).run P w | none => .ok () w).andThen fun _ w' => .ok (.slice base (sLen + n) sCap) w' := by
  cases base <;> simp [Builtin.append_, run_underlying ht, run_underlying hx, sizeOf, typeInfo, hi, Builtin.lenOf, hg, hf]
theorem run_fit_string (ht : P.underlying sT = some (.slice e)) (hx : P.underlying xT = some .string) (hi : P.info? e = some i) {s : ByteArray}
    (hf : (Builtin.firstCells i.size s.size (.string s)).run P w = .ok news w) (hg : sLen + s.size ≤ sCap) :
    (Builtin.append_ #[sT, xT] ty #[.slice base sLen sCap, .string s]).run P w =
      (match base with | some a => (storeCells (a.add (sLen * i.size)) news.toList).run P w | none => .ok () w).andThen fun _ w' => .ok (.slice base (sLen + s.size) sCap) w' := by
  cases base <;> simp [Builtin.append_, run_underlying ht, run_underlying hx, sizeOf, typeInfo, hi, Builtin.lenOf, hg, hf]
theorem run_fit_zeros (ht : P.underlying sT = some (.slice e)) {k : IntKind} (hx : P.underlying xT = some (.int k)) (hi : P.info? e = some i) (hz : i.zero = some z) {k2 : IntKind}
    (hn : news = if n * i.size = 0 then #[] else Builtin.zeroCells z.cells n) (hg : sLen + n ≤ sCap) (h63 : n ≤ 2 ^ 40) (hfit : n * i.bytes ≤ 2 ^ 40) :
    (Builtin.append_ #[sT, xT] ty #[.slice base sLen sCap, .int k2 n]).run P w =
      (match base with | some a => (storeCells (a.add (sLen * i.size)) news.toList).run P w | none => .ok () w).andThen fun _ w' => .ok (.slice base (sLen + n) sCap) w' := by
  have hw : IntKind.i64.wrap (n : Int) = n := by rw [IntKind.wrap_i64]; omega
  have h0 : ¬ ((n : Int) < 0) := by omega
  have hb : ¬ (281474976710656 < (n : Int) * (i.bytes : Int)) := by
    have h2 : ((n * i.bytes : Nat) : Int) ≤ 281474976710656 := by omega
    rw [Int.natCast_mul] at h2
    omega
  by_cases hc : n * i.size = 0
  · rw [if_pos hc] at hn; subst hn
    cases base <;> simp [Builtin.append_, run_underlying ht, run_underlying hx, sizeOf, typeInfo, zeroValue, hi, hz, asInt, asIntOf, hw, h0, hb, hc, hg]
  · rw [if_neg hc] at hn; subst hn
    cases base <;> simp [Builtin.append_, run_underlying ht, run_underlying hx, sizeOf, typeInfo, zeroValue, hi, hz, asInt, asIntOf, hw, h0, hb, hc, hg]
end
end Go.Abs

namespace Go.Abs
open Go.RowKit
set_option linter.unusedSimpArgs false
set_option linter.unusedVariables false
variable {P : Program} {ro0 B0 : Nat} {w0 : World} {μ : Mu} {h : Heap} {w : World} {e : Env} {a : Act}

/-- What the machine's append does, whatever it appends. -/
structure MA (P : Program) (w : World) (e : TypeId) (size bytes : Nat) (z : Value) (base : Option Addr) (len cap n : Nat) (news : Array Value) (S : Sem Value) : Prop where
  fit : len + n ≤ cap → S.run P w = (match base with | some a => (storeCells (a.add (len * size)) news.toList).run P w | none => .ok () w).andThen fun _ w' => .ok (.slice base (len + n) cap) w'
  grow : ¬ len + n ≤ cap → len + n ≤ 2 ^ 40 → (len + n) * bytes ≤ 2 ^ 40 → ∀ olds : Array Value, (Builtin.firstCells size len (.slice base len cap)).run P w.drew = .ok olds w.drew →
    S.run P w = .ok (.slice (some ⟨w.heap.size, 0, none⟩) (len + n) (grownCap w (len + n) cap e)) (w.drew.alloc (.cells (olds ++ news ++ Builtin.zeroCells z.cells (grownCap w (len + n) cap e - (len + n))) e))

theorem zeroCells_size (z : Array Value) (n : Nat) : (Builtin.zeroCells z n).size = n * z.size := by simp [Builtin.zeroCells]
theorem zeroCells_rep (z : Array Value) (n : Nat) : (Builtin.zeroCells z n).toList = rep z.toList n := by
  rw [← made_rep]; rfl

theorem firstCells_some (P : Program) (w : World) (size n : Nat) (b : Addr) (len cap : Nat) {cs : List Value} (hl : cs.length = n * size) (hc : ∀ j v, cs[j]? = some v → w.cell? (b.add j) = some v) :
    (Builtin.firstCells size n (.slice (some b) len cap)).run P w = .ok cs.toArray w := run_firstCells_some w size n b len cap cs hl hc

theorem good_append (hr : HR P ro0 B0 w0 μ h w) {ro size bytes : Nat} (hro : ro0 ≤ ro) {s v : Value} {new : List Value} {n : Nat} {h' : Heap} {base : Option Addr} {len cap : Nat} {news : Array Value} {S : Sem Value} {e : TypeId} {z : Value}
    (hz : z.cells.size = size) (hs : VR μ s (.slice base len cap)) (hnew : VRs μ new news.toList) (hlen : new.length = n * size) (hm : MA P w e size bytes z base len cap n news S)
    (hv : appendOp ro size bytes s new n h = .ok v h') : GoodV P ro0 B0 w0 μ h' v (S.run P w) := by
  have hnl : news.size = n * size := by have := hnew.length; rw [hlen, Array.length_toList] at this; exact this
  unfold appendOp at hv
  split at hv
  · -- nil
    cases hs
    split at hv
    · rename_i hn
      cases hv
      subst hn
      refine ⟨μ, w, .slice none 0 0, ?_, Ext.refl _, hr, .nils⟩
      rw [hm.fit (by omega)]; rfl
    · rename_i hn
      split at hv
      · rename_i hb
        cases hv
        unfold bigLimit at hb
        have hrun := hm.grow (by omega) (by omega) (by simpa using hb.1) #[] (run_firstCells_none w.drew size 0 0 0)
        have hcap := grownCap_ge w (0 + n) 0 e
        have hrow : VRs μ new ((#[] ++ news ++ Builtin.zeroCells z.cells (grownCap w (0 + n) 0 e - (0 + n))).toList.take new.length) := by
          simp only [Array.toList_append, List.nil_append]
          rw [List.take_append_of_le_length (by rw [hlen, Array.length_toList, hnl]; exact Nat.le_refl _), hlen, ← hnl, ← Array.length_toList, List.take_length]
          exact hnew
        have htot : (#[] ++ news ++ Builtin.zeroCells z.cells (grownCap w (0 + n) 0 e - (0 + n))).size = grownCap w (0 + n) 0 e * size := by
          simp only [Array.size_append, zeroCells_size, hz, hnl]
          simp only [Nat.zero_add] at hcap ⊢
          simp only [List.size_toArray, List.length_nil, Nat.zero_add]
          rw [← Nat.add_mul]; congr 1; omega
        refine ⟨upd μ h.next ⟨w.heap.size, 0, size, grownCap w (0 + n) 0 e * size⟩, _, _, hrun, hr.ext _, hr.drew.push rfl ⟨rfl, htot, ?_, fun i x hx => ?_, fun _ => .inl rfl⟩, ?_⟩
        · rw [hlen, Nat.zero_add]; exact Nat.mul_le_mul_right _ (by omega)
        · have hi : i < new.length := (List.getElem?_eq_some_iff.1 hx).1
          obtain ⟨v', a1, a2⟩ := hrow.get hx
          rw [List.getElem?_take, if_pos hi, Array.getElem?_toList] at a1
          refine ⟨v', by simpa using a1, a2.mono (hr.ext _)⟩
        · have := VR.slice (μ := upd μ h.next ⟨w.heap.size, 0, size, grownCap w (0 + n) 0 e * size⟩) h.next 0 n n (grownCap w (0 + n) 0 e) _ (upd_self _ _ _) (Nat.le_refl _) (by omega) (by simp)
          simpa using this
      · cases hv
  · rename_i ad len1 cap1
    obtain ⟨b, o, sp⟩ := ad
    split at hv
    · rename_i hn
      cases hv
      subst hn
      have hns : news = #[] := by
        have : news.size = 0 := by rw [hnl]; simp
        exact Array.eq_empty_of_size_eq_zero this
      subst hns
      have hle : len ≤ cap := by cases hs <;> omega
      have hb : ∃ a0, base = some a0 := by cases hs <;> exact ⟨_, rfl⟩
      obtain ⟨a0, rfl⟩ := hb
      refine ⟨μ, w, .slice (some a0) len cap, ?_, Ext.refl _, hr, hs⟩
      rw [hm.fit (by omega)]; rfl
    · rename_i hn
      split at hv
      · cases hv
      · rename_i hsp
        rcases hs.slice_inv with ⟨l, c', rfl, h1, h2, h3, h4, heq⟩ | ⟨a', c', rfl, _⟩
        rotate_left
        · exact absurd rfl hsp
        · cases heq
          split at hv
          · rename_i hfit
            split at hv
            · rename_i h2' hw
              cases hv
              rw [addr_add] at hw
              obtain ⟨w', r1, r2⟩ := hr.storeCells hro h1 hnew hw
              refine ⟨μ, w', _, ?_, Ext.refl _, r2, VR.slice b o (len + n) cap1 cap l h1 hfit h3 h4⟩
              rw [hm.fit (by omega)]
              simp only [addr_add]
              rw [← Nat.add_assoc] at r1
              rw [r1]; rfl
            · cases hv
          · rename_i hfit
            split at hv
            · cases hv
            · rename_i hbro
              split at hv
              · rename_i hb
                unfold bigLimit at hb
                split at hv
                · rename_i sz cs hg
                  split at hv
                  · rename_i htip
                    obtain ⟨rfl, htip, hones⟩ := htip
                    split at hv
                    · rename_i old hold
                      cases hv
                      have hread : readCells h ⟨b, o, none⟩ (len * sz) = some old := by simp [readCells, hg, hold]
                      obtain ⟨cs', g1, g2, g3⟩ := hr.read h1 hread
                      have hls : l.sz = sz := by
                        obtain ⟨obj, q1, q2⟩ := hr.blk b l _ h1 hg (by simp)
                        cases obj <;> simp only [BR] at q2
                        exact q2.1
                      rw [hls] at h4
                      have hlen2 : (old ++ new).length = (len + n) * sz := by rw [List.length_append, g2, hlen, Nat.add_mul]
                      by_cases hin : len + n ≤ cap
                      · -- there is room
                        obtain ⟨obj, q1, q2⟩ := hr.blk b l _ h1 hg (by simp)
                        cases obj with
                        | cells cc t fr =>
                          simp only [BR] at q2
                          obtain ⟨k1, k2, k3, k4, k5⟩ := q2
                          have hrb : ro0 ≤ b := by have hb2 : ¬ b < ro := hbro; omega
                          have hmul : (len + n) * sz ≤ cap * sz := Nat.mul_le_mul_right _ hin
                          rw [Nat.add_mul] at hmul
                          have hone : ∀ v ∈ news.toList, v.oneCell' = true := hnew.all_oneCell hones
                          obtain ⟨cur', r1, r2, r3⟩ := run_storeCells' (P := P) l.blk (l.off + o + len * sz) t fr news.toList 0 cc w q1 (by rw [k2, Array.length_toList, hnl]; omega) hone (fun j hj => by rcases k5 hrb with k5 | k5 <;> omega)
                          refine ⟨upd μ h.next ⟨l.blk, l.off + o, sz, l.tot⟩, _, .slice (some ⟨l.blk, l.off + o, none⟩) (len + n) cap, ?_, hr.ext _, hr.rebind (l' := ⟨l.blk, l.off + o, sz, l.tot⟩) h1 hrb ⟨_, hg, by simp⟩ rfl (obj := .cells cur' t fr) ?_, ?_⟩
                          · rw [hm.fit hin]
                            simp only [addr_add]
                            rw [r1]; rfl
                          · refine ⟨rfl, r2.trans k2, ?_, fun i x hx => ?_, fun _ => k5 hrb⟩
                            · rw [hlen2, Nat.add_mul]; simp only; omega
                            · rw [List.getElem?_append] at hx
                              rw [r3 (l.off + o + i)]
                              split at hx
                              · rename_i hi
                                rw [g2] at hi
                                rw [if_neg (by omega)]
                                obtain ⟨v', a1, a2⟩ := g1.get hx
                                have a3 := g3 i v' a1
                                rw [addr_add] at a3
                                simp only [World.cell?, q1, Option.isSome_none, Bool.false_eq_true, if_false] at a3
                                exact ⟨v', a3, a2.mono (hr.ext _)⟩
                              · rename_i hi
                                rw [g2] at hi hx
                                obtain ⟨v', a1, a2⟩ := hnew.get hx
                                have hi2 : i - len * sz < n * sz := by rw [← hlen]; exact (List.getElem?_eq_some_iff.1 hx).1
                                rw [if_pos ⟨by omega, by rw [Array.length_toList, hnl]; omega⟩]
                                have e1 : l.off + o + i - (l.off + o + len * sz + 0) = i - len * sz := by omega
                                rw [e1]
                                exact ⟨v', a1, a2.mono (hr.ext _)⟩
                          · have := VR.slice (μ := upd μ h.next ⟨l.blk, l.off + o, sz, l.tot⟩) h.next 0 (len + n) (len + n) cap _ (upd_self _ _ _) (Nat.le_refl _) hin (by simp only; omega)
                            simpa using this
                        | _ => simp [BR] at q2
                      · -- a new row
                        have hfo : (Builtin.firstCells sz len (.slice (some ⟨l.blk, l.off + o, none⟩) len cap)).run P w.drew = .ok cs'.toArray w.drew :=
                          firstCells_some P w.drew sz len _ len cap (by rw [g1.length, g2]) (fun j v hv => by simpa using g3 j v hv)
                        have hrun := hm.grow hin hb.2 hb.1 cs'.toArray hfo
                        have hcap := grownCap_ge w (len + n) cap e
                        have hcl : cs'.length = len * sz := by rw [g1.length, g2]
                        have htot : (cs'.toArray ++ news ++ Builtin.zeroCells z.cells (grownCap w (len + n) cap e - (len + n))).size = grownCap w (len + n) cap e * sz := by
                          simp only [Array.size_append, zeroCells_size, hz, hnl, List.size_toArray, hcl]
                          rw [← Nat.add_mul, ← Nat.add_mul]; congr 1; omega
                        have hrk := hr.drew.kill (b := b) ⟨_, hg, by simp⟩
                        refine ⟨upd μ h.next ⟨w.heap.size, 0, sz, grownCap w (len + n) cap e * sz⟩, _, _, hrun, hr.ext _, hrk.push rfl ⟨rfl, htot, ?_, fun i x hx => ?_, fun _ => .inl rfl⟩, ?_⟩
                        · rw [hlen2, Nat.zero_add]; exact Nat.mul_le_mul_right _ hcap
                        · have hv2 := (g1.append hnew).get hx
                          obtain ⟨v', a1, a2⟩ := hv2
                          refine ⟨v', ?_, a2.mono (hr.ext _)⟩
                          have hi : i < (cs' ++ news.toList).length := (List.getElem?_eq_some_iff.1 a1).1
                          rw [Nat.zero_add, ← Array.getElem?_toList]
                          simp only [Array.toList_append]
                          rw [List.getElem?_append_left hi]
                          exact a1
                        · have := VR.slice (μ := upd μ h.next ⟨w.heap.size, 0, sz, grownCap w (len + n) cap e * sz⟩) h.next 0 (len + n) (len + n) (grownCap w (len + n) cap e) _ (upd_self _ _ _) (Nat.le_refl _) hcap (by simp)
                          simpa using this
                    · cases hv
                  · cases hv
                · cases hv
              · cases hv
  · cases hv

end Go.Abs

namespace Go.Abs
open Go.RowKit
set_option linter.unusedSimpArgs false
set_option linter.unusedVariables false
variable {P : Program} {ro0 B0 : Nat} {w0 : World} {μ : Mu} {h : Heap} {w : World} {e : Env} {a : Act}

theorem run_firstCells_drew {size n : Nat} {x : Value} {r : Array Value} (hx : ∀ w1 : World, w1.heap = w.heap → (Builtin.firstCells size n x).run P w1 = .ok r w1) :
    (Builtin.firstCells size n x).run P w.drew = .ok r w.drew := hx w.drew rfl

theorem good_typeAssert (hr : HR P ro0 B0 w0 μ h w) {x x' v : Value} (hx : VR μ x x') (xt t : TypeId) (ok : Bool) {h' : Heap} (hv : typeAssertOp P x t ok h = .ok v h') :
    GoodV P ro0 B0 w0 μ h' v ((Instr.typeAssert x' xt t ok).run P w) := by
  unfold typeAssertOp at hv
  split at hv
  · cases hv
  · rename_i d hd ht
    have hmatch : ∀ (α : Type) (f : Array (String × TypeId) → α) (g : α), (match d with | .interface ms => f ms | _ => g) = g := by
      intro α f g
      cases d <;> first | rfl | exact absurd rfl (hd _ )
    split at hv
    · cases hx
      split at hv
      · rename_i hok
        split at hv
        · rename_i z hz
          cases hv
          have hp := (zeroOf_spec hz).choose_spec
          refine ⟨μ, w, .tuple #[z, .bool false], ?_, Ext.refl _, hr, .tuple _ _ (.cons _ _ _ _ (VR.plain 8 _ hp.2.2.1) (.cons _ _ _ _ (.bool _) .nil))⟩
          simp only [Instr.typeAssert, Sem.run_bind, run_underlying ht, Result.andThen_ok]
          cases d <;> first | (exact absurd rfl (hd _)) | simp [hok, run_zeroValue' hz]
        · cases hv
      · cases hv
    · rename_i u vv
      cases hx with
      | iface _ _ v2 hv2 =>
      split at hv
      · rename_i hut
        subst hut
        split at hv
        · rename_i hok
          cases hv
          refine ⟨μ, w, .tuple #[v2, .bool true], ?_, Ext.refl _, hr, .tuple _ _ (.cons _ _ _ _ hv2 (.cons _ _ _ _ (.bool _) .nil))⟩
          simp only [Instr.typeAssert, Sem.run_bind, run_underlying ht, Result.andThen_ok]
          cases d <;> first | (exact absurd rfl (hd _)) | simp [hok]
        · rename_i hok
          cases hv
          refine ⟨μ, w, v2, ?_, Ext.refl _, hr, hv2⟩
          simp only [Instr.typeAssert, Sem.run_bind, run_underlying ht, Result.andThen_ok]
          cases d <;> first | (exact absurd rfl (hd _)) | simp [hok]
      · rename_i hut
        split at hv
        · rename_i hok
          split at hv
          · rename_i z hz
            cases hv
            have hp := (zeroOf_spec hz).choose_spec
            refine ⟨μ, w, .tuple #[z, .bool false], ?_, Ext.refl _, hr, .tuple _ _ (.cons _ _ _ _ (VR.plain 8 _ hp.2.2.1) (.cons _ _ _ _ (.bool _) .nil))⟩
            simp only [Instr.typeAssert, Sem.run_bind, run_underlying ht, Result.andThen_ok]
            cases d <;> first | (exact absurd rfl (hd _)) | simp [hok, hut, run_zeroValue' hz]
          · cases hv
        · cases hv
    · cases hv
  · cases hv

theorem VRs.one {x : Value} {l : List Value} (hv : VRs μ [x] l) : ∃ x', l = [x'] ∧ VR μ x x' := by
  cases hv with
  | cons _ x' _ l' h hs => cases hs; exact ⟨x', rfl, h⟩
theorem VRs.two {x y : Value} {l : List Value} (hv : VRs μ [x, y] l) : ∃ x' y', l = [x', y'] ∧ VR μ x x' ∧ VR μ y y' := by
  cases hv with
  | cons _ x' _ l' h hs => obtain ⟨y', rfl, h2⟩ := hs.one; exact ⟨x', y', rfl, h, h2⟩

theorem bytesOf_length (s : ByteArray) : (bytesOf s).length = s.size := by simp only [bytesOf, List.length_map, Array.length_toList]; rfl
theorem firstCells_string (P : Program) (w : World) (s : ByteArray) (size : Nat) : (Builtin.firstCells size s.size (.string s)).run P w = .ok (bytesOf s).toArray w := by
  have hx : (Array.map (fun b : UInt8 => Value.int IntKind.u8 (b.toNat : Int)) s.data).extract 0 s.size = Array.map (fun b : UInt8 => Value.int IntKind.u8 (b.toNat : Int)) s.data := by
    have hs : s.size = (Array.map (fun b : UInt8 => Value.int IntKind.u8 (b.toNat : Int)) s.data).size := by rw [Array.size_map]; rfl
    rw [hs, Array.extract_size]
  have h2 : (s.extract 0 s.size).data = s.data := by
    have : s.extract 0 s.size = s := by simp
    rw [this]
  simp only [Builtin.firstCells, Sem.run_pure, h2]
  congr 1
  apply Array.ext'
  simp [bytesOf]

theorem good_builtin (hr : HR P ro0 B0 w0 μ h w) {ro : Nat} (hro : ro0 ≤ ro) (b : Builtin) (tys : Array TypeId) (ty : TypeId) (cst : Array Bool) {args : List Value} {args' : Array Value} {v : Value} {h' : Heap} (ha : VRs μ args args'.toList)
    (hv : builtinOp P ro b tys.toList args h = .ok v h') : Good P ro0 B0 w0 μ h' v ((builtin b tys ty cst args').run P w) := by
  have harr : ∀ l : List Value, args'.toList = l → args' = l.toArray := fun l hl => by subst hl; simp
  have htys : ∀ t r, tys.toList = t :: r → tys[0]? = some t := fun t r hl => by rw [← Array.getElem?_toList, hl]; rfl
  have htys2 : ∀ t u r, tys.toList = t :: u :: r → tys[1]? = some u := fun t u r hl => by rw [← Array.getElem?_toList, hl]; rfl
  unfold builtinOp at hv
  split at hv
  · -- len of a string
    obtain ⟨x', hl, hx⟩ := ha.one
    have e1 := hx.string_inv; subst e1
    have e2 := harr _ hl; subst e2
    split at hv
    · rename_i t r ht
      split at hv
      · rename_i hu
        cases hv
        refine GoodV.good (s := Builtin.len_ tys ty _) ⟨μ, w, _, ?_, Ext.refl _, hr, .int _ _⟩
        simp [Builtin.len_, htys t r ht, run_underlying hu, goInt]
      · cases hv
    · cases hv
  · obtain ⟨x', hl, hx⟩ := ha.one
    have e2 := harr _ hl; subst e2
    split at hv
    · rename_i t r ht
      split at hv
      · rename_i hu
        cases hv
        refine GoodV.good (s := Builtin.len_ tys ty _) ⟨μ, w, _, ?_, Ext.refl _, hr, .int _ _⟩
        cases hx <;> simp [Builtin.len_, htys t r ht, run_underlying hu, goInt]
      · cases hv
    · cases hv
  · obtain ⟨x', hl, hx⟩ := ha.one
    have e2 := harr _ hl; subst e2
    split at hv
    · rename_i t r ht
      split at hv
      · rename_i hu
        cases hv
        cases hx
        refine GoodV.good (s := Builtin.cap_ tys ty _) ⟨μ, w, _, ?_, Ext.refl _, hr, .int _ _⟩
        simp [Builtin.cap_, htys t r ht, run_underlying hu, goInt]
      · cases hv
    · cases hv
  · obtain ⟨x', y', hl, hx, hy⟩ := ha.two
    have e1 := hx.int_inv; subst e1
    have e3 := hy.int_inv; subst e3
    have e2 := harr _ hl; subst e2
    cases hv
    refine GoodV.good (s := Builtin.min_ tys ty _) ⟨μ, w, _, ?_, Ext.refl _, hr, .int _ _⟩
    simp [Builtin.min_, Builtin.min2]
  · obtain ⟨x', y', hl, hx, hy⟩ := ha.two
    have e1 := hx.int_inv; subst e1
    have e3 := hy.int_inv; subst e3
    have e2 := harr _ hl; subst e2
    cases hv
    refine GoodV.good (s := Builtin.max_ tys ty _) ⟨μ, w, _, ?_, Ext.refl _, hr, .int _ _⟩
    simp [Builtin.max_, Builtin.max2]
  · rename_i s x
    obtain ⟨s', x', hl, hs, hx⟩ := ha.two
    have e2 := harr _ hl; subst e2
    split at hv
    · rename_i st xt htl
      have e3 : tys = #[st, xt] := by apply Array.ext'; simpa using htl
      subst e3
      split at hv
      · rename_i elem hu
        split at hv
        · rename_i i hi
          split at hv
          · cases hv
          · rename_i zz hzz
            split at hv
            · cases hv
            · rename_i hzs
              have hzs : zz.cells.size = i.size := Decidable.of_not_not hzs
              have hslice : ∃ base len cap, s' = .slice base len cap ∨ ∀ (new : List Value) (n : Nat), appendOp ro i.size i.bytes s new n h = .fail := by
                cases hs with
                | slice => exact ⟨_, _, _, .inl rfl⟩
                | nils => exact ⟨_, _, _, .inl rfl⟩
                | empty => exact ⟨_, _, _, .inl rfl⟩
                | _ => exact ⟨none, 0, 0, .inr fun new n => rfl⟩
              obtain ⟨base, len, cap, hs' | hno⟩ := hslice
              rotate_left
              · split at hv <;> (repeat' split at hv) <;> first | (rw [hno] at hv; cases hv; done) | (cases hv; done)
              subst hs'
              split at hv
              · split at hv
                · rename_i hxu
                  cases hx
                  refine GoodV.good (s := Builtin.append_ #[st, xt] ty _) (good_append (e := elem) hr hro hzs hs (news := #[]) .nil (by simp) ⟨fun hf => ?_, fun hg hb hb2 olds ho => ?_⟩ hv)
                  · have := run_fit_slice (P := P) (ty := ty) (w := w) (base := base) hu hxu hi (b := none) (n := 0) (c := 0) (news := #[]) (run_firstCells_none w i.size 0 0 0) hf
                    exact this
                  · exact run_grow_slice (P := P) (ty := ty) (w := w) hu hxu hi hzz (b := none) (n := 0) (c := 0) ho (run_firstCells_none w.drew i.size 0 0 0) hg hb hb2
                · cases hv
              · rename_i ad n c
                obtain ⟨b, o, sp⟩ := ad
                split at hv
                · rename_i hxu
                  split at hv
                  · rename_i cs hcs
                    rcases hx.slice_inv with ⟨l, c', rfl, h1, h2, h3, h4, rfl⟩ | ⟨a', c', rfl, rfl, rfl, rfl, rfl, rfl⟩
                    · obtain ⟨cs', g1, g2, g3⟩ := hr.read h1 hcs
                      refine GoodV.good (s := Builtin.append_ #[st, xt] ty _) (good_append (e := elem) hr hro hzs hs (news := cs'.toArray) (by simpa using g1) g2 ⟨fun hf => ?_, fun hg hb hb2 olds ho => ?_⟩ hv)
                      · exact run_fit_slice (P := P) (ty := ty) (w := w) hu hxu hi (firstCells_some P w i.size n _ n c' (by rw [g1.length, g2]) g3) hf
                      · exact run_grow_slice (P := P) (ty := ty) (w := w) hu hxu hi hzz ho (firstCells_some P w.drew i.size n _ n c' (by rw [g1.length, g2]) (fun j v hv => by simpa using g3 j v hv)) hg hb hb2
                    · simp only [readCells, Nat.zero_mul, if_true] at hcs
                      cases hcs
                      refine GoodV.good (s := Builtin.append_ #[st, xt] ty _) (good_append (e := elem) hr hro hzs hs (news := #[]) .nil (by simp) ⟨fun hf => ?_, fun hg hb hb2 olds ho => ?_⟩ hv)
                      · exact run_fit_slice (P := P) (ty := ty) (w := w) hu hxu hi (firstCells_some P w i.size 0 a' 0 c' (cs := []) (by simp) (by simp)) hf
                      · exact run_grow_slice (P := P) (ty := ty) (w := w) hu hxu hi hzz ho (firstCells_some P w.drew i.size 0 a' 0 c' (cs := []) (by simp) (by simp)) hg hb hb2
                  · cases hv
                · cases hv
              · rename_i str
                by_cases hc : i.size = 1 ∧ isStrD (P.underlying xt) = true
                · rw [if_pos hc] at hv
                  obtain ⟨hsz, hxs⟩ := hc
                  have hxu : P.underlying xt = some .string := by
                    generalize P.underlying xt = d at hxs
                    unfold isStrD at hxs
                    split at hxs
                    · rfl
                    · exact absurd hxs (by simp)
                  have e1 := hx.string_inv; subst e1
                  refine GoodV.good (s := Builtin.append_ #[st, xt] ty _) (good_append (e := elem) hr hro hzs hs (news := (bytesOf str).toArray) (by simpa using VRs.bytes str) (by rw [hsz, bytesOf_length]; omega) ⟨fun hf => ?_, fun hg hb hb2 olds ho => ?_⟩ hv)
                  · exact run_fit_string (P := P) (ty := ty) (w := w) hu hxu hi (firstCells_string P w str i.size) hf
                  · exact run_grow_string (P := P) (ty := ty) (w := w) hu hxu hi hzz ho (firstCells_string P w.drew str i.size) hg hb hb2
                · rw [if_neg hc] at hv; cases hv
              · rename_i k m
                split at hv
                · rename_i kk hxu
                  split at hv
                  · rename_i z hz
                    split at hv
                    · rename_i hm
                      obtain ⟨hm0, hm1, hm2⟩ := hm
                      unfold bigLimit at hm1 hm2
                      have e1 := hx.int_inv; subst e1
                      obtain ⟨n, rfl⟩ := Int.eq_ofNat_of_zero_le hm0
                      obtain ⟨i2, hi2, hz2, hp2, hs2⟩ := zeroOf_spec hz
                      rw [hi] at hi2; cases hi2
                      rw [hzz] at hz2; cases hz2
                      have hnn : ((Int.ofNat n).toNat) = n := rfl
                      change appendOp ro i.size i.bytes s (rep zz.cells.toList n) n h = .ok v h' at hv
                      have hm1 : n ≤ 2 ^ 40 := by exact_mod_cast hm1
                      have hm2 : n * i.bytes ≤ 2 ^ 40 := hm2
                      have hnews : (if n * i.size = 0 then #[] else Builtin.zeroCells zz.cells n).toList = rep zz.cells.toList n := by
                        split
                        · rename_i h0
                          have : (rep zz.cells.toList n).length = 0 := by rw [rep_length, Array.length_toList, hzs, h0]
                          rw [List.eq_nil_of_length_eq_zero this]
                        · exact zeroCells_rep _ _
                      refine GoodV.good (s := Builtin.append_ #[st, xt] ty _) (good_append (e := elem) hr hro hzs hs (news := if n * i.size = 0 then #[] else Builtin.zeroCells zz.cells n) (by rw [hnews]; exact VRs.rep (plain_cells hp2) n) (by rw [rep_length, Array.length_toList, hzs]) ⟨fun hf => ?_, fun hg hb hb2 olds ho => ?_⟩ hv)
                      · exact run_fit_zeros (P := P) (ty := ty) (w := w) hu hxu hi hzz rfl hf hm1 hm2
                      · exact run_grow_zeros (P := P) (ty := ty) (w := w) hu hxu hi hzz ho rfl hg hb hb2
                    · cases hv
                  · cases hv
                · cases hv
              · cases hv
        · cases hv
      · cases hv
    · cases hv
  · -- clear
    rename_i a n c
    obtain ⟨x', hl, hx⟩ := ha.one
    have e2 := harr _ hl; subst e2
    split at hv
    · rename_i t r ht
      split at hv
      · rename_i elem hu
        split at hv
        · rename_i s hsz
          split at hv
          · rename_i z hz
            split at hv
            · rename_i h2 hw
              cases hv
              refine GoodV.good (s := Builtin.clear_ tys ty _) ?_
              obtain ⟨b, o, sp⟩ := a
              have hzc := plain_cells (μ := μ) (zeroOf_spec hz).choose_spec.2.2.1
              cases n with
              | zero =>
                have hw2 : some h = some h' := hw
                cases hw2
                refine ⟨μ, w, _, ?_, Ext.refl _, hr, VR.undef _⟩
                cases hx with
                | slice _ _ _ _ _ l hb hn hc ht2 => simp [Builtin.clear_, htys t r ht, run_underlying hu]; rfl
                | empty a' c' => simp [Builtin.clear_, htys t r ht, run_underlying hu]; rfl
              | succ n =>
                cases hx with
                | slice _ _ _ _ c' l hb hn hc ht2 =>
                  obtain ⟨w', g1, g2⟩ := hr.storeCells hro hb (VRs.rep hzc (n + 1)) hw
                  refine ⟨μ, w', _, ?_, Ext.refl _, g2, VR.undef _⟩
                  have e3 : (Builtin.zeroCells z.cells (n + 1)).toList = rep z.cells.toList (n + 1) := zeroCells_rep _ _
                  simp only [Builtin.clear_, htys t r ht, run_underlying hu, Sem.run_bind, Result.andThen_ok, List.getElem?_toArray, List.getElem?_cons_zero, run_zeroValue' hz, e3, g1, Sem.run_pure]
                  rfl
            · cases hv
          · cases hv
        · cases hv
      · cases hv
    · cases hv
  · cases hv

end Go.Abs

namespace Go.Abs
open Go.RowKit
set_option linter.unusedSimpArgs false
set_option linter.unusedVariables false
variable {ds : List Deferred}
variable {P : Program} {ro0 B0 : Nat} {w0 : World} {μ : Mu} {h : Heap} {w : World} {e : Env} {a : Act}

theorem ER.evParts (he : ER ds μ e a) (hr : HR P ro0 B0 w0 μ h w) : ∀ {xs : List (Nat × Operand)} {vs : List (Nat × Value)}, evParts P e xs = some vs → PRs μ vs (xs.map fun x => (x.1, a.eval x.2))
  | [], vs, hx => by simp only [Go.Abs.evParts] at hx; cases hx; exact .nil
  | (i, x) :: xs, vs, hx => by
    simp only [Go.Abs.evParts] at hx
    split at hx
    · split at hx
      · cases hx; exact .cons _ _ _ _ _ (he.ev hr ‹_›) (ER.evParts he hr ‹_›)
      · cases hx
    · cases hx

theorem ER.evo (he : ER ds μ e a) (hr : HR P ro0 B0 w0 μ h w) {x : Option Operand} {v : Option Value} (hx : evo P e x = some v) : OR μ v (x.map a.eval) := by
  cases x with
  | none => simp only [Go.Abs.evo] at hx; cases hx; exact .none
  | some x =>
    simp only [Go.Abs.evo] at hx
    split at hx
    · cases hx; exact .some _ _ (he.ev hr ‹_›)
    · cases hx

theorem opt_ok {x : Option Value} {v : Value} {h h' : Heap} (hx : opt h x = .ok v h') : x = some v ∧ h' = h := by
  cases x with
  | none => cases hx
  | some y => simp only [opt] at hx; cases hx; exact ⟨rfl, rfl⟩

theorem Good.upon {o : Oper} {K : Act → World → Prop} {Q : Exit → Act → World → Prop} {r : Result Next} {h' : Heap} {v : Value} (hg : Good P ro0 B0 w0 μ h' v r)
    (hK : ∀ μ' w' v', Ext μ μ' → HR P ro0 B0 w0 μ' h' w' → VR μ' v v' → K (a.put o.dst v') w') : o.upon P a K Q r := by
  obtain ⟨μ', w', h1, h2, h3⟩ := hg
  rcases h3 with ⟨v', rfl, h3⟩ | ⟨rfl, rfl⟩
  · exact hK μ' w' v' h1 h2 h3
  · exact hK μ' w' undef h1 h2 (VR.undef _)

theorem Good.here (hr : HR P ro0 B0 w0 μ h w) {v v' : Value} (hv : VR μ v v') : Good P ro0 B0 w0 μ h v (.ok (.value v') w) := ⟨μ, w, Ext.refl _, hr, .inl ⟨v', rfl, hv⟩⟩

def callB : Op → Bool
  | .call c => match c.callee with
    | .builtin _ => false
    | _ => true
  | _ => false

theorem run_bytes_get {s : ByteArray} {j : Nat} {b : UInt8} (hb : s.data.toList[j]? = some b) : s[j]? = some b := by
  have h1 : s.data[j]? = some b := by rw [← Array.getElem?_toList]; exact hb
  obtain ⟨h2, h3⟩ := Array.getElem?_eq_some_iff.1 h1
  have h4 : j < s.size := h2
  rw [getElem?_pos s j h4]
  congr 1

theorem idxIn_inv {n j : Nat} {v v' : Value} (hj : idxIn n v = some j) (hv : VR μ v v') : ∃ k i, v' = .int k i ∧ 0 ≤ i ∧ i < n ∧ j = i.toNat := by
  unfold idxIn at hj
  split at hj
  · rename_i k i
    split at hj
    · rename_i hb; cases hj; exact ⟨k, i, hv.int_inv, hb.1, hb.2, rfl⟩
    · cases hj
  · cases hj

theorem placesOf_spec (w : World) : ∀ {fs : List Field} {pl : List (Nat × Nat)}, placesOf P fs = some pl → (fs.mapM (m := Sem) fun f => Prod.mk f.offset <$> sizeOf f.type).run P w = .ok pl w
  | [], pl, hp => by simp only [placesOf] at hp; cases hp; simp
  | f :: fs, pl, hp => by
    simp only [placesOf] at hp
    split at hp
    · rename_i s hs
      split at hp
      · rename_i r hr
        cases hp
        have ih := placesOf_spec w hr
        simp [List.mapM_cons, run_sizeOf' hs, ih]
      · cases hp
    · cases hp

theorem good_build (hr : HR P ro0 B0 w0 μ h w) (t : TypeId) {z : Value} {ps ps' : List (Nat × Value)} {cs : List Value} (hz : zeroOf P t = some z) (hp : PRs μ ps ps')
    (place : Nat → Option (Nat × Nat))
    (hpl : (∃ fs pl, P.underlying t = some (.struct fs) ∧ placesOf P fs.toList = some pl ∧ place = (pl[·]?)) ∨ (∃ n e s, P.underlying t = some (.array n e) ∧ sizeOf? P e = some s ∧ place = fun i => some (i * s, s)))
    (hf : fillIn place z.cells.toList ps = some cs) : GoodV P ro0 B0 w0 μ h (.agg cs.toArray) ((Instr.build t ps'.toArray).run P w) := by
  have hzp := (zeroOf_spec hz).choose_spec.2.2.1
  obtain ⟨r', h1, h2⟩ := good_fill place (cs' := z.cells) hp (plain_cells hzp) hf
  refine ⟨μ, w, .agg r', ?_, Ext.refl _, hr, .agg _ _ (by simpa using h2)⟩
  rcases hpl with ⟨fs, pl, hu, hpl, rfl⟩ | ⟨n, e, s, hu, hs, rfl⟩
  · have hm := placesOf_spec w hpl
    simp [Instr.build, run_underlying hu, run_zeroValue' hz, Array.mapM_eq_mapM_toList, hm, h1]
  · simp only [Instr.build, Sem.run_bind, run_zeroValue' hz, run_underlying hu, run_sizeOf' hs, Result.andThen_ok, h1, Sem.run_pure]

theorem gs_move (hr : HR P ro0 B0 w0 μ h w) (he : ER ds μ e a) {call : Nat → FuncId → List Value → Heap → Out} {ro : Nat} (hro : ro0 ≤ ro) (dst : Option Tmp) (type : TypeId) (pos : String) (after : Array Edge) (guard : Option (Nat × Bool)) {v : Value} {h' : Heap} :
    ∀ x, stepOp P call ro ⟨dst, .move x, type, pos, after, guard⟩ e h = .ok v h' → Good P ro0 B0 w0 μ h' v ((execOp a.eval ⟨dst, .move x, type, pos, after, guard⟩).run P w) := by
  intro x hs
  simp only [stepOp] at hs
  obtain ⟨h1, rfl⟩ := opt_ok hs
  exact Good.here hr (he.ev hr h1)

theorem gs_assign (hr : HR P ro0 B0 w0 μ h w) (he : ER ds μ e a) {call : Nat → FuncId → List Value → Heap → Out} {ro : Nat} (hro : ro0 ≤ ro) (dst : Option Tmp) (type : TypeId) (pos : String) (after : Array Edge) (guard : Option (Nat × Bool)) {v : Value} {h' : Heap} :
    ∀ x, stepOp P call ro ⟨dst, .assign x, type, pos, after, guard⟩ e h = .ok v h' → Good P ro0 B0 w0 μ h' v ((execOp a.eval ⟨dst, .assign x, type, pos, after, guard⟩).run P w) := by
  intro x hs
  simp only [stepOp] at hs
  obtain ⟨h1, rfl⟩ := opt_ok hs
  exact Good.here hr (he.ev hr h1)

theorem gs_pick (hr : HR P ro0 B0 w0 μ h w) (he : ER ds μ e a) {call : Nat → FuncId → List Value → Heap → Out} {ro : Nat} (hro : ro0 ≤ ro) (dst : Option Tmp) (type : TypeId) (pos : String) (after : Array Edge) (guard : Option (Nat × Bool)) {v : Value} {h' : Heap} :
    ∀ c x y, stepOp P call ro ⟨dst, .pick c x y, type, pos, after, guard⟩ e h = .ok v h' → Good P ro0 B0 w0 μ h' v ((execOp a.eval ⟨dst, .pick c x y, type, pos, after, guard⟩).run P w) := by
  intro c x y hs
  simp only [stepOp] at hs
  split at hs
  · rename_i b hb
    obtain ⟨h1, rfl⟩ := opt_ok hs
    have hc := (he.ev hr hb).bool_inv
    have hv := he.ev hr h1
    have : (execOp a.eval { dst := dst, op := .pick c x y, type := type, pos := pos, after := after, guard := guard }).run P w = .ok (.value (a.eval (if b then x else y))) w := by
      simp only [execOp, hc, asBool, Sem.run_bind, Sem.run_pure, Result.andThen_ok]
      cases b <;> rfl
    rw [this]
    exact Good.here hr hv
  · cases hs

theorem gs_alloc (hr : HR P ro0 B0 w0 μ h w) (he : ER ds μ e a) {call : Nat → FuncId → List Value → Heap → Out} {ro : Nat} (hro : ro0 ≤ ro) (dst : Option Tmp) (type : TypeId) (pos : String) (after : Array Edge) (guard : Option (Nat × Bool)) {v : Value} {h' : Heap} :
    ∀ t, stepOp P call ro ⟨dst, .alloc t, type, pos, after, guard⟩ e h = .ok v h' → Good P ro0 B0 w0 μ h' v ((execOp a.eval ⟨dst, .alloc t, type, pos, after, guard⟩).run P w) := by
  intro t hs
  simp only [stepOp] at hs
  split at hs
  · rename_i z hz
    cases hs
    have hzp := (zeroOf_spec hz).choose_spec.2.2.1
    have hg := good_newVar hr t (VR.plain (μ := μ) 8 z hzp)
    refine GoodV.good (s := Instr.alloc t true (.tuple #[])) ?_
    have e1 : (Instr.alloc t true (.tuple #[])).run P w = ((do Pure.pure (Value.pointer (some (← newVar t z))) : Sem Value).run P w) := by
      simp only [Instr.alloc, Sem.run_bind, run_zeroValue' hz, Result.andThen_ok]
    rw [e1]; exact hg
  · cases hs

theorem gs_box (hr : HR P ro0 B0 w0 μ h w) (he : ER ds μ e a) {call : Nat → FuncId → List Value → Heap → Out} {ro : Nat} (hro : ro0 ≤ ro) (dst : Option Tmp) (type : TypeId) (pos : String) (after : Array Edge) (guard : Option (Nat × Bool)) {v : Value} {h' : Heap} :
    ∀ t x, stepOp P call ro ⟨dst, .box t x, type, pos, after, guard⟩ e h = .ok v h' → Good P ro0 B0 w0 μ h' v ((execOp a.eval ⟨dst, .box t x, type, pos, after, guard⟩).run P w) := by
  intro t x hs
  simp only [stepOp] at hs
  split at hs
  · rename_i v1 hv1
    cases hs
    exact GoodV.good (s := Instr.box t (a.eval x)) (good_newVar hr t (he.ev hr hv1))
  · cases hs

theorem gs_build (hr : HR P ro0 B0 w0 μ h w) (he : ER ds μ e a) {call : Nat → FuncId → List Value → Heap → Out} {ro : Nat} (hro : ro0 ≤ ro) (dst : Option Tmp) (type : TypeId) (pos : String) (after : Array Edge) (guard : Option (Nat × Bool)) {v : Value} {h' : Heap} :
    ∀ t parts, stepOp P call ro ⟨dst, .build t parts, type, pos, after, guard⟩ e h = .ok v h' → Good P ro0 B0 w0 μ h' v ((execOp a.eval ⟨dst, .build t parts, type, pos, after, guard⟩).run P w) := by
  intro t parts hs
  simp only [stepOp] at hs
  split at hs
  · rename_i z hz
    split at hs
    · rename_i ps hps
      have hp := he.evParts hr hps
      have e1 : (parts.map fun x => (x.1, a.eval x.2)) = (parts.toList.map fun x => (x.1, a.eval x.2)).toArray := by apply Array.ext'; simp
      split at hs
      · rename_i fs hu
        split at hs
        · rename_i pl hpl
          split at hs
          · rename_i cs hcs
            cases hs
            refine GoodV.good (s := Instr.build t (parts.map fun x => (x.1, a.eval x.2))) ?_
            rw [e1]
            exact good_build hr t hz hp _ (.inl ⟨fs, pl, hu, hpl, rfl⟩) hcs
          · cases hs
        · cases hs
      · rename_i n elem hu
        split at hs
        · rename_i s hsz
          split at hs
          · rename_i cs hcs
            cases hs
            refine GoodV.good (s := Instr.build t (parts.map fun x => (x.1, a.eval x.2))) ?_
            rw [e1]
            exact good_build hr t hz hp _ (.inr ⟨n, elem, s, hu, hsz, rfl⟩) hcs
          · cases hs
        · cases hs
      · cases hs
    · cases hs
  · cases hs

theorem gs_buildSlice (hr : HR P ro0 B0 w0 μ h w) (he : ER ds μ e a) {call : Nat → FuncId → List Value → Heap → Out} {ro : Nat} (hro : ro0 ≤ ro) (dst : Option Tmp) (type : TypeId) (pos : String) (after : Array Edge) (guard : Option (Nat × Bool)) {v : Value} {h' : Heap} :
    ∀ t n parts, stepOp P call ro ⟨dst, .buildSlice t n parts, type, pos, after, guard⟩ e h = .ok v h' → Good P ro0 B0 w0 μ h' v ((execOp a.eval ⟨dst, .buildSlice t n parts, type, pos, after, guard⟩).run P w) := by
  intro t n parts hs
  simp only [stepOp] at hs
  split at hs
  · rename_i elem hu
    split at hs
    · rename_i s hsz
      split at hs
      · rename_i z hz
        split at hs
        · rename_i ps hps
          split at hs
          · rename_i hb
            split at hs
            · rename_i cs hcs
              injection hs with hs1 hs2
              subst hs1; subst hs2
              have hp := he.evParts hr hps
              have e1 : (parts.map fun x => (x.1, a.eval x.2)) = (parts.toList.map fun x => (x.1, a.eval x.2)).toArray := by apply Array.ext'; simp
              have e2 : (execOp a.eval ⟨dst, .buildSlice t n parts, type, pos, after, guard⟩ : Sem Next) = (do let x ← Instr.buildSlice t n ((parts.toList.map fun x => (x.1, a.eval x.2)).toArray); Pure.pure (Next.value x) : Sem Next) := by
                rw [← e1]
                simp only [execOp]
              rw [e2]
              exact GoodV.good (good_buildSlice hr hu hsz hz hp hb hcs)
            · cases hs
          · cases hs
        · cases hs
      · cases hs
    · cases hs
  · cases hs

theorem alloc_push {call : Nat → FuncId → List Value → Heap → Out} {ro : Nat} {o : Oper} (ha : allocB o.op = true) {h : Heap} {v : Value} {h' : Heap} (hs : stepOp P call ro o e h = .ok v h') :
    ∃ blk, h' = h.push blk := by
  obtain ⟨dst, op, type, pos, after, guard⟩ := o
  cases op <;> simp only [allocB] at ha <;> try (cases ha; done)
  simp only [stepOp] at hs
  repeat' split at hs
  all_goals first
    | (cases hs; done)
    | (injection hs with hs1 hs2; exact ⟨_, hs2.symm⟩)

/-- What an operation does that only makes a block. -/
theorem alloc_inv {call : Nat → FuncId → List Value → Heap → Out} {ro : Nat} {o : Oper} (ha : allocB o.op = true) {h : Heap} {v : Value} {h' : Heap} (hs : stepOp P call ro o e h = .ok v h') :
    ∃ blk n, h' = h.push blk ∧ v = .slice (some ⟨h.next, 0, none⟩) n n ∧ blk ≠ .hole ∧ ∀ {μ : Mu} {g : Heap} {w : World} {a : Act} {ds : List Deferred}, HR P ro0 B0 w0 μ g w → ER ds μ e a →
      ∃ obj l v', (execOp a.eval o).run P w = .ok (.value v') (w.alloc obj) ∧ l.blk = w.heap.size ∧ (∀ own, BR μ own l blk obj) ∧ ∀ (μ2 : Mu) β, μ2 β = some l → VR μ2 (.slice (some ⟨β, 0, none⟩) n n) v' := by
  obtain ⟨dst, op, type, pos, after, guard⟩ := o
  cases op <;> simp only [allocB] at ha <;> try (cases ha; done)
  rename_i t n parts
  simp only [stepOp] at hs
  split at hs
  · rename_i elem hu
    split at hs
    · rename_i s hsz
      split at hs
      · rename_i z hz
        split at hs
        · rename_i ps hps
          split at hs
          · rename_i hb
            split at hs
            · rename_i cs hcs
              injection hs with hs1 hs2
              subst hs1; subst hs2
              refine ⟨_, n, rfl, rfl, by simp, fun {μ g w a ds} hr he => ?_⟩
              have hp := he.evParts hr hps
              have e1 : (parts.map fun x => (x.1, a.eval x.2)) = (parts.toList.map fun x => (x.1, a.eval x.2)).toArray := by apply Array.ext'; simp
              have e2 : (execOp a.eval ⟨dst, .buildSlice t n parts, type, pos, after, guard⟩ : Sem Next) = (do let x ← Instr.buildSlice t n ((parts.toList.map fun x => (x.1, a.eval x.2)).toArray); Pure.pure (Next.value x) : Sem Next) := by
                rw [← e1]
                simp only [execOp]
              obtain ⟨r', f1, f2, f3⟩ := run_buildSlice' hr hu hsz hz hp hb hcs
              refine ⟨.cells r' elem, ⟨w.heap.size, 0, s, r'.size⟩, _, ?_, rfl, fun own => ⟨rfl, rfl, ?_, fun i v hi => ?_, fun _ => .inl rfl⟩, fun μ2 β hβ => VR.slice (l := ⟨w.heap.size, 0, s, r'.size⟩) β 0 n n n hβ (Nat.le_refl _) (Nat.le_refl _) (by simp [f2])⟩
              · rw [e2]
                simp only [Sem.run_bind, f3, Result.andThen_ok, Sem.run_pure]
              · have := f1.length; simp at this; simp [this]
              · obtain ⟨v', h1, h2⟩ := f1.get hi
                exact ⟨v', by simpa using h1, h2⟩
            · cases hs
          · cases hs
        · cases hs
      · cases hs
    · cases hs
  · cases hs

theorem gs_load (hr : HR P ro0 B0 w0 μ h w) (he : ER ds μ e a) {call : Nat → FuncId → List Value → Heap → Out} {ro : Nat} (hro : ro0 ≤ ro) (dst : Option Tmp) (type : TypeId) (pos : String) (after : Array Edge) (guard : Option (Nat × Bool)) {v : Value} {h' : Heap} :
    ∀ t x, stepOp P call ro ⟨dst, .load t x, type, pos, after, guard⟩ e h = .ok v h' → Good P ro0 B0 w0 μ h' v ((execOp a.eval ⟨dst, .load t x, type, pos, after, guard⟩).run P w) := by
  intro t x hs
  simp only [stepOp] at hs
  split at hs
  · rename_i ad had
    obtain ⟨b, off, sp⟩ := ad
    obtain ⟨l, rfl, hm, hx⟩ := (he.ev hr had).ptr_inv
    refine GoodV.good (s := Instr.loadAt t (a.eval x)) ?_
    rw [hx]
    split at hs
    · rename_i hagg
      split at hs
      · rename_i n hn
        split at hs
        · rename_i cs hcs
          cases hs
          obtain ⟨cs', g1, g2⟩ := hr.loadCells hm hcs
          refine ⟨μ, w, .agg cs'.toArray, ?_, Ext.refl _, hr, .agg _ _ (by simpa using g1)⟩
          simp only [Instr.loadAt, Instr.sureAddr, Sem.run_bind, Sem.run_pure, Result.andThen_ok, loadVar, run_isAgg' hagg, if_true, run_sizeOf' hn, g2]
        · cases hs
      · cases hs
    · rename_i hagg
      split at hs
      · rename_i v1 hcs
        cases hs
        obtain ⟨cs', g1, g2, g3⟩ := hr.read hm hcs
        obtain ⟨v1', rfl, g4⟩ := g1.one
        have g5 := g3 0 v1' rfl
        refine ⟨μ, w, v1', ?_, Ext.refl _, hr, g4⟩
        rw [addr_add] at g5
        simp only [Nat.add_zero] at g5
        simp only [Instr.loadAt, Instr.sureAddr, Sem.run_bind, Sem.run_pure, Result.andThen_ok, loadVar, run_isAgg' hagg, Bool.false_eq_true, if_false]
        rw [run_load, g5]
      · cases hs
    · cases hs
  · cases hs

theorem gs_store (hr : HR P ro0 B0 w0 μ h w) (he : ER ds μ e a) {call : Nat → FuncId → List Value → Heap → Out} {ro : Nat} (hro : ro0 ≤ ro) (dst : Option Tmp) (type : TypeId) (pos : String) (after : Array Edge) (guard : Option (Nat × Bool)) {v : Value} {h' : Heap} :
    ∀ t x y, stepOp P call ro ⟨dst, .store t x y, type, pos, after, guard⟩ e h = .ok v h' → Good P ro0 B0 w0 μ h' v ((execOp a.eval ⟨dst, .store t x y, type, pos, after, guard⟩).run P w) := by
  intro t x y hs
  simp only [stepOp] at hs
  split at hs
  · rename_i ad v1 had hv1
    obtain ⟨b, off, sp⟩ := ad
    obtain ⟨l, rfl, hm, hx⟩ := (he.ev hr had).ptr_inv
    have hy := he.ev hr hv1
    split at hs
    · rename_i n hn
      split at hs
      · rename_i hsz
        split at hs
        · rename_i h2 hw
          cases hs
          obtain ⟨w', g1, g2⟩ := hr.storeCells hro hm hy.cells hw
          refine ⟨μ, w', Ext.refl _, g2, .inr ⟨?_, rfl⟩⟩
          have hsz' : ¬ (a.eval y).cells.size ≠ n := by rw [hy.size]; simpa using hsz
          simp only [execOp, hx, Instr.storeAt, Instr.sureAddr, Sem.run_bind, Sem.run_pure, Result.andThen_ok, storeVar, run_sizeOf' hn, if_neg hsz', g1]
        · cases hs
      · cases hs
    · cases hs
  · cases hs

theorem gs_nilCheck (hr : HR P ro0 B0 w0 μ h w) (he : ER ds μ e a) {call : Nat → FuncId → List Value → Heap → Out} {ro : Nat} (hro : ro0 ≤ ro) (dst : Option Tmp) (type : TypeId) (pos : String) (after : Array Edge) (guard : Option (Nat × Bool)) {v : Value} {h' : Heap} :
    ∀ x, stepOp P call ro ⟨dst, .nilCheck x, type, pos, after, guard⟩ e h = .ok v h' → Good P ro0 B0 w0 μ h' v ((execOp a.eval ⟨dst, .nilCheck x, type, pos, after, guard⟩).run P w) := by
  intro x hs
  simp only [stepOp] at hs
  split at hs
  · rename_i ad had
    cases hs
    obtain ⟨b, off, sp⟩ := ad
    have hv := he.ev hr had
    obtain ⟨l, rfl, hm, hx⟩ := hv.ptr_inv
    have : (execOp a.eval { dst := dst, op := .nilCheck x, type := type, pos := pos, after := after, guard := guard }).run P w = .ok (.value (a.eval x)) w := by
      simp only [execOp, hx, Sem.run_pure]
    rw [this]
    exact Good.here hr hv
  · rename_i f p q hf
    cases hs
    have hv := he.ev hr hf
    have : (execOp a.eval { dst := dst, op := .nilCheck x, type := type, pos := pos, after := after, guard := guard }).run P w = .ok (.value (a.eval x)) w := by
      simp only [execOp]
      generalize a.eval x = u at hv
      cases hv
      rfl
    rw [this]
    exact Good.here hr hv
  · cases hs

theorem gs_binOp (hr : HR P ro0 B0 w0 μ h w) (he : ER ds μ e a) {call : Nat → FuncId → List Value → Heap → Out} {ro : Nat} (hro : ro0 ≤ ro) (dst : Option Tmp) (type : TypeId) (pos : String) (after : Array Edge) (guard : Option (Nat × Bool)) {v : Value} {h' : Heap} :
    ∀ op t x y u4, stepOp P call ro ⟨dst, .binOp op t x y u4, type, pos, after, guard⟩ e h = .ok v h' → Good P ro0 B0 w0 μ h' v ((execOp a.eval ⟨dst, .binOp op t x y u4, type, pos, after, guard⟩).run P w) := by
  intro op t x y u4 hs
  simp only [stepOp] at hs
  split at hs
  · rename_i p q hp hq
    obtain ⟨h1, rfl⟩ := opt_ok hs
    exact GoodV.good (good_binop op t x y hr (he.ev hr hp) (he.ev hr hq) h1)
  · cases hs

theorem gs_unOp (hr : HR P ro0 B0 w0 μ h w) (he : ER ds μ e a) {call : Nat → FuncId → List Value → Heap → Out} {ro : Nat} (hro : ro0 ≤ ro) (dst : Option Tmp) (type : TypeId) (pos : String) (after : Array Edge) (guard : Option (Nat × Bool)) {v : Value} {h' : Heap} :
    ∀ op t x, stepOp P call ro ⟨dst, .unOp op t x, type, pos, after, guard⟩ e h = .ok v h' → Good P ro0 B0 w0 μ h' v ((execOp a.eval ⟨dst, .unOp op t x, type, pos, after, guard⟩).run P w) := by
  intro op t x hs
  simp only [stepOp] at hs
  split at hs
  · rename_i p hp
    obtain ⟨h1, rfl⟩ := opt_ok hs
    exact GoodV.good (good_unop op hr (he.ev hr hp) h1)
  · cases hs

theorem gs_convert (hr : HR P ro0 B0 w0 μ h w) (he : ER ds μ e a) {call : Nat → FuncId → List Value → Heap → Out} {ro : Nat} (hro : ro0 ≤ ro) (dst : Option Tmp) (type : TypeId) (pos : String) (after : Array Edge) (guard : Option (Nat × Bool)) {v : Value} {h' : Heap} :
    ∀ s d x, stepOp P call ro ⟨dst, .convert s d x, type, pos, after, guard⟩ e h = .ok v h' → Good P ro0 B0 w0 μ h' v ((execOp a.eval ⟨dst, .convert s d x, type, pos, after, guard⟩).run P w) := by
  intro s d x hs
  simp only [stepOp] at hs
  split at hs
  · rename_i p hp
    exact GoodV.good (good_conv hr hro s d (he.ev hr hp) hs)
  · cases hs

theorem gs_makeInterface (hr : HR P ro0 B0 w0 μ h w) (he : ER ds μ e a) {call : Nat → FuncId → List Value → Heap → Out} {ro : Nat} (hro : ro0 ≤ ro) (dst : Option Tmp) (type : TypeId) (pos : String) (after : Array Edge) (guard : Option (Nat × Bool)) {v : Value} {h' : Heap} :
    ∀ t x, stepOp P call ro ⟨dst, .makeInterface t x, type, pos, after, guard⟩ e h = .ok v h' → Good P ro0 B0 w0 μ h' v ((execOp a.eval ⟨dst, .makeInterface t x, type, pos, after, guard⟩).run P w) := by
  intro t x hs
  simp only [stepOp] at hs
  split at hs
  · rename_i p hp
    split at hs
    · cases hs
    · rename_i d hd hu
      cases hs
      refine GoodV.good (s := Instr.makeInterface t (a.eval x)) ⟨μ, w, .iface t (a.eval x), ?_, Ext.refl _, hr, .iface _ _ _ (he.ev hr hp)⟩
      simp only [Instr.makeInterface, Sem.run_bind, run_underlying hu, Result.andThen_ok]
      cases d <;> first | (exact absurd rfl (hd _)) | rfl
    · cases hs
  · cases hs

theorem gs_makeFunc (hr : HR P ro0 B0 w0 μ h w) (he : ER ds μ e a) {call : Nat → FuncId → List Value → Heap → Out} {ro : Nat} (hro : ro0 ≤ ro) (dst : Option Tmp) (type : TypeId) (pos : String) (after : Array Edge) (guard : Option (Nat × Bool)) {v : Value} {h' : Heap} :
    ∀ f first cap, stepOp P call ro ⟨dst, .makeFunc f first cap, type, pos, after, guard⟩ e h = .ok v h' → Good P ro0 B0 w0 μ h' v ((execOp a.eval ⟨dst, .makeFunc f first cap, type, pos, after, guard⟩).run P w) := by
  intro f first cap hs
  simp only [stepOp] at hs
  cases f <;> simp only at hs <;> try (cases hs; done)
  split at hs
  · rename_i p q hp hq
    cases hs
    refine GoodV.good (s := Instr.makeFunc _ (first.map a.eval) (cap.map a.eval)) ⟨μ, w, .func _ _ _, rfl, Ext.refl _, hr, .func _ _ _ _ _ ?_ ?_⟩
    · have := he.evs hr hp; simpa using this
    · have := he.evs hr hq; simpa using this
  · cases hs

theorem gs_makeSlice (hr : HR P ro0 B0 w0 μ h w) (he : ER ds μ e a) {call : Nat → FuncId → List Value → Heap → Out} {ro : Nat} (hro : ro0 ≤ ro) (dst : Option Tmp) (type : TypeId) (pos : String) (after : Array Edge) (guard : Option (Nat × Bool)) {v : Value} {h' : Heap} :
    ∀ t l c, stepOp P call ro ⟨dst, .makeSlice t l c, type, pos, after, guard⟩ e h = .ok v h' → Good P ro0 B0 w0 μ h' v ((execOp a.eval ⟨dst, .makeSlice t l c, type, pos, after, guard⟩).run P w) := by
  intro t l c hs
  simp only [stepOp] at hs
  split at hs
  · rename_i elem hu
    split at hs
    · rename_i i hi
      split at hs
      · rename_i z hz
        split at hs
        · rename_i n m hn hm
          split at hs
          · rename_i hb
            cases hs
            have e1 := (he.ev hr hn).int_inv
            have e2 := (he.ev hr hm).int_inv
            refine GoodV.good (s := Instr.makeSlice t (a.eval l) (a.eval c)) ?_
            rw [e1, e2]
            exact good_makeSlice hr hu hi hz hb.1 hb.2.1 hb.2.2.1 hb.2.2.2
          · cases hs
        · cases hs
      · cases hs
    · cases hs
  · cases hs

theorem gs_slice (hr : HR P ro0 B0 w0 μ h w) (he : ER ds μ e a) {call : Nat → FuncId → List Value → Heap → Out} {ro : Nat} (hro : ro0 ≤ ro) (dst : Option Tmp) (type : TypeId) (pos : String) (after : Array Edge) (guard : Option (Nat × Bool)) {v : Value} {h' : Heap} :
    ∀ t x lo hi mx, stepOp P call ro ⟨dst, .slice t x lo hi mx, type, pos, after, guard⟩ e h = .ok v h' → Good P ro0 B0 w0 μ h' v ((execOp a.eval ⟨dst, .slice t x lo hi mx, type, pos, after, guard⟩).run P w) := by
  intro t x lo hi mx hs
  simp only [stepOp] at hs
  split at hs
  · cases hs
  · rename_i hmx
    split at hs
    · rename_i p l m hp hl hm
      obtain ⟨h1, rfl⟩ := opt_ok hs
      have hg := good_slice hr t (he.ev hr hp) (he.evo hr hl) (he.evo hr hm) h1
      cases mx with
      | none => exact GoodV.good hg
      | some y => exact absurd rfl hmx
    · cases hs

theorem gs_fieldAddr (hr : HR P ro0 B0 w0 μ h w) (he : ER ds μ e a) {call : Nat → FuncId → List Value → Heap → Out} {ro : Nat} (hro : ro0 ≤ ro) (dst : Option Tmp) (type : TypeId) (pos : String) (after : Array Edge) (guard : Option (Nat × Bool)) {v : Value} {h' : Heap} :
    ∀ t x i, stepOp P call ro ⟨dst, .fieldAddr t x i, type, pos, after, guard⟩ e h = .ok v h' → Good P ro0 B0 w0 μ h' v ((execOp a.eval ⟨dst, .fieldAddr t x i, type, pos, after, guard⟩).run P w) := by
  intro t x i hs
  simp only [stepOp] at hs
  split at hs
  · rename_i fs ad hu had
    split at hs
    · rename_i f hf
      split at hs
      · rename_i n hn
        cases hs
        obtain ⟨b, off, sp⟩ := ad
        obtain ⟨l, rfl, hm, hx⟩ := (he.ev hr had).ptr_inv
        refine GoodV.good (s := Instr.fieldAt t (a.eval x) i) ⟨μ, w, .pointer (some ⟨l.blk, l.off + (off + f.offset), none⟩), ?_, Ext.refl _, hr, ?_⟩
        · rw [hx]
          simp only [Instr.fieldAt, Instr.sureAddr, Sem.run_bind, Sem.run_pure, Result.andThen_ok, run_underlying hu, hf, fieldPlace, run_sizeOf' hn, Nat.add_one_ne_zero, if_false, addr_add, Nat.add_assoc]
        · rw [addr_add]; exact .ptr _ _ l hm
      · cases hs
    · cases hs
  · cases hs

theorem gs_field (hr : HR P ro0 B0 w0 μ h w) (he : ER ds μ e a) {call : Nat → FuncId → List Value → Heap → Out} {ro : Nat} (hro : ro0 ≤ ro) (dst : Option Tmp) (type : TypeId) (pos : String) (after : Array Edge) (guard : Option (Nat × Bool)) {v : Value} {h' : Heap} :
    ∀ t x i, stepOp P call ro ⟨dst, .field t x i, type, pos, after, guard⟩ e h = .ok v h' → Good P ro0 B0 w0 μ h' v ((execOp a.eval ⟨dst, .field t x i, type, pos, after, guard⟩).run P w) := by
  intro t x i hs
  simp only [stepOp] at hs
  split at hs
  · rename_i fs cs hu hcs
    split at hs
    · rename_i f hf
      obtain ⟨h1, rfl⟩ := opt_ok hs
      have hv := he.ev hr hcs
      refine GoodV.good (s := Instr.field t (a.eval x) i) ?_
      generalize a.eval x = u at hv
      cases hv with
      | agg _ cs' hc =>
      obtain ⟨μ', w', v', g1, g2, g3, g4⟩ := good_part hr f.type hc h1
      exact ⟨μ', w', v', by simp only [Instr.field, asAgg, Sem.run_bind, Sem.run_pure, Result.andThen_ok, run_underlying hu, hf, g1], g2, g3, g4⟩
    · cases hs
  · cases hs

theorem gs_indexAddr (hr : HR P ro0 B0 w0 μ h w) (he : ER ds μ e a) {call : Nat → FuncId → List Value → Heap → Out} {ro : Nat} (hro : ro0 ≤ ro) (dst : Option Tmp) (type : TypeId) (pos : String) (after : Array Edge) (guard : Option (Nat × Bool)) {v : Value} {h' : Heap} :
    ∀ t x ix, stepOp P call ro ⟨dst, .indexAddr t x ix, type, pos, after, guard⟩ e h = .ok v h' → Good P ro0 B0 w0 μ h' v ((execOp a.eval ⟨dst, .indexAddr t x ix, type, pos, after, guard⟩).run P w) := by
  intro t x ix hs
  simp only [stepOp] at hs
  split at hs
  · rename_i elem ad n c iv hu hx hi
    split at hs
    · rename_i j hj
      split at hs
      · rename_i s hsz
        cases hs
        obtain ⟨k, i, e1, h0, h1, rfl⟩ := idxIn_inv hj (he.ev hr hi)
        obtain ⟨b, off, sp⟩ := ad
        rcases (he.ev hr hx).slice_inv with ⟨l, c', rfl, hm, g2, g3, g4, e2⟩ | ⟨a', c', rfl, rfl, rfl, rfl, rfl, e2⟩
        · refine GoodV.good (s := Instr.indexAt t (a.eval x) (a.eval ix)) ⟨μ, w, .pointer (some ⟨l.blk, l.off + (off + i.toNat * s), none⟩), ?_, Ext.refl _, hr, ?_⟩
          · rw [e1, e2]
            simp [Instr.indexAt, asIntOf, run_underlying hu, run_sizeOf' hsz, h0, h1, addr_add, Nat.add_assoc]
          · rw [addr_add]; exact .ptr _ _ l hm
        · omega
      · cases hs
    · cases hs
  · rename_i n elem ad iv hu hx hi
    split at hs
    · rename_i j hj
      split at hs
      · rename_i s hsz
        cases hs
        obtain ⟨k, i, e1, h0, h1, rfl⟩ := idxIn_inv hj (he.ev hr hi)
        obtain ⟨b, off, sp⟩ := ad
        obtain ⟨l, rfl, hm, e2⟩ := (he.ev hr hx).ptr_inv
        refine GoodV.good (s := Instr.indexAt t (a.eval x) (a.eval ix)) ⟨μ, w, .pointer (some ⟨l.blk, l.off + (off + i.toNat * s), none⟩), ?_, Ext.refl _, hr, ?_⟩
        · rw [e1, e2]
          simp [Instr.indexAt, Instr.sureAddr, asIntOf, run_underlying hu, run_sizeOf' hsz, h0, h1, addr_add, Nat.add_assoc]
        · rw [addr_add]; exact .ptr _ _ l hm
      · cases hs
    · cases hs
  · cases hs

theorem gs_index (hr : HR P ro0 B0 w0 μ h w) (he : ER ds μ e a) {call : Nat → FuncId → List Value → Heap → Out} {ro : Nat} (hro : ro0 ≤ ro) (dst : Option Tmp) (type : TypeId) (pos : String) (after : Array Edge) (guard : Option (Nat × Bool)) {v : Value} {h' : Heap} :
    ∀ t x ix, stepOp P call ro ⟨dst, .index t x ix, type, pos, after, guard⟩ e h = .ok v h' → Good P ro0 B0 w0 μ h' v ((execOp a.eval ⟨dst, .index t x ix, type, pos, after, guard⟩).run P w) := by
  intro t x ix hs
  simp only [stepOp] at hs
  split at hs
  · rename_i n elem cs iv hu hx hi
    split at hs
    · rename_i j hj
      split at hs
      · rename_i s hsz
        obtain ⟨hp, rfl⟩ := opt_ok hs
        obtain ⟨k, i, e1, h0, h1, rfl⟩ := idxIn_inv hj (he.ev hr hi)
        have hv := he.ev hr hx
        refine GoodV.good (s := Instr.index t (a.eval x) (a.eval ix)) ?_
        generalize a.eval x = u at hv
        cases hv with
        | agg _ cs' hc =>
        obtain ⟨μ', w', v', g1, g2, g3, g4⟩ := good_part hr elem hc hp
        exact ⟨μ', w', v', by simp [e1, Instr.index, asIntOf, run_underlying hu, run_sizeOf' hsz, h0, h1, g1], g2, g3, g4⟩
      · cases hs
    · cases hs
  · rename_i s iv hu hx hi
    split at hs
    · rename_i j hj
      split at hs
      · rename_i b hb
        cases hs
        obtain ⟨k, i, e1, h0, h1, rfl⟩ := idxIn_inv hj (he.ev hr hi)
        have e2 := (he.ev hr hx).string_inv
        refine GoodV.good (s := Instr.index t (a.eval x) (a.eval ix)) ⟨μ, w, .int .u8 b.toNat, ?_, Ext.refl _, hr, .int _ _⟩
        rw [e1, e2]
        simp [Instr.index, asIntOf, run_underlying hu, h0, run_bytes_get hb]
      · cases hs
    · cases hs
  · cases hs

theorem gs_extract (hr : HR P ro0 B0 w0 μ h w) (he : ER ds μ e a) {call : Nat → FuncId → List Value → Heap → Out} {ro : Nat} (hro : ro0 ≤ ro) (dst : Option Tmp) (type : TypeId) (pos : String) (after : Array Edge) (guard : Option (Nat × Bool)) {v : Value} {h' : Heap} :
    ∀ x i, stepOp P call ro ⟨dst, .extract x i, type, pos, after, guard⟩ e h = .ok v h' → Good P ro0 B0 w0 μ h' v ((execOp a.eval ⟨dst, .extract x i, type, pos, after, guard⟩).run P w) := by
  intro x i hs
  simp only [stepOp] at hs
  split at hs
  · rename_i vs hvs
    obtain ⟨h1, rfl⟩ := opt_ok hs
    have hv := he.ev hr hvs
    refine GoodV.good (s := Instr.extract (a.eval x) i) ?_
    generalize a.eval x = u at hv
    cases hv with
    | tuple _ vs' hc =>
    obtain ⟨v', g1, g2⟩ := hc.get h1
    rw [Array.getElem?_toList] at g1
    exact ⟨μ, w, v', by simp only [Instr.extract, g1, Sem.run_pure], Ext.refl _, hr, g2⟩
  · cases hs

theorem gs_typeAssert (hr : HR P ro0 B0 w0 μ h w) (he : ER ds μ e a) {call : Nat → FuncId → List Value → Heap → Out} {ro : Nat} (hro : ro0 ≤ ro) (dst : Option Tmp) (type : TypeId) (pos : String) (after : Array Edge) (guard : Option (Nat × Bool)) {v : Value} {h' : Heap} :
    ∀ x xt t ok, stepOp P call ro ⟨dst, .typeAssert x xt t ok, type, pos, after, guard⟩ e h = .ok v h' → Good P ro0 B0 w0 μ h' v ((execOp a.eval ⟨dst, .typeAssert x xt t ok, type, pos, after, guard⟩).run P w) := by
  intro x xt t ok hs
  simp only [stepOp] at hs
  split at hs
  · rename_i p hp
    exact GoodV.good (good_typeAssert hr (he.ev hr hp) xt t ok hs)
  · cases hs

theorem gs_makeMap (hr : HR P ro0 B0 w0 μ h w) (he : ER ds μ e a) {call : Nat → FuncId → List Value → Heap → Out} {ro : Nat} (hro : ro0 ≤ ro) (dst : Option Tmp) (type : TypeId) (pos : String) (after : Array Edge) (guard : Option (Nat × Bool)) {v : Value} {h' : Heap} :
    ∀ t r, stepOp P call ro ⟨dst, .makeMap t r, type, pos, after, guard⟩ e h = .ok v h' → Good P ro0 B0 w0 μ h' v ((execOp a.eval ⟨dst, .makeMap t r, type, pos, after, guard⟩).run P w) := by
  intro t r hs
  cases r with
  | none =>
    simp only [stepOp] at hs
    cases hs
    exact GoodV.good (s := Instr.makeMap t none) (good_makeMap hr t)
  | some r => simp only [stepOp] at hs; cases hs

theorem gs_lookup (hr : HR P ro0 B0 w0 μ h w) (he : ER ds μ e a) {call : Nat → FuncId → List Value → Heap → Out} {ro : Nat} (hro : ro0 ≤ ro) (dst : Option Tmp) (type : TypeId) (pos : String) (after : Array Edge) (guard : Option (Nat × Bool)) {v : Value} {h' : Heap} :
    ∀ t x ix ok, stepOp P call ro ⟨dst, .lookup t x ix ok, type, pos, after, guard⟩ e h = .ok v h' → Good P ro0 B0 w0 μ h' v ((execOp a.eval ⟨dst, .lookup t x ix ok, type, pos, after, guard⟩).run P w) := by
  intro t x ix ok hs
  simp only [stepOp] at hs
  split at hs
  · rename_i m k hm hk
    exact GoodV.good (good_lookup hr (he.ev hr hm) (he.ev hr hk) hs)
  · cases hs

theorem gs_mapUpdate (hr : HR P ro0 B0 w0 μ h w) (he : ER ds μ e a) {call : Nat → FuncId → List Value → Heap → Out} {ro : Nat} (hro : ro0 ≤ ro) (dst : Option Tmp) (type : TypeId) (pos : String) (after : Array Edge) (guard : Option (Nat × Bool)) {v : Value} {h' : Heap} :
    ∀ t x ix y, stepOp P call ro ⟨dst, .mapUpdate t x ix y, type, pos, after, guard⟩ e h = .ok v h' → Good P ro0 B0 w0 μ h' v ((execOp a.eval ⟨dst, .mapUpdate t x ix y, type, pos, after, guard⟩).run P w) := by
  intro t x ix y hs
  simp only [stepOp] at hs
  split at hs
  · rename_i m k v1 hm hk hy
    obtain ⟨rfl, w', g1, g2⟩ := good_mapUpdate hr hro (he.ev hr hm) (he.ev hr hk) (he.ev hr hy) hs
    refine ⟨μ, w', Ext.refl _, g2, .inr ⟨?_, rfl⟩⟩
    simp only [execOp, Sem.run_bind, g1, Result.andThen_ok, Sem.run_pure]
  · cases hs

theorem gs_range (hr : HR P ro0 B0 w0 μ h w) (he : ER ds μ e a) {call : Nat → FuncId → List Value → Heap → Out} {ro : Nat} (hro : ro0 ≤ ro) (dst : Option Tmp) (type : TypeId) (pos : String) (after : Array Edge) (guard : Option (Nat × Bool)) {v : Value} {h' : Heap} :
    ∀ t x, stepOp P call ro ⟨dst, .range t x, type, pos, after, guard⟩ e h = .ok v h' → Good P ro0 B0 w0 μ h' v ((execOp a.eval ⟨dst, .range t x, type, pos, after, guard⟩).run P w) := by
  intro t x hs
  simp only [stepOp] at hs
  split at hs
  · rename_i s hu hx
    have hv := (he.ev hr hx).string_inv
    cases hs
    refine GoodV.good (s := Instr.range t (a.eval x)) ?_
    rw [hv]
    exact good_range hr s hu
  · cases hs

theorem gs_next (hr : HR P ro0 B0 w0 μ h w) (he : ER ds μ e a) {call : Nat → FuncId → List Value → Heap → Out} {ro : Nat} (hro : ro0 ≤ ro) (dst : Option Tmp) (type : TypeId) (pos : String) (after : Array Edge) (guard : Option (Nat × Bool)) {v : Value} {h' : Heap} :
    ∀ x b, stepOp P call ro ⟨dst, .next x b, type, pos, after, guard⟩ e h = .ok v h' → Good P ro0 B0 w0 μ h' v ((execOp a.eval ⟨dst, .next x b, type, pos, after, guard⟩).run P w) := by
  intro x b hs
  simp only [stepOp] at hs
  split at hs
  · rename_i v1 hx
    exact GoodV.good (good_next hr hro type (he.ev hr hx) hs)
  · cases hs

theorem good_step (hr : HR P ro0 B0 w0 μ h w) (he : ER ds μ e a) {call : Nat → FuncId → List Value → Heap → Out} {ro : Nat} (hro : ro0 ≤ ro) (o : Oper) (hcall : callB o.op = false) {v : Value} {h' : Heap}
    (hs : stepOp P call ro o e h = .ok v h') : Good P ro0 B0 w0 μ h' v ((execOp a.eval o).run P w) := by
  obtain ⟨dst, op, type, pos, after, guard⟩ := o
  cases op
  case move x => exact gs_move hr he (call := call) hro dst type pos after guard x hs
  case assign x => exact gs_assign hr he (call := call) hro dst type pos after guard x hs
  case pick c x y => exact gs_pick hr he (call := call) hro dst type pos after guard c x y hs
  case alloc t => exact gs_alloc hr he (call := call) hro dst type pos after guard t hs
  case box t x => exact gs_box hr he (call := call) hro dst type pos after guard t x hs
  case build t parts => exact gs_build hr he (call := call) hro dst type pos after guard t parts hs
  case buildSlice t n parts => exact gs_buildSlice hr he (call := call) hro dst type pos after guard t n parts hs
  case load t x => exact gs_load hr he (call := call) hro dst type pos after guard t x hs
  case store t x y => exact gs_store hr he (call := call) hro dst type pos after guard t x y hs
  case nilCheck x => exact gs_nilCheck hr he (call := call) hro dst type pos after guard x hs
  case binOp op t x y u4 => exact gs_binOp hr he (call := call) hro dst type pos after guard op t x y u4 hs
  case unOp op t x => exact gs_unOp hr he (call := call) hro dst type pos after guard op t x hs
  case convert s d x => exact gs_convert hr he (call := call) hro dst type pos after guard s d x hs
  case makeInterface t x => exact gs_makeInterface hr he (call := call) hro dst type pos after guard t x hs
  case makeFunc f first cap => exact gs_makeFunc hr he (call := call) hro dst type pos after guard f first cap hs
  case makeSlice t l c => exact gs_makeSlice hr he (call := call) hro dst type pos after guard t l c hs
  case makeMap t r => exact gs_makeMap hr he (call := call) hro dst type pos after guard t r hs
  case lookup t x ix ok => exact gs_lookup hr he (call := call) hro dst type pos after guard t x ix ok hs
  case mapUpdate t x ix y => exact gs_mapUpdate hr he (call := call) hro dst type pos after guard t x ix y hs
  case range t x => exact gs_range hr he (call := call) hro dst type pos after guard t x hs
  case next x b => exact gs_next hr he (call := call) hro dst type pos after guard x b hs
  case slice t x lo hi mx => exact gs_slice hr he (call := call) hro dst type pos after guard t x lo hi mx hs
  case fieldAddr t x i => exact gs_fieldAddr hr he (call := call) hro dst type pos after guard t x i hs
  case field t x i => exact gs_field hr he (call := call) hro dst type pos after guard t x i hs
  case indexAddr t x ix => exact gs_indexAddr hr he (call := call) hro dst type pos after guard t x ix hs
  case index t x ix => exact gs_index hr he (call := call) hro dst type pos after guard t x ix hs
  case extract x i => exact gs_extract hr he (call := call) hro dst type pos after guard x i hs
  case typeAssert x xt t ok => exact gs_typeAssert hr he (call := call) hro dst type pos after guard x xt t ok hs
  case panic x =>
    simp only [stepOp] at hs
    split at hs <;> cases hs
  case call c =>
    simp only [stepOp] at hs
    obtain ⟨callee, args, argTypes⟩ := c
    cases callee <;> simp only [callB] at hcall <;> try (cases hcall; done)
    rename_i b
    split at hs
    · rename_i vs hvs
      have hg := good_builtin hr hro b argTypes type (args.map fun | .const _ => true | _ => false) (args' := args.map a.eval) (by have := he.evs hr hvs; simpa using this) hs
      have : (execOp a.eval { dst := dst, op := .call { callee := .builtin b, args := args, argTypes := argTypes }, type := type, pos := pos, after := after, guard := guard }).run P w
          = (builtin b argTypes type (args.map fun | .const _ => true | _ => false) (args.map a.eval)).run P w := by
        simp only [execOp, resolve, invoke, Sem.run_bind, Sem.run_pure, Result.andThen_ok]
        rfl
      rw [this]; exact hg
    · cases hs
  all_goals (simp only [stepOp] at hs; cases hs)

end Go.Abs

namespace Go.Abs
open Go.RowKit
set_option linter.unusedSimpArgs false
set_option linter.unusedVariables false
variable {ds : List Deferred}
variable {P : Program} {ro0 B0 : Nat} {w0 : World} {μ : Mu} {h : Heap} {w : World} {e : Env} {a : Act}

def Ret (P : Program) (ro0 B0 : Nat) (w0 : World) (μ : Mu) (h' : Heap) (v : Value) : Ending → World → Prop
  | .returned v', w' => ∃ μ', Ext μ μ' ∧ HR P ro0 B0 w0 μ' h' w' ∧ VR μ' v v'
  | _, _ => False
def Pan (P : Program) (ro0 B0 : Nat) (w0 : World) (μ : Mu) (h' : Heap) (v : Value) : Ending → World → Prop
  | .panicked ch, w' => ∃ μ' v', ch = [{ v := v', recovered := false }] ∧ Ext μ μ' ∧ HR P ro0 B0 w0 μ' h' w' ∧ VR μ' v v'
  | _, _ => False

def OutOk (P : Program) (f : FuncId) (args' : Array Value) (ro0 B0 : Nat) (w0 : World) (μ : Mu) (w : World) : Out → Prop
  | .ok v h' => Calls P f args' w (Ret P ro0 B0 w0 μ h' v)
  | .panic v h' => Calls P f args' w (Pan P ro0 B0 w0 μ h' v)
  | .fail => True

def CallOk (P : Program) (call : Nat → FuncId → List Value → Heap → Out) : Prop :=
  ∀ (ro : Nat) (f : FuncId) (args : List Value) (h : Heap), enterB P f = true →
    ∀ (ro0 B0 : Nat) (w0 : World) (μ : Mu) (w : World) (args' : Array Value), ro0 ≤ ro → HR P ro0 B0 w0 μ h w → VRs μ args args'.toList → OutOk P f args' ro0 B0 w0 μ w (call ro f args h)

def NoNG (P : Program) : Prop := ∀ (f : FuncId) (fn : Func), P.funcs[f]? = some fn → (fn.name == "runtime.NumGoroutine") = false

theorem enterB_spec {f : FuncId} (hb : enterB P f = true) : ∃ fn c, P.funcs[f]? = some fn ∧ fn.body = some c := by
  unfold enterB at hb
  split at hb
  · rename_i fn hf
    obtain ⟨c, hc⟩ := Option.isSome_iff_exists.1 hb
    exact ⟨fn, c, hf, hc⟩
  · cases hb

theorem opt_nopanic {h : Heap} {x : Option Value} {v : Value} {h' : Heap} : opt h x ≠ .panic v h' := by
  cases x <;> simp [opt]
theorem conv_nopanic {ro : Nat} {s d : TypeId} {x : Value} {h : Heap} {v : Value} {h' : Heap} : conv P ro s d x h ≠ .panic v h' := by
  intro hs
  unfold conv at hs
  repeat' split at hs
  all_goals cases hs
theorem append_nopanic {ro size bytes : Nat} {s : Value} {new : List Value} {n : Nat} {h : Heap} {v : Value} {h' : Heap} : appendOp ro size bytes s new n h ≠ .panic v h' := by
  intro hs
  unfold appendOp at hs
  repeat' split at hs
  all_goals cases hs
theorem builtin_nopanic {ro : Nat} {b : Builtin} {tys : List TypeId} {args : List Value} {h : Heap} {v : Value} {h' : Heap} : builtinOp P ro b tys args h ≠ .panic v h' := by
  intro hs
  unfold builtinOp at hs
  repeat' split at hs
  all_goals first | exact append_nopanic hs | (cases hs; done)
theorem typeAssert_nopanic {x : Value} {t : TypeId} {ok : Bool} {h : Heap} {v : Value} {h' : Heap} : typeAssertOp P x t ok h ≠ .panic v h' := by
  intro hs
  unfold typeAssertOp at hs
  repeat' split at hs
  all_goals cases hs
theorem lookup_nopanic {t : TypeId} {x k : Value} {ok : Bool} {h : Heap} {v : Value} {h' : Heap} : lookupOp P t x k ok h ≠ .panic v h' := by
  intro hs
  unfold lookupOp at hs
  repeat' split at hs
  all_goals cases hs
theorem mapSet_nopanic {ro : Nat} {t : TypeId} {x k y : Value} {h : Heap} {v : Value} {h' : Heap} : mapSetOp P ro t x k y h ≠ .panic v h' := by
  intro hs
  unfold mapSetOp at hs
  repeat' split at hs
  all_goals cases hs
theorem next_nopanic {ro : Nat} {x : Value} {b : Bool} {h : Heap} {v : Value} {h' : Heap} : nextOp ro x b h ≠ .panic v h' := by
  intro hs
  unfold nextOp at hs
  repeat' split at hs
  all_goals cases hs

theorem panic_inv {call : Nat → FuncId → List Value → Heap → Out} {ro : Nat} {o : Oper} {v : Value} {h' : Heap} (hcb : callB o.op = false) (hs : stepOp P call ro o e h = .panic v h') :
    ∃ x t u, o.op = .panic x ∧ ev P e x = some (.iface t u) ∧ v = .iface t u ∧ h' = h := by
  obtain ⟨dst, op, type, pos, after, guard⟩ := o
  cases op
  case panic x =>
    simp only [stepOp] at hs
    split at hs
    · rename_i t u hx
      cases hs
      exact ⟨x, t, u, rfl, hx, rfl, rfl⟩
    · cases hs
  case call c =>
    obtain ⟨callee, args, argTypes⟩ := c
    cases callee <;> simp only [callB] at hcb <;> try (cases hcb; done)
    simp only [stepOp] at hs
    split at hs
    · exact absurd hs builtin_nopanic
    · cases hs
  case makeFunc f first cap =>
    cases f <;> simp only [stepOp] at hs <;> (repeat' split at hs) <;> (cases hs; done)
  case makeMap t r =>
    cases r <;> simp only [stepOp] at hs <;> (cases hs; done)
  all_goals
    simp only [stepOp] at hs
    first | (cases hs; done) | skip
    repeat' split at hs
    all_goals first | exact absurd hs lookup_nopanic | exact absurd hs mapSet_nopanic | exact absurd hs next_nopanic | (cases hs; done) | exact absurd hs opt_nopanic | exact absurd hs conv_nopanic | exact absurd hs typeAssert_nopanic

theorem run_enter {f : FuncId} {fn : Func} {c : Code} (hf : P.funcs[f]? = some fn) (hname : (fn.name == "runtime.NumGoroutine") = false) (hb : fn.body = some c) (args : Array Value) (w : World) :
    (callFunc f args).run P w = .ok (.enter f args) w := by
  have h1 : fn.name ≠ "runtime.NumGoroutine" := by simpa using hname
  simp [callFunc, hf, h1, hb]

theorem run_call (hn : NoNG P) {dst : Option Tmp} {type : TypeId} {pos : String} {after : Array Edge} {guard : Option (Nat × Bool)} {f : Operand} {args : Array Operand} {argTypes : Array TypeId} {g : FuncId} {first cap : Array Value}
    (hb : enterB P g = true) (hf : a.eval f = .func (.func g) first cap) :
    (execOp a.eval ⟨dst, .call { callee := .value f, args := args, argTypes := argTypes }, type, pos, after, guard⟩).run P w = .ok (.enter g ((first ++ args.map a.eval) ++ cap)) w := by
  obtain ⟨fn, c, h1, h2⟩ := enterB_spec hb
  simp only [execOp, resolve, Deferred.ofValue, hf, invoke, Sem.run_bind, Sem.run_pure, Result.andThen_ok]
  exact run_enter h1 (hn _ _ h1) h2 _ w

theorem step_call {call : Nat → FuncId → List Value → Heap → Out} {ro : Nat} (hr : HR P ro0 B0 w0 μ h w) (he : ER ds μ e a) (o : Oper) (hcall : callB o.op = true) {r : Out} (hs : stepOp P call ro o e h = r) (hnf : r ≠ .fail) :
    ∃ f args argTypes g first cap first' cap' vs, o.op = .call { callee := .value f, args := args, argTypes := argTypes } ∧ a.eval f = .func (.func g) first' cap' ∧ enterB P g = true ∧
      VRs μ (first ++ vs ++ cap) ((first' ++ args.map a.eval) ++ cap').toList ∧ r = call ro g (first ++ vs ++ cap) h := by
  obtain ⟨dst, op, type, pos, after, guard⟩ := o
  cases op <;> simp only [callB] at hcall <;> try (cases hcall; done)
  rename_i c
  obtain ⟨callee, args, argTypes⟩ := c
  simp only [stepOp] at hs
  split at hs
  · rename_i vs hvs
    cases callee <;> simp only at hs hcall <;> try (cases hcall; done)
    · rename_i f
      split at hs
      · rename_i g first cap hf
        split at hs
        · rename_i hb
          have hv := he.ev hr hf
          generalize hq : a.eval f = u at hv
          cases hv with
          | func _ _ first' _ cap' hfirst hcap =>
          refine ⟨f, args, argTypes, g, first.toList, cap.toList, first', cap', vs, rfl, hq, hb, ?_, hs.symm⟩
          simp only [Array.toList_append]
          refine (hfirst.append ?_).append hcap
          have := he.evs hr hvs
          simpa using this
        · exact absurd hs.symm hnf
      · exact absurd hs.symm hnf
    · exact absurd hs.symm hnf
  · exact absurd hs.symm hnf

theorem step_ok (hn : NoNG P) {call : Nat → FuncId → List Value → Heap → Out} (hc : CallOk P call) {ro : Nat} (hro : ro0 ≤ ro) (hr : HR P ro0 B0 w0 μ h w) (he : ER ds μ e a) (o : Oper) {v : Value} {h' : Heap}
    (hs : stepOp P call ro o e h = .ok v h') {K : Act → World → Prop} {Q : Exit → Act → World → Prop}
    (hK : ∀ μ' w' v', Ext μ μ' → HR P ro0 B0 w0 μ' h' w' → VR μ' v v' → K (a.put o.dst v') w') : o.wp P a w K Q := by
  cases hcb : callB o.op with
  | false => exact (good_step hr he hro o hcb hs).upon hK
  | true =>
    obtain ⟨f, args, argTypes, g, first, cap, first', cap', vs, h1, h2, h3, h4, h5⟩ := step_call hr he o hcb hs (by simp)
    obtain ⟨dst, op, type, pos, after, guard⟩ := o
    cases h1
    have hk := hc ro g _ h h3 ro0 B0 w0 μ w _ hro hr h4
    rw [← h5] at hk
    unfold Oper.wp
    rw [run_call hn h3 h2]
    refine Calls.mono hk fun en w'' hen => ?_
    cases en with
    | returned v' => obtain ⟨μ', q1, q2, q3⟩ := hen; exact hK μ' w'' v' q1 q2 q3
    | _ => exact hen.elim

theorem step_panic (hn : NoNG P) {call : Nat → FuncId → List Value → Heap → Out} (hc : CallOk P call) {ro : Nat} (hro : ro0 ≤ ro) (hr : HR P ro0 B0 w0 μ h w) (he : ER ds μ e a) (o : Oper) {v : Value} {h' : Heap}
    (hs : stepOp P call ro o e h = .panic v h') {K : Act → World → Prop} {Q : Exit → Act → World → Prop}
    (hQ : ∀ μ' w' v', Ext μ μ' → HR P ro0 B0 w0 μ' h' w' → VR μ' v v' → Q (.panic [{ v := v', recovered := false }]) a w') : o.wp P a w K Q := by
  cases hcb : callB o.op with
  | false =>
    obtain ⟨x, t, u, h1, h2, rfl, rfl⟩ := panic_inv hcb hs
    obtain ⟨dst, op, type, pos, after, guard⟩ := o
    cases h1
    have hv := he.ev hr h2
    unfold Oper.wp
    have : (execOp a.eval ⟨dst, .panic x, type, pos, after, guard⟩).run P w = .halt (.panic (a.eval x)) w := by
      simp only [execOp]
      generalize a.eval x = z at hv
      cases hv
      rfl
    rw [this]
    exact hQ μ w _ (Ext.refl _) hr hv
  | true =>
    obtain ⟨f, args, argTypes, g, first, cap, first', cap', vs, h1, h2, h3, h4, h5⟩ := step_call hr he o hcb hs (by simp)
    obtain ⟨dst, op, type, pos, after, guard⟩ := o
    cases h1
    have hk := hc ro g _ h h3 ro0 B0 w0 μ w _ hro hr h4
    rw [← h5] at hk
    unfold Oper.wp
    rw [run_call hn h3 h2]
    refine Calls.mono hk fun en w'' hen => ?_
    cases en with
    | panicked ch => obtain ⟨μ', v', rfl, q1, q2, q3⟩ := hen; exact hQ μ' w'' v' q1 q2 q3
    | _ => exact hen.elim

end Go.Abs

namespace Go.Abs
open Go.RowKit
set_option linter.unusedSimpArgs false
set_option linter.unusedVariables false
variable {P : Program} {e : Env} {h : Heap}

def WFH (h : Heap) : Prop := ∀ b, h.next ≤ b → h.get b = none

/-- What lies below ro stays. -/
structure Fr (ro : Nat) (h h' : Heap) : Prop where
  next : h.next ≤ h'.next
  keep : ∀ b, b < ro → b < h.next → h'.get b = h.get b
  wf : WFH h → WFH h'

theorem Fr.refl (ro : Nat) (h : Heap) : Fr ro h h := ⟨Nat.le_refl _, fun _ _ _ => rfl, id⟩
theorem Fr.trans {ro : Nat} {a b c : Heap} (h1 : Fr ro a b) (h2 : Fr ro b c) : Fr ro a c :=
  ⟨Nat.le_trans h1.next h2.next, fun x hx hn => by rw [h2.keep x hx (Nat.lt_of_lt_of_le hn h1.next), h1.keep x hx hn], fun hw => h2.wf (h1.wf hw)⟩
theorem Fr.push (ro : Nat) (h : Heap) (o : Blk) : Fr ro h (h.push o) :=
  ⟨by rw [Heap.next_push]; omega, fun b _ hb => by rw [Heap.get_push, if_neg (by omega)], fun hw b hb => by
    rw [Heap.next_push] at hb
    rw [Heap.get_push, if_neg (by omega)]; exact hw b (by omega)⟩
theorem Fr.put {ro : Nat} {h : Heap} {b : Nat} (o : Blk) (hb : ¬ b < ro) {x : Blk} (hx : h.get b = some x) : Fr ro h (h.put b o) :=
  ⟨Nat.le_refl _, fun c hc _ => by rw [Heap.get_put, if_neg (by omega)], fun hw c hc => by
    rw [Heap.next_put] at hc
    have : b ≠ c := fun e => by subst e; rw [hw b hc] at hx; cases hx
    rw [Heap.get_put, if_neg (by omega)]; exact hw c hc⟩

theorem write_fr {ro : Nat} {a : Addr} {vs : List Value} {h' : Heap} (hw : writeCells ro h a vs = some h') :
    Fr ro h h' ∧ ∀ b, touch (some (.pointer (some a))) ≠ some (some b) → h'.get b = h.get b := by
  unfold writeCells at hw
  split at hw
  · cases hw; exact ⟨Fr.refl _ _, fun _ _ => rfl⟩
  · split at hw
    · cases hw
    · rename_i hs
      split at hw
      · cases hw
      · rename_i hr
        split at hw
        · split at hw
          · rename_i sz cs hg
            split at hw
            · cases hw
              refine ⟨Fr.put _ hr hg, fun b hb => ?_⟩
              rw [Heap.get_put]
              split
              · rename_i e2
                obtain ⟨ab, ao, asp⟩ := a
                simp only at hs
                subst hs
                subst e2
                exact absurd rfl hb
              · rfl
            · cases hw
          · cases hw
        · cases hw

theorem touch_add {b o j : Nat} {sp : Option Nat} (hs : sp = none) (n c : Nat) : touch (some (.pointer (some ((⟨b, o, sp⟩ : Addr).add j)))) = touch (some (.slice (some ⟨b, o, sp⟩) n c)) := by
  subst hs; rw [addr_add]; rfl

theorem append_fr {ro size bytes : Nat} {s : Value} {new : List Value} {n : Nat} {v : Value} {h' : Heap} (hv : appendOp ro size bytes s new n h = .ok v h') :
    Fr ro h h' ∧ ∀ b, b < h.next → touch (some s) ≠ some (some b) → h'.get b = h.get b := by
  unfold appendOp at hv
  split at hv
  · split at hv
    · cases hv; exact ⟨Fr.refl _ _, fun _ _ _ => rfl⟩
    · split at hv
      · injection hv with hv1 hv2; subst hv2
        exact ⟨Fr.push _ _ _, fun b hb _ => by rw [Heap.get_push, if_neg (by omega)]⟩
      · cases hv
  · rename_i a len cap
    obtain ⟨ab, ao, asp⟩ := a
    split at hv
    · cases hv; exact ⟨Fr.refl _ _, fun _ _ _ => rfl⟩
    · split at hv
      · cases hv
      · rename_i hsp
        have hsq : asp = none := by cases asp <;> simp_all
        split at hv
        · split at hv
          · rename_i h2 hw
            cases hv
            obtain ⟨w1, w2⟩ := write_fr hw
            exact ⟨w1, fun b _ hb => w2 b (by rw [touch_add hsq len cap]; exact hb)⟩
          · cases hv
        · split at hv
          · cases hv
          · rename_i hro
            split at hv
            · split at hv
              · rename_i sz cs hg
                split at hv
                · split at hv
                  · injection hv with hv1 hv2; subst hv2
                    refine ⟨(Fr.put _ hro hg).trans (Fr.push _ _ _), fun b hb ht => ?_⟩
                    rw [Heap.get_push, Heap.next_put, if_neg (by omega), Heap.get_put]
                    split
                    · rename_i e2; subst e2; subst hsq; exact absurd rfl ht
                    · rfl
                  · cases hv
                · cases hv
              · cases hv
            · cases hv
  · cases hv

theorem builtin_fr {ro : Nat} {b : Builtin} {tys : List TypeId} {args : List Value} {v : Value} {h' : Heap} (hv : builtinOp P ro b tys args h = .ok v h') :
    Fr ro h h' ∧ (b ≠ .append → b ≠ .clear → h' = h) ∧ (b = .append → ∃ s x, args = [s, x] ∧ ∀ c, c < h.next → touch (some s) ≠ some (some c) → h'.get c = h.get c) := by
  unfold builtinOp at hv
  split at hv
  case h_6 s x =>
    repeat' split at hv
    all_goals first
      | (cases hv; done)
      | (obtain ⟨a1, a2⟩ := append_fr hv
         exact ⟨a1, fun hb _ => absurd rfl hb, fun _ => ⟨s, _, rfl, a2⟩⟩)
  all_goals
    repeat' split at hv
    all_goals first
      | (cases hv; done)
      | (cases hv; exact ⟨Fr.refl _ _, fun _ _ => rfl, fun hb => by cases hb⟩)
      | (cases hv; exact ⟨(write_fr ‹_›).1, fun _ hb => absurd rfl hb, fun hb => by cases hb⟩)

theorem conv_fr {ro : Nat} {s d : TypeId} {x : Value} {v : Value} {h' : Heap} (hv : conv P ro s d x h = .ok v h') : Fr ro h h' ∧ ∀ b, b < h.next → h'.get b = h.get b := by
  unfold conv at hv
  repeat' split at hv
  all_goals first
    | (cases hv; done)
    | (cases hv; exact ⟨Fr.refl _ _, fun _ _ => rfl⟩)
    | (cases hv; exact ⟨Fr.push _ _ _, fun b hb => by rw [Heap.get_push, if_neg (by omega)]⟩)

theorem typeAssert_same {x : Value} {t : TypeId} {ok : Bool} {v : Value} {h' : Heap} (hv : typeAssertOp P x t ok h = .ok v h') : h' = h := by
  unfold typeAssertOp at hv
  repeat' split at hv
  all_goals first
    | (cases hv; done)
    | (cases hv; rfl)

theorem lookup_same {t : TypeId} {x k : Value} {ok : Bool} {v : Value} {h' : Heap} (hv : lookupOp P t x k ok h = .ok v h') : h' = h := by
  unfold lookupOp at hv
  repeat' split at hv
  all_goals first
    | (cases hv; done)
    | (cases hv; rfl)
theorem mapSet_fr {ro : Nat} {t : TypeId} {x k y : Value} {v : Value} {h' : Heap} (hv : mapSetOp P ro t x k y h = .ok v h') : Fr ro h h' := by
  unfold mapSetOp at hv
  repeat' split at hv
  all_goals first
    | (cases hv; done)
    | (cases hv; exact Fr.put _ ‹_› ‹_›)
theorem next_fr {ro : Nat} {x : Value} {b : Bool} {v : Value} {h' : Heap} (hv : nextOp ro x b h = .ok v h') : Fr ro h h' := by
  unfold nextOp at hv
  repeat' split at hv
  all_goals first
    | (cases hv; done)
    | (cases hv; exact Fr.put _ ‹_› ‹_›)
    | (cases hv; exact Fr.refl _ _)

def CallFr (call : Nat → FuncId → List Value → Heap → Out) : Prop :=
  ∀ ro f args h v h', (call ro f args h = .ok v h' ∨ call ro f args h = .panic v h') → Fr ro h h'

theorem step_fr {call : Nat → FuncId → List Value → Heap → Out} (hc : CallFr call) {ro : Nat} {o : Oper} {v : Value} {h' : Heap} (hs : stepOp P call ro o e h = .ok v h' ∨ stepOp P call ro o e h = .panic v h') : Fr ro h h' := by
  rcases hs with hs | hs
  · obtain ⟨dst, op, type, pos, after, guard⟩ := o
    cases op
    case call c =>
      obtain ⟨callee, args, argTypes⟩ := c
      simp only [stepOp] at hs
      split at hs
      · cases callee <;> simp only at hs
        · split at hs
          · split at hs
            · exact hc _ _ _ _ _ _ (.inl hs)
            · cases hs
          · cases hs
        · cases hs
        · exact (builtin_fr hs).1
      · cases hs
    case convert s d x =>
      simp only [stepOp] at hs
      split at hs
      · exact (conv_fr hs).1
      · cases hs
    case store t x y =>
      simp only [stepOp] at hs
      repeat' split at hs
      all_goals first
        | (cases hs; done)
        | (cases hs; exact (write_fr ‹_›).1)
    case makeMap t r =>
      cases r with
      | none => simp only [stepOp] at hs; cases hs; exact Fr.push _ _ _
      | some r => simp only [stepOp] at hs; cases hs
    case lookup t x ix ok =>
      simp only [stepOp] at hs
      split at hs
      · have := lookup_same hs; subst this; exact Fr.refl _ _
      · cases hs
    case mapUpdate t x ix y =>
      simp only [stepOp] at hs
      split at hs
      · exact mapSet_fr hs
      · cases hs
    case next x b =>
      simp only [stepOp] at hs
      split at hs
      · exact next_fr hs
      · cases hs
    case makeFunc f first cap =>
      cases f <;> simp only [stepOp] at hs <;> (repeat' split at hs) <;> first | (cases hs; done) | (cases hs; exact Fr.refl _ _)
    all_goals
      simp only [stepOp] at hs
      first | (cases hs; done) | skip
      repeat' split at hs
      all_goals first
        | (cases hs; done)
        | (obtain ⟨_, rfl⟩ := opt_ok hs; exact Fr.refl _ _)
        | (have := typeAssert_same hs; subst this; exact Fr.refl _ _)
        | (injection hs with hs1 hs2; subst hs2; exact Fr.refl _ _)
        | (injection hs with hs1 hs2; subst hs2; exact Fr.push _ _ _)
  · cases hcb : callB o.op with
    | false =>
      obtain ⟨_, _, _, _, _, _, rfl⟩ := panic_inv hcb hs
      exact Fr.refl _ _
    | true =>
      obtain ⟨dst, op, type, pos, after, guard⟩ := o
      cases op <;> simp only [callB] at hcb <;> try (cases hcb; done)
      rename_i c
      obtain ⟨callee, args, argTypes⟩ := c
      simp only [stepOp] at hs
      split at hs
      · cases callee <;> simp only at hs hcb <;> try (cases hcb; done)
        · split at hs
          · split at hs
            · exact hc _ _ _ _ _ _ (.inr hs)
            · cases hs
          · cases hs
        · cases hs
      · cases hs

/-- A store, an append: they turn one block. -/
theorem step_turn {call : Nat → FuncId → List Value → Heap → Out} {ro : Nat} {o : Oper} {v : Value} {h' : Heap} {x : Operand} (hx : turnsAt o.op = some x) (hs : stepOp P call ro o e h = .ok v h') :
    ∀ b, b < h.next → touch (ev P e x) ≠ some (some b) → h'.get b = h.get b := by
  obtain ⟨dst, op, type, pos, after, guard⟩ := o
  cases op <;> simp only [turnsAt] at hx <;> try (cases hx; done)
  case store t y z =>
    cases hx
    simp only [stepOp] at hs
    split at hs
    · rename_i a u ha hu
      repeat' split at hs
      all_goals first
        | (cases hs; done)
        | (cases hs; intro b _ hb; rw [ha] at hb; exact (write_fr ‹_›).2 b hb)
    · cases hs
  case call c =>
    obtain ⟨callee, args, argTypes⟩ := c
    simp only at hx
    split at hx
    · simp only [stepOp] at hs
      split at hs
      · rename_i vs hvs
        obtain ⟨s, y, he, hk⟩ := (builtin_fr hs).2.2 rfl
        intro b hb ht
        refine hk b hb ?_
        have hal : args.toList[0]? = some x := by rw [Array.getElem?_toList]; exact hx
        cases hl : args.toList with
        | nil => rw [hl] at hal; cases hal
        | cons y0 r =>
          rw [hl] at hal
          simp only [List.getElem?_cons_zero, Option.some.injEq] at hal
          subst hal
          rw [hl] at hvs
          simp only [evs] at hvs
          split at hvs
          · rename_i v0 hv0
            split at hvs
            · cases hvs
              cases he
              rw [hv0] at ht
              exact ht
            · cases hvs
          · cases hvs
      · cases hs
    · cases hx

theorem builtin_pure {ro : Nat} {b : Builtin} {tys : List TypeId} {args : List Value} {v : Value} {h' : Heap} (hb : b = .len ∨ b = .min ∨ b = .max) (hv : builtinOp P ro b tys args h = .ok v h') :
    h' = h ∧ ∀ (ro2 : Nat) (h2 : Heap), builtinOp P ro2 b tys args h2 = .ok v h2 := by
  unfold builtinOp at hv ⊢
  split at hv
  case h_6 => rcases hb with hb | hb | hb <;> cases hb
  case h_7 => rcases hb with hb | hb | hb <;> cases hb
  all_goals
    repeat' split at hv
    all_goals first
      | (cases hv; done)
      | (injection hv with hv1 hv2; subst hv2; subst hv1; refine ⟨rfl, fun ro2 h2 => ?_⟩; first | (simp only [if_pos ‹_›]; done) | (simp only [if_neg ‹_›]; done) | (simp_all; done))

/-- What neither reads nor writes memory. -/
theorem step_pure {call : Nat → FuncId → List Value → Heap → Out} {ro : Nat} {o : Oper} {v : Value} {h' : Heap} (hp : pureB o.op = true) (hs : stepOp P call ro o e h = .ok v h') :
    h' = h ∧ ∀ (ro2 : Nat) (h2 : Heap), stepOp P call ro2 o e h2 = .ok v h2 := by
  have hopt : ∀ {x : Option Value} {v : Value} {h h' h2 : Heap}, opt h x = .ok v h' → h' = h ∧ opt h2 x = .ok v h2 := fun hx => by
    obtain ⟨rfl, rfl⟩ := opt_ok hx
    exact ⟨rfl, rfl⟩
  obtain ⟨dst, op, type, pos, after, guard⟩ := o
  cases op <;> simp only [pureB] at hp <;> try (cases hp; done)
  case call c =>
    obtain ⟨callee, args, argTypes⟩ := c
    split at hp <;> try (cases hp; done)
    all_goals
      rename_i heq
      cases heq
    all_goals
      simp only [stepOp] at hs ⊢
      split at hs
      · rename_i vs hvs
        obtain ⟨a1, a2⟩ := builtin_pure (by simp) hs
        exact ⟨a1, fun ro2 h2 => a2 ro2 h2⟩
      · cases hs
  case makeFunc f first cap =>
    cases f <;> first | (simp only [stepOp] at hs; cases hs; done) | skip
    simp only [stepOp] at hs ⊢
    split at hs
    · injection hs with hs1 hs2; subst hs2; refine ⟨rfl, fun ro2 h2 => ?_⟩; simp_all
    · cases hs
  all_goals
    simp only [stepOp] at hs ⊢
    repeat' split at hs
    all_goals first
      | (cases hs; done)
      | (refine ⟨(hopt (h2 := h) hs).1, fun ro2 h2 => ?_⟩
         have := (hopt (h2 := h2) hs).2
         simp_all; done)
      | (cases hs; refine ⟨rfl, fun ro2 h2 => ?_⟩; simp_all; done)

end Go.Abs

namespace Go.Abs
open Go.RowKit
set_option linter.unusedSimpArgs false
set_option linter.unusedVariables false
variable {P : Program} {e : Env} {h : Heap}

theorem read_dep {a : Addr} {n : Nat} {cs : List Value} (hr : readCells h a n = some cs) :
    (∀ h2, readCells h2 a n = some cs) ∨ ∃ blk, a.spot = none ∧ h.get a.block = some blk ∧ ∀ h2 : Heap, h2.get a.block = some blk → readCells h2 a n = some cs := by
  obtain ⟨b, o, sp⟩ := a
  cases sp with
  | some s => exact .inl fun h2 => hr
  | none =>
    unfold readCells at hr
    simp only at hr
    split at hr
    · rename_i sz ds hg
      refine .inr ⟨_, rfl, hg, fun h2 h3 => ?_⟩
      simp only at h3
      simp only [readCells, h3]
      exact hr
    · cases hr

/-- What a reading step says hangs at one block. -/
def Dep (f : Heap → Out) (v : Value) (x : Option Value) (h : Heap) : Prop :=
  (∀ h2, f h2 = .ok v h2) ∨ ∃ b blk, touch x = some (some b) ∧ h.get b = some blk ∧ ∀ h2 : Heap, h2.get b = some blk → f h2 = .ok v h2

theorem step_read {call : Nat → FuncId → List Value → Heap → Out} {ro : Nat} {o : Oper} {v : Value} {h' : Heap} {x : Operand} (hp : readsAt P o.op = some x) (hs : stepOp P call ro o e h = .ok v h') :
    h' = h ∧ ∀ ro2, Dep (stepOp P call ro2 o e) v (ev P e x) h := by
  obtain ⟨dst, op, type, pos, after, guard⟩ := o
  cases op <;> simp only [readsAt] at hp <;> try (cases hp; done)
  case load t y =>
    cases hp
    simp only [stepOp, Dep] at hs ⊢
    split at hs
    · rename_i a ha
      split at hs
      · rename_i hagg
        split at hs
        · rename_i n hn
          split at hs
          · rename_i cs hcs
            cases hs
            refine ⟨rfl, fun ro2 => ?_⟩
            rcases read_dep hcs with h1 | ⟨blk, h1, h2, h3⟩
            · exact .inl fun h2 => by simp only [ha, hagg, hn, h1 h2]
            · obtain ⟨b, off, sp⟩ := a
              simp only at h1 h2 h3; subst h1
              exact .inr ⟨b, blk, by rw [ha]; rfl, h2, fun g2 hg => by simp only [ha, hagg, hn, h3 g2 hg]⟩
          · cases hs
        · cases hs
      · rename_i hagg
        split at hs
        · rename_i u hcs
          cases hs
          refine ⟨rfl, fun ro2 => ?_⟩
          rcases read_dep hcs with h1 | ⟨blk, h1, h2, h3⟩
          · exact .inl fun h2 => by simp only [ha, hagg, h1 h2]
          · obtain ⟨b, off, sp⟩ := a
            simp only at h1 h2 h3; subst h1
            exact .inr ⟨b, blk, by rw [ha]; rfl, h2, fun g2 hg => by simp only [ha, hagg, h3 g2 hg]⟩
        · cases hs
      · cases hs
    · cases hs
  case slice t y lo hi mx =>
    cases hp
    simp only [stepOp, Dep] at hs ⊢
    split at hs
    · cases hs
    · rename_i hmx
      split at hs
      · rename_i u l m hu hl hm
        obtain ⟨h1, rfl⟩ := opt_ok hs
        refine ⟨rfl, fun ro2 => ?_⟩
        simp only [hu, hl, hm, hmx, if_false, Bool.false_eq_true]
        have key : (∀ h2, sliceOp P h2 t u l m = some v) ∨ ∃ b blk, touch (some u) = some (some b) ∧ h'.get b = some blk ∧ ∀ h2 : Heap, h2.get b = some blk → sliceOp P h2 t u l m = some v := by
          unfold sliceOp at h1 ⊢
          split at h1
          · left; intro h2; exact h1
          · rename_i elem a n c htu
            split at h1
            · rename_i hh hhe
              split at h1
              · rename_i ll hle
                split at h1
                · rename_i sz hsz
                  split at h1
                  · left; intro h2; exact h1
                  · rename_i ad
                    split at h1
                    · left; intro h2; simp_all
                    · rename_i hsp
                      split at h1
                      · left; intro h2; simp_all
                      · rename_i hcl
                        split at h1
                        · rename_i sz' cs hg
                          right
                          obtain ⟨b, off, sp⟩ := ad
                          cases sp with
                          | some s => exact absurd rfl hsp
                          | none =>
                            refine ⟨b, _, rfl, hg, fun h2 h3 => ?_⟩
                            simp only [hhe, hle, hsz, h3, Option.isSome_none, Bool.false_eq_true, if_false, if_neg hcl]
                            exact h1
                        · cases h1
                · cases h1
              · cases h1
            · cases h1
          · rename_i n elem ad htu
            split at h1
            · rename_i hh hhe
              split at h1
              · rename_i ll hle
                split at h1
                · rename_i sz hsz
                  split at h1
                  · cases h1
                  · rename_i hsp
                    split at h1
                    · rename_i sz' cs hg
                      right
                      obtain ⟨b, off, sp⟩ := ad
                      cases sp with
                      | some s => exact absurd rfl hsp
                      | none =>
                        refine ⟨b, _, rfl, hg, fun h2 h3 => ?_⟩
                        simp only [hhe, hle, hsz, h3, Option.isSome_none, Bool.false_eq_true, if_false]
                        exact h1
                    · cases h1
                · cases h1
              · cases h1
            · cases h1
          · cases h1
        rcases key with k | ⟨b, blk, k1, k2, k3⟩
        · exact .inl fun h2 => by rw [k h2]; rfl
        · exact .inr ⟨b, blk, k1, k2, fun h2 hg => by rw [k3 h2 hg]; rfl⟩
      · cases hs
  case lookup t y ix ok =>
    cases hp
    simp only [stepOp, Dep] at hs ⊢
    split at hs
    · rename_i m k hm hk
      have := lookup_same hs; subst this
      refine ⟨rfl, fun ro2 => ?_⟩
      simp only [hm, hk]
      have key : (∀ h2, entriesOf h2 m = entriesOf h' m) ∨ ∃ b blk, touch (some m) = some (some b) ∧ h'.get b = some blk ∧ ∀ h2 : Heap, h2.get b = some blk → entriesOf h2 m = entriesOf h' m := by
        unfold lookupOp at hs
        split at hs
        · split at hs
          · rename_i es hes
            unfold entriesOf at hes ⊢
            split at hes
            · exact .inl fun _ => rfl
            · rename_i r
              split at hes
              · rename_i es2 hg
                exact .inr ⟨r, _, rfl, hg, fun h2 h3 => by simp only [h3, hg]⟩
              · cases hes
            · cases hes
          · cases hs
        · cases hs
      have conn : ∀ h2, entriesOf h2 m = entriesOf h' m → lookupOp P t m k ok h2 = .ok v h2 := fun h2 he => by
        unfold lookupOp at hs ⊢
        rw [he]
        repeat' split at hs
        all_goals first
          | (cases hs; done)
          | (injection hs with hs1 hs2; simp_all; done)
      rcases key with k | ⟨b, blk, k1, k2, k3⟩
      · exact .inl fun h2 => conn h2 (k h2)
      · exact .inr ⟨b, blk, k1, k2, fun h2 hg => conn h2 (k3 h2 hg)⟩
    · cases hs
  case convert s d y =>
    split at hp
    · rename_i e1 hsu hdu
      cases hp
      simp only [stepOp, Dep] at hs ⊢
      split at hs
      · rename_i u hu
        unfold conv at hs ⊢
        simp only [hsu, hdu] at hs ⊢
        split at hs
        case h_1 => simp_all
        case h_3 => simp_all
        case h_4 => simp_all
        case h_2 =>
          rename_i heq1 heq2
          cases hs
          exact ⟨rfl, fun ro2 => .inl fun h2 => by simp only [hu]⟩
        case h_5 =>
          rename_i ee n c heq1 heq2
          cases heq1
          split at hs
          · rename_i hee
            cases hs
            exact ⟨rfl, fun ro2 => .inl fun h2 => by simp only [hu, hee]⟩
          · cases hs
        case h_6 =>
          rename_i ee a n c heq1 heq2
          cases heq1
          split at hs
          · rename_i hee
            split at hs
            · rename_i cs hcs
              split at hs
              · rename_i l hl
                cases hs
                refine ⟨rfl, fun ro2 => ?_⟩
                rcases read_dep hcs with h1 | ⟨blk, h1, h2, h3⟩
                · exact .inl fun h2 => by simp only [hu, hee, h1 h2, hl]
                · obtain ⟨b, off, sp⟩ := a
                  simp only at h1 h2 h3; subst h1
                  exact .inr ⟨b, blk, by rw [hu]; rfl, h2, fun g2 hg => by simp only [hu, hee, h3 g2 hg, hl]⟩
              · cases hs
            · cases hs
          · cases hs
        case h_7 => cases hs
      · cases hs
    · cases hp

theorem evs_congr {e' : Env} : ∀ {xs : List Operand}, (∀ x ∈ xs, ev P e x = ev P e' x) → evs P e xs = evs P e' xs
  | [], _ => rfl
  | x :: xs, hx => by
    simp only [evs]
    rw [hx x (by simp), evs_congr (e' := e') fun y hy => hx y (by simp [hy])]

theorem evParts_congr {e' : Env} : ∀ {xs : List (Nat × Operand)}, (∀ x ∈ xs, ev P e x.2 = ev P e' x.2) → evParts P e xs = evParts P e' xs
  | [], _ => rfl
  | (i, x) :: xs, hx => by
    simp only [evParts]
    rw [hx (i, x) (by simp), evParts_congr (e' := e') fun y hy => hx y (by simp [hy])]

theorem evo_congr {e' : Env} {x : Option Operand} (hx : ∀ y, x = some y → ev P e y = ev P e' y) : evo P e x = evo P e' x := by
  cases x with
  | none => rfl
  | some y => simp only [evo, hx y rfl]

theorem step_congr {e' : Env} {call : Nat → FuncId → List Value → Heap → Out} {ro : Nat} {o : Oper} (hx : ∀ x ∈ o.op.operands, ev P e x = ev P e' x) : stepOp P call ro o e h = stepOp P call ro o e' h := by
  obtain ⟨dst, op, type, pos, after, guard⟩ := o
  cases op <;> simp only [Op.operands] at hx <;> simp only [stepOp]
  case build t ps => rw [evParts_congr (e' := e') (fun x hm => hx x.2 (by simpa using ⟨x.1, by simpa using hm⟩))]
  case buildSlice t n ps => rw [evParts_congr (e' := e') (fun x hm => hx x.2 (by simpa using ⟨x.1, by simpa using hm⟩))]
  case makeFunc f first cap =>
    cases f <;> simp only
    rw [evs_congr (e' := e') (xs := first.toList) (fun x hm => hx x (by simp_all)), evs_congr (e' := e') (xs := cap.toList) (fun x hm => hx x (by simp_all))]
  case call c =>
    rw [evs_congr (e' := e') (xs := c.args.toList) (fun x hm => hx x (by simp_all [Call.operands]))]
    split
    · cases hc : c.callee with
      | value f => simp only; rw [hx f (by simp [Call.operands, hc])]
      | _ => rfl
    · rfl
  case slice t x lo hi mx =>
    rw [hx x (by simp), evo_congr (e' := e') (x := lo) (fun y hy => hx y (by simp [hy])), evo_congr (e' := e') (x := hi) (fun y hy => hx y (by simp [hy]))]
  case pick c x y =>
    rw [hx c (by simp)]
    split
    · rename_i t _
      cases t
      · rw [if_neg (by simp), hx y (by simp)]
      · rw [if_pos rfl, hx x (by simp)]
    · rfl
  case makeMap t r => cases r <;> simp only
  all_goals simp_all

end Go.Abs
