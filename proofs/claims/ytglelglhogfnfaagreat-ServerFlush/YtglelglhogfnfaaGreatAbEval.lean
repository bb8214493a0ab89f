/- The abstract interpreter: a deterministic run of the model's code over an abstract store. Definitions alone. -/
import Derived.Recover
noncomputable section
namespace Go.Ab

/-- A binary trie over the numbers. -/
inductive Tr (α : Type) where
  | leaf
  | node (l : Tr α) (v : Option α) (r : Tr α)
  deriving Inhabited

namespace Tr
variable {α : Type}
/-- What stands at a number. (by the recursor itself: the kernel runs it) -/
def get (t : Tr α) : Nat → Option α :=
  Tr.rec (motive := fun _ => Nat → Option α) (fun _ => none)
    (fun _ v _ gl gr n => Nat.rec (motive := fun _ => Option α) v (fun m _ => Nat.rec (motive := fun _ => Option α) (gl (Nat.div m 2)) (fun _ _ => gr (Nat.div m 2)) (Nat.mod m 2)) n) t
def lt : Tr α → Tr α
  | .leaf => .leaf
  | .node l _ _ => l
def rt : Tr α → Tr α
  | .leaf => .leaf
  | .node _ _ r => r
def md : Tr α → Option α
  | .leaf => none
  | .node _ v _ => v
def setB (x : Option α) (ih : Tr α → Nat → Tr α) (l : Tr α) (v : Option α) (r : Tr α) (n : Nat) : Tr α :=
  Nat.rec (motive := fun _ => Tr α) (.node l x r) (fun m _ => Nat.rec (motive := fun _ => Tr α) (.node (ih l (Nat.div m 2)) v r) (fun _ _ => .node l v (ih r (Nat.div m 2))) (Nat.mod m 2)) n
def setF (x : Option α) (f : Nat) : Tr α → Nat → Tr α :=
  Nat.rec (motive := fun _ => Tr α → Nat → Tr α) (fun t _ => t)
    (fun _ ih t => Tr.rec (motive := fun _ => Nat → Tr α) (setB x ih .leaf none .leaf) (fun l v r _ _ => setB x ih l v r) t) f
def set (t : Tr α) (n : Nat) (x : Option α) : Tr α := setF x (Nat.succ n) t n
end Tr

/-- A loop over a function, as it stands. -/
structure Lp where
  st : LoopState
  pend : Option Code
  n : Nat
  tmps : Tr Value
  params : List Nat
  assign : Code
  body : Code
  dfr : Nat
  deriving Inhabited

/-- A block of the abstract store. -/
inductive Blk where
  | cells (l : List Value) (esz : Nat)
  /-- births: of each entry its stamp; clock: the next one -/
  | map (es : List (Value × Value)) (bs : List Nat) (clock : Nat)
  | chan (cap : Nat) (buf : List Value)
  | iter (m : Option Nat) (since : Nat) (seen : List Nat) (last : Nat)
  | loop (l : Lp)
  /-- the deferred calls of a loop over a function: none; have they been taken? -/
  | dfr (taken : Bool)
  deriving Inhabited

/-- The abstract store. 'dirty': which blocks were written since the last look (it means nothing: the quick run goes by it). -/
structure St where
  next : Nat
  t : Tr Blk
  dirty : List Nat

namespace St
def get (σ : St) (i : Nat) : Option Blk := σ.t.get i
def put (σ : St) (i : Nat) (b : Blk) : St := St.rec (motive := fun _ => St) (fun n t d => ⟨n, t.set i (some b), d⟩) σ
def kill (σ : St) (i : Nat) : St := St.rec (motive := fun _ => St) (fun n t d => ⟨n, t.set i none, d⟩) σ
def new (σ : St) (b : Blk) : St := St.rec (motive := fun _ => St) (fun n t d => ⟨Nat.succ n, t.set n (some b), d⟩) σ
def clean (σ : St) : St := σ
end St

/-- The value of which nothing is known. -/
def poison : Value := .complex .f32 0 0
/-- From here on a capacity is not known: it reaches to the end of the block, and further. -/
def openCap : Nat := 9223372036854775808

/-- Types and functions, to be looked up fast. -/
structure Env where
  info : Nat → Option TypeInfo
  /-- is it a struct or an array; its size -/
  shape : Nat → Option (Bool × Nat)
  func : Nat → Option Func
  ext : Nat → List Value → Option Value
  /-- what is known of operations at symbols -/
  sym : Op → List Value → Option Value := fun _ _ => none
  /-- whether two keys are one, of which one is a symbol (int: of an integer's kind; else strings) -/
  keq : Bool → Value → Value → Option Bool := fun _ _ _ => none
  /-- calls of which a contract is known: what they come to, and leave -/
  sum : Nat → List Value → St → Option (Value × St) := fun _ _ _ => none
  /-- the bytes of a symbol that stands for a string -/
  lay : Nat → Option (List Value) := fun _ => none
  /-- the string of a row of bytes -/
  str : List Value → Option Value := fun _ => none

namespace Env
variable (E : Env)
def under (t : Nat) : Option TypeDesc :=
  match E.info t with
  | some { desc := .named _ u, .. } => (E.info u).map (·.desc)
  | some i => some i.desc
  | none => none
def size (t : Nat) : Option Nat := (E.info t).map (·.size)
def bytes (t : Nat) : Option Nat := (E.info t).map (·.bytes)
def zero (t : Nat) : Option Value := (E.info t).bind (·.zero)
def agg (t : Nat) : Option Bool := (E.under t).map fun | .struct _ | .array _ _ => true | _ => false
end Env

mutual
/-- Does a value hold no address? -/
def closed : Value → Bool
  | .bool _ | .int .. | .string _ | .pointer none | .slice none _ _ | .map none | .chan none | .nilFunc | .nilIface => true
  | .iface _ v => closed v
  | .agg cs => closedA cs
  | .tuple cs => closedA cs
  | .func _ a b => closedA a && closedA b
  | _ => false
def closedA : Array Value → Bool
  | ⟨l⟩ => closedL l
def closedL : List Value → Bool
  | [] => true
  | v :: vs => closed v && closedL vs
end

/-- A symbol. -/
def isSym : Value → Bool
  | .complex .f64 _ 0 => true
  | _ => false

/-- A value of one cell of which something is known. -/
def isCell : Value → Bool
  | .agg _ | .tuple _ => false
  | .complex k i j => isSym (.complex k i j)
  | _ => true

/-- A run that asks memory and tape nothing. -/
def pureRun {α : Type} (P : Program) : Sem α → Option α
  | .pure a => some a
  | .program k => pureRun P (k P)
  | _ => none

def evalO (τ : Tr Value) : Operand → Value
  | .tmp t => (τ.get t).getD undef
  | .const v => match v with
    | .int k n => .int k n
    | .string s => .string s
    | v => bif closed v then v else poison
  | .global _ => poison
  | .func f => .func (.func f) #[] #[]

def loadN (σ : St) (a : Addr) (n : Nat) : Option (List Value) :=
  match a.spot, σ.get a.block with
  | none, some (.cells l _) => let r := (l.drop a.off).take n; bif Nat.beq r.length n then some r else none
  | _, _ => none

def load1 (σ : St) (a : Addr) : Option Value :=
  match a.spot, σ.get a.block with
  | none, some (.cells l _) => l[a.off]?
  | _, _ => none

def loadVar (E : Env) (σ : St) (t : Nat) (a : Addr) : Option Value :=
  match E.shape t with
  | some (true, n) => (loadN σ a n).map fun l => .agg l.toArray
  | some (false, _) => load1 σ a
  | none => none

def putAt (l : List Value) : Nat → List Value → List Value
  | _, [] => l
  | i, v :: vs => putAt (l.set i v) (i + 1) vs

/-- `vs` over the cells from `i` on. -/
def over : List Value → Nat → List Value → List Value
  | l, 0, vs => vs ++ l.drop vs.length
  | [], _ + 1, _ => []
  | x :: l, i + 1, vs => x :: over l i vs

def storeN (σ : St) (a : Addr) (vs : List Value) : Option St :=
  match vs with
  | [] => some σ
  | _ =>
    match a.spot, σ.get a.block with
    | none, some (.cells l e) => bif Nat.ble (a.off + vs.length) l.length && vs.all isCell then some (σ.put a.block (.cells (over l a.off vs) e)) else none
    | _, _ => none

def storeVar (E : Env) (σ : St) (t : Nat) (a : Addr) (v : Value) : Option St :=
  match E.shape t with
  | some (_, n) => bif Nat.beq v.cells.size n then storeN σ a v.cells.toList else none
  | none => none

inductive OR where
  | val (v : Value) (σ : St)
  | enter (f : Nat) (args : List Value) (σ : St)
  | round (l : Nat) (args : List Value)
  | defer (d : Deferred) (σ : St)
  | recover (σ : St)
  | comm (cases : List CommCase) (blocking : Bool) (shape : CommShape)
  | panic (v : Value) (σ : St)
  | fail

def OR.ofVal (σ : St) : Option Value → OR
  | some v => .val v σ
  | none => .fail

def OR.ofSt : Option St → OR
  | some σ => .val undef σ
  | none => .fail

def newCells (σ : St) (l : List Value) (esz : Nat) : OR := .val (.pointer (some ⟨σ.next, 0, none⟩)) (σ.new (.cells l esz))

def zerosOf (n : Nat) (z : List Value) : List Value := (List.replicate n z).flatten

def cellsAll (l : List Value) : Bool := l.all isCell

def part (E : Env) (t : Nat) (cs : Array Value) (off : Nat) : Option Value :=
  match E.shape t with
  | some (true, n) => some (.agg ((cs.toList.drop off).take n).toArray)
  | some (false, _) => cs.toList[off]?
  | none => none

def intBin (op : BinOp) (k : IntKind) (a : Int) (k' : IntKind) (b : Int) : Option Value :=
  match op with
  | .shl => bif decide (b < 0) then none else some (.int k (k.wrap (a * 2 ^ (min b.toNat k.bits))))
  | .shr => bif decide (b < 0) then none else some (.int k (a.fdiv (2 ^ (min b.toNat k.bits))))
  | op =>
    if k = k' then
      match op with
      | .add => some (.int k (k.wrap (a + b)))
      | .sub => some (.int k (k.wrap (a - b)))
      | .mul => some (.int k (k.wrap (a * b)))
      | .quo => if b = 0 then none else some (.int k (k.wrap (a.tdiv b)))
      | .rem => if b = 0 then none else some (.int k (a.tmod b))
      | .and => some (.int k (k.wrap ((BitVec.ofInt k.bits a &&& BitVec.ofInt k.bits b).toNat)))
      | .or => some (.int k (k.wrap ((BitVec.ofInt k.bits a ||| BitVec.ofInt k.bits b).toNat)))
      | .xor => some (.int k (k.wrap ((BitVec.ofInt k.bits a ^^^ BitVec.ofInt k.bits b).toNat)))
      | .andNot => some (.int k (k.wrap ((BitVec.ofInt k.bits a &&& ~~~ BitVec.ofInt k.bits b).toNat)))
      | .eql => some (.bool (a == b))
      | .neq => some (.bool (a != b))
      | .lss => some (.bool (a < b))
      | .leq => some (.bool (a ≤ b))
      | .gtr => some (.bool (a > b))
      | .geq => some (.bool (a ≥ b))
      | _ => none
    else none

/-- Are two rows of bytes one? -/
def bytesEq : List UInt8 → List UInt8 → Bool
  | [], [] => true
  | a :: x, b :: y => Nat.beq a.toNat b.toNat && bytesEq x y
  | _, _ => false

def bytesLt : List UInt8 → List UInt8 → Bool
  | _, [] => false
  | [], _ :: _ => true
  | a :: x, b :: y => Nat.blt a.toNat b.toNat || (Nat.beq a.toNat b.toNat && bytesLt x y)

def strBin (op : BinOp) (x y : List UInt8) : Option Value :=
  match op with
  | .add => bif Nat.ble (x.length + y.length) 9223372036854775807 then some (.string ⟨(x ++ y).toArray⟩) else none
  | .eql => some (.bool (bytesEq x y))
  | .neq => some (.bool (!bytesEq x y))
  | .lss => some (.bool (bytesLt x y))
  | .leq => some (.bool (bytesLt x y || bytesEq x y))
  | .gtr => some (.bool (!(bytesLt x y || bytesEq x y)))
  | .geq => some (.bool (!bytesLt x y))
  | _ => none

/-- Comparisons with nil, and of pointers into one block. -/
def sameRef (E : Env) (t : Nat) (x y : Value) : Option Bool :=
  match E.under t with
  | some (.pointer e) =>
    match x, y with
    | .pointer none, .pointer none => some true
    | .pointer none, .pointer (some _) => some false
    | .pointer (some _), .pointer none => some false
    | .pointer (some a), .pointer (some b) =>
      match E.size e with
      | some (_ + 1) => bif Nat.beq a.block b.block then some (Nat.beq a.off b.off) else none
      | _ => none
    | _, _ => none
  | some (.slice _) =>
    match x, y with
    | .slice none _ _, .slice none _ _ => some true
    | .slice none _ _, .slice (some _) _ _ => some false
    | .slice (some _) _ _, .slice none _ _ => some false
    | _, _ => none
  | some (.map _ _) =>
    match x, y with
    | .map none, .map none => some true
    | .map none, .map (some _) => some false
    | .map (some _), .map none => some false
    | _, _ => none
  | some (.func _ _ _) =>
    match x, y with
    | .nilFunc, .func _ _ _ => some false
    | .func _ _ _, .nilFunc => some false
    | _, _ => none
  | some (.interface _) =>
    match x, y with
    | .nilIface, .iface _ _ => some false
    | .iface _ _, .nilIface => some false
    | .iface tx _, .iface ty _ => bif Nat.beq tx ty then none else some false
    | _, _ => none
  | _ => none

/-- Is the pointer's target alive? (two pointers into one dead block can't be compared) -/
def aliveRef (σ : St) : Value → Bool
  | .pointer (some a) => a.spot.isNone && (σ.get a.block).isSome
  | _ => true

def isConstO : Operand → Bool
  | .const _ => true
  | _ => false

def plainOut : Value → Bool
  | .bool _ | .int .. | .string _ => true
  | _ => false

def plainOnly : Option Value → Option Value
  | some v => bif plainOut v then some v else none
  | none => none

def aBin (P : Program) (E : Env) (σ : St) (op : BinOp) (t : Nat) (xo yo : Operand) (x y : Value) : Option Value :=
  match x, y with
  | .int k a, .int k' b => intBin op k a k' b
  | .string a, .string b => strBin op a.data.toList b.data.toList
  | x, y =>
    bif closed x && closed y then plainOnly (pureRun P (do eqGuard op t xo yo x y; binOp op t x y))
    else bif aliveRef σ x && aliveRef σ y then
      match op with
      | .eql => (sameRef E t x y).map .bool
      | .neq => (sameRef E t x y).map fun b => .bool (!b)
      | _ => none
    else none

def aUn (op : UnOp) (x : Value) : Option Value :=
  match op, x with
  | .not, .bool b => some (.bool !b)
  | .neg, .int k n => some (.int k (k.wrap (0 - n)))
  | .xor, .int k n => some (.int k (k.wrap ((BitVec.ofInt k.bits (if k.signed then -1 else k.max) ^^^ BitVec.ofInt k.bits n).toNat)))
  | _, _ => none

def byteOf? : Value → Option UInt8
  | .int .u8 n => some (UInt8.ofNat n.toNat)
  | _ => none

def bytesOf? : List Value → Option (List UInt8)
  | [] => some []
  | v :: vs => match byteOf? v, bytesOf? vs with
    | some b, some bs => some (b :: bs)
    | _, _ => none

def ofBytes (l : List UInt8) : List Value := l.map fun b => .int .u8 b.toNat

def aConv (E : Env) (σ : St) (src dst : Nat) (x : Value) : OR :=
  match E.under src, E.under dst, x with
  | some _, some (.int k), .int _ n => .val (.int k (k.wrap n)) σ
  | some _, some .string, .string s => .val (.string s) σ
  | some .string, some (.slice e), .string s =>
    match E.under e with
    | some (.int .u8) => bif Nat.ble s.data.toList.length 70368744177664 then .val (.slice (some ⟨σ.next, 0, none⟩) s.data.toList.length openCap) (σ.new (.cells (ofBytes s.data.toList) 1)) else .fail
    | _ => .fail
  | some (.slice e), some .string, .slice a len _ =>
    match E.under e with
    | some (.int .u8) =>
      match a with
      | none => .val (.string .empty) σ
      | some a => match loadN σ a len with
        | some vs => match bytesOf? vs with
          | some bs => .val (.string ⟨bs.toArray⟩) σ
          | none => OR.ofVal σ (E.str vs)
        | none => .fail
    | _ => .fail
  | some .string, some (.slice e), .complex .f64 i 0 =>
    match E.under e with
    | some (.int .u8) =>
      match E.lay i with
      | some l => bif Nat.ble l.length 70368744177664 then .val (.slice (some ⟨σ.next, 0, none⟩) l.length openCap) (σ.new (.cells l 1)) else .fail
      | none => .fail
    | _ => .fail
  | some (.slice _), some (.slice e), .slice (some a) len cap =>
    match Nat.beq src dst, E.under e, σ.get a.block with
    | true, some (.int .u8), some (.cells _ _) => bif Nat.blt 0 len then .val (.slice (some a) len cap) σ else .fail
    | _, _, _ => .fail
  | _, _, _ => .fail

/-- A bound of a slice expression: between 0 and y. -/
def bnd (x : Value) (y : Nat) : Option Nat :=
  match x with
  | .int _ i => bif decide (0 ≤ i) && decide (i ≤ (y : Int)) then some i.toNat else none
  | _ => none

def bndO (x : Option Value) (d y : Nat) : Option Nat :=
  match x with
  | some v => bnd v y
  | none => some d

/-- How far a slice of open capacity may surely be resliced. -/
def reach (σ : St) (a : Addr) (size len : Nat) : Option Nat :=
  match σ.get a.block with
  | some (.cells l esz) => bif Nat.beq esz size && !Nat.beq size 0 then some (Nat.max len ((l.length - a.off) / size)) else none
  | _ => none

/-- The bounds of a slice expression: r: how far; len: the high bound where none is given. -/
def sliceB (r len : Nat) (lo hi mx : Option Value) : Option (Nat × Nat × Option Nat) :=
  match mx, hi with
  | some m, some h => (bnd m r).bind fun m => (bnd h m).bind fun h => (bndO lo 0 h).map fun l => (l, h, some m)
  | some _, none => none
  | none, hi => (bndO hi len r).bind fun h => (bndO lo 0 h).map fun l => (l, h, none)

def aSlice (E : Env) (σ : St) (t : Nat) (x : Value) (lo hi mx : Option Value) : Option Value :=
  match E.under t with
  | some .string =>
    match x, mx with
    | .string s, none => (sliceB s.size s.size lo hi none).map fun (l, h, _) => .string ⟨((s.data.toList.drop l).take (h - l)).toArray⟩
    | _, _ => none
  | some (.slice e) =>
    match x, E.size e with
    | .slice none len cap, some _ => (sliceB cap len lo hi mx).map fun (l, h, m) => .slice none (h - l) (m.getD cap - l)
    | .slice (some a) len cap, some size =>
      bif Nat.ble openCap cap then
        (reach σ a size len).bind fun r => (sliceB r len lo hi mx).map fun (l, h, m) =>
          match m with
          | some m => .slice (some (if m = l then a else a.add (l * size))) (h - l) (m - l)
          | none => .slice (some (a.add (l * size))) (h - l) cap
      else (sliceB cap len lo hi mx).map fun (l, h, m) => .slice (some (if m.getD cap = l then a else a.add (l * size))) (h - l) (m.getD cap - l)
    | _, _ => none
  | _ => none

def aIndexAddr (E : Env) (t : Nat) (x i : Value) : Option Value :=
  match i with
  | .int _ i =>
    match E.under t, x with
    | some (.array len e), .pointer (some a) => bif decide (0 ≤ i) && decide (i < (len : Int)) then (E.size e).map fun s => .pointer (some (a.add (i.toNat * s))) else none
    | some (.slice e), .slice (some a) len _ => bif decide (0 ≤ i) && decide (i < (len : Int)) then (E.size e).map fun s => .pointer (some (a.add (i.toNat * s))) else none
    | _, _ => none
  | _ => none

def aIndex (E : Env) (t : Nat) (x i : Value) : Option Value :=
  match i with
  | .int _ i =>
    match E.under t, x with
    | some (.array len e), .agg cs => bif decide (0 ≤ i) && decide (i < (len : Int)) then (E.size e).bind fun s => part E e cs (i.toNat * s) else none
    | some .string, .string s => bif decide (0 ≤ i) then (s.data.toList[i.toNat]?).map fun b => .int .u8 b.toNat else none
    | _, _ => none
  | _ => none

def aFieldAddr (E : Env) (s : Nat) (x : Value) (f : Nat) : Option Value :=
  match E.under s, x with
  | some (.struct fs), .pointer (some a) =>
    (fs[f]?).bind fun f => (E.size f.type).bind fun z => bif Nat.beq z 0 then none else some (.pointer (some (a.add f.offset)))
  | _, _ => none

def aField (E : Env) (t : Nat) (x : Value) (f : Nat) : Option Value :=
  match E.under t, x with
  | some (.struct fs), .agg cs => (fs[f]?).bind fun f => part E f.type cs f.offset
  | _, _ => none

/-- Is something known of the value? -/
def known : Value → Bool
  | .complex k i j => isSym (.complex k i j)
  | _ => true

/-- The parts laid over the cells. -/
def fillL (place : Nat → Option (Nat × Nat)) (cells : List Value) : List (Nat × Value) → Option (List Value)
  | [] => some cells
  | (i, v) :: rest =>
    match place i with
    | none => none
    | some (off, size) =>
      let vs := v.cells.toList
      bif Nat.beq vs.length size && Nat.ble (off + size) cells.length then fillL place (over cells off vs) rest else none

def aBuild (E : Env) (t : Nat) (parts : List (Nat × Value)) : Option Value :=
  bif !(parts.all fun p => known p.2) then none else
  (E.zero t).bind fun z =>
  match E.under t with
  | some (.struct fs) => (fillL (fun i => (fs.toList[i]?).bind fun f => (E.shape f.type).map fun s => (f.offset, s.2)) z.cells.toList parts).map fun l => .agg l.toArray
  | some (.array _ e) => (E.shape e).bind fun s => (fillL (fun i => some (i * s.2, s.2)) z.cells.toList parts).map fun l => .agg l.toArray
  | _ => none

def aBuildSlice (E : Env) (σ : St) (t len : Nat) (parts : List (Nat × Value)) : OR :=
  match E.under t with
  | some (.slice e) =>
    match E.size e, E.zero e with
    | some size, some z =>
      bif Nat.ble (len * size) 16777216 && Nat.beq z.cells.size size && Nat.ble len 16777216 && parts.all (fun p => known p.2) then
        match fillL (fun i => some (i * size, size)) (zerosOf len z.cells.toList) parts with
        | some cells => bif cellsAll cells then .val (.slice (some ⟨σ.next, 0, none⟩) len len) (σ.new (.cells cells 0)) else .fail
        | none => .fail
      else .fail
    | _, _ => .fail
  | _ => .fail

def aMakeSlice (E : Env) (σ : St) (t : Nat) (len cap : Value) : OR :=
  match E.under t, len, cap with
  | some (.slice e), .int _ l, .int _ c =>
    match E.size e, E.bytes e, E.zero e with
    | some size, some bytes, some z =>
      bif decide (0 ≤ l) && decide (l ≤ c) && decide ((bytes : Int) * c ≤ 281474976710656) && decide (c < 9223372036854775808) && Nat.beq z.cells.size size then
        .val (.slice (some ⟨σ.next, 0, none⟩) l.toNat c.toNat) (σ.new (.cells (zerosOf c.toNat z.cells.toList) 0))
      else .fail
    | _, _, _ => .fail
  | _, _, _ => .fail

/-- The cells that a slice or a string lends to append and copy. -/
def firstN (σ : St) (size n : Nat) : Value → Option (List Value)
  | .slice (some a) _ _ => loadN σ a (n * size)
  | .slice none _ _ => some []
  | .string s => some (ofBytes (s.data.toList.take n))
  | _ => none

def lenOf? : Value → Option Nat
  | .slice _ n _ => some n
  | .string s => some s.size
  | _ => none

/-- What append adds: how many elements, which cells. -/
def addArg (σ : St) (xd : TypeDesc) (z : Value) (size : Nat) (x : Value) : Option (Nat × List Value) :=
  match xd with
  | .int _ =>
    match x with
    | .int _ l => bif decide (0 ≤ l) && decide (l < 70368744177664) && Nat.beq z.cells.size size then some (l.toNat, zerosOf l.toNat z.cells.toList) else none
    | _ => none
  | _ => (lenOf? x).bind fun n => (firstN σ size n x).map fun l => (n, l)

/-- Append to a slice of open capacity. -/
def appendOpen (σ : St) (size : Nat) (a : Addr) (sLen sCap need : Nat) (new : List Value) : OR :=
  match loadN σ a (sLen * size), σ.get a.block with
  | some old, some (.cells l esz) =>
    bif Nat.beq esz size && !Nat.beq size 0 then
      bif Nat.ble (a.off + need * size) l.length then
        match storeN σ (a.add (sLen * size)) new with
        | some σ' => .val (.slice (some a) need sCap) σ'
        | none => .fail
      else .val (.slice (some ⟨σ.next, 0, none⟩) need openCap) ((σ.kill a.block).new (.cells (old ++ new) size))
    else .fail
  | _, _ => .fail

/-- Append to a slice of known capacity. -/
def appendExact (σ : St) (size : Nat) (base : Option Addr) (sLen sCap n : Nat) (new : List Value) : OR :=
  bif Nat.ble (sLen + n) sCap then
    match base with
    | none => bif Nat.beq n 0 then .val (.slice none (sLen + n) sCap) σ else .fail
    | some a =>
      match storeN σ (a.add (sLen * size)) new with
      | some σ' => .val (.slice base (sLen + n) sCap) σ'
      | none => .fail
  else
    match firstN σ size sLen (.slice base sLen sCap) with
    | some old => bif Nat.beq size 0 || !Nat.beq old.length (sLen * size) then .fail else .val (.slice (some ⟨σ.next, 0, none⟩) (sLen + n) openCap) (σ.new (.cells (old ++ new) size))
    | none => .fail

def aAppend (E : Env) (σ : St) (argTypes : Array Nat) (s x : Value) : OR :=
  match argTypes[0]?, argTypes[1]?, s with
  | some st, some xt, .slice base sLen sCap =>
    match E.under st, E.under xt with
    | some (.slice e), some xd =>
      match E.size e, E.bytes e, E.zero e with
      | some size, some bytes, some z =>
        match addArg σ xd z size x with
        | none => .fail
        | some (n, new) =>
          bif Nat.ble ((sLen + n) * bytes) 70368744177664 && Nat.ble (sLen + n) 70368744177664 && Nat.beq new.length (n * size) && Nat.beq z.cells.size size && cellsAll new then
            bif Nat.ble openCap sCap then
              match base with
              | none => .fail
              | some a => appendOpen σ size a sLen sCap (sLen + n) new
            else appendExact σ size base sLen sCap n new
          else .fail
      | _, _, _ => .fail
    | _, _ => .fail
  | _, _, _ => .fail

def aCopy (E : Env) (σ : St) (argTypes : Array Nat) (dst src : Value) : OR :=
  match argTypes[0]?, dst, lenOf? src with
  | some dt, .slice base dLen _, some sl =>
    match E.under dt with
    | some (.slice e) =>
      match E.size e with
      | some size =>
        let n := Nat.min sl dLen
        match firstN σ size n src with
        | none => .fail
        | some cells =>
          match base with
          | none => bif Nat.beq n 0 then .val (goInt n) σ else .fail
          | some a =>
            match storeN σ a cells with
            | some σ' => .val (goInt n) σ'
            | none => .fail
      | none => .fail
    | _ => .fail
  | _, _, _ => .fail

def aLen (E : Env) (σ : St) (argTypes : Array Nat) (x : Value) : Option Value :=
  match (argTypes[0]?).bind E.under, x with
  | some .string, .string s => some (goInt s.size)
  | some (.array n _), _ => some (goInt n)
  | some (.slice _), .slice _ n _ => some (goInt n)
  | some (.map _ _), .map none => some (goInt 0)
  | some (.map _ _), .map (some r) => match σ.get r with
    | some (.map es _ _) => some (goInt es.length)
    | _ => none
  | some (.chan _ _), .chan (some r) => match σ.get r with
    | some (.chan _ buf) => some (goInt buf.length)
    | _ => none
  | _, _ => none

def aCap (E : Env) (argTypes : Array Nat) (x : Value) : Option Value :=
  match (argTypes[0]?).bind E.under, x with
  | some (.slice _), .slice _ _ n => bif Nat.ble openCap n then none else some (goInt n)
  | _, _ => none

def aClear (E : Env) (σ : St) (argTypes : Array Nat) (x : Value) : OR :=
  match (argTypes[0]?).bind E.under, x with
  | some _, .map none => .val (.tuple #[]) σ
  | some _, .slice none _ _ => .val (.tuple #[]) σ
  | some _, .slice _ 0 _ => .val (.tuple #[]) σ
  | some (.map _ _), .map (some r) => match σ.get r with
    | some (.map _ _ cl) => .val (.tuple #[]) (σ.put r (.map [] [] cl))
    | _ => .fail
  | some (.slice e), .slice (some a) n _ =>
    match E.size e, E.zero e with
    | some size, some z => bif Nat.beq z.cells.size size then
        match storeN σ a (zerosOf n z.cells.toList) with
        | some σ' => .val (.tuple #[]) σ'
        | none => .fail
      else .fail
    | _, _ => .fail
  | _, _ => .fail

/-- How a map's keys are compared. -/
inductive KeyKind where
  | int | str | ask

def keyKind (E : Env) (kt : Nat) (k : Value) : Option KeyKind :=
  match E.under kt with
  | some (.int _) => match k with
    | .int .. | .complex .f64 _ 0 => some .int
    | _ => none
  | some .string => match k with
    | .string _ | .complex .f64 _ 0 => some .str
    | _ => none
  | some (.struct _) => match k with
    | .agg _ => some .ask
    | _ => none
  | _ => none

def keyEq (P : Program) (E : Env) (kt : Nat) (kd : KeyKind) (a b : Value) : Option Bool :=
  match kd with
  | .int => match a, b with
    | .int k m, .int k' n => if k = k' then some (m == n) else none
    | _, _ => E.keq true a b
  | .str => match a, b with
    | .string m, .string n => some (bytesEq m.data.toList n.data.toList)
    | _, _ => E.keq false a b
  | .ask => bif closed b then pureRun P (Op.equal kt a b) else none

def findKey (P : Program) (E : Env) (kt : Nat) (kd : KeyKind) (k : Value) : List (Value × Value) → Nat → Option (Option (Nat × Value))
  | [], _ => some none
  | (k', v) :: es, i => match keyEq P E kt kd k k' with
    | some true => some (some (i, v))
    | some false => findKey P E kt kd k es (i + 1)
    | none => none

def keyOk (P : Program) (empty : Bool) (kt : Nat) (kd : KeyKind) (k : Value) : Bool :=
  match kd with
  | .ask => closed k && (pureRun P (Instr.checkKey empty 10000 kt k)).isSome
  | _ => true

/-- A key looked for: where it stands, with what value. -/
def aFind (P : Program) (E : Env) (kt : Nat) (k : Value) (es : List (Value × Value)) (empty : Bool) : Option (Option (Nat × Value)) :=
  (keyKind E kt k).bind fun kd => bif keyOk P empty kt kd k then findKey P E kt kd k es 0 else none

def mapOf (σ : St) : Value → Option (List (Value × Value))
  | .map none => some []
  | .map (some r) => match σ.get r with
    | some (.map es _ _) => some es
    | _ => none
  | _ => none

def aLookup (P : Program) (E : Env) (σ : St) (t : Nat) (m k : Value) (ok : Bool) : Option Value :=
  match E.under t with
  | some (.map kt et) =>
    match mapOf σ m, E.zero et with
    | some es, some z =>
      (aFind P E kt k es es.isEmpty).map fun r =>
        match r with
        | some (_, v) => if ok then .tuple #[v, .bool true] else v
        | none => if ok then .tuple #[z, .bool false] else z
    | _, _ => none
  | _ => none

def aMapUpdate (P : Program) (E : Env) (σ : St) (t : Nat) (m k v : Value) : Option St :=
  match E.under t, m with
  | some (.map kt _), .map (some r) =>
    match σ.get r with
    | some (.map es bs cl) =>
      match aFind P E kt k es false with
      | some (some (i, _)) =>
        bif Instr.sameBits 10000 (((es[i]?).map (·.1)).getD k) k then some (σ.put r (.map (es.set i (k, v)) bs cl)) else none
      | some none => some (σ.put r (.map (es ++ [(k, v)]) (bs ++ [cl]) (Nat.succ cl)))
      | none => none
    | _ => none
  | _, _ => none

def aDelete (P : Program) (E : Env) (σ : St) (argTypes : Array Nat) (m k : Value) : Option St :=
  match (argTypes[0]?).bind E.under, m with
  | some (.map kt _), .map none => (aFind P E kt k [] true).map fun _ => σ
  | some (.map kt _), .map (some r) =>
    match σ.get r with
    | some (.map es bs cl) =>
      match aFind P E kt k es es.isEmpty with
      | some (some (i, _)) => some (σ.put r (.map (es.eraseIdx i) (bs.eraseIdx i) cl))
      | some none => some σ
      | none => none
    | _ => none
  | _, _ => none

def aTypeAssert (E : Env) (x : Value) (asserted : Nat) (ok : Bool) : Option Value :=
  let holds (v : Value) : Option Value := some (if ok then .tuple #[v, .bool true] else v)
  let fails : Option Value := if ok then (E.zero asserted).map fun z => .tuple #[z, .bool false] else none
  match E.under asserted, x with
  | some (.interface _), .nilIface => fails
  | some (.interface want), .iface t _ =>
    match E.info t with
    | some i => match Instr.missingMethod want i.methods with
      | none => holds x
      | some _ => fails
    | none => none
  | some _, .nilIface => fails
  | some _, .iface t v => if t = asserted then holds v else fails
  | _, _ => none

def aCallFunc (E : Env) (σ : St) (f : Nat) (args : List Value) : OR :=
  match E.func f with
  | none => .fail
  | some fn =>
    match fn.body with
    | some _ => .enter f args σ
    | none => OR.ofVal σ (E.ext f args)

def aInvoke (E : Env) (σ : St) (recv : Value) (name : String) (args : List Value) : OR :=
  match recv with
  | .iface t v =>
    match E.info t, E.under t with
    | some i, some d =>
      match i.methods.toList.find? (·.name == name) with
      | some m =>
        match m.path.toList, m.func, d with
        | [], some (f, true), .pointer _ => aCallFunc E σ f (v :: args)
        | [], some (f, false), .pointer e =>
          match v with
          | .pointer (some a) => match loadVar E σ e a with
            | some x => aCallFunc E σ f (x :: args)
            | none => .fail
          | _ => .fail
        | [], some (f, false), _ => aCallFunc E σ f (v :: args)
        | _, _, _ => .fail
      | none => .fail
    | _, _ => .fail
  | _ => .fail

def aTarget (E : Env) (σ : St) (t : Target) (args : List Value) : OR :=
  match t with
  | .fn (.func f) captured => aCallFunc E σ f (args ++ captured.toList)
  | _ => .fail

def aBuiltin (P : Program) (E : Env) (σ : St) (b : Builtin) (argTypes : Array Nat) (args : List Value) : OR :=
  match b, args with
  | .append, [s, x] => aAppend E σ argTypes s x
  | .len, [x] => OR.ofVal σ (aLen E σ argTypes x)
  | .cap, [x] => OR.ofVal σ (aCap E argTypes x)
  | .copy, [d, s] => aCopy E σ argTypes d s
  | .clear, [x] => aClear E σ argTypes x
  | .delete, [m, k] => match aDelete P E σ argTypes m k with
    | some σ' => .val (.tuple #[]) σ'
    | none => .fail
  | .max, x :: rest => bif (x :: rest).all closed then OR.ofVal σ (plainOnly (pureRun P (Builtin.max_ argTypes 0 (x :: rest).toArray))) else .fail
  | .min, x :: rest => bif (x :: rest).all closed then OR.ofVal σ (plainOnly (pureRun P (Builtin.min_ argTypes 0 (x :: rest).toArray))) else .fail
  | .recover, [] => .recover σ
  | .panic, [x] => match x with
    | .iface _ _ => .panic x σ
    | _ => .fail
  | _, _ => .fail

def aCall (P : Program) (E : Env) (σ : St) (ρ : Operand → Value) (c : Call) : OR :=
  match c.callee with
  | .builtin b => aBuiltin P E σ b c.argTypes (c.args.toList.map ρ)
  | .invoke r name => aInvoke E σ (ρ r) name (c.args.toList.map ρ)
  | .value f => match ρ f with
    | .func (.func g) first captured => aCallFunc E σ g (first.toList ++ c.args.toList.map ρ ++ captured.toList)
    | .func (.method name) first _ => match first.toList ++ c.args.toList.map ρ with
      | r :: args => aInvoke E σ r name args
      | [] => .fail
    | .complex .f64 l 1 => .round l (c.args.toList.map ρ)
    | _ => .fail

/-- Does the method's receiver, behind an interface value, surely not fail by being nil? -/
def aNotNil (E : Env) (t : Nat) (v : Value) (name : String) : Bool :=
  match E.info t, E.under t with
  | some i, some d =>
    match i.methods.toList.find? (·.name == name) with
    | some m =>
      match m.path.toList, m.func, d, v with
      | [], some (_, true), _, _ => true
      | [], some (_, false), .pointer _, .pointer (some _) => true
      | [], some (_, false), .pointer _, _ => false
      | [], some (_, false), _, _ => true
      | _, _, _, _ => false
    | none => false
  | _, _ => false

/-- A walk over a map begins. -/
def aRange (E : Env) (σ : St) (t : Nat) (x : Value) : OR :=
  match E.under t, x with
  | some (.map _ _), .map none => .val (.pointer (some ⟨σ.next, 0, none⟩)) (σ.new (.iter none 0 [] 0))
  | some (.map _ _), .map (some m) =>
    match σ.get m with
    | some (.map _ _ cl) => .val (.pointer (some ⟨σ.next, 0, none⟩)) (σ.new (.iter (some m) cl [] cl))
    | _ => .fail
  | _, _ => .fail

/-- Which entries a walk may come to, with their births. -/
def leftOf (seen : List Nat) : List (Value × Value) → List Nat → List (Value × Value × Nat)
  | (k, v) :: es, b :: bs => bif seen.any (Nat.beq b) then leftOf seen es bs else (k, v, b) :: leftOf seen es bs
  | _, _ => []

/-- One step of a walk over a map of which at most one entry is left. -/
def aNext (σ : St) (x : Value) : OR :=
  match x with
  | .pointer (some ⟨i, 0, none⟩) =>
    match σ.get i with
    | some (.iter none _ _ _) => .val (.tuple #[.bool false]) σ
    | some (.iter (some m) since seen last) =>
      match σ.get m with
      | some (.map es bs cl) =>
        bif !seen.isEmpty && !es.isEmpty && bs.all (Nat.ble last) then .fail else
        match leftOf seen es bs with
        | [] => .val (.tuple #[.bool false]) σ
        | [(k, v, b)] => bif Nat.blt b since then .val (.tuple #[.bool true, k, v]) (σ.put i (.iter (some m) since (seen ++ [b]) cl)) else .fail
        | _ => .fail
      | _ => .fail
    | _ => .fail
  | _ => .fail

/-- The entry of a birth. -/
def findBorn (s : Nat) : List (Value × Value) → List Nat → Option (Value × Value)
  | p :: es, b :: bs => bif Nat.beq b s then some p else findBorn s es bs
  | _, _ => none

def lastOf : List Nat → Option Nat
  | [] => none
  | [b] => some b
  | _ :: l => lastOf l

/-- The entry that a walk over a map has come to. -/
def aEntry (σ : St) (x : Value) : OR :=
  match x with
  | .pointer (some ⟨i, 0, none⟩) =>
    match σ.get i with
    | some (.iter (some m) _ seen last) =>
      match σ.get m, lastOf seen with
      | some (.map es bs cl), some s => bif Nat.beq cl last then
          match findBorn s es bs with
          | some (k, v) => .val (.tuple #[k, v]) σ
          | none => .fail
        else .fail
      | _, _ => .fail
    | _ => .fail
  | _ => .fail

def aDefer (ρ : Operand → Value) (c : Call) : Option Deferred :=
  match c.callee with
  | .value f => match ρ f with
    | .func (.func g) first captured => some { target := .fn (.func g) captured, args := first ++ c.args.map ρ }
    | _ => none
  | _ => none

def aop0 (P : Program) (E : Env) (ρ : Operand → Value) (o : Oper) (σ : St) : OR :=
  match o.op with
  | .move x | .assign x => .val (ρ x) σ
  | .pick c a b => match ρ c with
    | .bool t => .val (if t then ρ a else ρ b) σ
    | _ => .fail
  | .alloc e => match E.zero e with
    | some z => bif cellsAll z.cells.toList then newCells σ z.cells.toList 0 else .fail
    | none => .fail
  | .box _ x => bif cellsAll (ρ x).cells.toList then newCells σ (ρ x).cells.toList 0 else .fail
  | .build t parts => OR.ofVal σ (aBuild E t (parts.toList.map fun (i, x) => (i, ρ x)))
  | .buildSlice t len parts => aBuildSlice E σ t len (parts.toList.map fun (i, x) => (i, ρ x))
  | .load t a => match ρ a with
    | .pointer (some a) => OR.ofVal σ (loadVar E σ t a)
    | _ => .fail
  | .store t a x => match ρ a with
    | .pointer (some a) => OR.ofSt (storeVar E σ t a (ρ x))
    | _ => .fail
  | .nilCheck x => match ρ x with
    | .complex .f64 l 1 => .val (.complex .f64 l 1) σ
    | .pointer none | .nilIface | .nilFunc | .complex .. => .fail
    | .func (.method name) first captured => match first.toList with
      | .iface t v :: _ => bif aNotNil E t v name then .val (.func (.method name) first captured) σ else .fail
      | _ => .fail
    | v => .val v σ
  | .binOp op t x y _ => OR.ofVal σ (aBin P E σ op t x y (ρ x) (ρ y))
  | .unOp op _ x => OR.ofVal σ (aUn op (ρ x))
  | .convert s d x => aConv E σ s d (ρ x)
  | .makeInterface t x => match E.under t with
    | some (.interface _) => .fail
    | some _ => .val (.iface t (ρ x)) σ
    | none => .fail
  | .makeFunc fn first captured => .val (.func fn (first.map ρ) (captured.map ρ)) σ
  | .makeMap t r => match r with
    | none => .val (.map (some σ.next)) (σ.new (.map [] [] 0))
    | some r => match E.under t, ρ r with
      | some (.map _ _), .int _ _ => .val (.map (some σ.next)) (σ.new (.map [] [] 0))
      | _, _ => .fail
  | .makeChan t s => match E.under t, ρ s with
    | some (.chan _ e), .int _ n => match E.bytes e with
      | some b => bif decide (0 ≤ n) && decide (n ≤ 9223372036854775807) && decide ((b : Int) * n ≤ 281474976710544) then .val (.chan (some σ.next)) (σ.new (.chan n.toNat [])) else .fail
      | none => .fail
    | _, _ => .fail
  | .makeSlice t l c => aMakeSlice E σ t (ρ l) (ρ c)
  | .slice t x lo hi mx => OR.ofVal σ (aSlice E σ t (ρ x) (lo.map ρ) (hi.map ρ) (mx.map ρ))
  | .fieldAddr s x f => OR.ofVal σ (aFieldAddr E s (ρ x) f)
  | .field t x f => OR.ofVal σ (aField E t (ρ x) f)
  | .indexAddr t x i => OR.ofVal σ (aIndexAddr E t (ρ x) (ρ i))
  | .index t x i => OR.ofVal σ (aIndex E t (ρ x) (ρ i))
  | .lookup t x i ok => OR.ofVal σ (aLookup P E σ t (ρ x) (ρ i) ok)
  | .mapUpdate t m k x | .insert t m k x => OR.ofSt (aMapUpdate P E σ t (ρ m) (ρ k) (ρ x))
  | .typeAssert x _ a ok => OR.ofVal σ (aTypeAssert E (ρ x) a ok)
  | .extract t i => match ρ t with
    | .tuple vs => OR.ofVal σ vs[i]?
    | _ => .fail
  | .call c => aCall P E σ ρ c
  | .defer c => match aDefer ρ c with
    | some d => .defer d σ
    | none => .fail
  | .range t x => aRange E σ t (ρ x)
  | .next x s => bif s then .fail else aNext σ (ρ x)
  | .entry x => aEntry σ (ρ x)
  | .panic x => match ρ x with
    | .iface t v => .panic (.iface t v) σ
    | _ => .fail
  | .send ch x => .comm [{ chan := ρ ch, send := some (ρ x), zero := .tuple #[] }] true .send
  | .recv t ch ok => match E.under t with
    | some (.chan _ e) => match E.zero e with
      | some z => .comm [{ chan := ρ ch, send := none, zero := z }] true (.recv ok)
      | none => .fail
    | _ => .fail
  | .select cases blocking =>
    match cases.toList.mapM fun s => (E.zero s.elem).map fun z => ({ chan := ρ s.chan, send := s.send.map ρ, zero := z } : CommCase) with
    | some cs => .comm cs blocking .select
    | none => .fail
  | _ => .fail

/-- Operations of which something may be known at symbols. -/
def symOp : Op → Bool
  | .binOp .. | .unOp .. | .convert .. | .slice .. | .index .. => true
  | .call { callee := .builtin .len, .. } | .call { callee := .builtin .cap, .. } | .call { callee := .builtin .max, .. } | .call { callee := .builtin .min, .. } => true
  | _ => false

/-- What is known of an operation at symbols, where nothing else is. -/
def orSym (E : Env) (o : Op) (ρ : Operand → Value) (σ : St) (r : OR) : OR :=
  match r with
  | .fail => bif symOp o then OR.ofVal σ (E.sym o (o.operands.toList.map ρ)) else .fail
  | r => r

def aop (P : Program) (E : Env) (ρ : Operand → Value) (o : Oper) (σ : St) : OR := orSym E o.op ρ σ (aop0 P E ρ o σ)

/-- Can the case of a communication go on? -/
def caseReady (σ : St) (c : CommCase) : Option Bool :=
  match c.chan with
  | .chan (some r) =>
    match σ.get r with
    | some (.chan cap buf) => some (match c.send with | some _ => Nat.blt buf.length cap | none => Nat.blt 0 buf.length)
    | _ => none
  | .chan none => some false
  | _ => none

/-- Which cases of a communication can go on. -/
def commReady (σ : St) : List CommCase → Nat → Option (List Nat)
  | [], _ => some []
  | c :: cs, k => (caseReady σ c).bind fun b => (commReady σ cs (k + 1)).map fun l => bif b then k :: l else l

def aComm (σ : St) (cases : List CommCase) (blocking : Bool) (shape : CommShape) : OR :=
  match commReady σ cases 0 with
  | some [] => bif blocking then .fail else .val (commResult cases.toArray shape (-1) undef false) σ
  | some [k] =>
    match cases[k]? with
    | some c =>
      match c.chan, c.send with
      | .chan (some r), some v =>
        match σ.get r with
        | some (.chan cap buf) => bif known v then .val (commResult cases.toArray shape k undef false) (σ.put r (.chan cap (buf ++ [v]))) else .fail
        | _ => .fail
      | .chan (some r), none =>
        match σ.get r with
        | some (.chan cap (v :: buf)) => .val (commResult cases.toArray shape k v true) (σ.put r (.chan cap buf))
        | _ => .fail
      | _, _ => .fail
    | none => .fail
  | _ => .fail
structure Fr where
  n : Nat
  tmps : Tr Value
  defers : List Deferred
  /-- of a deferred frame: how the frame below leaves; of another one: nothing -/
  par : Option FrameMode

inductive AEx where
  | normal
  | exit (id : Nat)
  | ret
  | panic (chain : List PanicEntry)

inductive Res where
  | done (e : AEx) (fr : Fr) (σ : St)
  | fail (why : String)

inductive CRes where
  | ret (v : Value) (par : Option FrameMode) (σ : St)
  | panicked (chain : List PanicEntry) (par : Option FrameMode) (σ : St)
  | fail (why : String)

def Fr.put (fr : Fr) (dst : Option Nat) (v : Value) : Option Fr :=
  match dst with
  | none => some fr
  | some d => bif Nat.blt d fr.n then some { fr with tmps := fr.tmps.set d (some v) } else none

def recoverP : Option FrameMode → Value × Option FrameMode
  | some (.panicking ({ v, recovered := false, goexit := false } :: older)) => (v, some (.panicking ({ v, recovered := true } :: older)))
  | p => (.nilIface, p)

/-- Is the operation's guard met? none: it is not known. -/
def aWanted (ops : Array Oper) (τ : Tr Value) (o : Oper) : Option Bool :=
  match o.guard with
  | none => some true
  | some (j, want) =>
    match (ops.toList[j]?).bind (·.dst) with
    | some d => match τ.get d with
      | some (.bool b) => some (b == want)
      | some (.complex ..) => none
      | _ => some false
    | none => some false

def resultsOf (E : Env) (σ : St) (τ : Tr Value) : List ResultVar → Option (List Value)
  | [] => some []
  | .tmp t :: rs => (resultsOf E σ τ rs).map ((τ.get t).getD undef :: ·)
  | .cell a t :: rs =>
    match τ.get a with
    | some (.pointer (some a)) => match loadVar E σ t a, resultsOf E σ τ rs with
      | some v, some l => some (v :: l)
      | _, _ => none
    | _ => none

def tupled : List Value → Value
  | [v] => v
  | vs => .tuple vs.toArray

/-- The parameters in their places. -/
def laid : List Value → Nat → Tr Value → Tr Value
  | [], _, t => t
  | v :: vs, i, t => laid vs (i + 1) (t.set i (some v))

mutual
/-- Are two values one? -/
def vbeq : Value → Value → Bool
  | .bool a, .bool b => a == b
  | .int k a, .int k' b => decide (k = k') && decide (a = b)
  | .string a, .string b => bytesEq a.data.toList b.data.toList
  | .pointer a, .pointer b => decide (a = b)
  | .slice a l c, .slice b l' c' => decide (a = b) && Nat.beq l l' && Nat.beq c c'
  | .map a, .map b => decide (a = b)
  | .chan a, .chan b => decide (a = b)
  | .nilFunc, .nilFunc => true
  | .nilIface, .nilIface => true
  | .func f a b, .func g c d => decide (f = g) && vbeqA a c && vbeqA b d
  | .iface t v, .iface u w => Nat.beq t u && vbeq v w
  | .agg a, .agg b => vbeqA a b
  | .tuple a, .tuple b => vbeqA a b
  | .complex k a b, .complex k' a' b' => decide (k = k') && Nat.beq a a' && Nat.beq b b'
  | _, _ => false
def vbeqA : Array Value → Array Value → Bool
  | ⟨l⟩, ⟨l'⟩ => vbeqL l l'
def vbeqL : List Value → List Value → Bool
  | [], [] => true
  | a :: l, b :: m => vbeq a b && vbeqL l m
  | _, _ => false
end

/-- Of what kind an operation is, for the order: it asks nothing of the store; it reads; it makes a new block, whatever the store; all others. -/
inductive Cls where
  | pure | read | fresh | eff
  deriving DecidableEq

def cls : Op → Cls
  | .move _ | .pick .. | .build .. | .unOp .. | .makeInterface .. | .makeFunc .. | .fieldAddr .. | .field .. | .indexAddr .. | .index .. | .extract .. | .typeAssert .. | .nilCheck _ => .pure
  | .load .. | .binOp .. | .slice .. | .lookup .. | .convert .. => .read
  | .call { callee := .builtin .len, .. } | .call { callee := .builtin .cap, .. } | .call { callee := .builtin .max, .. } | .call { callee := .builtin .min, .. } => .read
  | .alloc _ | .box .. | .buildSlice .. | .makeSlice .. | .makeMap .. | .makeChan .. => .fresh
  | _ => .eff

/-- What one operation, with the calls in it, comes to. -/
inductive SRes where
  | val (v : Value) (ds : List Deferred) (par : Option FrameMode) (σ : St)
  | panic (chain : List PanicEntry) (σ : St)
  | fail (why : String)

/-- One operation of a region whose order is drawn, as it went in the order of the text. -/
structure Rec where
  o : Oper
  k : Cls
  wanted : Bool
  v : Value
  tmps : Tr Value
  σ : St
  base : St
  ds : List Deferred
  par : Option FrameMode
  out : St
  ds' : List Deferred
  par' : Option FrameMode

inductive DRes where
  | all (rs : List Rec) (fr : Fr) (σ : St)
  | panic (rs : List Rec) (chain : List PanicEntry) (fr : Fr) (σ : St) (left : List Oper)
  | fail (why : String)

def sameVal (r : OR) (v : Value) (next : Nat) : Bool :=
  match r with
  | .val u σ => vbeq u v && Nat.beq σ.next next
  | _ => false

/-- A reading operation reads the same wherever it may stand. bf: what is surely ahead of each. -/
def readOk (P : Program) (E : Env) (bf : List Nat) (r : Rec) (j : Nat) : List Rec → Nat → Bool
  | [], _ => true
  | e :: es, i =>
    (match e.k with
      | .eff => bif Nat.blt i j then Nat.testBit (bf.getD j 0) i || sameVal (aop P E (evalO r.tmps) r.o e.base) r.v e.base.next
          else Nat.testBit (bf.getD i 0) j || sameVal (aop P E (evalO r.tmps) r.o e.out) r.v e.out.next
      | _ => true) && readOk P E bf r j es (i + 1)

def readsOk (P : Program) (E : Env) (bf : List Nat) (all : List Rec) : List Rec → Nat → Bool
  | [], _ => true
  | r :: rs, j =>
    (match r.k with
      | .read => !r.wanted || (Nat.beq r.out.next r.σ.next && (sameVal (aop P E (evalO r.tmps) r.o r.base) r.v r.base.next && readOk P E bf r j all 0))
      | _ => true) && readsOk P E bf all rs (j + 1)

/-- Slots of operations that may not have run. -/
def poisoned : List Rec → Tr Value → Tr Value
  | [], t => t
  | r :: rs, t => poisoned rs (match r.k, r.o.dst with
    | .eff, _ => t
    | _, some d => t.set d (some poison)
    | _, none => t)

def leftOk (bf : List Nat) (e : Nat) : List Oper → Nat → Bool
  | [], _ => true
  | _ :: os, i => Nat.testBit (bf.getD i 0) e && leftOk bf e os (i + 1)

/-- What is surely ahead of an operation: of which 'done' tells the ones ahead. -/
def maskOf (done : List Nat) (es : List Edge) : Nat :=
  match es with
  | [] => 0
  | e :: es => bif Region.binds .any e then 2 ^ e.on ||| done.getD e.on 0 ||| maskOf done es else maskOf done es

def bfGo : List Nat → List Oper → List Nat
  | done, [] => done
  | done, o :: os => bfGo (done ++ [maskOf done o.after.toList]) os

def tmpsOf : List Operand → List Nat
  | [] => []
  | .tmp t :: l => t :: tmpsOf l
  | _ :: l => tmpsOf l

/-- The slots that an operation reads. -/
def readsOf (ops : List Oper) (o : Oper) : List Nat :=
  (match o.guard with
    | some (j, _) => match (ops[j]?).bind (·.dst) with
      | some d => [d]
      | none => []
    | none => []) ++ tmpsOf o.op.operands.toList

def clashes (ops : List Oper) (a b : Oper) : Bool :=
  (match cls a.op, cls b.op with
    | .eff, .eff => true
    | .fresh, .eff => true
    | _, _ => false) ||
  (match a.dst with
    | some d => (readsOf ops b).contains d || b.dst == some d
    | none => false) ||
  (match b.dst with
    | some d => (readsOf ops a).contains d
    | none => false)

def pairsOk (ops : List Oper) (bf : List Nat) (a : Oper) (i : Nat) : List Oper → Nat → Bool
  | [], _ => true
  | b :: bs, j => (!clashes ops a b || Nat.testBit (bf.getD j 0) i) && pairsOk ops bf a i bs (j + 1)

def regionGo (ops : List Oper) (bf : List Nat) : List Oper → Nat → Bool
  | [], _ => true
  | a :: as, i => a.after.toList.all (fun e => !Region.binds .any e || Nat.blt e.on i) && pairsOk ops bf a i as (i + 1) && regionGo ops bf as (i + 1)

/-- Is the region's order such that what is not ordered does not clash? -/
def regionOk (ops : List Oper) : Bool := regionGo ops (bfGo [] ops) ops 0

def codeOk : Code → Bool
  | .region _ ops true => regionOk ops.toList
  | .seq a b => codeOk a && codeOk b
  | .cond _ a b => codeOk a && codeOk b
  | .block _ a => codeOk a
  | .loop a => codeOk a
  | .rangeFunc _ _ a b => codeOk a && codeOk b
  | _ => true

/-- The parameters of a round in their places. -/
def putAll : List Nat → List Value → Tr Value → Tr Value
  | p :: ps, v :: vs, t => putAll ps vs (t.set p (some v))
  | _, _, t => t

/-- A round's frame. -/
def roundFr (L : Lp) (args : List Value) : Option Fr :=
  bif Nat.beq L.params.length args.length && L.params.all (fun p => Nat.blt p L.n) then some { n := L.n, tmps := putAll L.params args L.tmps, defers := [], par := some .run } else none

/-- A round begins. -/
def begun (σ : St) (l : Nat) : Option St :=
  match σ.get l with
  | some (.loop L) => match L.st with
    | .ready => some (σ.put l (.loop { L with st := .busy }))
    | _ => none
  | _ => none

/-- How a round is left. -/
def jumpOf : AEx → Option Code
  | .exit i => some (.exit i)
  | .ret => some .ret
  | _ => none

/-- A round ends. -/
def roundEnd (l : Nat) (ds : List Deferred) (par : Option FrameMode) (e : AEx) (σ : St) : SRes :=
  match e with
  | .panic _ => .fail "round"
  | e =>
    match σ.get l with
    | some (.loop L) => .val (.bool (jumpOf e).isNone) ds par (σ.put l (.loop { L with st := if (jumpOf e).isNone then .ready else .done, pend := jumpOf e }))
    | _ => .fail "round"

/-- A loop over a function ends. -/
def loopEnd (l : Nat) (fr : Fr) (σ : St) : Res :=
  match σ.get l with
  | some (.loop L) =>
    match L.st with
    | .busy => .fail "loop"
    | _ =>
      match L.pend with
      | none => .done .normal fr (σ.put l (.loop { L with st := .exhausted }))
      | some .ret => .done .ret fr (σ.put l (.loop { L with st := .exhausted }))
      | some (.exit i) => .done (.exit i) fr (σ.put l (.loop { L with st := .exhausted }))
      | _ => .fail "loop"
  | _ => .fail "loop"

/-- The mark of a loop over a function among the deferred calls. -/
def mark (d : Nat) (fr : Fr) : Fr := { fr with defers := { target := .collected d, args := #[] } :: fr.defers }

/-- The store where a loop over a function begins. -/
def loopSt (σ : St) (fr : Fr) (params : Array Nat) (assign body : Code) : St :=
  (σ.new (.dfr false)).new (.loop { st := .ready, pend := none, n := fr.n, tmps := fr.tmps, params := params.toList, assign, body, dfr := σ.next })

def isRound : Option FrameMode → Bool
  | some .run => true
  | _ => false

/-- What is called where a loop over a function begins. -/
def loopCall (E : Env) (σ : St) (l : Nat) (g : Value) : OR :=
  match g with
  | .func (.func g) first captured => aCallFunc E σ g (first.toList ++ [.complex .f64 l 1] ++ captured.toList)
  | _ => .fail

/-- What a call of a known contract comes to. -/
def sumRes (σ : St) (r : Value × St) : CRes := bif Nat.ble σ.next r.2.next then .ret r.1 none r.2 else .fail "sum"

mutual
def exec (P : Program) (E : Env) : Nat → Code → Fr → St → Res
  | 0, _, _, _ => .fail "fuel"
  | n + 1, c, fr, σ =>
    match c with
    | .skip => .done .normal fr σ
    | .region _ ops false => execOps P E n ops ops.toList fr σ
    | .region _ ops true =>
      let bf := bfGo [] ops.toList
      match runD P E n ops ops.toList fr σ σ with
      | .all rs fr' σ' => bif readsOk P E bf rs rs 0 then .done .normal fr' σ' else .fail "order"
      | .panic rs chain fr' σ' left =>
        bif readsOk P E bf rs rs 0 && leftOk bf rs.length left (rs.length + 1) then .done (.panic chain) { fr' with tmps := poisoned rs fr'.tmps } σ' else .fail "order"
      | .fail w => .fail w
    | .seq a b =>
      match exec P E n a fr σ with
      | .done .normal fr' σ' => exec P E n b fr' σ'
      | r => r
    | .cond c a b =>
      match evalO fr.tmps c with
      | .bool true => exec P E n a fr σ
      | .bool false => exec P E n b fr σ
      | _ => .fail "cond"
    | .block id a =>
      match exec P E n a fr σ with
      | .done (.exit i) fr' σ' => bif Nat.beq i id then .done .normal fr' σ' else .done (.exit i) fr' σ'
      | r => r
    | .loop a =>
      match exec P E n a fr σ with
      | .done .normal fr' σ' => exec P E n (.loop a) fr' σ'
      | r => r
    | .exit id => .done (.exit id) fr σ
    | .ret => .done .ret fr σ
    | .rangeFunc g params assign body =>
      bif isRound fr.par then .fail "nested" else
      match loopCall E (loopSt σ fr params assign body) (σ.next + 1) (evalO fr.tmps g) with
      | .enter f args _ =>
        match callF P E n f args none (loopSt σ fr params assign body) with
        | .ret _ _ σ' => loopEnd (σ.next + 1) (mark σ.next fr) σ'
        | .panicked ch _ σ' => .done (.panic ch) (mark σ.next fr) σ'
        | .fail w => .fail w
      | _ => .fail "loop"
    | _ => .fail "code"
/-- The operations one behind the other. -/
def execOps (P : Program) (E : Env) : Nat → Array Oper → List Oper → Fr → St → Res
  | 0, _, _, _, _ => .fail "fuel"
  | _ + 1, _, [], fr, σ => .done .normal fr σ
  | n + 1, ops, o :: rest, fr, σ =>
    match aWanted ops fr.tmps o with
    | some true =>
      match stepOp P E n (evalO fr.tmps) o fr.defers fr.par σ with
      | .val v ds p σ' => match ({ fr with defers := ds, par := p } : Fr).put o.dst v with
        | some fr' => execOps P E n ops rest fr' σ'
        | none => .fail "dst"
      | .panic chain σ' => .done (.panic chain) fr σ'
      | .fail w => .fail w
    | some false => match fr.put o.dst undef with
      | some fr' => execOps P E n ops rest fr' σ
      | none => .fail "dst"
    | none => .fail "guard"
/-- The operations of a region whose order is drawn, in the order of the text, written down. -/
def runD (P : Program) (E : Env) : Nat → Array Oper → List Oper → Fr → St → St → DRes
  | 0, _, _, _, _, _ => .fail "fuel"
  | _ + 1, _, [], fr, σ, _ => .all [] fr σ
  | n + 1, ops, o :: rest, fr, σ, base =>
    let k := cls o.op
    match aWanted ops fr.tmps o with
    | some true =>
      match stepOp P E n (evalO fr.tmps) o fr.defers fr.par σ with
      | .val v ds p σ' => match ({ fr with defers := ds, par := p } : Fr).put o.dst v with
        | some fr' =>
          let r : Rec := { o, k, wanted := true, v, tmps := fr.tmps, σ, base, ds := fr.defers, par := fr.par, out := σ', ds' := ds, par' := p }
          match runD P E n ops rest fr' σ' (match k with | .eff => σ' | _ => base) with
          | .all rs fr'' σ'' => .all (r :: rs) fr'' σ''
          | .panic rs ch fr'' σ'' left => .panic (r :: rs) ch fr'' σ'' left
          | .fail w => .fail w
        | none => .fail "dst"
      | .panic chain σ' => match k with
        | .eff => .panic [] chain fr σ' rest
        | _ => .fail "panic"
      | .fail w => .fail w
    | none => .fail "guard"
    | some false => match fr.put o.dst undef with
      | some fr' =>
        let r : Rec := { o, k, wanted := false, v := undef, tmps := fr.tmps, σ, base, ds := fr.defers, par := fr.par, out := σ, ds' := fr.defers, par' := fr.par }
        match runD P E n ops rest fr' σ (match k with | .eff => σ | _ => base) with
        | .all rs fr'' σ'' => .all (r :: rs) fr'' σ''
        | .panic rs ch fr'' σ'' left => .panic (r :: rs) ch fr'' σ'' left
        | .fail w => .fail w
      | none => .fail "dst"
def stepOp (P : Program) (E : Env) : Nat → (Operand → Value) → Oper → List Deferred → Option FrameMode → St → SRes
  | 0, _, _, _, _, _ => .fail "fuel"
  | n + 1, ρ, o, ds, par, σ =>
    match aop P E ρ o σ with
    | .val v σ' => .val v ds par σ'.clean
    | .enter f args _ =>
      match callF P E n f args none σ with
      | .ret v _ σ' => .val v ds par σ'
      | .panicked chain _ σ' => .panic chain σ'
      | .fail w => .fail w
    | .round l args =>
      match σ.get l with
      | some (.loop L) =>
        match roundFr L args with
        | some fr =>
          match exec P E n L.assign fr σ with
          | .done .normal fr1 σ1 =>
            match begun σ1 l with
            | some σ2 =>
              match exec P E n L.body fr1 σ2 with
              | .done e _ σ3 => roundEnd l ds par e σ3
              | .fail w => .fail w
            | none => .fail "round"
          | _ => .fail "assign"
        | none => .fail "round"
      | _ => .fail "round"
    | .defer d _ => bif isRound par then .fail "round" else .val undef (d :: ds) par σ
    | .recover _ => bif isRound par then .fail "round" else .val (recoverP par).1 ds (recoverP par).2 σ
    | .comm cs bl sh => match aComm σ cs bl sh with
      | .val v σ' => .val v ds par σ'
      | _ => .fail "comm"
    | .panic v _ => .panic [{ v, recovered := false }] σ
    | .fail => .fail "op"
def callF (P : Program) (E : Env) : Nat → Nat → List Value → Option FrameMode → St → CRes
  | 0, _, _, _, _ => .fail "fuel"
  | n + 1, f, args, par, σ =>
    match par, E.sum f args σ with
    | none, some r => sumRes σ r
    | _, _ =>
    match E.func f with
    | none => .fail "func"
    | some fn =>
      match fn.body with
      | none => .fail "body"
      | some c =>
        match exec P E n c { n := Nat.max fn.ntmps args.length, tmps := laid args 0 .leaf, defers := [], par } σ with
        | .done .normal fr σ' => leave P E n fn fr .returning σ'
        | .done .ret fr σ' => leave P E n fn fr .returning σ'
        | .done (.panic ch) fr σ' => leave P E n fn fr (.panicking ch) σ'
        | .done (.exit _) _ _ => .fail "exit"
        | .fail w => .fail w
def leave (P : Program) (E : Env) : Nat → Func → Fr → FrameMode → St → CRes
  | 0, _, _, _, _ => .fail "fuel"
  | n + 1, fn, fr, u, σ =>
    match fr.defers with
    | [] =>
      match u with
      | .returning => match resultsOf E σ fr.tmps fn.results.toList with
        | some vs => .ret (tupled vs) fr.par σ
        | none => .fail "results"
      | .panicking ch => .panicked ch fr.par σ
      | .run => .fail "run"
    | d :: ds =>
      match d.target with
      | .collected i =>
        match u, σ.get i with
        | .run, _ => .fail "run"
        | u, some (.dfr false) => leave P E n fn { fr with defers := ds } u (σ.put i (.dfr true))
        | _, _ => .fail "collected"
      | _ =>
      match u with
      | .run => .fail "run"
      | u =>
      match aTarget E σ d.target d.args.toList with
      | .enter f args _ =>
        match callF P E n f args (some u) σ with
        | .ret _ (some u') σ'' => leave P E n fn { fr with defers := ds } (settle u') σ''
        | .panicked ch (some u') σ'' => leave P E n fn { fr with defers := ds } (raised u' ch) σ''
        | .fail w => .fail w
        | _ => .fail "par"
      | _ => .fail "deferred"
end

end Go.Ab
end
