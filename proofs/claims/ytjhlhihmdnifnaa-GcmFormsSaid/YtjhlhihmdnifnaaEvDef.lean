/- Definitions of a small deterministic evaluator for the translated code: its values, its memory, one operation at a time. -/
import Derived.Calls
import Derived.Orders
set_option linter.unusedVariables false
namespace Go
namespace Ev

/-- A value of the evaluator. Addresses are (block, offset) with the evaluator's own block numbers. 'any': nothing is known. -/
inductive V where
  | any
  | bool (b : Bool)
  | int (k : IntKind) (n : Int)
  | str (l : List UInt8)
  | ptr (b o : Nat)
  | nilptr
  | slice (b o len sz : Nat)
  | nilslice
  | agg (l : List V)
  | ints (k : IntKind) (l : List Int)
  | tuple (l : List V)
  | fn (f : Nat)
  | iface (t : Nat) (v : V)
  | nilIface
  deriving Inhabited

/-- A binary tree over the natural numbers. -/
inductive Tr (α : Type) where
  | e
  | n (v : Option α) (l r : Tr α)

noncomputable def Tr.get {α : Type} (t : Tr α) : Nat → Option α :=
  Tr.rec (fun _ => none) (fun v _ _ gl gr k => Nat.rec v (fun k _ => cond (Nat.beq (Nat.land k 1) 0) (gl (Nat.shiftRight k 1)) (gr (Nat.shiftRight k 1))) k) t

noncomputable def Tr.put {α : Type} (t : Tr α) : Nat → Option α → Tr α :=
  Tr.rec (fun _ _ => .e) (fun v l r pl pr k x => Nat.rec (.n x l r) (fun k _ => cond (Nat.beq (Nat.land k 1) 0) (.n v (pl (Nat.shiftRight k 1) x) r) (.n v l (pr (Nat.shiftRight k 1) x))) k) t

noncomputable def Tr.full {α : Type} (d : Nat) : Tr α := Nat.rec .e (fun _ t => .n none t t) d

/-- A block of cells. -/
inductive Blk where
  | vals (l : List V)
  | ints (k : IntKind) (l : List Int)
  | dead

def Blk.live : Blk → Bool
  | .dead => false
  | _ => true

structure H where
  bs : Tr Blk
  nx : Nat

abbrev Fr := Tr V

/-! Numbers -/

def md (k : IntKind) : Nat := match k with
  | .i8 | .u8 => 256
  | .i16 | .u16 => 65536
  | .i32 | .u32 => 4294967296
  | .i64 | .u64 => 18446744073709551616
def sg (k : IntKind) : Bool := match k with
  | .i8 | .i16 | .i32 | .i64 => true
  | _ => false
/-- An integer modulo the kind's 2^bits, as a natural number. -/
def tm (k : IntKind) (n : Int) : Nat := match n with
  | .ofNat a => a % md k
  | .negSucc a => md k - 1 - a % md k
/-- The natural number that a well-formed unsigned integer is. -/
def nn (n : Int) : Nat := match n with
  | .ofNat a => a
  | .negSucc _ => 0
def ile (a b : Int) : Bool := match a, b with
  | .ofNat a, .ofNat b => Nat.ble a b
  | .ofNat _, .negSucc _ => false
  | .negSucc _, .ofNat _ => true
  | .negSucc a, .negSucc b => Nat.ble b a
def ieq (a b : Int) : Bool := match a, b with
  | .ofNat a, .ofNat b => Nat.beq a b
  | .negSucc a, .negSucc b => Nat.beq a b
  | _, _ => false
/-- Does it fit its kind? -/
def fit (k : IntKind) (n : Int) : Bool := match n with
  | .ofNat a => cond (sg k) (Nat.ble a (md k / 2 - 1)) (Nat.ble a (md k - 1))
  | .negSucc a => cond (sg k) (Nat.ble a (md k / 2 - 1)) false
/-- A conjunction that looks at its second part. -/
def andr (a b : Bool) : Bool := match b with
  | true => a
  | false => false


/-! Integers of a kind: the result, and what must hold for it to be the machine's. Signed kinds: exact, under 'fit'. -/
def iquo (x y : Int) : Int := match x, y with
  | .ofNat a, .ofNat b => .ofNat (a / b)
  | x, y => Int.tdiv x y
def irem (x y : Int) : Int := match x, y with
  | .ofNat a, .ofNat b => .ofNat (a % b)
  | x, y => Int.tmod x y
def ofMod (k : IntKind) (m : Nat) : Int := cond (cond (sg k) (Nat.ble (md k / 2) m) false) (Int.subNatNat m (md k)) (.ofNat m)
/-- The magnitude's bits of an integer of a kind. -/
def tz (k : IntKind) (x : Int) : Nat := match x with
  | .ofNat a => a
  | .negSucc a => md k - 1 - a % md k
def iand (k : IntKind) (x y : Int) : Int := match y with
  | .ofNat b => .ofNat (Nat.land (tz k x) b)
  | y => ofMod k (Nat.land (tm k x) (tm k y))
def ior (k : IntKind) (x y : Int) : Int := match x, y with
  | .ofNat a, .ofNat b => .ofNat (Nat.lor a b)
  | x, y => ofMod k (Nat.lor (tm k x) (tm k y))
def ixor (k : IntKind) (x y : Int) : Int := match x, y with
  | .ofNat a, .ofNat b => .ofNat (Nat.xor a b)
  | x, y => ofMod k (Nat.xor (tm k x) (tm k y))
def inot (k : IntKind) (x : Int) : Int := ofMod k (md k - 1 - tm k x)
def bitsN (k : IntKind) : Nat := match k with
  | .i8 | .u8 => 8
  | .i16 | .u16 => 16
  | .i32 | .u32 => 32
  | .i64 | .u64 => 64
def ishr (k : IntKind) (x y : Int) : Int := match x with
  | .ofNat a => .ofNat (Nat.shiftRight a (nn y))
  | x => Int.fdiv x (.ofNat (Nat.pow 2 (Nat.min (nn y) (bitsN k))))
/-- An arithmetic operation, a bit operation or a shift on integers. -/
def bint (op : BinOp) (k : IntKind) (x y : Int) : Option (Int × Bool) := match op with
  | .add => cond (sg k) (some (Int.add x y, fit k (Int.add x y))) (some (.ofNat ((nn x + nn y) % md k), true))
  | .sub => cond (sg k) (some (Int.sub x y, fit k (Int.sub x y))) (some (.ofNat ((nn x + (md k - nn y)) % md k), true))
  | .mul => cond (sg k) (some (Int.mul x y, fit k (Int.mul x y))) (some (.ofNat (nn x * nn y % md k), true))
  | .quo => some (iquo x y, andr (fit k (iquo x y)) (not (ieq y 0)))
  | .rem => some (irem x y, not (ieq y 0))
  | .and => some (iand k x y, true)
  | .or => some (ior k x y, true)
  | .xor => some (ixor k x y, true)
  | .andNot => some (iand k x (inot k y), true)
  | .shl => cond (sg k) (some (Int.mul x (.ofNat (Nat.pow 2 (Nat.min (nn y) (bitsN k)))), andr (fit k (Int.mul x (.ofNat (Nat.pow 2 (Nat.min (nn y) (bitsN k)))))) (ile 0 y)))
      (some (.ofNat (Nat.shiftLeft (nn x) (nn y) % md k), ile 0 y))
  | .shr => some (ishr k x y, ile 0 y)
  | _ => none
def cint (op : BinOp) (x y : Int) : Option Bool := match op with
  | .eql => some (ieq x y)
  | .neq => some (not (ieq x y))
  | .lss => some (not (ile y x))
  | .leq => some (ile x y)
  | .gtr => some (not (ile x y))
  | .geq => some (ile y x)
  | _ => none
/-- An integer of one kind as one of another. -/
def cvt (k : IntKind) (n : Int) (k' : IntKind) : Int × Bool :=
  cond (cond (sg k) (cond (sg k') (Nat.ble (md k) (md k')) false) (cond (sg k') (Nat.blt (md k) (md k')) (Nat.ble (md k) (md k'))))
    (n, true)
    (cond (sg k') (n, fit k' n) (.ofNat (tm k' n), true))

def seq8 : List UInt8 → List UInt8 → Bool
  | [], [] => true
  | a :: x, b :: y => cond (Nat.beq a.toNat b.toNat) (seq8 x y) false
  | _, _ => false
def slt8 : List UInt8 → List UInt8 → Bool
  | _, [] => false
  | [], _ :: _ => true
  | a :: x, b :: y => cond (Nat.blt a.toNat b.toNat) true (cond (Nat.beq a.toNat b.toNat) (slt8 x y) false)
def cstr (op : BinOp) (x y : List UInt8) : Option Bool := match op with
  | .eql => some (seq8 x y)
  | .neq => some (not (seq8 x y))
  | .lss => some (slt8 x y)
  | .leq => some (not (slt8 y x))
  | .gtr => some (slt8 y x)
  | .geq => some (not (slt8 x y))
  | _ => none
def lieq : List Int → List Int → Bool
  | [], [] => true
  | a :: x, b :: y => cond (ieq a b) (lieq x y) false
  | _, _ => false

/-! Values out of cells, and back -/
/-- The integers of a list of values of one kind, if they all are. -/
def unints (k : IntKind) : List V → Option (List Int)
  | [] => some []
  | .int k' n :: l => cond (decide (k' = k)) (match unints k l with | some r => some (n :: r) | none => none) none
  | _ => none
/-- An aggregate of these cells: in the short form where they are integers of one kind. -/
def pack (l : List V) : V := match l with
  | .int k n :: r => match unints k r with
    | some ns => .ints k (n :: ns)
    | none => .agg l
  | _ => .agg l
def one : V → Bool
  | .bool _ | .int _ _ | .str _ | .ptr _ _ | .nilptr | .slice _ _ _ _ | .nilslice | .fn _ | .iface _ _ | .nilIface => true
  | _ => false
def allOne : List V → Bool
  | [] => true
  | a :: l => cond (one a) (allOne l) false
def nth {α : Type} : List α → Nat → Option α
  | [], _ => none
  | a :: l, n => Nat.rec (some a) (fun n _ => nth l n) n
def gd : List Int → Nat → Int
  | [], _ => 0
  | a :: l, n => Nat.rec a (fun n _ => gd l n) n
def gd8 : List UInt8 → Nat → UInt8
  | [], _ => 0
  | a :: l, n => Nat.rec a (fun n _ => gd8 l n) n
def drp {α : Type} : List α → Nat → List α
  | [], _ => []
  | a :: l, n => Nat.rec (a :: l) (fun n _ => drp l n) n
def tk {α : Type} : List α → Nat → List α
  | [], _ => []
  | a :: l, n => Nat.rec [] (fun n _ => a :: tk l n) n
def len {α : Type} : List α → Nat
  | [] => 0
  | _ :: l => len l + 1
def app {α : Type} : List α → List α → List α
  | [], m => m
  | a :: l, m => a :: app l m
/-- A part written over. -/
def spl {α : Type} (l : List α) (o : Nat) (m : List α) : List α := app (tk l o) (app m (drp l (o + len m)))
def set1 {α : Type} : List α → Nat → α → List α
  | [], _, _ => []
  | a :: l, n, x => Nat.rec (x :: l) (fun n _ => a :: set1 l n x) n
def rep {α : Type} (n : Nat) (a : α) : List α := Nat.rec [] (fun _ r => a :: r) n
def reps {α : Type} (n : Nat) (a : List α) : List α := Nat.rec [] (fun _ r => app a r) n
def ofI (l : List Int) : List UInt8 := match l with
  | [] => []
  | n :: l => UInt8.ofNat (nn n) :: ofI l
def toI (l : List UInt8) : List Int := match l with
  | [] => []
  | b :: l => .ofNat b.toNat :: toI l
def mapInt (k : IntKind) : List Int → List V
  | [] => []
  | n :: l => .int k n :: mapInt k l
def nints (k : IntKind) : List Int → List V := mapInt k

/-! Constants of the text as values of the evaluator -/
def ofScal (v : Value) : V := match v with
  | .bool b => .bool b
  | .int k n => cond (fit k n) (.int k n) .any
  | .string s => .str s.data.toList
  | .pointer p => match p with
    | none => .nilptr
    | some _ => .any
  | .slice p n c => match p with
    | none => cond (cond (Nat.beq n 0) (Nat.beq c 0) false) .nilslice .any
    | some _ => .any
  | .func f first captured => match f with
    | .func f => cond (cond (Nat.beq (len first.toList) 0) (Nat.beq (len captured.toList) 0) false) (.fn f) .any
    | _ => .any
  | .nilIface => .nilIface
  | _ => .any
def ofScals : List Value → List V
  | [] => []
  | a :: l => ofScal a :: ofScals l
def ofValue (v : Value) : V := match v with
  | .agg a => pack (ofScals a.toList)
  | .tuple a => .tuple (ofScals a.toList)
  | v => ofScal v

/-! Memory -/
def Blk.size : Blk → Nat
  | .vals l => len l
  | .ints _ l => len l
  | .dead => 0
def blkOf : V → Option Blk
  | .ints k l => some (.ints k l)
  | .agg l => cond (allOne l) (some (.vals l)) none
  | .int k n => some (.ints k [n])
  | v => cond (one v) (some (.vals [v])) none
noncomputable def H.add (h : H) (id : Nat) (b : Blk) : Option H := match h.bs.get id with
  | none => match (h.bs.put id (some b)).get id with
    | some _ => some ⟨h.bs.put id (some b), h.nx⟩
    | none => none
  | some _ => none
noncomputable def H.rd1 (h : H) (b o : Nat) : Option (V × Bool) := match h.bs.get b with
  | some (.ints k l) => some (.int k (gd l o), Nat.blt o (len l))
  | some (.vals l) => match nth l o with
    | some v => some (v, true)
    | none => none
  | _ => none
/-- So many integers from a place on, one by one. -/
def gdN (l : List Int) (o n : Nat) : List Int := Nat.rec (fun _ => []) (fun _ t o => gd l o :: t (o + 1)) n o
noncomputable def H.rdN (h : H) (b o n : Nat) : Option (V × Bool) := match h.bs.get b with
  | some (.ints k l) => some (.ints k (gdN l o n), andr (Nat.ble (o + n) (len l)) (Nat.blt 0 n))
  | some (.vals l) => some (pack (tk (drp l o) n), Nat.ble (o + n) (len l))
  | _ => none
noncomputable def H.upd (h : H) (b : Nat) (k : Blk) : H := ⟨h.bs.put b (some k), h.nx⟩
noncomputable def H.wr (h : H) (b o : Nat) (v : V) : Option (H × Bool) := match h.bs.get b, v with
  | some (.ints k l), .int k' n => cond (decide (k' = k)) (some (h.upd b (.ints k (set1 l o n)), Nat.blt o (len l))) none
  | some (.ints k l), .ints k' m => cond (decide (k' = k)) (some (h.upd b (.ints k (spl l o m)), Nat.ble (o + len m) (len l))) none
  | some (.vals l), .ints k' m => some (h.upd b (.vals (spl l o (mapInt k' m))), Nat.ble (o + len m) (len l))
  | some (.vals l), .agg m => cond (allOne m) (some (h.upd b (.vals (spl l o m)), Nat.ble (o + len m) (len l))) none
  | some (.vals l), v => cond (one v) (some (h.upd b (.vals (set1 l o v)), Nat.blt o (len l))) none
  | _, _ => none

/-! One operation -/
noncomputable def putAll (t : Tr Blk) : List (Nat × Blk) → Tr Blk
  | [] => t
  | (i, b) :: l => putAll (t.put i (some b)) l
structure Cfg where
  P : Program
  /-- What a called function is known to answer, by values alone. -/
  OV : Nat → List V → Option (V × Bool)
  /-- What a called function is known to answer, and to do to memory. -/
  O : Nat → List V → H → Option (V × List (Nat × Blk) × Nat × Bool)
  /-- What a test on a slot is taken to be. -/
  D : Nat → Option Bool
  /-- So many of one integer, maybe under another name. -/
  rp : {f : Nat → Int → List Int // f = rep} := ⟨rep, rfl⟩

/-- A value without an address. -/
def noIdsN (d : Nat) : V → Bool := Nat.rec (fun _ => false) (fun _ f v => match v with
  | .bool _ | .int _ _ | .str _ | .nilptr | .nilslice | .ints _ _ | .fn _ | .nilIface => true
  | .agg l => allB f l
  | .tuple l => allB f l
  | .iface _ v => f v
  | _ => false) d
where allB (f : V → Bool) : List V → Bool
  | [] => true
  | a :: l => cond (f a) (allB f l) false
def noIds : V → Bool := noIdsN 4
def noIdsL : List V → Bool
  | [] => true
  | a :: l => cond (noIds a) (noIdsL l) false

abbrev R := Option (V × H × Bool)

noncomputable def und (C : Cfg) (t : Nat) : TypeDesc := match C.P.underlying t with
  | some d => d
  | none => .invalid
noncomputable def undB (C : Cfg) (t : Nat) : Bool := match C.P.underlying t with
  | some _ => true
  | none => false
noncomputable def infoB (C : Cfg) (t : Nat) : Bool := match C.P.info? t with
  | some _ => true
  | none => false
noncomputable def cellsOf (C : Cfg) (t : Nat) : Nat := C.P.cellsOf t
def aggT : TypeDesc → Bool
  | .struct _ | .array _ _ => true
  | _ => false
noncomputable def zeroOf (C : Cfg) (t : Nat) : V := match C.P.info? t with
  | some i => match i.zero with
    | some v => ofValue v
    | none => .any
  | none => .any
noncomputable def ev (fr : Fr) : Operand → V
  | .tmp t => match fr.get t with
    | some v => v
    | none => .any
  | .const v => ofValue v
  | .func f => .fn f
  | .global _ => .any
noncomputable def evs (fr : Fr) : List Operand → List V
  | [] => []
  | a :: l => ev fr a :: evs fr l
/-- A test on an operand. -/
noncomputable def test (C : Cfg) (fr : Fr) (c : Operand) : Option (Bool × Bool) := match ev fr c with
  | .bool t => match c with
    | .tmp s => match C.D s with
      | some d => some (d, cond d t (not t))
      | none => some (t, true)
    | _ => some (t, true)
  | _ => none

noncomputable def opPick (C : Cfg) (fr : Fr) (h : H) (c a b : Operand) : R := match test C fr c with
  | some (t, k) => some (cond t (ev fr a) (ev fr b), h, k)
  | none => none
noncomputable def newV (h : H) (id : Nat) (v : V) : R := match blkOf v with
  | some b => match h.add id b with
    | some h => some (.ptr id 0, h, true)
    | none => none
  | none => none
/-- The cells of a value, one by one. -/
def cellsV : V → Option (List V)
  | .agg l => some l
  | .ints k l => some (mapInt k l)
  | v => cond (one v) (some [v]) none
noncomputable def buildL (fr : Fr) (place : Nat → Option (Nat × Nat)) : List (Nat × Operand) → List V → Option (List V)
  | [], c => some c
  | (i, x) :: r, c => match place i, cellsV (ev fr x) with
    | some (o, n), some m => cond (cond (Nat.beq (len m) n) (Nat.ble (o + len m) (len c)) false) (buildL fr place r (spl c o m)) none
    | _, _ => none
noncomputable def infos (C : Cfg) : List Field → Bool
  | [] => true
  | f :: l => cond (infoB C f.type) (infos C l) false
noncomputable def placeS (C : Cfg) (fs : Array Field) (i : Nat) : Option (Nat × Nat) := match fs[i]? with
  | some f => some (f.offset, cellsOf C f.type)
  | none => none
noncomputable def placeA (C : Cfg) (e : Nat) (i : Nat) : Option (Nat × Nat) := some (i * cellsOf C e, cellsOf C e)
noncomputable def opBuild (C : Cfg) (fr : Fr) (h : H) (t : Nat) (ps : List (Nat × Operand)) : R := match cellsV (zeroOf C t), und C t with
  | some z, .struct fs => match buildL fr (placeS C fs) ps z with
    | some l => some (pack l, h, infos C fs.toList)
    | none => none
  | some z, .array _ e => match buildL fr (placeA C e) ps z with
    | some l => some (pack l, h, infoB C e)
    | none => none
  | _, _ => none
def gdV : List V → Nat → Int
  | [], _ => 0
  | a :: l, n => Nat.rec (match a with
    | .int _ n => n
    | _ => 0) (fun n _ => gdV l n) n
def isI (k : IntKind) : List V → Nat → Bool
  | [], _ => false
  | a :: l, n => Nat.rec (match a with
    | .int k' _ => decide (k' = k)
    | _ => false) (fun n _ => isI k l n) n
/-- A cell that is read as an integer. -/
noncomputable def H.rdI (h : H) (b o : Nat) (d : TypeDesc) : Option (V × Bool) := match d with
  | .int k => match h.bs.get b with
    | some (.vals l) => some (.int k (gdV l o), isI k l o)
    | _ => h.rd1 b o
  | _ => h.rd1 b o
noncomputable def opLoad (C : Cfg) (fr : Fr) (h : H) (t : Nat) (a : Operand) : R := match ev fr a with
  | .ptr b o => match cond (aggT (und C t)) (h.rdN b o (cellsOf C t)) (h.rdI b o (und C t)) with
    | some (v, k) => some (v, h, andr k (undB C t))
    | none => none
  | _ => none
noncomputable def opStore (C : Cfg) (fr : Fr) (h : H) (t : Nat) (a x : Operand) : R := match ev fr a, cellsV (ev fr x) with
  | .ptr b o, some m => match h.wr b o (ev fr x) with
    | some (h, k) => some (.tuple [], h, andr (andr k (Nat.beq (len m) (cellsOf C t))) (infoB C t))
    | none => none
  | _, _ => none
noncomputable def opNil (fr : Fr) (h : H) (x : Operand) : R := match ev fr x with
  | .ptr b o => some (.ptr b o, h, true)
  | .iface t v => some (.iface t v, h, true)
  | _ => none
/-- Equality of scalars. -/
def eqS (t : TypeDesc) (x y : V) : Option Bool := match t, x, y with
  | .bool, .bool a, .bool b => some (cond a b (not b))
  | .pointer _, .nilptr, .nilptr => some true
  | .pointer _, .nilptr, .ptr _ _ => some false
  | .pointer _, .ptr _ _, .nilptr => some false
  | .slice _, .nilslice, .nilslice => some true
  | .slice _, .nilslice, .slice _ _ _ _ => some false
  | .slice _, .slice _ _ _ _, .nilslice => some false
  | .interface _, .nilIface, .iface _ _ => some false
  | .interface _, .iface _ _, .nilIface => some false
  | _, _, _ => none
def isConst : Operand → Bool
  | .const _ => true
  | _ => false
noncomputable def partOf (C : Cfg) (t : Nat) (v : V) (o : Nat) : Option (V × Bool) := cond (undB C t) (match v with
  | .ints k l => cond (aggT (und C t)) (some (.ints k (tk (drp l o) (cellsOf C t)), andr (Nat.ble (o + cellsOf C t) (len l)) (Nat.blt 0 (cellsOf C t)))) (some (.int k (gd l o), Nat.blt o (len l)))
  | .agg l => cond (aggT (und C t)) (some (pack (tk (drp l o) (cellsOf C t)), Nat.ble (o + cellsOf C t) (len l))) (match nth l o with
    | some v => some (v, true)
    | none => none)
  | _ => none) none
/-- Equality by the type. -/
noncomputable def eqItems (C : Cfg) (e : Nat) (f : V → V → Option (Bool × Bool)) (x y : V) : List Nat → Option (Bool × Bool)
  | [] => some (true, true)
  | i :: is => match partOf C e x (i * cellsOf C e), partOf C e y (i * cellsOf C e) with
    | some (u, p), some (v, q) => match f u v, eqItems C e f x y is with
      | some (r, k), some (s, k') => some (cond r s false, andr (andr (andr p q) k) k')
      | _, _ => none
    | _, _ => none
noncomputable def eqFieldsE (C : Cfg) (f : Nat → V → V → Option (Bool × Bool)) (x y : V) : List Field → Option (Bool × Bool)
  | [] => some (true, true)
  | g :: gs => match partOf C g.type x g.offset, partOf C g.type y g.offset with
    | some (u, p), some (v, q) => match f g.type u v, eqFieldsE C f x y gs with
      | some (r, k), some (s, k') => some (cond r s false, andr (andr (andr (andr p q) k) k') (not (g.name == "_")))
      | _, _ => none
    | _, _ => none
def isAggV : V → Bool
  | .agg _ | .ints _ _ => true
  | _ => false
noncomputable def eqStep (C : Cfg) (f : Nat → V → V → Option (Bool × Bool)) (t : Nat) (x y : V) : Option (Bool × Bool) := match und C t, x, y with
  | .bool, .bool a, .bool b => some (cond a b (not b), true)
  | .int _, .int k a, .int k' b => cond (decide (k = k')) (some (ieq a b, true)) none
  | .string, .str a, .str b => some (seq8 a b, true)
  | .array n e, x, y => cond (cond (isAggV x) (isAggV y) false) (match eqItems C e (f e) x y (List.range n) with
    | some (r, k) => some (r, andr k (infoB C e))
    | none => none) none
  | .struct fs, x, y => cond (cond (isAggV x) (isAggV y) false) (match eqFieldsE C f x y fs.toList with
    | some (r, k) => some (r, andr k (not (C.P.stoodInHeld t)))
    | none => none) none
  | _, _, _ => none
noncomputable def eqT (C : Cfg) (d : Nat) : Nat → V → V → Option (Bool × Bool) := Nat.rec (fun _ _ _ => none) (fun _ f => eqStep C f) d
noncomputable def eqScal (C : Cfg) (h : H) (op : BinOp) (t : Nat) (k : Bool) (a b : V) : R := match a, b with
  | .nilIface, .nilIface => match und C t, op with
    | .interface _, .eql => some (.bool true, h, k)
    | .interface _, .neq => some (.bool false, h, k)
    | _, _ => none
  | a, b => match op, eqS (und C t) a b with
    | .eql, some r => some (.bool r, h, true)
    | .neq, some r => some (.bool (not r), h, true)
    | _, _ => none
noncomputable def opBin (C : Cfg) (fr : Fr) (h : H) (op : BinOp) (t : Nat) (x y : Operand) : R := match ev fr x, ev fr y with
  | .int k a, .int k' b => match cint op a b with
    | some r => cond (decide (k = k')) (some (.bool r, h, true)) none
    | none => match op with
      | .shl | .shr => match bint op k a b with
        | some (n, ok) => some (.int k n, h, ok)
        | none => none
      | _ => cond (decide (k = k')) (match bint op k a b with
        | some (n, ok) => some (.int k n, h, ok)
        | none => none) none
  | .str a, .str b => match op with
    | .add => some (.str (app a b), h, Nat.ble (len a + len b) 9223372036854775807)
    | _ => match cstr op a b with
      | some r => some (.bool r, h, true)
      | none => none
  | a, b => cond (cond (isAggV a) (isAggV b) false) (match op, eqT C 8 t a b with
      | .eql, some (r, k) => some (.bool r, h, andr k (not (C.P.eqGuardType C.P.depth t)))
      | .neq, some (r, k) => some (.bool (not r), h, andr k (not (C.P.eqGuardType C.P.depth t)))
      | _, _ => none) (eqScal C h op t (cond (isConst x) true (isConst y)) a b)
noncomputable def opUn (fr : Fr) (h : H) (op : UnOp) (x : Operand) : R := match op, ev fr x with
  | .not, .bool b => some (.bool (not b), h, true)
  | .neg, .int k n => cond (sg k) (some (.int k (Int.neg n), h, fit k (Int.neg n))) (some (.int k (.ofNat ((md k - nn n) % md k)), h, true))
  | .xor, .int k n => some (.int k (inot k n), h, true)
  | _, _ => none
noncomputable def opConv (C : Cfg) (id : Nat) (fr : Fr) (h : H) (s t : Nat) (x : Operand) : R := match und C s, und C t, ev fr x with
  | _, .int k, .int k0 n => match cvt k0 n k with
    | (m, ok) => some (.int k m, h, ok)
  | .string, .slice e, .str l => match und C e with
    | .int .u8 => match h.add id (.ints .u8 (toI l)) with
      | some h => some (.slice id 0 (len l) 1, h, true)
      | none => none
    | _ => none
  | .slice e, .string, .slice b o n _ => match und C e, h.bs.get b with
    | .int .u8, some (.ints .u8 l) => some (.str (ofI (tk (drp l o) n)), h, Nat.ble (o + n) (len l))
    | _, _ => none
  | .slice e, .string, .nilslice => match und C e with
    | .int .u8 => some (.str [], h, true)
    | _ => none
  | .string, .string, .str l => some (.str l, h, true)
  | _, _, _ => none
/-- So many zero elements. -/
def zeros (rp : Nat → Int → List Int) (n : Nat) : V → Option Blk
  | .int k m => some (.ints k (rp n m))
  | .ints k l => some (.ints k (reps n l))
  | .agg l => cond (allOne l) (some (.vals (reps n l))) none
  | v => cond (one v) (some (.vals (rep n v))) none
noncomputable def opMake (C : Cfg) (id : Nat) (fr : Fr) (h : H) (t : Nat) (l c : Operand) : R := match und C t, ev fr l, ev fr c with
  | .slice e, .int .i64 (.ofNat n), .int .i64 (.ofNat m) => match zeros C.rp.1 n (zeroOf C e), cellsV (zeroOf C e) with
    | some b, some z => match h.add id b with
      | some h => some (.slice id 0 n (cellsOf C e), h, andr (andr (Nat.ble (C.P.bytesOf e * m) 281474976710656) (cond (Nat.beq n m) true (Nat.ble n m))) (Nat.beq (len z) (cellsOf C e)))
      | none => none
    | _, _ => none
  | _, _, _ => none
noncomputable def bound (fr : Fr) (d : Nat) : Option Operand → Option (Nat × Bool)
  | none => some (d, true)
  | some x => match ev fr x with
    | .int _ n => some (nn n, ile 0 n)
    | _ => none
noncomputable def opSlice (C : Cfg) (fr : Fr) (h : H) (t : Nat) (x : Operand) (lo hi : Option Operand) : R :=
  match und C t, ev fr x with
  | .string, .str l => match bound fr 0 lo, bound fr (len l) hi with
    | some (a, p), some (b, q) => some (.str (tk (drp l a) (b - a)), h, andr (andr (andr p q) (Nat.ble a b)) (Nat.ble b (len l)))
    | _, _ => none
  | .slice e, .slice b o n z => match bound fr 0 lo, bound fr n hi with
    | some (a, p), some (c, q) => cond (Nat.beq z (cellsOf C e)) (some (.slice b (o + a * z) (c - a) z, h, andr (andr (andr (andr p q) (Nat.ble a c)) (Nat.ble c n)) (infoB C e))) none
    | _, _ => none
  | .slice e, .nilslice => match bound fr 0 lo, bound fr 0 hi with
    | some (a, p), some (c, q) => some (.nilslice, h, andr (andr (andr (andr p q) (Nat.beq a 0)) (Nat.beq c 0)) (infoB C e))
    | _, _ => none
  | .array n e, .ptr b o => match bound fr 0 lo, bound fr n hi, h.bs.get b with
    | some (a, p), some (c, q), some k => some (.slice b (o + a * cellsOf C e) (c - a) (cellsOf C e), h, andr (andr (andr (andr p q) (Nat.ble a c)) (Nat.ble c n)) (andr (Nat.ble (o + n * cellsOf C e) k.size) (andr k.live (infoB C e))))
    | _, _, _ => none
  | _, _ => none
noncomputable def opFieldA (C : Cfg) (fr : Fr) (h : H) (t : Nat) (x : Operand) (f : Nat) : R := match und C t, ev fr x with
  | .struct fs, .ptr b o => match fs[f]? with
    | some f => cond (Nat.beq (cellsOf C f.type) 0) none (some (.ptr b (o + f.offset), h, true))
    | none => none
  | _, _ => none
noncomputable def opField (C : Cfg) (fr : Fr) (h : H) (t : Nat) (x : Operand) (f : Nat) : R := match und C t with
  | .struct fs => match fs[f]? with
    | some f => match partOf C f.type (ev fr x) f.offset with
      | some (v, k) => some (v, h, k)
      | none => none
    | none => none
  | _ => none
noncomputable def opIndexA (C : Cfg) (fr : Fr) (h : H) (t : Nat) (x i : Operand) : R := match und C t, ev fr x, ev fr i with
  | .array n e, .ptr b o, .int k i => some (.ptr b (o + nn i * cellsOf C e), h, andr (cond (cond (sg k) false (Nat.ble (md k) n)) true (andr (ile 0 i) (Nat.blt (nn i) n))) (infoB C e))
  | .slice e, .slice b o n z, .int _ i => cond (Nat.beq z (cellsOf C e)) (some (.ptr b (o + nn i * z), h, andr (andr (ile 0 i) (Nat.blt (nn i) n)) (infoB C e))) none
  | _, _, _ => none
noncomputable def opIndex (C : Cfg) (fr : Fr) (h : H) (t : Nat) (x i : Operand) : R := match und C t, ev fr x, ev fr i with
  | .string, .str l, .int _ i => some (.int .u8 (.ofNat (gd8 l (nn i)).toNat), h, andr (ile 0 i) (Nat.blt (nn i) (len l)))
  | .array n e, v, .int k i => match partOf C e v (nn i * cellsOf C e) with
    | some (v, ok) => some (v, h, andr (andr ok (cond (cond (sg k) false (Nat.ble (md k) n)) true (andr (ile 0 i) (Nat.blt (nn i) n)))) (infoB C e))
    | none => none
  | _, _, _ => none
noncomputable def opExtract (fr : Fr) (h : H) (x : Operand) (i : Nat) : R := match ev fr x with
  | .tuple l => match nth l i with
    | some v => some (v, h, true)
    | none => none
  | _ => none
noncomputable def opLen (C : Cfg) (h : H) (t : Nat) (v : V) : R := match und C t, v with
  | .string, .str l => some (.int .i64 (.ofNat (len l)), h, Nat.ble (len l) 9223372036854775807)
  | .slice _, .slice _ _ n _ => some (.int .i64 (.ofNat n), h, Nat.ble n 9223372036854775807)
  | .slice _, .nilslice => some (.int .i64 (.ofNat 0), h, true)
  | .array n _, _ => some (.int .i64 (.ofNat n), h, Nat.ble n 9223372036854775807)
  | _, _ => none
def opMin (h : H) (mx : Bool) : List V → R
  | [.int k a, .int k' b] => cond (decide (k = k')) (some (.int k (cond (cond mx (ile a b) (ile b a)) b a), h, true)) none
  | _ => none
/-- The cells that are read out of a slice or string, so many elements. -/
noncomputable def srcOf (h : H) (z n : Nat) : V → Option (Blk × Bool)
  | .str l => some (.ints .u8 (toI (tk l n)), Nat.beq z 1)
  | .slice b o _ z' => match h.bs.get b with
    | some (.ints k l) => some (.ints k (tk (drp l o) (n * z)), andr (Nat.ble (o + n * z) (len l)) (Nat.beq z z'))
    | some (.vals l) => some (.vals (tk (drp l o) (n * z)), andr (Nat.ble (o + n * z) (len l)) (Nat.beq z z'))
    | _ => none
  | _ => none
def lenOf : V → Option Nat
  | .str l => some (len l)
  | .slice _ _ n _ => some n
  | .nilslice => some 0
  | _ => none
def Blk.val : Blk → V
  | .ints k l => .ints k l
  | .vals l => .agg l
  | .dead => .any
noncomputable def opCopy (C : Cfg) (h : H) (t : Nat) : List V → R
  | [.slice b o n z, s] => match und C t, lenOf s with
    | .slice e, some m => match srcOf h z (Nat.min m n) s with
      | some (k, p) => match h.wr b o k.val with
        | some (h, q) => some (.int .i64 (.ofNat (Nat.min m n)), h, andr (andr (andr p q) (andr (Nat.beq z (cellsOf C e)) (Nat.ble n 9223372036854775807))) (infoB C e))
        | none => none
      | none => none
    | _, _ => none
  | _ => none
def joinB : Blk → Blk → Option Blk
  | .ints k l, .ints k' m => cond (decide (k = k')) (some (.ints k (app l m))) none
  | .vals l, .vals m => some (.vals (app l m))
  | .vals l, .ints k m => some (.vals (app l (mapInt k m)))
  | _, _ => none
noncomputable def zeroB (C : Cfg) (t : Nat) : Bool := match C.P.info? t with
  | some i => match i.zero with
    | some z => Nat.beq z.cells.size i.size
    | none => false
  | none => false
def srcT : TypeDesc → Bool
  | .slice _ | .string => true
  | _ => false
/-- append: the old block is given up. -/
noncomputable def opAppend (C : Cfg) (id : Nat) (h : H) (t tx : Nat) : List V → R
  | [.nilslice, s] => match und C t, lenOf s with
    | .slice e, some m => match srcOf h (cellsOf C e) m s with
      | some (k, p) => match h.add id k with
        | some h => some (.slice id 0 m (cellsOf C e), h, andr (andr (andr p (srcT (und C tx))) (zeroB C e)) (andr (Nat.blt 0 m) (andr (Nat.ble (2 * m * C.P.bytesOf e) 281474976710656) (Nat.ble m 9223372036854775807))))
        | none => none
      | none => none
    | _, _ => none
  | [.slice b o n z, s] => match und C t, lenOf s with
    | .slice e, some m => match srcOf h z n (.slice b o n z), srcOf h z m s, h.bs.get b with
      | some (k0, p0), some (k, p), some bb => match joinB k0 k with
        | some k => match (H.add ⟨h.bs.put b (some .dead), h.nx⟩ id k) with
          | some h => some (.slice id 0 (n + m) z, h, andr (andr (andr (andr (andr p0 p) (srcT (und C tx))) (andr (Nat.beq (o + n * z) bb.size) (Nat.beq z (cellsOf C e)))) (zeroB C e)) (andr (Nat.ble (2 * (n + m) * C.P.bytesOf e) 281474976710656) (Nat.ble (n + m) 9223372036854775807)))
          | none => none
        | none => none
      | _, _, _ => none
    | _, _ => none
  | _ => none
noncomputable def opCall (C : Cfg) (id : Nat) (fr : Fr) (h : H) (c : Call) : R := match c.callee with
  | .value (.func f) => match C.OV f (evs fr c.args.toList) with
    | some (v, k) => some (v, h, andr k (cond (noIdsL (evs fr c.args.toList)) (noIds v) false))
    | none => match C.O f (evs fr c.args.toList) h with
      | some (v, l, n, k) => some (v, ⟨putAll h.bs l, n⟩, k)
      | none => none
  | .builtin b => match c.argTypes.toList, evs fr c.args.toList with
    | t :: ts, a :: l => match b with
      | .len => opLen C h t a
      | .min => opMin h false (a :: l)
      | .max => opMin h true (a :: l)
      | .copy => opCopy C h t (a :: l)
      | .append => match ts with
        | [tx] => opAppend C id h t tx (a :: l)
        | _ => none
      | _ => none
    | _, _ => none
  | _ => none
noncomputable def opE (C : Cfg) (id : Nat) (fr : Fr) (h : H) (o : Op) : R := match o with
  | .move x => some (ev fr x, h, true)
  | .assign x => some (ev fr x, h, true)
  | .pick c a b => opPick C fr h c a b
  | .alloc t => newV h id (zeroOf C t)
  | .box _ x => newV h id (ev fr x)
  | .build t ps => opBuild C fr h t ps.toList
  | .load t a => opLoad C fr h t a
  | .store t a x => opStore C fr h t a x
  | .nilCheck x => opNil fr h x
  | .binOp op t x y _ => opBin C fr h op t x y
  | .unOp op _ x => opUn fr h op x
  | .convert s t x => match opConv C id fr h s t x with
    | some (v, h, k) => some (v, h, andr k (undB C s))
    | none => none
  | .makeSlice t l c => opMake C id fr h t l c
  | .slice t x lo hi mx => match mx with
    | none => opSlice C fr h t x lo hi
    | some _ => none
  | .fieldAddr t x f => opFieldA C fr h t x f
  | .field t x f => opField C fr h t x f
  | .indexAddr t x i => opIndexA C fr h t x i
  | .index t x i => opIndex C fr h t x i
  | .extract x i => opExtract fr h x i
  | .call c => opCall C id fr h c
  | _ => none


/-! Regions, code, calls -/
noncomputable def wantB (C : Cfg) (ops : List Oper) (fr : Fr) (o : Oper) : Option (Bool × Bool) := match o.guard with
  | none => some (true, true)
  | some (j, want) => match nth ops j with
    | some oj => match oj.dst with
      | some d => match fr.get d with
        | some (.bool b) => match C.D d with
          | some x => some (cond x want (not want), cond x b (not b))
          | none => some (cond b want (not want), true)
        | some (.tuple []) => some (false, true)
        | _ => none
      | none => none
    | none => none
noncomputable def putD (nt : Nat) (fr : Fr) (dst : Option Nat) (v : V) : Option Fr := match dst with
  | some d => cond (Nat.blt d nt) (some (fr.put d (some v))) none
  | none => some fr
noncomputable def evOps (C : Cfg) (nt : Nat) (ops : List Oper) (n0 : Nat) (l : List Oper) : Nat → Fr → H → Bool → Option (Fr × H × Bool) :=
  List.rec (fun _ fr h k => some (fr, h, k)) (fun o _ f i fr h k => match wantB C ops fr o with
    | some (t, k1) => cond t
        (match opE C (n0 + i) fr h o.op with
        | some (v, h, k2) => match putD nt fr o.dst v with
          | some fr => f (i + 1) fr h (andr (andr k k1) k2)
          | none => none
        | none => none)
        (match putD nt fr o.dst (.tuple []) with
        | some fr => f (i + 1) fr h (andr k k1)
        | none => none)
    | none => none) l
inductive X where
  | normal
  | exit (id : Nat)
  | ret
abbrev Out := X × Fr × H × Bool
def firstId : Code → Nat
  | .region id _ _ => id
  | .seq a _ => firstId a
  | .block _ c => firstId c
  | .loop c => firstId c
  | .scope c => firstId c
  | _ => 0
/-! A statement whose order is open: each operation sees just what it needs; two that no edge orders touch nothing of each other's. -/
noncomputable def Tr.dead (t : Tr Blk) : Tr Blk := Tr.rec .e (fun v _ _ l r => .n (match v with
  | some _ => some .dead
  | none => none) l r) t
noncomputable def keepOnly (t : Tr Blk) (u : Tr Blk) : List Nat → Tr Blk
  | [] => u
  | i :: l => keepOnly t (u.put i (t.get i)) l
noncomputable def H.only (h : H) (F : List Nat) : H := ⟨keepOnly h.bs h.bs.dead F, h.nx⟩
def tmpsL : List Operand → List Nat
  | [] => []
  | .tmp t :: l => t :: tmpsL l
  | _ :: l => tmpsL l
noncomputable def onlyFr (fr : Fr) (u : Fr) : List Nat → Fr
  | [] => u
  | t :: l => onlyFr fr (u.put t (fr.get t)) l
def idV : V → List Nat
  | .ptr b _ => [b]
  | .slice b _ _ _ => [b]
  | _ => []
def idsL : List V → List Nat
  | [] => []
  | v :: l => app (idV v) (idsL l)
def idsB : Option Blk → List Nat
  | some (.vals l) => idsL l
  | _ => []
noncomputable def idsH (h : H) : List Nat → List Nat
  | [] => []
  | i :: l => app (idsB (h.bs.get i)) (idsH h l)
/-- The blocks that an operation may see. -/
noncomputable def opIds (C : Cfg) (id : Nat) (fr : Fr) (h : H) (o : Op) : List Nat := match o with
  | .load _ a => idV (ev fr a)
  | .store _ a _ => idV (ev fr a)
  | .convert _ _ x => idV (ev fr x)
  | .slice _ x _ _ _ => match ev fr x with
    | .ptr b _ => [b]
    | _ => []
  | .call c => match c.callee with
    | .value (.func f) => match C.OV f (evs fr c.args.toList) with
      | some _ => []
      | none => app (idsL (evs fr c.args.toList)) (app (idsH h (idsL (evs fr c.args.toList))) (idsH h (idsH h (idsL (evs fr c.args.toList)))))
    | .builtin .copy => idsL (evs fr c.args.toList)
    | .builtin .append => idsL (evs fr c.args.toList)
    | _ => []
  | _ => []
def fsts : List (Nat × Blk) → List Nat
  | [] => []
  | (i, _) :: l => i :: fsts l
/-- The blocks that an operation turns. -/
noncomputable def touched (C : Cfg) (id : Nat) (fr : Fr) (h : H) (o : Op) : List Nat := match o with
  | .alloc _ => [id]
  | .box _ _ => [id]
  | .makeSlice _ _ _ => [id]
  | .store _ a _ => idV (ev fr a)
  | .convert _ _ x => match ev fr x with
    | .str _ => [id]
    | _ => []
  | .call c => match c.callee with
    | .value (.func f) => match C.OV f (evs fr c.args.toList) with
      | some _ => []
      | none => match C.O f (evs fr c.args.toList) h with
        | some (_, l, _, _) => fsts l
        | none => []
    | .builtin b => match evs fr c.args.toList with
      | v :: _ => match b with
        | .copy => idV v
        | .append => id :: idV v
        | _ => []
      | [] => []
    | _ => []
  | _ => []
def mem (n : Nat) : List Nat → Bool
  | [] => false
  | a :: l => cond (Nat.beq n a) true (mem n l)
def apartL : List Nat → List Nat → Bool
  | [], _ => true
  | a :: l, m => cond (mem a m) false (apartL l m)
/-- Every address in it is of a block that passes. -/
def okIdsN (d : Nat) (p : Nat → Bool) : V → Bool := Nat.rec (fun _ => false) (fun _ f v => match v with
  | .ptr b _ => p b
  | .slice b _ _ _ => p b
  | .agg l => noIdsN.allB f l
  | .tuple l => noIdsN.allB f l
  | .iface _ v => f v
  | _ => true) d
noncomputable def H.has (h : H) (i : Nat) : Bool := match h.bs.get i with
  | some _ => true
  | none => false
def okFr (fr : Nat → Option V) (p : Nat → Bool) : List Nat → Bool
  | [] => true
  | t :: l => match fr t with
    | some v => cond (okIdsN 5 p v) (okFr fr p l) false
    | none => okFr fr p l
def okBlk (p : Nat → Bool) : Option Blk → Bool
  | some (.vals l) => noIdsN.allB (okIdsN 5 p) l
  | _ => true
def okBlks (g : Nat → Option Blk) (p : Nat → Bool) : List Nat → Bool
  | [] => true
  | i :: l => cond (okBlk p (g i)) (okBlks g p l) false
/-- The edges' numbers. -/
def ons : List Edge → List Nat
  | [] => []
  | e :: l => cond (Region.binds .any e) (e.on :: ons l) (ons l)
/-- What is kept of an operation: its number, what stands before it, the blocks that it sees and turns, the slots that it looks at and writes. -/
structure Rec where
  i : Nat
  p : List Nat
  F : List Nat
  W : List Nat
  L : List Nat
  D : List Nat
def maskOf (ms : List Rec) (e : Nat) : List Nat := match ms with
  | [] => []
  | r :: l => cond (Nat.beq r.i e) r.p (maskOf l e)
def prevs (ms : List Rec) : List Nat → List Nat
  | [] => []
  | e :: l => e :: app (maskOf ms e) (prevs ms l)
def indB (r s : Rec) : Bool := cond (apartL r.F s.W) (cond (apartL r.W s.F) (cond (apartL r.L s.D) (cond (apartL r.D s.L) (apartL r.D s.D) false) false) false) false
/-- Every operation ahead that is not before this one by edges touches nothing of its. -/
def freeOf (s : Rec) : List Rec → Bool
  | [] => true
  | r :: l => cond (cond (mem r.i s.p) true (indB r s)) (freeOf s l) false
def dstL (o : Oper) : List Nat := match o.dst with
  | some d => [d]
  | none => []
def looksL (ops : List Oper) (o : Oper) : List Nat := app (tmpsL o.op.operands.toList) (match o.guard with
  | some (j, _) => match nth ops j with
    | some oj => dstL oj
    | none => []
  | none => [])
def onlyBefore (i : Nat) : List Edge → Bool
  | [] => true
  | e :: l => cond (Region.binds .any e) (cond (Nat.blt e.on i) (onlyBefore i l) false) (onlyBefore i l)
noncomputable def copyBack (t u : Tr Blk) : List Nat → Tr Blk
  | [] => t
  | i :: l => copyBack (t.put i (u.get i)) u l
/-- One operation by itself, with what it may see. -/
noncomputable def opD (C : Cfg) (nt id : Nat) (fr : Fr) (h : H) (o : Op) : Option (V × H × List Nat × List Nat × Bool) :=
  match opE C id (onlyFr fr (Tr.full (Nat.log2 (nt + 1) + 1)) (tmpsL o.operands.toList)) (h.only (opIds C id fr h o)) o with
  | some (v, h2, k) => some (v, h2, opIds C id fr h o, touched C id (onlyFr fr (Tr.full (Nat.log2 (nt + 1) + 1)) (tmpsL o.operands.toList)) (h.only (opIds C id fr h o)) o,
      andr k (cond (okFr fr.get h.has (tmpsL o.operands.toList)) (okBlks h.bs.get h.has (opIds C id fr h o)) false))
  | none => none
noncomputable def evOpsD (C : Cfg) (nt : Nat) (ops : List Oper) (n0 : Nat) (l : List Oper) : Nat → Fr → H → List Rec → Bool → Option (Fr × H × Bool) :=
  List.rec (fun _ fr h _ k => some (fr, h, k)) (fun o _ f i fr h ms k => match wantB C ops fr o with
    | some (t, k1) => cond t
        (match opD C nt (n0 + i) fr h o.op with
        | some (v, h2, F, W, k2) => match putD nt fr o.dst v with
          | some fr' => f (i + 1) fr' ⟨copyBack h.bs h2.bs W, h2.nx⟩ (⟨i, prevs ms (ons o.after.toList), app F W, W, looksL ops o, dstL o⟩ :: ms)
              (andr (andr (andr k k1) k2) (cond (onlyBefore i o.after.toList) (freeOf ⟨i, prevs ms (ons o.after.toList), app F W, W, looksL ops o, dstL o⟩ ms) false))
          | none => none
        | none => none)
        (match putD nt fr o.dst (.tuple []) with
        | some fr' => f (i + 1) fr' h (⟨i, prevs ms (ons o.after.toList), [], [], looksL ops o, dstL o⟩ :: ms)
              (andr (andr k k1) (cond (onlyBefore i o.after.toList) (freeOf ⟨i, prevs ms (ons o.after.toList), [], [], looksL ops o, dstL o⟩ ms) false))
        | none => none)
    | none => none) l
noncomputable def evReg (C : Cfg) (nt : Nat) (draw : Bool) (ops : List Oper) (fr : Fr) (h : H) : Option Out := match draw with
  | false => match evOps C nt ops h.nx ops 0 fr ⟨h.bs, h.nx + len ops⟩ true with
    | some (fr, h, k) => some (.normal, fr, h, k)
    | none => none
  | true => match evOpsD C nt ops h.nx ops 0 fr ⟨h.bs, h.nx + len ops⟩ [] true with
    | some (fr, h, k) => some (.normal, fr, h, k)
    | none => none
noncomputable def evC (C : Cfg) (L : Nat → Fr → H → Option Out) (nt : Nat) (n : Nat) : Code → Fr → H → Option Out :=
  Nat.rec (fun _ _ _ => none) (fun _ f c fr h => match c with
    | .skip => some (.normal, fr, h, true)
    | .region _ ops d => evReg C nt d ops.toList fr h
    | .seq a b => match f a fr h with
      | some (x, fr, h, k) => match x with
        | .normal => match f b fr h with
          | some (x, fr, h, k') => some (x, fr, h, andr k k')
          | none => none
        | x => some (x, fr, h, k)
      | none => none
    | .cond c a b => match test C fr c with
      | some (t, k) => match cond t (f a fr h) (f b fr h) with
        | some (x, fr, h, k') => some (x, fr, h, andr k k')
        | none => none
      | none => none
    | .block id c => match f c fr h with
      | some (x, fr, h, k) => match x with
        | .exit j => cond (Nat.beq j id) (some (.normal, fr, h, k)) (some (.exit j, fr, h, k))
        | x => some (x, fr, h, k)
      | none => none
    | .loop c => match L (firstId c) fr h with
      | some o => some o
      | none => match f c fr h with
        | some (x, fr, h, k) => match x with
          | .normal => match f (.loop c) fr h with
            | some (x, fr, h, k') => some (x, fr, h, andr k k')
            | none => none
          | x => some (x, fr, h, k)
        | none => none
    | .scope c => f c fr h
    | .exit id => some (.exit id, fr, h, true)
    | .ret => some (.ret, fr, h, true)
    | _ => none) n
noncomputable def setArgs : List V → Nat → Fr → Fr
  | [], _, fr => fr
  | a :: l, i, fr => setArgs l (i + 1) (fr.put i (some a))
noncomputable def resOf (C : Cfg) (fr : Fr) (h : H) : ResultVar → Option (V × Bool)
  | .tmp t => match fr.get t with
    | some v => some (v, true)
    | none => none
  | .cell a t => match fr.get a with
    | some (.ptr b o) => match cond (aggT (und C t)) (h.rdN b o (cellsOf C t)) (h.rd1 b o) with
      | some (v, k) => some (v, andr k (undB C t))
      | none => none
    | _ => none
noncomputable def resAll (C : Cfg) (fr : Fr) (h : H) : List ResultVar → Option (List V × Bool)
  | [] => some ([], true)
  | r :: l => match resOf C fr h r, resAll C fr h l with
    | some (v, k), some (vs, k') => some (v :: vs, andr k k')
    | _, _ => none
def tup : List V → V
  | [v] => v
  | l => .tuple l
/-- A function's answer. -/
noncomputable def evF (C : Cfg) (L : Nat → Fr → H → Option Out) (fuel : Nat) (fn : Func) (args : List V) (h : H) : R := match fn.body with
  | some c => match evC C L fn.ntmps fuel c (setArgs args 0 (Tr.full (Nat.log2 (fn.ntmps + 1) + 1))) h with
    | some (x, fr, h, k) => match x with
      | .exit _ => none
      | _ => match resAll C fr h fn.results.toList with
        | some (vs, k') => some (tup vs, h, andr (andr k k') (Nat.ble (len args) fn.ntmps))
        | none => none
    | none => none
  | none => none

end Ev
end Go
