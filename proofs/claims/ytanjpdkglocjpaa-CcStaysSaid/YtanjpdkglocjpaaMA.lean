/-
  Typed elements of slices for the evaluator: the element types that occur in this program, and how an element lies in cells.
-/
import GoSem.Core.Code
import GoSem.Core.Region
import GoSem.Core.Program
import GoSem.Core.Layout
import Derived.WalkKit

namespace Go.Im

structure Entry where
  At : Int
  V : Int
  deriving DecidableEq, Inhabited
structure Span where
  From : Int
  To : Int
  deriving DecidableEq, Inhabited
structure Piece where
  From : Int
  Data : List Int
  deriving DecidableEq, Inhabited
structure Block where
  From : Int
  To : Int
  deriving DecidableEq, Inhabited
structure Rec where
  From : Int
  To : Int
  Fin : Bool
  Sent : Int
  Tx : Int
  Sacked : Bool
  Lost : Bool
  Again : Bool
  Given : Int
  GivenAt : Int
  FirstAt : Int
  Idle : Bool
  deriving DecidableEq, Inhabited
structure Timer where
  Kind : Int
  At : Int
  deriving DecidableEq, Inhabited
structure Datagram where
  Data : List Int
  Sent : Int
  deriving DecidableEq, Inhabited
structure Sent where
  Data : List Int
  Why : Int
  From : Int
  To : Int
  Pipe : Int
  Cwnd : Int
  Edge : Int
  deriving DecidableEq, Inhabited
structure Event where
  Kind : Int
  At : Int
  Draw : Int
  Data : List Int
  deriving DecidableEq, Inhabited
structure In where
  Kind : Int
  Now : Int
  Data : List Int
  deriving DecidableEq, Inhabited
structure Sample where
  Now : Int
  Acked : Int
  Rtt : Int
  Rate : Int
  Idle : Bool
  Given : Int
  Before : Int
  Flight : Int
  deriving DecidableEq, Inhabited

/-- the element types -/
inductive U where
  | u8 | i64 | str | bytes | entry | span | piece | block | recd | timer | datagram | sent | event | inn | sample
  deriving DecidableEq

/-- what an element is -/
@[reducible] def U.D : U → Type
  | .u8 => Int
  | .i64 => Int
  | .str => List UInt8
  | .bytes => List Int
  | .entry => Entry
  | .span => Span
  | .piece => Piece
  | .block => Block
  | .recd => Rec
  | .timer => Timer
  | .datagram => Datagram
  | .sent => Sent
  | .event => Event
  | .inn => In
  | .sample => Sample

/-- values of the evaluator -/
inductive PVal where
  | undef
  | bool (b : Bool)
  | int (k : IntKind) (n : Int)
  | str (s : List UInt8)
  | ptr (b off : Nat)
  | nilp
  | rptr (cs : List PVal) (off : Nat)
  | nils
  | slice (u : U) (own : Bool) (l : List u.D)
  | func (f : Nat) (cap : List PVal)
  | nilf
  | agg (cs : List PVal)
  | tup (vs : List PVal)
  | iface (t : Nat) (v : PVal)
  | nili

abbrev PVal.i64 (n : Int) : PVal := .int .i64 n
abbrev PVal.view (u : U) (l : List u.D) : PVal := .slice u false l

/-- an element's cells -/
def U.cells : (u : U) → u.D → List PVal
  | .u8, x => [.int .u8 x]
  | .i64, x => [.int .i64 x]
  | .str, x => [.str x]
  | .bytes, x => [.slice .u8 false x]
  | .entry, x => [.i64 x.At, .i64 x.V]
  | .span, x => [.i64 x.From, .i64 x.To]
  | .piece, x => [.i64 x.From, .slice .u8 false x.Data]
  | .block, x => [.int .u32 x.From, .int .u32 x.To]
  | .recd, x => [.i64 x.From, .i64 x.To, .bool x.Fin, .i64 x.Sent, .i64 x.Tx, .bool x.Sacked, .bool x.Lost, .bool x.Again, .i64 x.Given, .i64 x.GivenAt, .i64 x.FirstAt, .bool x.Idle]
  | .timer, x => [.i64 x.Kind, .i64 x.At]
  | .datagram, x => [.slice .u8 false x.Data, .i64 x.Sent]
  | .sent, x => [.slice .u8 false x.Data, .i64 x.Why, .i64 x.From, .i64 x.To, .i64 x.Pipe, .i64 x.Cwnd, .i64 x.Edge]
  | .event, x => [.i64 x.Kind, .i64 x.At, .i64 x.Draw, .slice .u8 false x.Data]
  | .inn, x => [.i64 x.Kind, .i64 x.Now, .slice .u8 false x.Data]
  | .sample, x => [.i64 x.Now, .i64 x.Acked, .i64 x.Rtt, .i64 x.Rate, .bool x.Idle, .i64 x.Given, .i64 x.Before, .i64 x.Flight]

/-- a list of an element type read at another name of the same type -/
def U.castL : (u v : U) → List u.D → Option (List v.D)
  | .u8, .u8, l => some l
  | .i64, .i64, l => some l
  | .str, .str, l => some l
  | .bytes, .bytes, l => some l
  | .entry, .entry, l => some l
  | .span, .span, l => some l
  | .piece, .piece, l => some l
  | .block, .block, l => some l
  | .recd, .recd, l => some l
  | .timer, .timer, l => some l
  | .datagram, .datagram, l => some l
  | .sent, .sent, l => some l
  | .event, .event, l => some l
  | .inn, .inn, l => some l
  | .sample, .sample, l => some l
  | _, _, _ => none

theorem U.castL_some {u v : U} {l : List u.D} {l' : List v.D} (h : U.castL u v l = some l') : ∃ e : u = v, e ▸ l = l' := by
  cases u <;> cases v <;> simp [U.castL] at h <;> exact ⟨rfl, h⟩

theorem U.castL_self (u : U) (l : List u.D) : U.castL u u l = some l := by cases u <;> rfl

/-- how many cells -/
def U.size : U → Nat
  | .u8 | .i64 | .str | .bytes => 1
  | .entry | .span | .piece | .block | .timer | .datagram => 2
  | .inn => 3
  | .event => 4
  | .sent => 7
  | .sample => 8
  | .recd => 12

theorem U.size_cells (u : U) (x : u.D) : (u.cells x).length = u.size := by cases u <;> rfl
theorem U.size_pos (u : U) : 0 < u.size := by cases u <;> decide

/-- one cell, or a struct -/
def U.isAgg : U → Bool
  | .u8 | .i64 | .str | .bytes => false
  | _ => true

/-- what stands for an element that is not there -/
def U.dflt : (u : U) → u.D
  | .u8 => (0 : Int)
  | .i64 => (0 : Int)
  | .str => []
  | .bytes => []
  | .entry => ⟨0, 0⟩
  | .span => ⟨0, 0⟩
  | .piece => ⟨0, []⟩
  | .block => ⟨0, 0⟩
  | .recd => ⟨0, 0, false, 0, 0, false, false, false, 0, 0, 0, false⟩
  | .timer => ⟨0, 0⟩
  | .datagram => ⟨[], 0⟩
  | .sent => ⟨[], 0, 0, 0, 0, 0, 0⟩
  | .event => ⟨0, 0, 0, []⟩
  | .inn => ⟨0, 0, []⟩
  | .sample => ⟨0, 0, 0, 0, false, 0, 0, 0⟩

def decBytes : PVal → Option (List Int)
  | .slice .u8 _ l => some l
  | .nils => some []
  | _ => none

def dec_u8 : List PVal → Option Int
  | [.int .u8 x] => some x
  | _ => none
def dec_i64 : List PVal → Option Int
  | [.int .i64 x] => some x
  | _ => none
def dec_str : List PVal → Option (List UInt8)
  | [.str x] => some x
  | _ => none
def dec_bytes : List PVal → Option (List Int)
  | [x] => match decBytes x with | some l => some l | none => none
  | _ => none
def dec_entry : List PVal → Option Entry
  | [.int .i64 a, .int .i64 b] => some ⟨a, b⟩
  | _ => none
def dec_span : List PVal → Option Span
  | [.int .i64 a, .int .i64 b] => some ⟨a, b⟩
  | _ => none
def dec_piece : List PVal → Option Piece
  | [.int .i64 a, b] => match decBytes b with | some l => some ⟨a, l⟩ | none => none
  | _ => none
def dec_block : List PVal → Option Block
  | [.int .u32 a, .int .u32 b] => some ⟨a, b⟩
  | _ => none
def dec_recd : List PVal → Option Rec
  | [.int .i64 a, .int .i64 b, .bool c, .int .i64 d, .int .i64 e, .bool f, .bool g, .bool h, .int .i64 i, .int .i64 j, .int .i64 k, .bool l] => some ⟨a, b, c, d, e, f, g, h, i, j, k, l⟩
  | _ => none
def dec_timer : List PVal → Option Timer
  | [.int .i64 a, .int .i64 b] => some ⟨a, b⟩
  | _ => none
def dec_datagram : List PVal → Option Datagram
  | [a, .int .i64 b] => match decBytes a with | some l => some ⟨l, b⟩ | none => none
  | _ => none
def dec_sent : List PVal → Option Sent
  | [a, .int .i64 b, .int .i64 c, .int .i64 d, .int .i64 e, .int .i64 f, .int .i64 g] => match decBytes a with | some l => some ⟨l, b, c, d, e, f, g⟩ | none => none
  | _ => none
def dec_event : List PVal → Option Event
  | [.int .i64 a, .int .i64 b, .int .i64 c, d] => match decBytes d with | some l => some ⟨a, b, c, l⟩ | none => none
  | _ => none
def dec_inn : List PVal → Option In
  | [.int .i64 a, .int .i64 b, c] => match decBytes c with | some l => some ⟨a, b, l⟩ | none => none
  | _ => none
def dec_sample : List PVal → Option Sample
  | [.int .i64 a, .int .i64 b, .int .i64 c, .int .i64 d, .bool e, .int .i64 f, .int .i64 g, .int .i64 h] => some ⟨a, b, c, d, e, f, g, h⟩
  | _ => none

/-- an element, out of its cells -/
def U.dec : (u : U) → List PVal → Option u.D
  | .u8 => dec_u8
  | .i64 => dec_i64
  | .str => dec_str
  | .bytes => dec_bytes
  | .entry => dec_entry
  | .span => dec_span
  | .piece => dec_piece
  | .block => dec_block
  | .recd => dec_recd
  | .timer => dec_timer
  | .datagram => dec_datagram
  | .sent => dec_sent
  | .event => dec_event
  | .inn => dec_inn
  | .sample => dec_sample

end Go.Im

/-
  The evaluator: a pure reading of the model's Code. Slices are lists, variables that lie in memory are boxes; 'ok' gathers what must hold for the reading to stand.
-/
namespace Go.Im

def upd {α : Type} (f : Nat → α) (k : Nat) (v : α) : Nat → α := fun j => match Nat.beq j k with | true => v | false => f j

abbrev Boxes := Nat → Option (List PVal)
structure St where
  tm : Nat → PVal
  bx : Boxes
  nb : Nat
  n : Nat
  ok : Bool
  dirty : List (Nat × Nat)
structure Res where
  ok : Bool
  val : PVal
  bxs : List (List PVal)

abbrev FSpec := List PVal → List (List PVal) → Option (Bool × PVal × List (List PVal))
abbrev LSpec := St → (Nat → St → Res) → (St → Res) → Res

structure Cfg where
  P : Program
  E : Nat → Option U
  G : Nat → FSpec
  L : Nat → Option LSpec
  /-- 0: no boxes at all · 1: looks at boxes, turns none · else: may turn them -/
  mode : Nat → Nat

def Res.bad : Res := ⟨false, .undef, []⟩
/-- a ∧ c, the new condition looked at first -/
def andB (a c : Bool) : Bool := match c with | true => a | false => false
/-- ctx → c -/
def impB (x c : Bool) : Bool := match c with | true => true | false => !x
/-- what both ways ask -/
def mergeOk (b x y : Bool) : Bool := match x with | true => (match y with | true => true | false => b) | false => (match y with | true => !b | false => false)

def PVal.cells : PVal → List PVal
  | .agg cs => cs
  | v => [v]
def kindEq : IntKind → IntKind → Bool
  | .i8, .i8 | .i16, .i16 | .i32, .i32 | .i64, .i64 | .u8, .u8 | .u16, .u16 | .u32, .u32 | .u64, .u64 => true
  | _, _ => false
theorem kindEq_iff {a b : IntKind} (h : kindEq a b = true) : a = b := by cases a <;> cases b <;> simp_all [kindEq]

/-! ### merging two ways -/
def mergeLeaf0 (b : Bool) : PVal → PVal → PVal
  | .bool x, .bool y => .bool (bif b then x else y)
  | .int k x, .int k' y => match kindEq k k' with | true => .int k (bif b then x else y) | false => .undef
  | .str x, .str y => .str (bif b then x else y)
  | .slice u o l, .slice u' o' l' => match U.castL u' u l' with | some l'' => .slice u (o && o') (bif b then l else l'') | none => .undef
  | .nils, .nils => .nils
  | .nils, .slice u o l => .slice u o (bif b then [] else l)
  | .slice u o l, .nils => .slice u o (bif b then l else [])
  | .ptr x o, .ptr y p => match Nat.beq x y, Nat.beq o p with | true, true => .ptr x o | _, _ => .undef
  | .nilp, .nilp => .nilp
  | .nilf, .nilf => .nilf
  | .nili, .nili => .nili
  | _, _ => .undef
def mergeL0 (b : Bool) : List PVal → List PVal → List PVal
  | x :: xs, y :: ys => mergeLeaf0 b x y :: mergeL0 b xs ys
  | _, _ => []
def mergeLeaf (b : Bool) : PVal → PVal → PVal
  | .func f xs, .func g ys => match Nat.beq f g, Nat.beq xs.length ys.length with | true, true => .func f (mergeL0 b xs ys) | _, _ => .undef
  | x, y => mergeLeaf0 b x y
def mergeL (b : Bool) : List PVal → List PVal → List PVal
  | x :: xs, y :: ys => mergeLeaf b x y :: mergeL b xs ys
  | _, _ => []
def mergeV1 (b : Bool) : PVal → PVal → PVal
  | .agg xs, .agg ys => match Nat.beq xs.length ys.length with | true => .agg (mergeL b xs ys) | false => .undef
  | x, y => mergeLeaf b x y
def mergeV1L (b : Bool) : List PVal → List PVal → List PVal
  | x :: xs, y :: ys => mergeV1 b x y :: mergeV1L b xs ys
  | _, _ => []
def mergeV (b : Bool) : PVal → PVal → PVal
  | .tup xs, .tup ys => match Nat.beq xs.length ys.length with | true => .tup (mergeV1L b xs ys) | false => .undef
  | x, y => mergeV1 b x y

def memN : Nat → List Nat → Bool
  | _, [] => false
  | x, y :: r => match Nat.beq x y with | true => true | false => memN x r
def dstOk (n : Nat) : Option Nat → Bool
  | some d => Nat.blt d n
  | none => true
def memP : Nat → Nat → List (Nat × Nat) → Bool
  | _, _, [] => false
  | x, k, (y, j) :: r => match Nat.beq x y with | true => (match Nat.beq k j with | true => true | false => memP x k r) | false => memP x k r

/-- a box behind two ways: only the cells that one of them has written are merged -/
def mergeCells (b : Bool) (d : List (Nat × Nat)) (x : Nat) : Nat → List PVal → List PVal → List PVal → List PVal
  | k, c :: cs, c1 :: cs1, c2 :: cs2 => (match memP x k d with | true => mergeLeaf b c1 c2 | false => c) :: mergeCells b d x (k + 1) cs cs1 cs2
  | _, _, _, _ => []
def mergeBox (b : Bool) (d : List (Nat × Nat)) (x : Nat) : Option (List PVal) → Option (List PVal) → Option (List PVal) → Option (List PVal)
  | some c0, some c1, some c2 => match Nat.beq c0.length c1.length, Nat.beq c0.length c2.length with | true, true => some (mergeCells b d x 0 c0 c1 c2) | _, _ => none
  | _, _, _ => none

/-! ### operations -/
section ops
variable (C : Cfg)

def aggD : TypeDesc → Bool
  | .struct _ | .array _ _ => true
  | _ => false
def aggT (t : Nat) : Option Bool := match C.P.underlying t with | some d => some (aggD d) | none => none

def partV (t : Nat) (cs : List PVal) (off : Nat) : PVal × Bool :=
  match aggT C t with
  | some true => (.agg ((cs.drop off).take (C.P.cellsOf t)), Nat.ble (off + C.P.cellsOf t) cs.length)
  | some false => match cs[off]? with | some v => (v, true) | none => (.undef, false)
  | none => (.undef, false)

def zeroLeaf : Value → PVal
  | .bool b => .bool b
  | .int k n => .int k n
  | .string s => .str s.data.toList
  | .pointer none => .nilp
  | .slice none 0 0 => .nils
  | .nilFunc => .nilf
  | .nilIface => .nili
  | _ => .undef
def zeroCells (t : Nat) : Option (List PVal) := match (C.P.info? t).bind (·.zero) with | some v => some (v.cells.toList.map zeroLeaf) | none => none
def splice : List PVal → Nat → List PVal → List PVal
  | cs, 0, vs => vs ++ cs.drop vs.length
  | c :: cs, n + 1, vs => c :: splice cs n vs
  | [], _ + 1, _ => []

def fld (s f : Nat) : Option (Nat × Nat) := match C.P.underlying s with
  | some (.struct fs) => match fs[f]? with
    | some fd => match Nat.beq (C.P.cellsOf fd.type) 0 with | true => none | false => some (fd.offset, fd.type)
    | none => none
  | _ => none

def bitsOp (k : IntKind) (op : BinOp) (x y : Int) : Int :=
  let a := BitVec.ofInt k.bits x
  let b := BitVec.ofInt k.bits y
  match op with
  | .and => k.wrap (a &&& b).toNat
  | .or => k.wrap (a ||| b).toNat
  | .xor => k.wrap (a ^^^ b).toNat
  | _ => k.wrap (a &&& ~~~b).toNat

def evBin (op : BinOp) (t : Nat) : PVal → PVal → PVal × Bool
  | .int k a, .int k' b =>
    match op with
    | .shl => (.int k (k.wrap (a * 2 ^ min b.toNat k.bits)), decide (0 ≤ b))
    | .shr => (.int k (a.fdiv (2 ^ min b.toNat k.bits)), decide (0 ≤ b))
    | .add => (.int k (k.wrap (a + b)), kindEq k k')
    | .sub => (.int k (k.wrap (a - b)), kindEq k k')
    | .mul => (.int k (k.wrap (a * b)), kindEq k k')
    | .quo => (.int k (k.wrap (a.tdiv b)), match kindEq k k' with | true => !(b == 0) | false => false)
    | .rem => (.int k (a.tmod b), match kindEq k k' with | true => !(b == 0) | false => false)
    | .and => (.int k (bitsOp k .and a b), kindEq k k')
    | .or => (.int k (bitsOp k .or a b), kindEq k k')
    | .xor => (.int k (bitsOp k .xor a b), kindEq k k')
    | .andNot => (.int k (bitsOp k .andNot a b), kindEq k k')
    | .eql => (.bool (a == b), kindEq k k')
    | .neq => (.bool (a != b), kindEq k k')
    | .lss => (.bool (decide (a < b)), kindEq k k')
    | .leq => (.bool (decide (a ≤ b)), kindEq k k')
    | .gtr => (.bool (decide (a > b)), kindEq k k')
    | .geq => (.bool (decide (a ≥ b)), kindEq k k')
  | .bool a, .bool b => match C.P.underlying t with
    | some .bool => (match op with
      | .eql => (.bool (a == b), true)
      | .neq => (.bool (!(a == b)), true)
      | _ => (.undef, false))
    | _ => (.undef, false)
  | _, _ => (.undef, false)

def evUn (op : UnOp) : PVal → PVal × Bool
  | .int k n => match op with
    | .neg => (.int k (k.wrap (0 - n)), true)
    | .xor => (.int k (bitsOp k .xor (if k.signed then -1 else k.max) n), true)
    | _ => (.undef, false)
  | .bool b => match op with
    | .not => (.bool (!b), true)
    | _ => (.undef, false)
  | _ => (.undef, false)

def evConv (src dst : Nat) : PVal → PVal × Bool
  | .int _ n => match C.P.underlying src, C.P.underlying dst with
    | some _, some (.int k) => (.int k (k.wrap n), true)
    | _, _ => (.undef, false)
  | _ => (.undef, false)

/-- the bounds of a slice expression: an operand's number, or what stands for it -/
def bnd (dflt : Int) : Option PVal → Int × Bool
  | none => (dflt, true)
  | some (.int _ n) => (n, true)
  | some _ => (0, false)

def evSlice (t : Nat) (x : PVal) (lo hi mx : Option PVal) : PVal × Bool :=
  match C.P.underlying t with
  | some (.slice e) => match x with
    | .slice u _ l =>
      let h := bnd l.length hi
      let a := bnd 0 lo
      (.slice u (match mx with | none => false | some m => decide ((bnd 0 (some m)).1 = h.1)) ((l.take h.1.toNat).drop a.1.toNat),
        match h.2, a.2, (bnd 0 mx).2, C.E e with
        | true, true, true, some u' => (match U.castL u u' l with
          | some _ => decide (0 ≤ a.1) && decide (a.1 ≤ h.1) && decide (h.1 ≤ l.length) && (match mx, hi with | none, _ => true | some m, some _ => decide ((bnd 0 (some m)).1 = h.1) | some _, none => false)
          | none => false)
        | _, _, _, _ => false)
    | _ => (.undef, false)
  | _ => (.undef, false)

def evIndexAddr (t : Nat) (x i : PVal) : PVal × Bool :=
  match i with
  | .int _ n => match C.P.underlying t, x with
    | some (.slice e), .slice u _ l => (.rptr (u.cells (l.getD n.toNat u.dflt)) 0,
        match C.E e with
        | some u' => (match U.castL u u' l with | some _ => decide (0 ≤ n) && decide (n < l.length) | none => false)
        | none => false)
    | _, _ => (.undef, false)
  | _ => (.undef, false)

def evIndex (t : Nat) (x i : PVal) : PVal × Bool :=
  match i with
  | .int _ n => match C.P.underlying t, x with
    | some (.array len e), .agg cs => ((partV C e cs (n.toNat * C.P.cellsOf e)).1, match (partV C e cs (n.toNat * C.P.cellsOf e)).2 with | true => decide (0 ≤ n) && decide (n < len) | false => false)
    | some .string, .str s => (.int .u8 ((s.getD n.toNat 0).toNat : Int), decide (0 ≤ n) && decide (n < s.length))
    | _, _ => (.undef, false)
  | _ => (.undef, false)

def findPart : Nat → List (Nat × PVal) → Option PVal
  | _, [] => none
  | i, (j, v) :: r => match Nat.beq i j with | true => some v | false => findPart i r
def buildElems (u : U) (z : List PVal) (parts : List (Nat × PVal)) : Nat → Nat → Option (List u.D)
  | 0, _ => some []
  | n + 1, i => match u.dec (match findPart i parts with | some v => v.cells | none => z), buildElems u z parts n (i + 1) with
    | some x, some l => some (x :: l)
    | _, _ => none
def defd : PVal → Bool
  | .undef => false
  | _ => true
def partsFit (s : Nat) : Nat → List (Nat × PVal) → Bool
  | _, [] => true
  | n, (j, v) :: r => match Nat.blt j n, findPart j r, defd v, Nat.beq v.cells.length s with | true, none, true, true => partsFit s n r | _, _, _, _ => false

def evBuildSlice (t len : Nat) (parts : List (Nat × PVal)) : PVal × Bool :=
  match C.P.underlying t with
  | some (.slice e) => match C.E e, zeroCells C e with
    | some u, some z => match buildElems u z parts len 0 with
      | some l => (.slice u true l, match partsFit u.size len parts with | true => Nat.ble (len * u.size) 16777216 | false => false)
      | none => (.undef, false)
    | _, _ => (.undef, false)
  | _ => (.undef, false)

def buildFill (fs : Nat → Option (Nat × Nat)) : List PVal → List (Nat × PVal) → List PVal × Bool
  | cs, [] => (cs, true)
  | cs, (i, v) :: r => match fs i with
    | some (off, size) => (match defd v, Nat.beq v.cells.length size, Nat.ble (off + size) cs.length with
      | true, true, true => buildFill fs (splice cs off v.cells) r
      | _, _, _ => (cs, false))
    | none => (cs, false)
def fldPlace (fs : Array Field) (i : Nat) : Option (Nat × Nat) := match fs[i]? with | some f => some (f.offset, C.P.cellsOf f.type) | none => none
def evBuild (t : Nat) (parts : List (Nat × PVal)) : PVal × Bool :=
  match C.P.underlying t, zeroCells C t with
  | some (.struct fs), some z => (.agg (buildFill (fldPlace C fs) z parts).1, match fs.toList.all fun f => (C.P.info? f.type).isSome with | true => (buildFill (fldPlace C fs) z parts).2 | false => false)
  | some (.array _ e), some z => (.agg (buildFill (fun i => some (i * C.P.cellsOf e, C.P.cellsOf e)) z parts).1, match (C.P.info? e).isSome with | true => (buildFill (fun i => some (i * C.P.cellsOf e, C.P.cellsOf e)) z parts).2 | false => false)
  | _, _ => (.undef, false)

def appLim : Nat := 4294967296
def appBase (u : U) : PVal → Option (Bool × List u.D)
  | .nils => some (true, [])
  | .slice u' o l => match U.castL u' u l with | some l' => some (o, l') | none => none
  | _ => none
def appMore (u : U) : PVal → Option (List u.D)
  | .nils => some []
  | .slice u' _ l => U.castL u' u l
  | _ => none
def evAppend (sT : Nat) (s x : PVal) : PVal × Bool :=
  match C.P.underlying sT with
  | some (.slice e) => match C.E e with
    | some u => match appBase u s, appMore u x with
      | some (o, l), some m => (.slice u false (l ++ m), match o with | true => Nat.ble (l.length + m.length) appLim | false => false)
      | _, _ => (.undef, false)
    | none => (.undef, false)
  | _ => (.undef, false)

def evLen (t : Nat) : PVal → PVal × Bool
  | .slice _ _ l => (.i64 l.length, match C.P.underlying t with | some (.slice _) => true | _ => false)
  | .nils => (.i64 0, match C.P.underlying t with | some (.slice _) => true | _ => false)
  | .str s => (.i64 s.length, match C.P.underlying t with | some .string => true | _ => false)
  | _ => (.undef, false)

def evMin2 : PVal → PVal → PVal × Bool
  | .int k x, .int _ y => (.int k (if y < x then y else x), true)
  | _, _ => (.undef, false)
def evMax2 : PVal → PVal → PVal × Bool
  | .int k x, .int _ y => (.int k (if y > x then y else x), true)
  | _, _ => (.undef, false)
def evFold (f : PVal → PVal → PVal × Bool) : PVal → List PVal → PVal × Bool
  | x, [] => (x, true)
  | x, y :: r => match (f x y).2 with | true => evFold f (f x y).1 r | false => (.undef, false)

/-! ### calls: boxes that are passed -/
def ptrsLeaf0 : PVal → List Nat
  | .ptr b _ => [b]
  | _ => []
def ptrsLeaf : PVal → List Nat
  | .ptr b _ => [b]
  | .func _ cs => cs.flatMap ptrsLeaf0
  | _ => []
def ptrs1 : PVal → List Nat
  | .agg cs => cs.flatMap ptrsLeaf
  | v => ptrsLeaf v
def ptrs : PVal → List Nat
  | .tup vs => vs.flatMap ptrs1
  | v => ptrs1 v
def dedup : List Nat → List Nat → List Nat
  | [], acc => acc
  | x :: r, acc => match memN x acc with | true => dedup r acc | false => dedup r (acc ++ [x])
def idx (b : Nat) : List Nat → Nat → Option Nat
  | [], _ => none
  | x :: r, k => match Nat.beq b x with | true => some k | false => idx b r (k + 1)

def mapLeaf0 (f : Nat → Option Nat) : PVal → PVal
  | .ptr b o => match f b with | some k => .ptr k o | none => .undef
  | .func _ _ => .undef
  | .rptr _ _ => .undef
  | .agg _ => .undef
  | .tup _ => .undef
  | .iface _ _ => .undef
  | v => v
def mapLeaf (f : Nat → Option Nat) : PVal → PVal
  | .func g cs => .func g (cs.map (mapLeaf0 f))
  | v => mapLeaf0 f v
def mapV1 (f : Nat → Option Nat) : PVal → PVal
  | .agg cs => .agg (cs.map (mapLeaf f))
  | v => mapLeaf f v
def mapV (f : Nat → Option Nat) : PVal → PVal
  | .tup vs => .tup (vs.map (mapV1 f))
  | v => mapV1 f v

def boxesAt (bx : Boxes) : List Nat → Option (List (List PVal))
  | [] => some []
  | b :: r => match bx b, boxesAt bx r with | some c, some l => some (c :: l) | _, _ => none
def putBoxes (f : Nat → Option Nat) (bx : Boxes) : List Nat → List (List PVal) → Boxes
  | b :: r, c :: l => putBoxes f (upd bx b (some (c.map (mapLeaf f)))) r l
  | _, _ => bx
def newBoxes (f : Nat → Option Nat) (bx : Boxes) : Nat → List (List PVal) → Boxes
  | _, [] => bx
  | b, c :: l => newBoxes f (upd bx b (some (c.map (mapLeaf f)))) (b + 1) l
def dirtyAll (b : Nat) : Nat → List (Nat × Nat) → List (Nat × Nat)
  | 0, d => d
  | n + 1, d => dirtyAll b n ((b, n) :: d)
def dirtyBoxes : List Nat → List (List PVal) → List (Nat × Nat) → List (Nat × Nat)
  | b :: r, c :: l, d => dirtyBoxes r l (dirtyAll b c.length d)
  | _, _, d => d

/-- ids that one operation may give to boxes -/
def stride : Nat := 16

structure Eff where
  val : PVal
  ok : Bool
  bx : Boxes
  dirty : List (Nat × Nat)

/-- cells that name no box -/
def noPtr : PVal → Bool
  | .ptr _ _ | .rptr _ _ | .func _ _ | .agg _ | .tup _ | .iface _ _ => false
  | _ => true
def allPlain1 : List PVal → Bool
  | [] => true
  | x :: r => match noPtr x with | true => allPlain1 r | false => false
def allPlain : List (List PVal) → Bool
  | [] => true
  | x :: r => match allPlain1 x with | true => allPlain r | false => false

def callEff (f : Nat) (args : List PVal) (m : Nat) (lim new : Nat) (bx : Boxes) (dirty : List (Nat × Nat)) : Eff :=
  let ids := dedup (args.flatMap ptrs) []
  match (match ids.all (Nat.blt · lim) with | true => boxesAt bx ids | false => none) with
  | none => ⟨.undef, false, bx, dirty⟩
  | some bs =>
    match C.G f (args.map (mapV fun b => idx b ids 0)) (bs.map fun c => c.map (mapLeaf fun b => idx b ids 0)) with
    | none => ⟨.undef, false, bx, dirty⟩
    | some (ok, v, bs') =>
      let back : Nat → Option Nat := fun k => match ids[k]? with | some b => some b | none => some (new + (k - ids.length))
      match m with
      | 0 => (match ids, bs' with
        | [], [] => ⟨mapV back v, ok, bx, dirty⟩
        | _, _ => ⟨.undef, false, bx, dirty⟩)
      | 1 => ⟨mapV back v, match allPlain bs with | true => ok | false => false, bx, dirty⟩
      | _ => ⟨mapV back v, match Nat.ble ids.length bs'.length, Nat.ble bs'.length (ids.length + stride) with | true, true => ok | _, _ => false,
          newBoxes back (putBoxes back bx ids (bs'.take ids.length)) new (bs'.drop ids.length), dirtyBoxes ids bs' dirty⟩

/-- cells that may be stored: each of them one cell -/
def oneLeaf : PVal → Bool
  | .undef | .agg _ | .tup _ => false
  | _ => true
def allOne : List PVal → Bool
  | [] => true
  | x :: r => match oneLeaf x with | true => allOne r | false => false

def argOf (tm : Nat → PVal) : Operand → PVal
  | .tmp t => tm t
  | .const v => zeroLeaf v
  | .global _ => .undef
  | .func f => .func f []

/-- one operation: 'rd' reads an operand (a view, or the thing itself), 'lim': boxes from this number on can't be seen yet, 'new': the first number for boxes of its own -/
def evOp (rd : Operand → PVal) (lim new : Nat) (bx : Boxes) (dirty : List (Nat × Nat)) (o : Oper) : Eff :=
  let v (r : PVal × Bool) : Eff := ⟨r.1, r.2, bx, dirty⟩
  let see (b : Nat) : Option (List PVal) := match Nat.blt b lim with | true => bx b | false => none
  match o.op with
  | .move x | .assign x => v (rd x, true)
  | .pick c a b => match rd c with
    | .bool t => v (mergeV t (rd a) (rd b), true)
    | _ => v (.undef, false)
  | .alloc t => match zeroCells C t with
    | some z => ⟨.ptr new 0, true, upd bx new (some z), dirty⟩
    | none => v (.undef, false)
  | .box t x => ⟨.ptr new 0, allOne (rd x).cells, upd bx new (some (rd x).cells), dirty⟩
  | .build t parts => v (evBuild C t (parts.toList.map fun p => (p.1, rd p.2)))
  | .buildSlice t len parts => v (evBuildSlice C t len (parts.toList.map fun p => (p.1, rd p.2)))
  | .load t a => match rd a with
    | .ptr b off => match see b with
      | some cs => v (partV C t cs off)
      | none => v (.undef, false)
    | .rptr cs off => v (partV C t cs off)
    | _ => v (.undef, false)
  | .store t a x => match rd a with
    | .ptr b off => match see b with
      | some cs => ⟨.undef, match Nat.beq (rd x).cells.length (C.P.cellsOf t), allOne (rd x).cells, (C.P.info? t).isSome with | true, true, true => Nat.ble (off + (rd x).cells.length) cs.length | _, _, _ => false,
          upd bx b (some (splice cs off (rd x).cells)), (List.range (rd x).cells.length).map (fun k => (b, off + k)) ++ dirty⟩
      | none => v (.undef, false)
    | _ => v (.undef, false)
  | .nilCheck x => match rd x with
    | .ptr b off => v (.ptr b off, true)
    | .rptr cs off => v (.rptr cs off, true)
    | .func f cs => v (.func f cs, true)
    | _ => v (.undef, false)
  | .binOp op t x y _ => v (evBin C op t (rd x) (rd y))
  | .unOp op _ x => v (evUn op (rd x))
  | .convert src dst x => v (evConv C src dst (rd x))
  | .slice t x lo hi mx => v (evSlice C t (rd x) (lo.map rd) (hi.map rd) (mx.map rd))
  | .fieldAddr s x f => match fld C s f, rd x with
    | some (off, _), .ptr b o => v (.ptr b (o + off), true)
    | some (off, _), .rptr cs o => v (.rptr cs (o + off), true)
    | _, _ => v (.undef, false)
  | .field s x f => match fld C s f, rd x with
    | some (off, t), .agg cs => v (partV C t cs off)
    | _, _ => v (.undef, false)
  | .indexAddr t x i => v (evIndexAddr C t (rd x) (rd i))
  | .index t x i => v (evIndex C t (rd x) (rd i))
  | .extract x i => match rd x with
    | .tup vs => v (match vs[i]? with | some y => (y, true) | none => (.undef, false))
    | _ => v (.undef, false)
  | .makeFunc (.func f) first captured => match first.toList with
    | [] => v (.func f (captured.toList.map rd), true)
    | _ => v (.undef, false)
  | .call c => match c.callee, c.args.toList, c.argTypes.toList with
    | .builtin .len, [x], [t] => v (evLen C t (rd x))
    | .builtin .min, x :: r, _ => v (evFold evMin2 (rd x) (r.map rd))
    | .builtin .max, x :: r, _ => v (evFold evMax2 (rd x) (r.map rd))
    | .builtin .append, [s, x], [sT, xT] => match Nat.beq sT xT with
      | true => v (evAppend C sT (rd s) (rd x))
      | false => v (.undef, false)
    | .value f, args, _ => match rd f with
      | .func g cap => callEff C g (args.map rd ++ cap) (C.mode g) lim new bx dirty
      | _ => v (.undef, false)
    | _, _, _ => v (.undef, false)
  | _ => v (.undef, false)

/-! ### regions -/
def tmpsOf (o : Op) : List Nat := o.operands.toList.filterMap fun | .tmp t => some t | _ => none

/-- guards: the slots, and what each must hold -/
def chain (ops : List Oper) : Nat → Option (Nat × Bool) → List (Nat × Bool)
  | 0, _ => []
  | _, none => []
  | n + 1, some (j, w) => match ops[j]? with
    | some o => match o.dst with
      | some d => (d, w) :: chain ops n o.guard
      | none => []
    | none => []
def asB : PVal → Bool
  | .bool b => b
  | _ => false
def isB : PVal → Bool
  | .bool _ => true
  | _ => false
def ctxVal (tm : Nat → PVal) : List (Nat × Bool) → Bool
  | [] => true
  | (d, w) :: r => match ctxVal tm r with
    | true => (match w with | true => asB (tm d) | false => !(asB (tm d)))
    | false => false

def memG : Nat × Bool → List (Nat × Bool) → Bool
  | _, [] => false
  | (d, w), (e, x) :: r => match Nat.beq d e, w == x with | true, true => true | _, _ => memG (d, w) r
def subG : List (Nat × Bool) → List (Nat × Bool) → Bool
  | [], _ => true
  | g :: r, h => match memG g h with | true => subG r h | false => false
/-- slots that were written under guards, with the guards -/
abbrev GEnv := List (Nat × List (Nat × Bool))
def gFind (t : Nat) : GEnv → Option (List (Nat × Bool))
  | [] => none
  | (s, g) :: r => match Nat.beq t s with | true => some g | false => gFind t r
def okUnder (env : GEnv) (here : List (Nat × Bool)) (t : Nat) : Bool := match gFind t env with | none => true | some g => subG g here
def okUnderX (env : GEnv) (here : List (Nat × Bool)) : Operand → Bool
  | .tmp t => okUnder env here t
  | _ => true
def guardsOk (env : GEnv) (here : List (Nat × Bool)) : Op → Bool
  | .pick c a b => okUnderX env here c && (match c with
      | .tmp t => okUnderX env ((t, true) :: here) a && okUnderX env ((t, false) :: here) b
      | _ => okUnderX env here a && okUnderX env here b)
  | o => (tmpsOf o).all (okUnder env here)

structure RSt where
  s : St
  env : GEnv

def putTm (tm : Nat → PVal) : Option Nat → PVal → (Nat → PVal)
  | some d, v => upd tm d v
  | none, _ => tm

def mergeBoxes (b : Bool) (d : List (Nat × Nat)) (b0 b1 : Boxes) : Boxes := fun x => mergeBox b d x (b0 x) (b1 x) (b0 x)

/-- what an operation does to boxes: 0: nothing, 1: looks, 2: writes -/
def opCls : Op → Nat
  | .load _ _ => 1
  | .store .. => 2
  | .call { callee := .builtin _, .. } => 0
  | .call { callee := .value (.func f), .. } => C.mode f
  | .call _ => 2
  | .move _ | .assign _ | .pick .. | .alloc _ | .box .. | .build .. | .buildSlice .. | .nilCheck _ | .binOp .. | .unOp .. | .convert .. | .slice .. | .fieldAddr .. | .field .. | .indexAddr .. | .index .. | .extract .. | .makeFunc .. => 0
  | _ => 2
def isNew : Op → Bool
  | .alloc _ | .box .. => true
  | _ => false

def eqG : List (Nat × Bool) → List (Nat × Bool) → Bool
  | [], [] => true
  | (d, w) :: r, (e, x) :: s => match Nat.beq d e, w == x with | true, true => eqG r s | _, _ => false
  | _, _ => false
/-- the guard's own slot is there, under the guards that it itself stands under -/
def okGuard (env : GEnv) : List (Nat × Bool) → Bool
  | [] => true
  | (d, _) :: r => match gFind d env with | none => eqG r [] | some gs => eqG gs r
def ctxB (tm : Nat → PVal) : List (Nat × Bool) → Bool
  | [] => true
  | (d, _) :: r => match isB (tm d) with | true => ctxB tm r | false => false

/-- one operation of a region -/
def stepOp (lim nb0 : Nat) (ops : List Oper) (i : Nat) (o : Oper) (r : RSt) : RSt :=
  let g := chain ops ops.length o.guard
  let st := r.s
  let e := evOp C (argOf st.tm) lim (nb0 + stride * i) st.bx st.dirty o
  match g with
  | [] =>
    ⟨{ tm := putTm st.tm o.dst e.val, bx := e.bx, nb := st.nb, n := st.n, ok := andB st.ok (match o.guard, guardsOk r.env g o.op, dstOk st.n o.dst with | none, true, true => e.ok | _, _, _ => false), dirty := e.dirty }, r.env⟩
  | _ =>
    let x := ctxVal st.tm g
    ⟨{ tm := putTm st.tm o.dst e.val, bx := match opCls C o.op with | 2 => mergeBoxes x e.dirty st.bx e.bx | _ => st.bx, nb := st.nb, n := st.n,
       ok := andB st.ok (match guardsOk r.env g o.op, dstOk st.n o.dst, okGuard r.env g, ctxB st.tm g, isNew o.op with | true, true, true, true, false => impB x e.ok | _, _, _, _, _ => false), dirty := e.dirty },
     match o.dst with | some d => (d, g) :: r.env | none => r.env⟩

def goOps (lim nb0 : Nat) (all : List Oper) : Nat → List Oper → RSt → RSt
  | _, [], r => r
  | i, o :: os, r => goOps lim nb0 all (i + 1) os (stepOp C lim nb0 all i o r)

def disjN : List Nat → List Nat → Bool
  | [], _ => true
  | x :: r, l => match memN x l with | true => false | false => disjN r l
def distinctN : List Nat → Bool
  | [] => true
  | x :: r => match memN x r with | true => false | false => distinctN r
def guardBack : Nat → List Oper → Bool
  | _, [] => true
  | i, o :: r => match o.guard with | none => guardBack (i + 1) r | some (j, _) => match Nat.blt j i with | true => guardBack (i + 1) r | false => false
/-- each slot is written once; a guard stands ahead -/
def regOk (ops : List Oper) : Bool := match distinctN (ops.filterMap (·.dst)) with | true => guardBack 0 ops | false => false

def opReads (ops : List Oper) (o : Oper) : List Nat := tmpsOf o.op ++ (chain ops ops.length o.guard).map (·.1)
/-- the box that a load or a store goes to -/
def adrOp (rd : Operand → PVal) : Op → Option Nat
  | .load _ a => match rd a with | .ptr b _ => some b | _ => none
  | .store _ a _ => match rd a with | .ptr b _ => some b | _ => none
  | _ => none
def adrs (lim nb0 : Nat) (all : List Oper) : Nat → List Oper → RSt → List (Option Nat)
  | _, [], _ => []
  | i, o :: os, r => adrOp (argOf r.s.tm) o.op :: adrs lim nb0 all (i + 1) os (stepOp C lim nb0 all i o r)
def apartA : Option Nat → Option Nat → Bool
  | some a, some b => match Nat.beq a b with | true => false | false => true
  | _, _ => false
def indep (ops : List Oper) (ax ay : Option Nat) (x y : Oper) : Bool :=
  disjN x.dst.toList (opReads ops y) && disjN y.dst.toList (opReads ops x) && (match opCls C x.op, opCls C y.op with | 0, _ | _, 0 | 1, 1 => true | _, _ => apartA ax ay)
/-- what stands before an operation in any order: a bit each; 'acc': the numbers so far -/
def befOne (acc : List Nat) : List Edge → Nat → Nat
  | [], s => s
  | e :: r, s => match Region.binds .any e with
    | true => befOne acc r (s ||| 2 ^ e.on ||| acc.getD e.on 0)
    | false => befOne acc r s
def befGo : List Oper → List Nat → List Nat
  | [], acc => acc
  | o :: r, acc => match befOne acc o.after.toList 0 with
    | 0 => befGo r (acc ++ [0])
    | n + 1 => befGo r (acc ++ [n + 1])
def drawPairs (ops : List Oper) (bef : Nat → Nat) (ad : Nat → Option Nat) : Nat → List Oper → Bool
  | _, [] => true
  | i, x :: r => match (r.zipIdx (i + 1)).all (fun y => match (bef y.2).testBit i with | true => true | false => indep C ops (ad i) (ad y.2) x y.1) with | true => drawPairs ops bef ad (i + 1) r | false => false
def edgesBack : Nat → List Oper → Bool
  | _, [] => true
  | i, o :: r => match o.after.toList.all (fun e => match Region.binds .any e with | true => Nat.blt e.on i | false => true) with | true => edgesBack (i + 1) r | false => false
def drawOk (ops : List Oper) (ad : List (Option Nat)) : Bool :=
  let b := befGo ops []
  drawPairs C ops (fun j => b.getD j 0) (fun j => ad.getD j none) 0 ops && edgesBack 0 ops && ops.all fun o => match o.guard with | none => true | some _ => match opCls C o.op with | 2 => false | _ => true

def undefAll (l : List Nat) (tm : Nat → PVal) : Nat → PVal := match l with | [] => tm | _ => fun t => match memN t l with | true => .undef | false => tm t

def evRegion (ops : Array Oper) (draw : Bool) (st : St) : St :=
  let l := ops.toList
  let r := goOps C (match draw with | true => st.nb | false => st.nb + stride * l.length) st.nb l 0 l ⟨st, []⟩
  { tm := undefAll (r.env.map (·.1)) r.s.tm, bx := r.s.bx, nb := st.nb + stride * l.length, n := st.n,
    ok := andB r.s.ok (match regOk l, draw with | true, true => drawOk C l (adrs C st.nb st.nb l 0 l ⟨st, []⟩) | true, false => true | false, _ => false), dirty := r.s.dirty }

/-! ### code -/
def simple : Code → Bool
  | .skip => true
  | .region .. => true
  | .seq a b => simple a && simple b
  | .cond _ a b => simple a && simple b
  | _ => false
def firstReg : Code → Nat
  | .region i _ _ => i
  | .seq a _ => firstReg a
  | .block _ c => firstReg c
  | .loop c => firstReg c
  | .cond _ a _ => firstReg a
  | _ => 0
/-- the slots that a piece of code writes -/
def writes : Code → List Nat
  | .region _ ops _ => ops.toList.filterMap (·.dst)
  | .seq a b => writes a ++ writes b
  | .cond _ a b => writes a ++ writes b
  | _ => []

/-- behind an 'if' whose ways both go on -/
def mergeSt (b : Bool) (ws : List Nat) (s0 s1 s2 : St) : St :=
  let d := s1.dirty ++ s2.dirty
  { tm := fun t => match memN t ws with | true => mergeV b (s1.tm t) (s2.tm t) | false => s0.tm t,
    bx := fun x => mergeBox b d x (s0.bx x) (s1.bx x) (s2.bx x),
    nb := max s1.nb s2.nb, n := s0.n, ok := andB s0.ok (mergeOk b s1.ok s2.ok), dirty := d ++ s0.dirty }

def execS : Code → St → St
  | .region i ops draw, st => evRegion C ops draw st
  | .seq a b, st => execS b (execS a st)
  | .cond c x y, st => match argOf st.tm c with
    | .bool b => mergeSt b (writes x ++ writes y) st (execS x { st with ok := true, dirty := [] }) (execS y { st with ok := true, dirty := [] })
    | _ => { st with ok := false }
  | _, st => st

def exec : Code → (St → Res) → (Nat → St → Res) → (St → Res) → St → Res
  | .skip, kn, _, _, st => kn st
  | .region i ops draw, kn, _, _, st => kn (evRegion C ops draw st)
  | .seq a b, kn, kx, kr, st => exec a (exec b kn kx kr) kx kr st
  | .cond c x y, kn, kx, kr, st => match argOf st.tm c with
    | .bool b => (match simple x && simple y with
      | true => kn (execS C (.cond c x y) st)
      | false => bif b then exec x kn kx kr st else exec y kn kx kr st)
    | _ => Res.bad
  | .block i c, kn, kx, kr, st => exec c kn (fun j s => match Nat.beq j i with | true => kn s | false => kx j s) kr st
  | .exit i, _, kx, _, st => kx i st
  | .ret, _, _, kr, st => kr st
  | .loop c, _, kx, kr, st => match C.L (firstReg c) with
    | some f => f st kx kr
    | none => Res.bad
  | _, _, _, _, _ => Res.bad

/-! ### functions -/
def resVals (st : St) : List ResultVar → List PVal × Bool
  | [] => ([], true)
  | .tmp t :: r => let q := resVals st r; (st.tm t :: q.1, q.2)
  | .cell a t :: r =>
    let q := resVals st r
    match st.tm a with
    | .ptr b off => match st.bx b with
      | some cs => ((partV C t cs off).1 :: q.1, match (partV C t cs off).2 with | true => q.2 | false => false)
      | none => (.undef :: q.1, false)
    | _ => (.undef :: q.1, false)

def passedAt (bx : Boxes) : Nat → Nat → Option (List (List PVal))
  | 0, _ => some []
  | n + 1, k => match bx k, passedAt bx n (k + 1) with | some c, some l => some (c :: l) | _, _ => none

def oneOrTup : List PVal → PVal
  | [x] => x
  | xs => .tup xs
/-- the end of a call: 'm' boxes came in -/
def finish (fn : Func) (m : Nat) (st : St) : Res :=
  let q := resVals C st fn.results.toList
  let v : PVal := oneOrTup q.1
  match passedAt st.bx m 0 with
  | none => Res.bad
  | some bs =>
    let esc := dedup (ptrs v) (List.range m)
    match boxesAt st.bx (esc.drop m) with
    | none => Res.bad
    | some es => ⟨andB st.ok q.2, mapV (fun b => idx b esc 0) v, (bs ++ es).map fun c => c.map (mapLeaf fun b => idx b esc 0)⟩

def nthV : List PVal → Nat → PVal
  | [], _ => .undef
  | x :: _, 0 => x
  | _ :: r, n + 1 => nthV r n
theorem nthV_eq : ∀ (l : List PVal) (t : Nat), nthV l t = l.getD t .undef
  | [], t => by simp [nthV]
  | x :: _, 0 => rfl
  | _ :: r, n + 1 => by simp only [nthV, nthV_eq r n]; simp
def startSt (n : Nat) (args : List PVal) (bxs : List (List PVal)) : St :=
  { tm := nthV args, bx := fun b => bxs[b]?, nb := bxs.length, n := n, ok := true, dirty := [] }

def runF (fn : Func) (args : List PVal) (bxs : List (List PVal)) : Res :=
  match fn.body with
  | some c => exec C c (finish C fn bxs.length) (fun _ _ => Res.bad) (finish C fn bxs.length) (startSt fn.ntmps args bxs)
  | none => Res.bad

end ops
end Go.Im

/-
  What a value of the evaluator says of a value of the model, in a world; and that it goes on to say it while only other memory turns.
-/
namespace Go.Im

/-- 'ro': a block that no longer turns; 'ex': a block that a box stands for (or that is not there) -/
inductive Role where
  | ro | ex
  deriving DecidableEq

structure Gh where
  role : Nat → Role
  β : Nat → Option Nat

inductive RelV (g : Gh) (w : World) : PVal → Value → Prop
  | undef (v : Value) : RelV g w .undef v
  | bool (b : Bool) : RelV g w (.bool b) (.bool b)
  | int (k : IntKind) (n : Int) : RelV g w (.int k n) (.int k n)
  | str (s : List UInt8) : RelV g w (.str s) (.string ⟨s.toArray⟩)
  | ptr (b off blk : Nat) (hb : g.β b = some blk) : RelV g w (.ptr b off) (.pointer (some ⟨blk, off, none⟩))
  | nilp : RelV g w .nilp (.pointer none)
  | rptr (cs : List PVal) (off blk base : Nat) (f : Nat → Value) (hro : g.role blk = .ro)
      (hc : ∀ j, j < cs.length → w.cell? ⟨blk, base + j, none⟩ = some (f j)) (hr : ∀ (j : Nat) (pv : PVal), cs[j]? = some pv → RelV g w pv (f j)) :
      RelV g w (.rptr cs off) (.pointer (some ⟨blk, base + off, none⟩))
  | nils : RelV g w .nils (.slice none 0 0)
  | slemp (u : U) (o : Bool) (ad : Option Addr) (cap : Nat) (ho : o = true → cap = 0) : RelV g w (.slice u o []) (.slice ad 0 cap)
  | slice (u : U) (o : Bool) (l : List u.D) (blk base cap : Nat) (f : Nat → Value) (hl : l.length ≤ cap) (ho : o = true → cap = l.length) (hro : g.role blk = .ro)
      (hc : ∀ j, j < l.length * u.size → w.cell? ⟨blk, base + j, none⟩ = some (f j))
      (hr : ∀ (i : Nat) (x : u.D), l[i]? = some x → ∀ (j : Nat) (pv : PVal), (u.cells x)[j]? = some pv → RelV g w pv (f (i * u.size + j))) :
      RelV g w (.slice u o l) (.slice (some ⟨blk, base, none⟩) l.length cap)
  | func (f : Nat) (cs : List PVal) (vs : Array Value) (hl : cs.length = vs.size) (hr : ∀ (j : Nat) (pv : PVal), cs[j]? = some pv → RelV g w pv (vs.getD j Go.undef)) :
      RelV g w (.func f cs) (.func (.func f) #[] vs)
  | nilf : RelV g w .nilf .nilFunc
  | agg (cs : List PVal) (vs : Array Value) (hl : cs.length = vs.size) (hr : ∀ (j : Nat) (pv : PVal), cs[j]? = some pv → RelV g w pv (vs.getD j Go.undef)) :
      RelV g w (.agg cs) (.agg vs)
  | tup (cs : List PVal) (vs : Array Value) (hl : cs.length = vs.size) (hr : ∀ (j : Nat) (pv : PVal), cs[j]? = some pv → RelV g w pv (vs.getD j Go.undef)) :
      RelV g w (.tup cs) (.tuple vs)
  | iface (t : Nat) (p : PVal) (v : Value) (h : RelV g w p v) : RelV g w (.iface t p) (.iface t v)
  | nili : RelV g w .nili .nilIface

/-- cells, one by one -/
def RelL (g : Gh) (w : World) (cs : List PVal) (vs : List Value) : Prop := cs.length = vs.length ∧ ∀ (j : Nat) (pv : PVal), cs[j]? = some pv → ∃ v, vs[j]? = some v ∧ RelV g w pv v

/-- what stands stays -/
structure Le (g : Gh) (w : World) (g' : Gh) (w' : World) : Prop where
  ro : ∀ b, g.role b = .ro → g'.role b = .ro
  cell : ∀ b o v, g.role b = .ro → w.cell? ⟨b, o, none⟩ = some v → w'.cell? ⟨b, o, none⟩ = some v
  beta : ∀ i x, g.β i = some x → g'.β i = some x

theorem Le.refl (g : Gh) (w : World) : Le g w g w := ⟨fun _ h => h, fun _ _ _ _ h => h, fun _ _ h => h⟩
theorem Le.trans {g w g1 w1 g2 w2} (h : Le g w g1 w1) (k : Le g1 w1 g2 w2) : Le g w g2 w2 :=
  ⟨fun b x => k.ro b (h.ro b x), fun b o v x y => k.cell b o v (h.ro b x) (h.cell b o v x y), fun i x y => k.beta i x (h.beta i x y)⟩

theorem RelV.mono {g w g' w'} (h : Le g w g' w') {p : PVal} {v : Value} (r : RelV g w p v) : RelV g' w' p v := by
  induction r with
  | undef v => exact .undef v
  | bool b => exact .bool b
  | int k n => exact .int k n
  | str s => exact .str s
  | ptr b off blk hb => exact .ptr b off blk (h.beta _ _ hb)
  | nilp => exact .nilp
  | rptr cs off blk base f hro hc _ ih => exact .rptr cs off blk base f (h.ro _ hro) (fun j hj => h.cell _ _ _ hro (hc j hj)) ih
  | nils => exact .nils
  | slemp u o ad cap ho => exact .slemp u o ad cap ho
  | slice u o l blk base cap f hl ho hro hc _ ih => exact .slice u o l blk base cap f hl ho (h.ro _ hro) (fun j hj => h.cell _ _ _ hro (hc j hj)) ih
  | func f cs vs hl _ ih => exact .func f cs vs hl ih
  | nilf => exact .nilf
  | agg cs vs hl _ ih => exact .agg cs vs hl ih
  | tup cs vs hl _ ih => exact .tup cs vs hl ih
  | iface t p v _ ih => exact .iface t p v ih
  | nili => exact .nili

theorem RelL.mono {g w g' w'} (h : Le g w g' w') {cs : List PVal} {vs : List Value} (r : RelL g w cs vs) : RelL g' w' cs vs :=
  ⟨r.1, fun j pv hj => let ⟨v, a, b⟩ := r.2 j pv hj; ⟨v, a, b.mono h⟩⟩

theorem relL_nil {g w} : RelL g w [] [] := ⟨rfl, fun j pv h => by simp at h⟩
theorem relL_cons {g w p v cs vs} (h : RelV g w p v) (r : RelL g w cs vs) : RelL g w (p :: cs) (v :: vs) := by
  refine ⟨by simp [r.1], fun j pv hj => ?_⟩
  cases j with
  | zero => simp at hj; subst hj; exact ⟨v, rfl, h⟩
  | succ j => obtain ⟨v', a, b⟩ := r.2 j pv (by simpa using hj); exact ⟨v', by simpa using a, b⟩
theorem relL_append {g w cs vs cs' vs'} (h : RelL g w cs vs) (k : RelL g w cs' vs') : RelL g w (cs ++ cs') (vs ++ vs') := by
  refine ⟨by simp [h.1, k.1], fun j pv hj => ?_⟩
  rw [List.getElem?_append] at hj
  split at hj
  · obtain ⟨v, a, b⟩ := h.2 j pv hj
    refine ⟨v, ?_, b⟩
    rw [List.getElem?_append_left (by rw [← h.1]; assumption)]; exact a
  · obtain ⟨v, a, b⟩ := k.2 _ pv hj
    refine ⟨v, ?_, b⟩
    rw [List.getElem?_append_right (by rw [← h.1]; omega), ← h.1]; exact a
theorem relL_drop {g w cs vs} (n : Nat) (h : RelL g w cs vs) : RelL g w (cs.drop n) (vs.drop n) := by
  refine ⟨by simp [h.1], fun j pv hj => ?_⟩
  rw [List.getElem?_drop] at hj
  obtain ⟨v, a, b⟩ := h.2 _ pv hj
  exact ⟨v, by rw [List.getElem?_drop]; exact a, b⟩
theorem relL_take {g w cs vs} (n : Nat) (h : RelL g w cs vs) : RelL g w (cs.take n) (vs.take n) := by
  refine ⟨by simp [h.1], fun j pv hj => ?_⟩
  rw [List.getElem?_take] at hj
  split at hj
  · obtain ⟨v, a, b⟩ := h.2 _ pv hj
    exact ⟨v, by rw [List.getElem?_take, if_pos (by assumption)]; exact a, b⟩
  · cases hj

/-- a value's cells -/
theorem RelV.cells {g w p v} (h : RelV g w p v) (hu : p ≠ .undef) : RelL g w p.cells v.cells.toList := by
  cases h with
  | agg cs vs hl hr =>
    refine ⟨by simpa [PVal.cells, Value.cells] using hl, fun j pv hj => ?_⟩
    have hlt : j < cs.length := (List.getElem?_eq_some_iff.1 hj).1
    refine ⟨vs.getD j Go.undef, ?_, hr j pv hj⟩
    simp [Value.cells]
    rw [Array.getElem?_eq_getElem (by omega)]
    simp [Array.getD, show j < vs.size by omega]
  | undef v => exact absurd rfl hu
  | _ => refine ⟨by simp [PVal.cells, Value.cells], fun j pv hj => ?_⟩
         simp only [PVal.cells] at hj
         cases j with
         | zero => simp only [List.getElem?_cons_zero, Option.some.injEq] at hj; subst hj; exact ⟨_, rfl, by first | assumption | (constructor <;> assumption) | constructor⟩
         | succ j => simp at hj

theorem relV_agg_of {g w cs vs} (h : RelL g w cs vs) : RelV g w (.agg cs) (.agg vs.toArray) :=
  .agg cs _ (by simpa using h.1) fun j pv hj => by
    obtain ⟨v, a, b⟩ := h.2 j pv hj
    have : vs.toArray.getD j Go.undef = v := by simp [Array.getD, List.getElem?_eq_some_iff.1 a |>.1]; exact (List.getElem?_eq_some_iff.1 a).2
    rw [this]; exact b
theorem relV_tup_of {g w cs vs} (h : RelL g w cs vs) : RelV g w (.tup cs) (.tuple vs.toArray) :=
  .tup cs _ (by simpa using h.1) fun j pv hj => by
    obtain ⟨v, a, b⟩ := h.2 j pv hj
    have : vs.toArray.getD j Go.undef = v := by simp [Array.getD, List.getElem?_eq_some_iff.1 a |>.1]; exact (List.getElem?_eq_some_iff.1 a).2
    rw [this]; exact b
theorem RelV.agg_inv {g w cs v} (h : RelV g w (.agg cs) v) : ∃ vs : Array Value, v = .agg vs ∧ RelL g w cs vs.toList := by
  cases h with
  | agg cs vs hl hr =>
    refine ⟨vs, rfl, ?_⟩
    have := RelV.cells (RelV.agg (g := g) (w := w) cs vs hl hr) (by simp)
    simpa [PVal.cells, Value.cells] using this
theorem RelV.tup_inv {g w cs v} (h : RelV g w (.tup cs) v) : ∃ vs : Array Value, v = .tuple vs ∧ RelL g w cs vs.toList := by
  cases h with
  | tup cs vs hl hr =>
    refine ⟨vs, rfl, ⟨by simpa using hl, fun j pv hj => ?_⟩⟩
    have hlt : j < cs.length := (List.getElem?_eq_some_iff.1 hj).1
    refine ⟨vs.getD j Go.undef, ?_, hr j pv hj⟩
    simp
    rw [Array.getElem?_eq_getElem (by omega)]
    simp [Array.getD, show j < vs.size by omega]

/-! ### merging says no more than the way that was taken -/
inductive LeV : PVal → PVal → Prop
  | undef (v : PVal) : LeV .undef v
  | refl (v : PVal) : LeV v v
  | slice (u : U) (o o' : Bool) (l : List u.D) (h : o = true → o' = true) : LeV (.slice u o l) (.slice u o' l)
  | nils (u : U) (o : Bool) : LeV (.slice u o []) .nils
  | agg (xs ys : List PVal) (hl : xs.length = ys.length) (h : ∀ (j : Nat) (a b : PVal), xs[j]? = some a → ys[j]? = some b → LeV a b) : LeV (.agg xs) (.agg ys)
  | tup (xs ys : List PVal) (hl : xs.length = ys.length) (h : ∀ (j : Nat) (a b : PVal), xs[j]? = some a → ys[j]? = some b → LeV a b) : LeV (.tup xs) (.tup ys)
  | func (f : Nat) (xs ys : List PVal) (hl : xs.length = ys.length) (h : ∀ (j : Nat) (a b : PVal), xs[j]? = some a → ys[j]? = some b → LeV a b) : LeV (.func f xs) (.func f ys)

theorem RelV.le {g w} {p q : PVal} (h : LeV p q) {v : Value} (r : RelV g w q v) : RelV g w p v := by
  induction h generalizing v with
  | undef _ => exact .undef v
  | refl _ => exact r
  | slice u o o' l h =>
    cases r with
    | slemp _ _ ad cap ho => exact .slemp u o ad cap (fun e => ho (h e))
    | slice _ _ _ blk base cap f hl ho hro hc hr => exact .slice u o l blk base cap f hl (fun e => ho (h e)) hro hc hr
  | nils u o => cases r; exact .slemp u o none 0 (fun _ => rfl)
  | agg xs ys hl _ ih =>
    cases r with
    | agg _ vs hl' hr =>
      refine .agg xs vs (hl.trans hl') fun j a ha => ?_
      have hj : j < ys.length := by rw [← hl]; exact (List.getElem?_eq_some_iff.1 ha).1
      exact ih j a ys[j] ha (List.getElem?_eq_getElem hj) (hr j _ (List.getElem?_eq_getElem hj))
  | tup xs ys hl _ ih =>
    cases r with
    | tup _ vs hl' hr =>
      refine .tup xs vs (hl.trans hl') fun j a ha => ?_
      have hj : j < ys.length := by rw [← hl]; exact (List.getElem?_eq_some_iff.1 ha).1
      exact ih j a ys[j] ha (List.getElem?_eq_getElem hj) (hr j _ (List.getElem?_eq_getElem hj))
  | func f xs ys hl _ ih =>
    cases r with
    | func _ _ vs hl' hr =>
      refine .func f xs vs (hl.trans hl') fun j a ha => ?_
      have hj : j < ys.length := by rw [← hl]; exact (List.getElem?_eq_some_iff.1 ha).1
      exact ih j a ys[j] ha (List.getElem?_eq_getElem hj) (hr j _ (List.getElem?_eq_getElem hj))

theorem LeV.nils' (u : U) (o : Bool) : LeV (.slice u o []) .nils := .nils u o

/-- what a 'pick' keeps -/
def sel (b : Bool) (x y : PVal) : PVal := bif b then x else y

theorem mergeLeaf0_le (b : Bool) (x y : PVal) : LeV (mergeLeaf0 b x y) (sel b x y) := by
  unfold mergeLeaf0
  split
  · cases b <;> exact .refl _
  · rename_i k x k' y
    cases h : kindEq k k' with
    | false => exact .undef _
    | true => obtain rfl := kindEq_iff h; cases b <;> exact .refl _
  · cases b <;> exact .refl _
  · rename_i u o l u' o' l'
    cases h : U.castL u' u l' with
    | none => exact .undef _
    | some l'' =>
      obtain ⟨e, he⟩ := U.castL_some h
      subst e; subst he
      cases b
      · exact .slice _ _ _ _ (by intro h; simp_all)
      · exact .slice _ _ _ _ (by intro h; simp_all)
  · cases b <;> exact .refl _
  · cases b
    · exact .refl _
    · exact .nils _ _
  · cases b
    · exact .nils _ _
    · exact .refl _
  · rename_i x o y p
    cases h1 : Nat.beq x y <;> cases h2 : Nat.beq o p <;> first | exact .undef _ | skip
    obtain rfl := Nat.eq_of_beq_eq_true h1
    obtain rfl := Nat.eq_of_beq_eq_true h2
    cases b <;> exact .refl _
  all_goals first | (cases b <;> exact .refl _) | exact .undef _

theorem mergeL0_length (b : Bool) : ∀ (xs ys : List PVal), xs.length = ys.length → (mergeL0 b xs ys).length = xs.length
  | [], [], _ => rfl
  | x :: xs, y :: ys, h => by simp [mergeL0, mergeL0_length b xs ys (by simpa using h)]
theorem mergeL0_get (b : Bool) : ∀ (xs ys : List PVal) (j : Nat) (a x y : PVal), (mergeL0 b xs ys)[j]? = some a → xs[j]? = some x → ys[j]? = some y → LeV a (sel b x y)
  | x :: xs, y :: ys, 0, a, x', y', h, hx, hy => by simp [mergeL0] at h hx hy; subst h hx hy; exact mergeLeaf0_le _ _ _
  | x :: xs, y :: ys, j + 1, a, x', y', h, hx, hy => by simp [mergeL0] at h hx hy; exact mergeL0_get b xs ys j a x' y' h hx hy
  | [], _, j, a, x', y', h, hx, hy => by simp at hx
  | _ :: _, [], j, a, x', y', h, hx, hy => by simp at hy
theorem mergeLeaf_le (b : Bool) (x y : PVal) : LeV (mergeLeaf b x y) (sel b x y) := by
  unfold mergeLeaf
  split
  · rename_i f xs g ys
    cases h1 : Nat.beq f g <;> cases h2 : Nat.beq xs.length ys.length <;> first | exact .undef _ | skip
    obtain rfl := Nat.eq_of_beq_eq_true h1
    have hl := Nat.eq_of_beq_eq_true h2
    cases b
    · refine .func _ _ _ ((mergeL0_length false xs ys hl).trans hl) fun j a c ha hc => ?_
      have hj : j < xs.length := by have := (List.getElem?_eq_some_iff.1 hc).1; omega
      exact mergeL0_get false xs ys j a xs[j] c ha (List.getElem?_eq_getElem hj) hc
    · refine .func _ _ _ (mergeL0_length true xs ys hl) fun j a c ha hc => ?_
      have hj : j < ys.length := by have := (List.getElem?_eq_some_iff.1 hc).1; omega
      exact mergeL0_get true xs ys j a c ys[j] ha hc (List.getElem?_eq_getElem hj)
  · exact mergeLeaf0_le _ _ _
theorem mergeL_length (b : Bool) : ∀ (xs ys : List PVal), xs.length = ys.length → (mergeL b xs ys).length = xs.length
  | [], [], _ => rfl
  | x :: xs, y :: ys, h => by simp [mergeL, mergeL_length b xs ys (by simpa using h)]
theorem mergeL_get (b : Bool) : ∀ (xs ys : List PVal) (j : Nat) (a x y : PVal), (mergeL b xs ys)[j]? = some a → xs[j]? = some x → ys[j]? = some y → LeV a (sel b x y)
  | x :: xs, y :: ys, 0, a, x', y', h, hx, hy => by simp [mergeL] at h hx hy; subst h hx hy; exact mergeLeaf_le _ _ _
  | x :: xs, y :: ys, j + 1, a, x', y', h, hx, hy => by simp [mergeL] at h hx hy; exact mergeL_get b xs ys j a x' y' h hx hy
  | [], _, j, a, x', y', h, hx, hy => by simp at hx
  | _ :: _, [], j, a, x', y', h, hx, hy => by simp at hy
theorem mergeV1_le (b : Bool) (x y : PVal) : LeV (mergeV1 b x y) (sel b x y) := by
  unfold mergeV1
  split
  · rename_i xs ys
    cases h2 : Nat.beq xs.length ys.length <;> first | exact .undef _ | skip
    have hl := Nat.eq_of_beq_eq_true h2
    cases b
    · refine .agg _ _ ((mergeL_length false xs ys hl).trans hl) fun j a c ha hc => ?_
      have hj : j < xs.length := by have := (List.getElem?_eq_some_iff.1 hc).1; omega
      exact mergeL_get false xs ys j a xs[j] c ha (List.getElem?_eq_getElem hj) hc
    · refine .agg _ _ (mergeL_length true xs ys hl) fun j a c ha hc => ?_
      have hj : j < ys.length := by have := (List.getElem?_eq_some_iff.1 hc).1; omega
      exact mergeL_get true xs ys j a c ys[j] ha hc (List.getElem?_eq_getElem hj)
  · exact mergeLeaf_le _ _ _
theorem mergeV1L_length (b : Bool) : ∀ (xs ys : List PVal), xs.length = ys.length → (mergeV1L b xs ys).length = xs.length
  | [], [], _ => rfl
  | x :: xs, y :: ys, h => by simp [mergeV1L, mergeV1L_length b xs ys (by simpa using h)]
theorem mergeV1L_get (b : Bool) : ∀ (xs ys : List PVal) (j : Nat) (a x y : PVal), (mergeV1L b xs ys)[j]? = some a → xs[j]? = some x → ys[j]? = some y → LeV a (sel b x y)
  | x :: xs, y :: ys, 0, a, x', y', h, hx, hy => by simp [mergeV1L] at h hx hy; subst h hx hy; exact mergeV1_le _ _ _
  | x :: xs, y :: ys, j + 1, a, x', y', h, hx, hy => by simp [mergeV1L] at h hx hy; exact mergeV1L_get b xs ys j a x' y' h hx hy
  | [], _, j, a, x', y', h, hx, hy => by simp at hx
  | _ :: _, [], j, a, x', y', h, hx, hy => by simp at hy
theorem mergeV_le (b : Bool) (x y : PVal) : LeV (mergeV b x y) (sel b x y) := by
  unfold mergeV
  split
  · rename_i xs ys
    cases h2 : Nat.beq xs.length ys.length <;> first | exact .undef _ | skip
    have hl := Nat.eq_of_beq_eq_true h2
    cases b
    · refine .tup _ _ ((mergeV1L_length false xs ys hl).trans hl) fun j a c ha hc => ?_
      have hj : j < xs.length := by have := (List.getElem?_eq_some_iff.1 hc).1; omega
      exact mergeV1L_get false xs ys j a xs[j] c ha (List.getElem?_eq_getElem hj) hc
    · refine .tup _ _ (mergeV1L_length true xs ys hl) fun j a c ha hc => ?_
      have hj : j < ys.length := by have := (List.getElem?_eq_some_iff.1 hc).1; omega
      exact mergeV1L_get true xs ys j a c ys[j] ha hc (List.getElem?_eq_getElem hj)
  · exact mergeV1_le _ _ _

end Go.Im
