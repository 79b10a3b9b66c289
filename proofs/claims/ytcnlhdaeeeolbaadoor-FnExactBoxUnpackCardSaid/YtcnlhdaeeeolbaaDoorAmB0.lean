/- Several texts in one. Conditions: none. -/
import Derived.WalkKit
import Derived.OrdersHeld
import Derived.Below
import Derived.Laws.Rows
import Derived.Laws.MakeOwn
import Derived.Laws.BytesString
import Derived.Laws.StructEq
import Derived.Laws.Tables
import Derived.DataReads
set_option linter.unusedSimpArgs false
set_option linter.unusedVariables false
section
/- An abstract machine over the model's code: abstract values, states, and what an operation does to them. Conditions: none. -/
namespace Go.AM
open Go

/-- Abstract values. -/
inductive AV where
  | sc (v : Value)
  | fz (sz : Nat) (xs : List (List AV))
  | fp (sz : Nat) (xs : List (List AV)) (i k : Nat)
  | sl (L off len : Nat)
  | pa (L i k : Nat)
  | pt (L k : Nat)
  | clo (n : Nat) (ps : List (Nat × Nat))
  | agg (cs : List AV)
  | tup (vs : List AV)
  | opt (b : Bool) (x : AV)
  | own (sz : Nat) (xs : List (List AV))
  | junk

/-- Abstract objects. -/
inductive AO where
  | arr (own : Bool) (sz : Nat) (xs : List (List AV))
  | rc (cs : List AV)
  | nst (sz : Nat) (xs : List (List AV)) (op : Option (Nat × List AV))
  | dead

/-- Rows: their elements' size, and how many they are. -/
def AO.al : AO → Option (Nat × Nat)
  | .arr _ s xs => some (s, xs.length)
  | .nst s xs _ => some (s, xs.length)
  | _ => none

/-- Kinds of types. -/
inductive TK where
  | int (k : IntKind)
  | bool
  | str
  | flt (k : FloatKind)
  | slice (e : Nat)
  | struct (fs : List (Nat × Nat))
  | array (n e : Nat)
  | other

/-- What is known of a type. -/
structure TI where
  sz : Nat
  bytes : Nat
  agg : Bool
  zero : List AV
  kind : TK
  eq : Bool := false
  ftys : List Nat := []

abbrev Env := List (Nat × AV)

def lk : Env → Nat → AV
  | [], _ => .junk
  | (k, x) :: r, t => if k = t then x else lk r t

def upd (e : Env) (t : Nat) (v : AV) : Env := (t, v) :: e

def put (e : Env) : Option Nat → AV → Env
  | none, _ => e
  | some d, v => upd e d v

structure St where
  env : Env
  os : List AO

/-- What stays the same in one activation. -/
structure Cx where
  T : Nat → TI
  G : Nat → AV

def ev (c : Cx) (e : Env) : Operand → AV
  | .tmp t => lk e t
  | .const v => .sc v
  | .global g => c.G g
  | .func f => .sc (.func (.func f) #[] #[])

/-- The cells of a value. -/
def cellsOf : AV → List AV
  | .agg cs => cs
  | x => [x]

/-- The row of cells behind an address, from there on to its element's end. -/
def rowAt (os : List AO) : AV → List AV
  | .pt L k => match os[L]? with
    | some (.rc cs) => cs.drop k
    | _ => []
  | .pa L i k => match os[L]? with
    | some (.arr _ _ xs) => (xs.getD i []).drop k
    | some (.nst _ _ (some (j, row))) => if i = j then row.drop k else []
    | _ => []
  | .fp _ xs i k => (xs.getD i []).drop k
  | _ => []

def loadV0 (ti : TI) (row : List AV) : AV :=
  if ti.agg then .agg (row.take ti.sz) else row.headD .junk

/-- The whole number, the bool, the text of a value. -/
def numA : AV → Int
  | .sc (.int _ n) => n
  | _ => 0

def boolA : AV → Bool
  | .sc (.bool b) => b
  | _ => false

def strA : AV → ByteArray
  | .sc (.string s) => s
  | _ => .empty

/-- A value as one of its type, by the type's zero. -/
def asLike : AV → AV → AV
  | .sc (.int k _), x => .sc (.int k (numA x))
  | .sc (.bool _), x => .sc (.bool (boolA x))
  | .sc (.string _), x => .sc (.string (strA x))
  | _, x => x

def like : AV → AV → Prop
  | .sc (.int k _), x => match x with
    | .sc (.int k' _) => k' = k
    | _ => False
  | .sc (.bool _), x => match x with
    | .sc (.bool _) => True
    | _ => False
  | .sc (.string _), x => match x with
    | .sc (.string _) => True
    | _ => False
  | _, _ => True

def eta : List AV → List AV → List AV
  | [], _ => []
  | z :: zs, row => asLike z (row.headD .junk) :: eta zs row.tail

def likeAll : List AV → List AV → Prop
  | [], _ => True
  | _ :: _, [] => False
  | z :: zs, x :: xs => like z x ∧ likeAll zs xs

def loadV (ti : TI) (row : List AV) : AV :=
  if ti.agg then .agg (eta ti.zero row) else asLike (ti.zero.headD .junk) (row.headD .junk)

def fieldOff (ti : TI) (f : Nat) : Nat × Nat := match ti.kind with
  | .struct fs => fs.getD f (0, 0)
  | _ => (0, 0)

def addOff (x : AV) (n : Nat) : AV := match x with
  | .pt L k => .pt L (k + n)
  | .pa L i k => .pa L i (k + n)
  | .fp sz xs i k => .fp sz xs i (k + n)
  | _ => .junk

def isAddr (os : List AO) : AV → Bool
  | .pt L _ => match os[L]? with
    | some (.rc _) => true
    | _ => false
  | .pa L _ _ => match os[L]? with
    | some (.arr ..) => true
    | some (.nst ..) => true
    | _ => false
  | .fp .. => true
  | _ => false

/-- Whole numbers: what an operator makes of two. -/
def intOp (op : BinOp) (k : IntKind) (a b : Int) : Value := match op with
  | .add => .int k (k.wrap (a + b))
  | .sub => .int k (k.wrap (a - b))
  | .mul => .int k (k.wrap (a * b))
  | .quo => .int k (k.wrap (a.tdiv b))
  | .rem => .int k (a.tmod b)
  | .and => .int k (k.wrap (BitVec.ofInt k.bits a &&& BitVec.ofInt k.bits b).toNat)
  | .or => .int k (k.wrap (BitVec.ofInt k.bits a ||| BitVec.ofInt k.bits b).toNat)
  | .xor => .int k (k.wrap (BitVec.ofInt k.bits a ^^^ BitVec.ofInt k.bits b).toNat)
  | .andNot => .int k (k.wrap (BitVec.ofInt k.bits a &&& ~~~(BitVec.ofInt k.bits b)).toNat)
  | .shl => .int k (k.wrap (a * 2 ^ (min b.toNat k.bits)))
  | .shr => .int k (a.fdiv (2 ^ (min b.toNat k.bits)))
  | .eql => .bool (a == b)
  | .neq => .bool (a != b)
  | .lss => .bool (decide (a < b))
  | .leq => .bool (decide (a ≤ b))
  | .gtr => .bool (decide (a > b))
  | .geq => .bool (decide (a ≥ b))

def intOk (op : BinOp) (k k' : IntKind) (b : Int) : Prop := match op with
  | .quo | .rem => k = k' ∧ b ≠ 0
  | .shl | .shr => 0 ≤ b
  | _ => k = k'

/-- Texts. -/
def strOp (op : BinOp) (a b : ByteArray) : Value := match op with
  | .add => .string (a ++ b)
  | .eql => .bool (a.toList == b.toList)
  | .neq => .bool (!(a.toList == b.toList))
  | .lss => .bool (Op.bytesLess a.toList b.toList)
  | .leq => .bool (Op.bytesLess a.toList b.toList || a.toList == b.toList)
  | .gtr => .bool (!(Op.bytesLess a.toList b.toList || a.toList == b.toList))
  | .geq => .bool (!(Op.bytesLess a.toList b.toList))
  | _ => undef

def strOk (op : BinOp) (a b : ByteArray) : Prop := match op with
  | .add => a.size + b.size ≤ 9223372036854775807
  | .eql | .neq | .lss | .leq | .gtr | .geq => True
  | _ => False

/-- '==' of two lists of cells: whole numbers and bools. -/
def eqCell : AV → AV → Bool
  | .sc (.int _ a), .sc (.int _ b) => a == b
  | .sc (.bool a), .sc (.bool b) => a == b
  | _, _ => false

def eqCells : List AV → List AV → Bool
  | [], [] => true
  | a :: as, b :: bs => eqCell a b && eqCells as bs
  | _, _ => false

/-- What an operator makes of two values, and when. -/
def binA (op : BinOp) : AV → AV → AV
  | .sc (.int k a), .sc (.int _ b) => .sc (intOp op k a b)
  | .sc (.string a), .sc (.string b) => .sc (strOp op a b)
  | .sc (.bool a), .sc (.bool b) => match op with
    | .eql => .sc (.bool (a == b))
    | .neq => .sc (.bool (!(a == b)))
    | _ => .junk
  | .agg xs, .agg ys => match op with
    | .eql => .sc (.bool (eqCells xs ys))
    | .neq => .sc (.bool (!(eqCells xs ys)))
    | _ => .junk
  | _, _ => .junk

/-- Cells that can be held against each other. -/
def eqOk : List AV → List AV → List AV → Prop
  | [], [], [] => True
  | .sc (.int _ _) :: zs, .sc (.int k _) :: as, .sc (.int k' _) :: bs => k = k' ∧ eqOk zs as bs
  | .sc (.bool _) :: zs, .sc (.bool _) :: as, .sc (.bool _) :: bs => eqOk zs as bs
  | _, _, _ => False

def binOk (ti : TI) (op : BinOp) : AV → AV → Prop
  | .sc (.int k _), .sc (.int k' b) => intOk op k k' b
  | .sc (.string a), .sc (.string b) => strOk op a b
  | .sc (.bool _), .sc (.bool _) => 0 < ti.sz ∧ ti.kind = .bool ∧ (op = .eql ∨ op = .neq)
  | .agg xs, .agg ys => 0 < ti.sz ∧ ti.eq = true ∧ eqOk ti.zero xs ys ∧ (op = .eql ∨ op = .neq)
  | _, _ => False

def unA (op : UnOp) : AV → AV
  | .sc (.int k n) => match op with
    | .neg => .sc (intOp .sub k 0 n)
    | .xor => .sc (intOp .xor k (if k.signed then -1 else k.max) n)
    | _ => .junk
  | .sc (.bool b) => match op with
    | .not => .sc (.bool (!b))
    | _ => .junk
  | _ => .junk

def unOk (op : UnOp) : AV → Prop
  | .sc (.int _ _) => op = .neg ∨ op = .xor
  | .sc (.bool _) => op = .not
  | _ => False

/-- How long a slice or a text is. -/
def lenA : AV → Nat
  | .fz _ xs => xs.length
  | .sl _ _ n => n
  | .sc (.string s) => s.size
  | _ => 0

def lenOk (os : List AO) : AV → Prop
  | .fz .. => True
  | .sl L _ _ => match os[L]? with
    | some (.arr ..) => True
    | some (.nst ..) => True
    | _ => False
  | .sc (.string _) => True
  | .sc (.slice none 0 0) => True
  | _ => False

/-- The elements of a slice. -/
def elems (os : List AO) : AV → List (List AV)
  | .fz _ xs => xs
  | .sl L off n => match os[L]? with
    | some (.arr _ _ xs) => (xs.drop off).take n
    | some (.nst ..) => [[.junk]]
    | _ => []
  | _ => []

def esz (os : List AO) : AV → Nat
  | .fz s _ => s
  | .sl L _ _ => match os[L]? with
    | some (.arr _ s _) => s
    | some (.nst s _ _) => s
    | _ => 0
  | _ => 0

/-- Bytes as a text. -/
def bstr (l : List Int) : ByteArray := ⟨(l.map fun n => UInt8.ofNat n.toNat).toArray⟩

def hdA : List AV → Int
  | x :: _ => numA x
  | [] => 0

def strOf (xs : List (List AV)) : ByteArray := bstr (xs.map hdA)

def byteRow : List AV → Prop
  | [.sc (.int .u8 _)] => True
  | _ => False

def convA (os : List AO) (src dst : TK) : AV → AV
  | .sc (.int _ n) => match dst with
    | .int k => .sc (.int k (k.wrap n))
    | _ => .junk
  | .sc (.string s) => match dst with
    | .str => .sc (.string s)
    | _ => .junk
  | x => match dst with
    | .str => .sc (.string (strOf (elems os x)))
    | _ => .junk

def isNum : AV → Prop
  | .sc (.int _ _) => True
  | _ => False

/-- The address of an element. -/
def idxA (x : AV) (i : Int) : AV := match x with
  | .fz s xs => .fp s xs i.toNat 0
  | .sl L off _ => .pa L (off + i.toNat) 0
  | _ => .junk

def strAt (s : ByteArray) (i : Int) : Value := .int .u8 ((s.data.toList.getD i.toNat 0).toNat : Int)

def optN (c : Cx) (e : Env) (x : Option Operand) (d : Int) : Int := match x with
  | some o => numA (ev c e o)
  | none => d

def optIs (c : Cx) (e : Env) : Option Operand → Prop
  | some o => isNum (ev c e o)
  | none => True

/-- A part of a slice or a text. -/
def cutA (x : AV) (l h : Int) : AV := match x with
  | .fz s xs => .fz s ((xs.take h.toNat).drop l.toNat)
  | .sl L off _ => .sl L (off + l.toNat) (h.toNat - l.toNat)
  | .sc (.string s) => .sc (.string (s.extract l.toNat h.toNat))
  | .sc (.slice none 0 0) => .sc (.slice none 0 0)
  | _ => .junk

/-- Parts laid into cells. -/
def fillA (place : Nat → Option (Nat × Nat)) (cells : List AV) : List (Nat × AV) → Option (List AV)
  | [] => some cells
  | (i, v) :: rest => match place i with
    | none => none
    | some (off, size) =>
      if (cellsOf v).length ≠ size ∨ off + size > cells.length then none
      else fillA place (cells.take off ++ cellsOf v ++ cells.drop (off + size)) rest

def strip : AV → AV
  | .opt _ x => x
  | x => x

def stripOk (g : Bool) : AV → Prop
  | .opt b _ => g = true → b = true
  | _ => True

def selB (t : Bool) : AV → AV → AV
  | .sc (.bool x), .sc (.bool y) => .sc (.bool (bif t then x else y))
  | x, y => if t = true then x else y

def selA (c a b : AV) : AV := match strip c with
  | .sc (.bool t) => selB t (strip a) (strip b)
  | _ => .junk

def selOk (c a b : AV) : Prop := match strip c with
  | .sc (.bool t) => stripOk true c ∧ (t = true → stripOk true a) ∧ (t = false → stripOk true b)
  | _ => False

theorem selB_eq (t : Bool) (x y : AV) : selB t x y = if t = true then x else y := by
  unfold selB
  split
  · cases t <;> rfl
  · rfl

end Go.AM
namespace Go.AM
open Go

/-- Empty slices. -/
def isNil : AV → Bool
  | .sc (.slice none 0 0) => true
  | _ => false

/-- A value as it is put into an array's cell: a slice of ours becomes one that nobody writes any more. -/
def frz (os : List AO) : AV → AV
  | .sl L off n => .fz (esz os (.sl L off n)) (elems os (.sl L off n))
  | x => x

def frzOk (os : List AO) : AV → Prop
  | .sc v => v.oneCell' = true
  | .fz .. => True
  | .sl L _ _ => match os[L]? with
    | some (.arr ..) => True
    | _ => False
  | _ => False

def unown (os : List AO) : AV → List AO
  | .sl L _ _ => match os[L]? with
    | some (.arr _ s xs) => os.set L (.arr false s xs)
    | _ => os
  | _ => os

def unownAll (os : List AO) : List AV → List AO
  | [] => os
  | x :: r => unownAll (unown os x) r

/-- A value as it is put into a record's cell. -/
def recOk (os : List AO) : AV → Prop
  | .sc v => v.oneCell' = true
  | .fz .. => True
  | .sl L _ _ => match os[L]? with
    | some (.arr ..) => True
    | _ => False
  | .pt L _ => match os[L]? with
    | some (.rc _) => True
    | _ => False
  | _ => False

def allP {α : Type} (p : α → Prop) : List α → Prop
  | [] => True
  | x :: r => p x ∧ allP p r

def setCells (cs : List AV) (k : Nat) (vs : List AV) : List AV := cs.take k ++ vs ++ cs.drop (k + vs.length)

/-- What is stored, and when. -/
def storeA (os : List AO) (a : AV) (vs : List AV) : List AO := match a with
  | .pt L k => match os[L]? with
    | some (.rc cs) => os.set L (.rc (setCells cs k vs))
    | _ => os
  | .pa L i k => match os[L]? with
    | some (.arr true s xs) => (unownAll os vs).set L (.arr true s (xs.set i (setCells (xs.getD i []) k (vs.map (frz os)))))
    | some (.nst s xs (some (j, row))) => os.set L (.nst s xs (some (j, setCells row k vs)))
    | _ => os
  | _ => os

def notSl (L : Nat) : AV → Prop
  | .sl M _ _ => M ≠ L
  | _ => True

def storeOk (os : List AO) (a : AV) (vs : List AV) : Prop := match a with
  | .pt L k => match os[L]? with
    | some (.rc cs) => k + vs.length ≤ cs.length ∧ allP (recOk os) vs
    | _ => False
  | .pa L i k => match os[L]? with
    | some (.arr true _ xs) => i < xs.length ∧ k + vs.length ≤ (xs.getD i []).length ∧ allP (frzOk os) vs ∧ allP (notSl L) vs
    | some (.nst _ _ (some (j, row))) => i = j ∧ k + vs.length ≤ row.length ∧ allP (recOk os) vs
    | _ => False
  | _ => False

def touched : AV → List Nat
  | .pt L _ => [L]
  | .pa L _ _ => [L]
  | .sl L _ _ => [L]
  | _ => []

/-- A literal's elements. -/
def litElems (ti : TI) : Nat → List (Nat × AV) → List (List AV)
  | 0, _ => []
  | n + 1, ps => litElems ti n ps ++ [match ps.lookup n with | some v => cellsOf v | none => ti.zero]

def litOk (os : List AO) (ti : TI) (n : Nat) : List (Nat × AV) → Prop
  | [] => True
  | (i, v) :: r => i < n ∧ (cellsOf v).length = ti.sz ∧ allP (frzOk os) (cellsOf v) ∧ r.lookup i = none ∧ litOk os ti n r

/-- Whether a slice can be added to, and what it leaves of what it was. -/
def appBase (os : List AO) (s : AV) : Prop := match s with
  | .sc (.slice none 0 0) => True
  | .sl L off _ => off = 0 ∧ (match os[L]? with
    | some (.arr true _ _) => True
    | _ => False)
  | _ => False

def kill (os : List AO) (s : AV) : List AO := match s with
  | .sl L _ _ => os.set L .dead
  | _ => os

def strElems (s : ByteArray) : List (List AV) := s.data.toList.map fun b => [.sc (.int .u8 b.toNat)]

/-- What is added. -/
def appNew (os : List AO) : AV → List (List AV)
  | .sc (.string s) => strElems s
  | x => elems os x

def appNewOk (os : List AO) (sz : Nat) : AV → Prop
  | .sc (.string _) => sz = 1
  | .sc (.slice none 0 0) => True
  | .fz s xs => s = sz ∨ xs = []
  | .sl L off n => match os[L]? with
    | some (.arr _ s _) => s = sz
    | _ => False
  | _ => False

/-- The names in a value. -/
def names : AV → List Nat
  | .sl L _ _ => [L]
  | .pt L _ => [L]
  | .pa L _ _ => [L]
  | _ => []

/-- Where a name stands in a list. -/
def pos : List Nat → Nat → Option Nat
  | [], _ => none
  | a :: r, t => if a = t then some 0 else match pos r t with
    | some j => some (j + 1)
    | none => none

/-- Names and places, told by places in a list. -/
def posAll (ks : List Nat) : List (Nat × Nat) → Option (List (Nat × Nat))
  | [] => some []
  | p :: r => match pos ks p.1, posAll ks r with
    | some j, some q => some ((j, p.2) :: q)
    | _, _ => none

/-- A row of an array of ours as one that nobody writes any more. -/
def unO : AV → AV
  | .own s xs => .fz s xs
  | x => x

/-- An object's rows as rows that nobody writes any more. -/
def AO.fzr : AO → Option (Nat × List (List AV))
  | .arr _ s xs => some (s, xs)
  | .nst s xs none => some (s, xs.map fun x => x.map unO)
  | _ => none

/-- A value when only the names of 'ks' are kept: what is kept is told by its place in 'ks', what else is ours is told as nobody's. -/
def viewC (ks : List Nat) (os : List AO) : AV → AV
  | .sl L off n => match pos ks L with
    | some j => .sl j off n
    | none => match os[L]? with
      | some (.arr _ s xs) => .fz s ((xs.drop off).take n)
      | some (.nst s xs none) => .fz s (((xs.map fun x => x.map unO).drop off).take n)
      | _ => .junk
  | .pt L k => match pos ks L with
    | some j => .pt j k
    | none => .junk
  | .clo n ps => match posAll ks ps with
    | some q => .clo n q
    | none => .junk
  | .pa L i k => match pos ks L with
    | some j => .pa j i k
    | none => match os[L]? with
      | some (.arr _ s xs) => .fp s xs i k
      | _ => .junk
  | .sc v => .sc v
  | .fz s xs => .fz s xs
  | .fp s xs i k => .fp s xs i k
  | _ => .junk

def viewA (ks : List Nat) (os : List AO) : AV → AV
  | .agg cs => .agg (cs.map (viewC ks os))
  | x => viewC ks os x

def viewV (ks : List Nat) (os : List AO) : AV → AV
  | .tup vs => .tup (vs.map (viewA ks os))
  | .opt b x => .opt b (viewA ks os x)
  | x => viewA ks os x

def viewO (ks : List Nat) (os : List AO) : AO → AO
  | .rc cs => .rc (cs.map (viewC ks os))
  | .nst s xs (some (j, row)) => .nst s xs (some (j, row.map (viewC ks os)))
  | o => o

/-- What a name stands for that is none: a row that holds nothing, or nothing. -/
def virt (L : Nat) : AO := if 3000000 ≤ L then .nst ((L - 3000000) % 1000 + 1) [] none else if 2000000 ≤ L then .arr true ((L - 2000000) % 1000 + 1) [] else .dead

def viewS (ks : List Nat) (os : List AO) : List AO := ks.map fun L => viewO ks os (os.getD L (virt L))

/-- A state when only the names of 'ks' and the places of 'ts' are kept. -/
def viewSt (ts ks : List Nat) (st : St) : St := ⟨ts.map fun t => (t, viewV ks st.os (lk st.env t)), viewS ks st.os⟩

def nodupN : List Nat → Bool
  | [] => true
  | a :: r => (pos r a).isNone && nodupN r

def fromN : Nat → Nat → List Nat → Bool
  | _, 0, _ => true
  | i, n + 1, a :: r => (a == i || (Nat.ble 1000000 a && Nat.ble a 1999999)) && fromN (i + 1) n r
  | _, _ + 1, [] => false

/-- Which names may be kept: the first 'nl', in their order (or a name of nothing in the place of one that is given up), and others. -/
def keepOk (nl : Nat) (ks : List Nat) : Bool := fromN 0 nl ks && nodupN ks

def keepP (nl : Nat) (ks : List Nat) (os : List AO) : Prop := keepOk nl ks = true ∧ os.length ≤ 1000000

/-- A callee's names as ours. -/
def renC (f : Nat → Nat) : AV → AV
  | .sl L off n => .sl (f L) off n
  | .pt L k => .pt (f L) k
  | .pa L i k => .pa (f L) i k
  | .clo n ps => .clo n (ps.map fun p => (f p.1, p.2))
  | x => x

def renA (f : Nat → Nat) : AV → AV
  | .agg cs => .agg (cs.map (renC f))
  | x => renC f x

def renV (f : Nat → Nat) : AV → AV
  | .tup vs => .tup (vs.map (renA f))
  | .opt b x => .opt b (renA f x)
  | x => renA f x

def renO (f : Nat → Nat) : AO → AO
  | .rc cs => .rc (cs.map (renC f))
  | .nst s xs (some (j, row)) => .nst s xs (some (j, row.map (renC f)))
  | o => o

def backN (lend : List Nat) (n : Nat) (j : Nat) : Nat := match lend[j]? with
  | some L => L
  | none => n + (j - lend.length)

def putAll (os : List AO) : List Nat → List AO → List AO
  | L :: r, o :: s => putAll (os.set L o) r s
  | _, _ => os

/-- Our objects behind a call. -/
def merge (lend : List Nat) (os : List AO) (os' : List AO) : List AO :=
  putAll os lend (os'.map (renO (backN lend os.length))) ++ (os'.drop lend.length).map (renO (backN lend os.length))

/-- The names that a value shows without keeping them. -/
def shownC (ks : List Nat) : AV → List Nat
  | .sl L _ _ => if (pos ks L).isSome then [] else [L]
  | .pa L _ _ => if (pos ks L).isSome then [] else [L]
  | _ => []

def shownA (ks : List Nat) : AV → List Nat
  | .agg cs => cs.flatMap (shownC ks)
  | x => shownC ks x

def shownV (ks : List Nat) : AV → List Nat
  | .tup vs => vs.flatMap (shownA ks)
  | .opt _ x => shownA ks x
  | x => shownA ks x

def shownO (ks : List Nat) : AO → List Nat
  | .rc cs => cs.flatMap (shownC ks)
  | .nst _ _ (some (_, row)) => row.flatMap (shownC ks)
  | _ => []

def shownAll (ks : List Nat) (os : List AO) (vs : List AV) : List Nat := vs.flatMap (shownV ks) ++ ks.flatMap fun L => shownO ks (os.getD L .dead)

def unownN (os : List AO) : List Nat → List AO
  | [] => os
  | L :: r => unownN (match os[L]? with | some (.arr _ s xs) => os.set L (.arr false s xs) | some (.nst s xs none) => os.set L (.arr false s (xs.map fun x => x.map unO)) | _ => os) r

/-- No slice of nobody's in it. -/
def noFz0 : AV → Prop
  | .fz _ xs => xs = []
  | .fp .. => False
  | .own .. => False
  | _ => True

def noFzC : AV → Prop
  | .fz _ xs => xs = []
  | .fp .. => False
  | .own _ ys => allP (allP noFz0) ys
  | _ => True

def noFzA : AV → Prop
  | .agg cs => allP noFzC cs
  | x => noFzC x

def noFzV : AV → Prop
  | .tup vs => allP noFzA vs
  | .opt _ x => noFzA x
  | x => noFzA x

def noFzO : AO → Prop
  | .arr true _ xs => allP (allP noFzC) xs
  | .arr false _ _ => False
  | .rc cs => allP noFzC cs
  | .nst _ xs none => allP (allP noFzC) xs
  | .nst .. => False
  | .dead => True

def isOwn : Option AO → Prop
  | some (AO.arr true _ _) => True
  | some (AO.rc _) => True
  | some (AO.nst ..) => True
  | _ => False

def own (os : List AO) (L : Nat) : Prop := isOwn os[L]?

def isIntK : TK → Bool
  | .int _ => true
  | _ => false

def isSlK : TK → Prop
  | .slice _ => True
  | _ => False

def convOk (os : List AO) (src dst : TK) (et : TI) : AV → Prop
  | .sc (.int _ _) => match dst with
    | .int _ => True
    | _ => False
  | .sc (.string _) => match dst with
    | .str => True
    | _ => False
  | x => isSlK src ∧ dst = .str ∧ 0 < et.sz ∧ et.kind = .int .u8 ∧ lenOk os x ∧ (elems os x = [] ∨ esz os x = 1) ∧ allP byteRow (elems os x)

end Go.AM
end
section
/- An abstract machine over the model's code: operations, regions, code. Conditions: none. -/
namespace Go.AM
open Go

/-- What callees do: function, arguments, what is lent, and what holds behind it. -/
abbrev CTab := Nat → List AV → List AO → (AV → List AO → Prop) → Prop

def memN : List Nat → Nat → Bool
  | [], _ => false
  | a :: r, t => if a = t then true else memN r t

def isNilC : Operand → Bool
  | .const (.slice none 0 0) => true
  | _ => false

def isPure : Op → Bool
  | .binOp _ _ _ y _ => !isNilC y
  | .move _ | .assign _ | .pick .. | .build .. | .load .. | .nilCheck _ | .unOp .. | .convert .. | .slice .. | .fieldAddr .. | .indexAddr .. | .index .. | .extract .. | .field .. => true
  | .makeFunc (.func _) _ _ => true
  | .call { callee := .builtin .len, .. } => true
  | .call { callee := .builtin .cap, .. } => true
  | .call { callee := .builtin .max, .. } => true
  | .call { callee := .builtin .min, .. } => true
  | _ => false

def isLoad : Op → Bool
  | .load .. => true
  | _ => false

def partsOf (c : Cx) (t : Nat) : Nat → Option (Nat × Nat) := fun i => match (c.T t).kind with
  | .struct fs => fs[i]?
  | .array n e => some (i * (c.T e).sz, (c.T e).sz)
  | _ => none

def elemOf (c : Cx) (t : Nat) : Nat := match (c.T t).kind with
  | .slice e => e
  | _ => 0

def isSliceT (c : Cx) (t : Nat) : Prop := match (c.T t).kind with
  | .slice _ => True
  | _ => False

/-- A cut's bounds. -/
def loOf (r : Operand → AV) : Option Operand → Int
  | some l => numA (r l)
  | none => 0

def hiOf (r : Operand → AV) (x : AV) : Option Operand → Int
  | some h => numA (r h)
  | none => (lenA x : Int)

/-- The greater, the lesser of two. -/
def mxI (x y : Int) : Int := if y > x then y else x
def mnI (x y : Int) : Int := if y < x then y else x
def kN : AV → IntKind
  | .sc (.int k _) => k
  | _ => .i64
def foldA (f : Int → Int → Int) (r : Operand → AV) : List Operand → AV
  | [] => .junk
  | x :: l => .sc (.int (kN (r x)) (l.foldl (fun m y => f m (numA (r y))) (numA (r x))))

/-- A field of a value. -/
def partA (ti : TI) (cs : List AV) (off : Nat) : AV := if ti.agg = true then .agg ((cs.drop off).take ti.sz) else cs.getD off .junk
def fldA (c : Cx) (t f : Nat) : AV → AV
  | .agg cs => partA (c.T ((c.T t).ftys.getD f 0)) cs (fieldOff (c.T t) f).1
  | _ => .junk
def isStructK : TK → Prop
  | .struct _ => True
  | _ => False
def fldOk (c : Cx) (t f : Nat) : AV → Prop
  | .agg cs => 0 < (c.T t).sz ∧ f < (c.T t).ftys.length ∧ isStructK (c.T t).kind ∧ 0 < (c.T ((c.T t).ftys.getD f 0)).sz ∧ (fieldOff (c.T t) f).1 + (c.T ((c.T t).ftys.getD f 0)).sz ≤ cs.length
  | _ => False

/-- Captured variables. -/
def ptsOf : List AV → Option (List (Nat × Nat))
  | [] => some []
  | .pt L k :: r => match ptsOf r with
    | some q => some ((L, k) :: q)
    | none => none
  | _ => none

def cloA (n : Nat) (xs : List AV) : AV := match ptsOf xs with
  | some ps => .clo n ps
  | none => .junk
def cloOk (os : List AO) (xs : List AV) : Prop := (ptsOf xs).isSome = true ∧ allP (fun x => isAddr os x = true) xs

/-- What a quiet operation leaves. -/
def pureA (c : Cx) (os : List AO) (r : Operand → AV) : Op → AV
  | .move x | .assign x => r x
  | .pick a x y => selA (r a) (r x) (r y)
  | .build t ps => match fillA (partsOf c t) (c.T t).zero (ps.toList.map fun p => (p.1, r p.2)) with
    | some cs => .agg cs
    | none => .junk
  | .load t a => loadV (c.T t) (rowAt os (r a))
  | .nilCheck x => r x
  | .binOp op _ x y _ => binA op (r x) (r y)
  | .unOp op _ x => unA op (r x)
  | .convert s d x => convA os (c.T s).kind (c.T d).kind (r x)
  | .slice _ x lo hi _ => cutA (r x) (loOf r lo) (hiOf r (r x) hi)
  | .fieldAddr s x f => addOff (r x) (fieldOff (c.T s) f).1
  | .indexAddr _ x i => idxA (r x) (numA (r i))
  | .index _ x i => match r x with
    | .sc (.string s) => .sc (strAt s (numA (r i)))
    | _ => .junk
  | .extract t i => match r t with
    | .tup vs => vs.getD i .junk
    | _ => .junk
  | .field t x f => fldA c t f (r x)
  | .makeFunc (.func n) _ cs => cloA n (cs.toList.map r)
  | .call { callee := .builtin .len, args, .. } => match args[0]? with
    | some x => .sc (.int .i64 (lenA (r x)))
    | none => .junk
  | .call { callee := .builtin .cap, .. } => .sc (.int .i64 0)
  | .call { callee := .builtin .max, args, .. } => foldA mxI r args.toList
  | .call { callee := .builtin .min, args, .. } => foldA mnI r args.toList
  | _ => .junk

def numOk : Option AV → Prop
  | some x => isNum x
  | none => True

def isBuilt : TK → Prop
  | .struct _ | .array .. => True
  | _ => False

def cutTy (c : Cx) (os : List AO) (t : Nat) : AV → Prop
  | .sc (.string _) => (c.T t).kind = .str
  | .sc (.slice none 0 0) => isSliceT c t ∧ 0 < (c.T (elemOf c t)).sz
  | y => isSliceT c t ∧ 0 < (c.T (elemOf c t)).sz ∧ esz os y = (c.T (elemOf c t)).sz ∧ lenOk os y

def lenTy (c : Cx) (t : Nat) : AV → Prop
  | .sc (.string _) => (c.T t).kind = .str
  | _ => isSliceT c t

/-- A third place of a slice: as high as the second. -/
def mxOk (r : Operand → AV) (x : AV) (lo hi : Option Operand) : Option Operand → Prop
  | none => True
  | some m => lo = none ∧ (∃ h, hi = some h ∧ isNum (r m) ∧ isNum (r h) ∧ numA (r m) = numA (r h)) ∧ ∀ s, x ≠ .sc (.string s)

/-- When a quiet operation does so. -/
def pureOk (c : Cx) (os : List AO) (r : Operand → AV) : Op → Prop
  | .move _ | .assign _ => True
  | .pick a x y => selOk (r a) (r x) (r y)
  | .build t ps => 0 < (c.T t).sz ∧ isBuilt (c.T t).kind ∧ allP (fun p => allP (recOk os) (cellsOf (r p.2))) ps.toList ∧ (fillA (partsOf c t) (c.T t).zero (ps.toList.map fun p => (p.1, r p.2))).isSome = true
  | .load t a => isAddr os (r a) = true ∧ 0 < (c.T t).sz ∧ likeAll (c.T t).zero (rowAt os (r a))
  | .nilCheck x => isAddr os (r x) = true
  | .binOp op t x y _ => binOk (c.T t) op (r x) (r y)
  | .unOp op _ x => unOk op (r x)
  | .convert s d x => 0 < (c.T s).sz ∧ 0 < (c.T d).sz ∧ convOk os (c.T s).kind (c.T d).kind (c.T (elemOf c s)) (r x)
  | .slice t x lo hi mx => 0 < (c.T t).sz ∧ cutTy c os t (r x) ∧
      numOk (lo.map r) ∧ numOk (hi.map r) ∧ mxOk r (r x) lo hi mx ∧
      0 ≤ loOf r lo ∧ loOf r lo ≤ hiOf r (r x) hi ∧ hiOf r (r x) hi ≤ lenA (r x)
  | .fieldAddr s x f => 0 < (c.T s).sz ∧ isAddr os (r x) = true ∧ 0 < (fieldOff (c.T s) f).2
  | .indexAddr t x i => 0 < (c.T t).sz ∧ 0 < (c.T (elemOf c t)).sz ∧ isSliceT c t ∧ esz os (r x) = (c.T (elemOf c t)).sz ∧ lenOk os (r x) ∧ isNum (r i) ∧ 0 ≤ numA (r i) ∧ numA (r i) < lenA (r x)
  | .index t x i => match r x with
    | .sc (.string s) => 0 < (c.T t).sz ∧ (c.T t).kind = .str ∧ isNum (r i) ∧ 0 ≤ numA (r i) ∧ numA (r i) < s.size
    | _ => False
  | .extract t i => match r t with
    | .tup vs => i < vs.length
    | _ => False
  | .field t x f => fldOk c t f (r x)
  | .makeFunc _ fi cs => fi.toList = [] ∧ cloOk os (cs.toList.map r)
  | .call { callee := .builtin .len, args, argTypes } => match args[0]?, argTypes[0]? with
    | some x, some t => 0 < (c.T t).sz ∧ lenOk os (r x) ∧ lenTy c t (r x)
    | _, _ => False
  | .call { callee := .builtin .cap, args, argTypes } => match args[0]?, argTypes[0]? with
    | some x, some t => 0 < (c.T t).sz ∧ isSliceT c t ∧ r x = .sc (.slice none 0 0)
    | _, _ => False
  | .call { callee := .builtin .max, args, .. } => args.toList ≠ [] ∧ allP (fun x => isNum (r x)) args.toList
  | .call { callee := .builtin .min, args, .. } => args.toList ≠ [] ∧ allP (fun x => isNum (r x)) args.toList
  | _ => False

def seqT (c : Cx) : Option Nat → Prop
  | some u => 0 < (c.T u).sz ∧ (match (c.T u).kind with | .slice _ | .str => True | _ => False)
  | none => False

/-- A function that holds nothing. -/
def fnC : AV → Option (Nat × List AV)
  | .sc (.func (.func n) a b) => if a.size = 0 ∧ b.size = 0 then some (n, []) else none
  | .clo n ps => some (n, ps.map fun p => .pt p.1 p.2)
  | _ => none

theorem fnC_func (n : Nat) : fnC (.sc (.func (.func n) #[] #[])) = some (n, []) := rfl
theorem fnC_clo (n : Nat) (ps : List (Nat × Nat)) : fnC (.clo n ps) = some (n, ps.map fun p => .pt p.1 p.2) := rfl

def notStr : AV → Prop
  | .sc (.string _) => False
  | _ => True

def appBound : Nat := 140737488355328

/-- What an operation that is not quiet does. 'H': what it must leave alone. -/
def effA (c : Cx) (CT : CTab) (H : List Nat) (os : List AO) (r : Operand → AV) : Op → (AV → List AO → Prop) → Prop
  | .binOp op t x y _, K => isNilC y = true ∧ r y = .sc (.slice none 0 0) ∧ 0 < (c.T t).sz ∧ isSliceT c t ∧ (op = .eql ∨ op = .neq) ∧ lenOk os (r x) ∧ notStr (r x) ∧ ∀ b : Bool, (b = true → lenA (r x) = 0) → K (.sc (.bool (if op = .eql then b else !b))) os
  | .alloc t, K => 0 < (c.T t).sz ∧ K (.pt os.length 0) (os ++ [.rc (c.T t).zero])
  | .box t v, K => 0 < (c.T t).sz ∧ allP (recOk os) (cellsOf (r v)) ∧ K (.pt os.length 0) (os ++ [.rc (cellsOf (r v))])
  | .store t a v, K => 0 < (c.T t).sz ∧ (cellsOf (r v)).length = (c.T t).sz ∧ storeOk os (r a) (cellsOf (r v)) ∧ allP (fun L => memN H L = false) (names (r a)) ∧ K .junk (storeA os (r a) (cellsOf (r v)))
  | .buildSlice t n ps, K =>
    0 < (c.T t).sz ∧ isSliceT c t ∧ 0 < (c.T (elemOf c t)).sz ∧ n * (c.T (elemOf c t)).sz ≤ 16777216 ∧ litOk os (c.T (elemOf c t)) n (ps.toList.map fun p => (p.1, r p.2)) ∧
    K (.sl os.length 0 n) (unownAll os ((ps.toList.map fun p => (p.1, r p.2)).flatMap fun p => cellsOf p.2) ++
      [.arr true (c.T (elemOf c t)).sz ((litElems (c.T (elemOf c t)) n (ps.toList.map fun p => (p.1, r p.2))).map fun x => x.map (frz os))])
  | .makeSlice t l m, K =>
    0 < (c.T t).sz ∧ isSliceT c t ∧ 0 < (c.T (elemOf c t)).sz ∧ isNum (r l) ∧ isNum (r m) ∧ 0 ≤ numA (r l) ∧ numA (r l) ≤ numA (r m) ∧ (c.T (elemOf c t)).bytes * numA (r m) ≤ 281474976710656 ∧ numA (r m) ≤ 9223372036854775807 ∧
    K (.sl os.length 0 (numA (r l)).toNat) (os ++ [.arr true (c.T (elemOf c t)).sz (List.replicate (numA (r l)).toNat (c.T (elemOf c t)).zero)])
  | .call { callee := .builtin .append, args, argTypes }, K => match args.toList, argTypes.toList with
    | [s, x], [t, u] => if isIntK (c.T u).kind = true then
      0 < (c.T t).sz ∧ isSliceT c t ∧ 0 < (c.T (elemOf c t)).sz ∧ 0 < (c.T u).sz ∧ r s = .sc (.slice none 0 0) ∧ isNum (r x) ∧ 0 ≤ numA (r x) ∧ numA (r x) * ((c.T (elemOf c t)).bytes : Int) ≤ 140737488355328 ∧ numA (r x) ≤ 140737488355328 ∧
      (numA (r x) = 0 → K (.sc (.slice none 0 0)) os) ∧
      (¬ numA (r x) = 0 → K (.sl os.length 0 (numA (r x)).toNat) (os ++ [.arr true (c.T (elemOf c t)).sz (List.replicate (numA (r x)).toNat (c.T (elemOf c t)).zero)]))
      else
      0 < (c.T t).sz ∧ isSliceT c t ∧ 0 < (c.T (elemOf c t)).sz ∧ seqT c (some u) ∧ appBase os (r s) ∧ appNewOk os (c.T (elemOf c t)).sz (r x) ∧ (isNil (r s) = false → esz os (r s) = (c.T (elemOf c t)).sz) ∧
      ((elems os (r s) ++ appNew os (r x)).length * (c.T (elemOf c t)).bytes ≤ appBound) ∧ (elems os (r s) ++ appNew os (r x)).length ≤ appBound ∧ allP (fun L => memN H L = false) (names (r s)) ∧
      (isNil (r s) = true → elems os (r s) ++ appNew os (r x) = [] → K (.sc (.slice none 0 0)) os) ∧
      ((isNil (r s) = true → elems os (r s) ++ appNew os (r x) ≠ []) →
        K (.sl os.length 0 (elems os (r s) ++ appNew os (r x)).length) (kill os (r s) ++ [.arr true (c.T (elemOf c t)).sz (elems os (r s) ++ appNew os (r x))]))
    | _, _ => False
  | .call { callee := .value f, args, .. }, K => match fnC (r f) with
    | some (n, cs) => ∃ (lend : List Nat) (esc : Bool) (post : AV → List AO → Prop),
      CT n ((args.toList.map r ++ cs).map (viewV lend os)) (viewS lend os) post ∧ nodupN lend = true ∧ allP (fun L => own os L ∧ memN H L = false) lend ∧
      (∀ x σ', post x σ' → (esc = false → noFzV x ∧ allP noFzO σ') ∧
        K (renV (backN lend os.length) x) (merge lend (if esc = true then unownN os (shownAll lend os (args.toList.map r ++ cs)) else os) σ'))
    | none => False
  | _, _ => False

inductive Ex where
  | normal
  | exit (id : Nat)
  | ret

/-- Is an operation wanted? -/
def guardA (ops : Array Oper) (e : Env) (j : Nat) (want : Bool) : Option Bool :=
  match (ops[j]?).bind (·.dst) with
  | some t => match lk e t with
    | .sc (.bool b) => some (b == want)
    | .opt g (.sc (.bool b)) => some (g && (b == want))
    | .opt false _ => some false
    | _ => none
  | none => none

def plain : AV → Prop
  | .tup _ | .opt _ _ => False
  | _ => True

def offA : AV := .opt false (.sc (.bool false))

def operOk (c : Cx) (e : Env) (g : Bool) : Op → Prop
  | .pick .. => True
  | o => allP (fun x => stripOk g (ev c e x)) o.operands.toList

/-- The operands of a guarded operation. -/
def gev (c : Cx) (e : Env) : Op → Operand → AV
  | .pick .. => ev c e
  | _ => fun x => strip (ev c e x)

/-- One operation. -/
def stepA (c : Cx) (CT : CTab) (H : List Nat) (ops : Array Oper) (o : Oper) (st : St) (K : St → Prop) : Prop :=
  match o.guard with
  | none =>
    if isPure o.op then pureOk c st.os (ev c st.env) o.op ∧ K ⟨put st.env o.dst (pureA c st.os (ev c st.env) o.op), st.os⟩
    else effA c CT H st.os (ev c st.env) o.op fun v os => K ⟨put st.env o.dst v, os⟩
  | some (j, want) => match guardA ops st.env j want with
    | none => False
    | some g =>
      if isPure o.op then (g = true → operOk c st.env g o.op ∧ pureOk c st.os (gev c st.env o.op) o.op ∧ plain (pureA c st.os (gev c st.env o.op) o.op)) ∧
        K ⟨put st.env o.dst (.opt g (pureA c st.os (gev c st.env o.op) o.op)), st.os⟩
      else (g = true → operOk c st.env g o.op ∧ effA c CT H st.os (gev c st.env o.op) o.op fun v os => K ⟨put st.env o.dst v, os⟩) ∧
        (g = false → K ⟨put st.env o.dst offA, st.os⟩)

def opsA (c : Cx) (CT : CTab) (ops : Array Oper) : List Oper → St → (St → Prop) → Prop
  | [], st, K => K st
  | o :: r, st, K => stepA c CT [] ops o st fun st' => opsA c CT ops r st' K

/-- In which order a region is walked. -/
inductive Plan where
  | done
  | take (i : Nat) (p : Plan)
  | one (i : Nat) (p : Plan)
  | two (i j : Nat) (p q : Plan)
  | last (i : Nat) (p : Plan)

/-- An operation that waits for all loads. -/
def lastB (ops : Array Oper) (i : Nat) : Bool := match ops[i]? with
  | some o => (List.range ops.size).all fun k => k == i || (match ops[k]? with | some u => !isLoad u.op | none => true) || o.after.any (fun e => Region.binds .any e && e.on == k)
  | none => false

def planOkA (ops : Array Oper) : Plan → Nat → Array Bool → Bool
  | .done, _, l => (Region.ready .any ops l).isEmpty
  | .take i p, n + 1, l => (match ops[i]? with | some o => isPure o.op | none => false) && Region.free .any ops l i && (Region.ready .any ops l).contains i && planOkA ops p n (l.setIfInBounds i true)
  | .one i p, n + 1, l => Region.ready .any ops l == [i] && planOkA ops p n (l.setIfInBounds i true)
  | .two i j p q, n + 1, l => Region.ready .any ops l == [i, j] && planOkA ops p n (l.setIfInBounds i true) && planOkA ops q n (l.setIfInBounds j true)
  | .last i p, n + 1, l => Region.ready .any ops l == [i] && lastB ops i && planOkA ops p n (l.setIfInBounds i true)
  | _, 0, _ => false

def planOk (ops : Array Oper) (p : Plan) : Bool := Region.noSelect ops && planOkA ops p ops.size (Array.replicate ops.size false)

def heldA (H : List Nat) : AV → Prop
  | .opt _ x => allP (fun L => memN H L = true) (names x)
  | x => allP (fun L => memN H L = true) (names x)

/-- A conversion that reads no memory. -/
def quietC : AV → Prop
  | .sc (.int _ _) => True
  | .sc (.string _) => True
  | .opt _ (.sc (.int _ _)) => True
  | .opt _ (.sc (.string _)) => True
  | .opt false _ => True
  | _ => False

def heldOk (H : List Nat) (c : Cx) (e : Env) (o : Op) : Prop := match o with
  | .load _ a => heldA H (ev c e a)
  | .convert _ _ x => quietC (ev c e x)
  | _ => True

def planA (c : Cx) (CT : CTab) (ops : Array Oper) (H : List Nat) : Plan → St → (St → Prop) → Prop
  | .done, st, K => K st
  | .take i p, st, K => match ops[i]? with
    | some o => heldOk H c st.env o.op ∧ stepA c CT H ops o st fun st' => planA c CT ops H p st' K
    | none => False
  | .one i p, st, K => match ops[i]? with
    | some o => stepA c CT H ops o st fun st' => planA c CT ops H p st' K
    | none => False
  | .last i p, st, K => match ops[i]? with
    | some o => stepA c CT [] ops o st fun st' => planA c CT ops H p st' K
    | none => False
  | .two i j p q, st, K => match ops[i]?, ops[j]? with
    | some o, some u => (stepA c CT H ops o st fun st' => planA c CT ops H p st' K) ∧ (stepA c CT H ops u st fun st' => planA c CT ops H q st' K)
    | _, _ => False

def keepE (lv : List Nat) : Env → Env
  | [] => []
  | (k, x) :: r => if memN lv k = true then (k, x) :: keepE lv r else keepE lv r

def thenA (next : St → Prop) (Q : Ex → St → Prop) : Ex → St → Prop
  | .normal, s => next s
  | e, s => Q e s

def inBlockA (id : Nat) (Q : Ex → St → Prop) : Ex → St → Prop
  | .exit j, s => if j = id then Q .normal s else Q (.exit j) s
  | e, s => Q e s

/-- Nil told as a slice of no elements. -/
def wkC0 (x y : AV) : Prop := x = y ∨ (isNil x = true ∧ ∃ s, y = .fz s [])
def wkL0 : List AV → List AV → Prop
  | [], [] => True
  | x :: r, y :: s => wkC0 x y ∧ wkL0 r s
  | _, _ => False
def wkR0 : List (List AV) → List (List AV) → Prop
  | [], [] => True
  | x :: r, y :: s => wkL0 x y ∧ wkR0 r s
  | _, _ => False
/-- The same, and a frozen slice whose cells are told so. -/
def wkC (x y : AV) : Prop := x = y ∨ (isNil x = true ∧ ∃ s, y = .fz s []) ∨ ∃ s xs ys, x = .fz s xs ∧ y = .fz s ys ∧ wkR0 xs ys

def wkL : List AV → List AV → Prop
  | [], [] => True
  | x :: r, y :: s => wkC x y ∧ wkL r s
  | _, _ => False

def wkR : List (List AV) → List (List AV) → Prop
  | [], [] => True
  | x :: r, y :: s => wkL x y ∧ wkR r s
  | _, _ => False

/-- Nil told as a slice of ours too. -/
def wkD (x y : AV) : Prop := wkC x y ∨ (isNil x = true ∧ ∃ L, y = .sl L 0 0)

def wkM : List AV → List AV → Prop
  | [], [] => True
  | x :: r, y :: s => wkD x y ∧ wkM r s
  | _, _ => False

def wkA (x y : AV) : Prop := x = y ∨ match x, y with
  | .agg cs, .agg ds => wkM cs ds
  | x, y => wkD x y

def wkT : List AV → List AV → Prop
  | [], [] => True
  | x :: r, y :: s => wkA x y ∧ wkT r s
  | _, _ => False

def wkV (x y : AV) : Prop := x = y ∨ match x, y with
  | .tup vs, .tup us => wkT vs us
  | x, y => wkA x y

def wkO (x y : AO) : Prop := x = y ∨ match x, y with
  | .rc cs, .rc ds => wkM cs ds
  | .arr b s xs, .arr b' s' ys => b = b' ∧ s = s' ∧ wkR xs ys
  | _, _ => False

def wkS : List AO → List AO → Prop
  | [], [] => True
  | x :: r, y :: s => wkO x y ∧ wkS r s
  | _, _ => False

def wkE : Env → Env → Prop
  | [], [] => True
  | (i, x) :: r, (j, y) :: s => i = j ∧ wkV x y ∧ wkE r s
  | _, _ => False

def wkSt (s t : St) : Prop := wkE s.env t.env ∧ wkS s.os t.os

/-- Cells that may stand beside a slice of ours in a row that is closed. -/
def cellP : AV → Prop
  | .sc v => v.oneCell' = true
  | .fz .. => True
  | _ => False

def mkRow (k s : Nat) (x : List AV) : List AV := if isNil (x.getD k .junk) = true then x.set k (.own s []) else x

/-- Rows of ours, told otherwise: as rows that hold slices of ours; with a row that is open; closed again. -/
inductive NS1 : List AO → List AO → Prop
  | mk {os : List AO} (L k s : Nat) {z : Nat} {xs : List (List AV)} : os[L]? = some (.arr true z xs) → 0 < s → NS1 os (os.set L (.nst z (xs.map (mkRow k s)) none))
  | opn {os : List AO} (L i k : Nat) {z s : Nat} {xs ys : List (List AV)} {x : List AV} : os[L]? = some (.nst z xs none) → xs[i]? = some x → x[k]? = some (.own s ys) →
      NS1 os (os.set L (.nst z xs (some (i, x.set k (.sl os.length 0 ys.length)))) ++ [.arr true s ys])
  | cls {os : List AO} (L k : Nat) {z s i N : Nat} {xs ys : List (List AV)} {row : List AV} : os[L]? = some (.nst z xs (some (i, row))) → row[k]? = some (.sl N 0 ys.length) → os[N]? = some (.arr true s ys) →
      (∀ (j : Nat) y, j ≠ k → row[j]? = some y → cellP y) → NS1 os ((os.set L (.nst z (xs.set i (row.set k (.own s ys))) none)).set N .dead)

/-- Told with fewer names and more weakly, or as it is, or with rows told otherwise. -/
def upA (nl : Nat) (A : St → Prop) (s : St) : Prop := A s ∨ (∃ ts ks t, keepP nl ks s.os ∧ wkSt (viewSt ts ks s) t ∧ A t) ∨ ∃ os1, NS1 s.os os1 ∧ A ⟨s.env, os1⟩

/-- The code: what must hold ahead of it. 'nl': how many names are lent; 'lv': the places that are looked at outside of one region. -/
def aw (c : Cx) (CT : CTab) (nl : Nat) (lv : List Nat) : Code → (Ex → St → Prop) → St → Prop
  | .skip, Q, st => Q .normal st
  | .region _ ops false, Q, st => opsA c CT ops ops.toList st fun s => Q .normal ⟨keepE lv s.env, s.os⟩
  | .region _ ops true, Q, st => ∃ (p : Plan) (H : List Nat), planOk ops p = true ∧ planA c CT ops H p st fun s => Q .normal ⟨keepE lv s.env, s.os⟩
  | .seq a b, Q, st => aw c CT nl lv a (thenA (upA nl (aw c CT nl lv b Q)) Q) st
  | .cond x t f, Q, st => match ev c st.env x with
    | .sc (.bool b) => (b = true → aw c CT nl lv t Q st) ∧ (b = false → aw c CT nl lv f Q st)
    | _ => False
  | .block id b, Q, st => aw c CT nl lv b (inBlockA id Q) st
  | .loop b, Q, st => ∃ (ts : List Nat) (I : Nat → St → Prop), (∃ n ks s, keepP nl ks st.os ∧ wkSt (viewSt ts ks st) s ∧ I n s) ∧
      ∀ n s, I n s → aw c CT nl lv b (thenA (fun s' => ∃ m ks t, m < n ∧ keepP nl ks s'.os ∧ wkSt (viewSt ts ks s') t ∧ I m t) Q) s
  | .exit id, Q, st => Q (.exit id) st
  | .ret, Q, st => Q .ret st
  | _, _, _ => False

/-- Every place of an operation is one of the activation's. -/
def dstsOk (nt : Nat) : Code → Bool
  | .region _ ops _ => ops.toList.all fun o => match o.dst with | some d => decide (d < nt) | none => true
  | .seq a b => dstsOk nt a && dstsOk nt b
  | .cond _ a b => dstsOk nt a && dstsOk nt b
  | .block _ b => dstsOk nt b
  | .loop b => dstsOk nt b
  | _ => true

/-- A result, and when it can be read. -/
def resV (c : Cx) (os : List AO) (e : Env) : ResultVar → AV
  | .tmp t => lk e t
  | .cell a t => loadV (c.T t) (rowAt os (lk e a))

def resOk (c : Cx) (os : List AO) (e : Env) : ResultVar → Prop
  | .tmp _ => True
  | .cell a t => isAddr os (lk e a) = true ∧ 0 < (c.T t).sz ∧ likeAll (c.T t).zero (rowAt os (lk e a))

/-- The results. -/
def resA (c : Cx) (ks : List Nat) (os : List AO) (e : Env) : List ResultVar → List AV
  | [] => []
  | r :: rs => viewA ks os (resV c os e r) :: resA c ks os e rs

def oneA : List AV → AV
  | [x] => x
  | l => .tup l

def enterE : Nat → List AV → Env
  | _, [] => []
  | n, x :: r => (n, x) :: enterE (n + 1) r

/-- What must hold at the end. -/
def endQ (c : Cx) (nl : Nat) (rs : List ResultVar) (post : AV → List AO → Prop) : Ex → St → Prop
  | .exit _, _ => False
  | _, st => allP (resOk c st.os st.env) rs ∧ ∃ ks x σ, keepP nl ks st.os ∧ wkV (oneA (resA c ks st.os st.env rs)) x ∧ wkS (viewS ks st.os) σ ∧ post x σ

end Go.AM
end
section
/- What an abstract state says of memory, and how that is carried from one world to the next. Conditions: none. -/
namespace Go.AM
open Go

/-- What reads as it did for good. 'rd': the cells that nobody writes any more. -/
inductive RepP (rd : Nat → Nat → Option Value) : AV → Value → Prop
  | sc {v : Value} : v.oneCell' = true → RepP rd (.sc v) v
  | nil {s : Nat} {a : Option Addr} {c : Nat} : RepP rd (.fz s []) (.slice a 0 c)
  | fz {s : Nat} {xs : List (List AV)} {b o c : Nat} (f : Nat → Nat → Value) : xs.length ≤ c → (∀ x ∈ xs, x.length = s) →
      (∀ (i k : Nat) x y, xs[i]? = some x → x[k]? = some y → rd b (o + i * s + k) = some (f i k)) →
      (∀ (i k : Nat) x y, xs[i]? = some x → x[k]? = some y → RepP rd y (f i k)) → RepP rd (.fz s xs) (.slice (some ⟨b, o, none⟩) xs.length c)

/-- A row of elements. -/
def Row (rd : Nat → Nat → Option Value) (b o s : Nat) (xs : List (List AV)) : Prop :=
  (∀ x ∈ xs, x.length = s) ∧ ∀ (i k : Nat) x y, xs[i]? = some x → x[k]? = some y → ∃ v, rd b (o + i * s + k) = some v ∧ RepP rd y v

theorem RepP.of_row {rd : Nat → Nat → Option Value} {b o s c : Nat} {xs : List (List AV)} (h : Row rd b o s xs) (hc : xs.length ≤ c) : RepP rd (.fz s xs) (.slice (some ⟨b, o, none⟩) xs.length c) := by
  refine .fz (fun i k => ((rd b (o + i * s + k)).getD undef)) hc h.1 ?_ ?_
  · intro i k x y hx hy
    obtain ⟨v, hv, _⟩ := h.2 i k x y hx hy
    rw [hv]; rfl
  · intro i k x y hx hy
    obtain ⟨v, hv, hr⟩ := h.2 i k x y hx hy
    simp only [hv, Option.getD_some]
    exact hr

theorem RepP.row {rd : Nat → Nat → Option Value} {s : Nat} {xs : List (List AV)} {v : Value} (h : RepP rd (.fz s xs) v) :
    (xs = [] ∧ ∃ a c, v = .slice a 0 c) ∨ ∃ b o c, v = .slice (some ⟨b, o, none⟩) xs.length c ∧ xs.length ≤ c ∧ Row rd b o s xs := by
  cases h with
  | nil => exact .inl ⟨rfl, _, _, rfl⟩
  | fz f hc hs h1 h2 => exact .inr ⟨_, _, _, rfl, hc, hs, fun i k x y hx hy => ⟨_, h1 i k x y hx hy, h2 i k x y hx hy⟩⟩

theorem RepP.mono {rd rd' : Nat → Nat → Option Value} (hm : ∀ b o v, rd b o = some v → rd' b o = some v) {x : AV} {v : Value} (h : RepP rd x v) : RepP rd' x v := by
  induction h with
  | sc hv => exact .sc hv
  | nil => exact .nil
  | fz f hc hs h1 _ ih => exact .fz f hc hs (fun i k x y hx hy => hm _ _ _ (h1 i k x y hx hy)) ih

theorem Row.mono {rd rd' : Nat → Nat → Option Value} (hm : ∀ b o v, rd b o = some v → rd' b o = some v) {b o s : Nat} {xs : List (List AV)} (h : Row rd b o s xs) : Row rd' b o s xs :=
  ⟨h.1, fun i k x y hx hy => let ⟨v, hv, hr⟩ := h.2 i k x y hx hy; ⟨v, hm _ _ _ hv, hr.mono hm⟩⟩

theorem RepP.one {rd : Nat → Nat → Option Value} {x : AV} {v : Value} (h : RepP rd x v) : v.oneCell' = true := by
  cases h with
  | sc hv => exact hv
  | nil => rfl
  | fz => rfl

/-- A part of a row. -/
theorem Row.part {rd : Nat → Nat → Option Value} {b o s : Nat} {xs : List (List AV)} (h : Row rd b o s xs) (l n : Nat) : Row rd b (o + l * s) s ((xs.take n).drop l) := by
  refine ⟨fun x hx => h.1 x (List.mem_of_mem_take (List.mem_of_mem_drop hx)), fun i k x y hx hy => ?_⟩
  rw [List.getElem?_drop, List.getElem?_take] at hx
  split at hx
  · obtain ⟨v, hv, hr⟩ := h.2 (l + i) k x y hx hy
    refine ⟨v, ?_, hr⟩
    rw [← hv]
    congr 1
    rw [Nat.add_mul]
    omega
  · cases hx

/-- One activation: the world at its start, the blocks that it may read, those that it may write. -/
structure Ctx where
  W : World
  V : Nat → Prop
  K : Nat → Prop
  nt : Nat
  os0 : List AO
  g0 : Nat → List Nat

structure Ctx.Ok (X : Ctx) : Prop where
  v : ∀ b, X.V b → b < X.W.heap.size ∧ ¬ X.K b
  k : ∀ b, X.K b → b < X.W.heap.size

def ownB (os : List AO) (g : Nat → List Nat) (b : Nat) : Prop := ∃ L, own os L ∧ b ∈ g L

def vis (X : Ctx) (b : Nat) : Prop := X.V b ∨ X.K b ∨ X.W.heap.size ≤ b

/-- May be written. -/
def wr (X : Ctx) (b : Nat) : Prop := X.K b ∨ X.W.heap.size ≤ b

theorem wr.vis {X : Ctx} {b : Nat} (h : wr X b) : vis X b := .inr h

open Classical in
/-- The cells that nobody writes any more. -/
noncomputable def rdF (X : Ctx) (os : List AO) (g : Nat → List Nat) (w : World) (b o : Nat) : Option Value :=
  if vis X b ∧ ¬ ownB os g b then w.cell? ⟨b, o, none⟩ else none

theorem rdF_some {X : Ctx} {os : List AO} {g : Nat → List Nat} {w : World} {b o : Nat} {v : Value} : rdF X os g w b o = some v ↔ vis X b ∧ ¬ ownB os g b ∧ w.cell? ⟨b, o, none⟩ = some v := by
  unfold rdF
  split
  · rename_i h; simp [h]
  · rename_i h; simp; intro h1 h2; exact absurd ⟨h1, h2⟩ h

/-- How many cells a block has. -/
def room (w : World) (b : Nat) : Nat := match w.heap[b]? with
  | some (.cells c _ _) => c.size
  | _ => 0

/-- A pointer to a record. -/
def RepPt (os : List AO) (g : Nat → List Nat) (L k : Nat) (v : Value) : Prop := match os[L]? with
  | some (AO.rc _) => ∃ b, (g L).head? = some b ∧ v = .pointer (some ⟨b, k, none⟩)
  | some _ => True
  | none => False

def RepPts (os : List AO) (g : Nat → List Nat) : List (Nat × Nat) → List Value → Prop
  | [], [] => True
  | p :: r, v :: s => RepPt os g p.1 p.2 v ∧ RepPts os g r s
  | _, _ => False

theorem RepPts.mono {os os' : List AO} {g g' : Nat → List Nat} {ps qs : List (Nat × Nat)} (hl : qs.length = ps.length) (h : ∀ (i : Nat) p q v, ps[i]? = some p → qs[i]? = some q → RepPt os g p.1 p.2 v → RepPt os' g' q.1 q.2 v) : ∀ {vs : List Value}, RepPts os g ps vs → RepPts os' g' qs vs := by
  induction ps generalizing qs with
  | nil => intro vs hv; cases qs with
    | nil => cases vs with
      | nil => trivial
      | cons _ _ => exact hv.elim
    | cons _ _ => simp at hl
  | cons p ps ih =>
    intro vs hv
    cases qs with
    | nil => simp at hl
    | cons q qs =>
      cases vs with
      | nil => exact hv.elim
      | cons v vs => exact ⟨h 0 p q v rfl rfl hv.1, ih (by simpa using hl) (fun i p q v h1 h2 => h (i + 1) p q v h1 h2) hv.2⟩

/-- A value of one cell. -/
def RepC (rd : Nat → Nat → Option Value) (os : List AO) (g : Nat → List Nat) (w : World) : AV → Value → Prop
  | .sc u, v => v = u
  | .fz s xs, v => RepP rd (.fz s xs) v
  | .fp s xs i k, v => ∃ b o, v = .pointer (some ⟨b, o + i * s + k, none⟩) ∧ Row rd b o s xs
  | .sl L off n, v => match os[L]? with
    | some (AO.arr _ s xs) => ∃ cap, n ≤ cap ∧ off + n ≤ xs.length ∧ ((∃ b, (g L).head? = some b ∧ v = .slice (some ⟨b, off * s, none⟩) n cap ∧ (off + cap) * s ≤ room w b) ∨ (cap = 0 ∧ ∃ a, v = .slice a 0 0))
    | some (AO.nst s xs _) => ∃ cap, n ≤ cap ∧ off + n ≤ xs.length ∧ ((∃ b, (g L).head? = some b ∧ v = .slice (some ⟨b, off * s, none⟩) n cap ∧ (off + cap) * s ≤ room w b) ∨ (cap = 0 ∧ ∃ a, v = .slice a 0 0))
    | some _ => True
    | none => off = 0 ∧ n = 0 ∧ ∃ a, v = .slice a 0 0
  | .pa L i k, v => match os[L]? with
    | some (AO.arr _ s _) => ∃ b, (g L).head? = some b ∧ v = .pointer (some ⟨b, i * s + k, none⟩)
    | some (AO.nst s _ _) => ∃ b, (g L).head? = some b ∧ v = .pointer (some ⟨b, i * s + k, none⟩)
    | some _ => True
    | none => False
  | .pt L k, v => match os[L]? with
    | some (AO.rc _) => ∃ b, (g L).head? = some b ∧ v = .pointer (some ⟨b, k, none⟩)
    | some _ => True
    | none => False
  | .clo n ps, v => ∃ arr : Array Value, v = .func (.func n) #[] arr ∧ RepPts os g ps arr.toList
  | .junk, _ => True
  | .own .., _ => True
  | _, _ => False

def RepA (rd : Nat → Nat → Option Value) (os : List AO) (g : Nat → List Nat) (w : World) : AV → Value → Prop
  | .agg cs, v => ∃ vs : Array Value, v = .agg vs ∧ vs.size = cs.length ∧ ∀ (i : Nat) y, cs[i]? = some y → ∃ u, vs[i]? = some u ∧ RepC rd os g w y u
  | x, v => RepC rd os g w x v

def RepV (rd : Nat → Nat → Option Value) (os : List AO) (g : Nat → List Nat) (w : World) : AV → Value → Prop
  | .tup cs, v => ∃ vs : Array Value, v = .tuple vs ∧ vs.size = cs.length ∧ ∀ (i : Nat) y, cs[i]? = some y → ∃ u, vs[i]? = some u ∧ RepA rd os g w y u
  | .opt b x, v => (b = true → RepA rd os g w x v) ∧ (b = false → v = undef)
  | x, v => RepA rd os g w x v

/-- What is known of the objects in one world holds of them in another. -/
structure Step (X : Ctx) (os : List AO) (g : Nat → List Nat) (w : World) (os' : List AO) (g' : Nat → List Nat) (w' : World) : Prop where
  len : os.length ≤ os'.length
  arr : ∀ (L : Nat) o o' a a', os[L]? = some o → os'[L]? = some o' → o.al = some a → o'.al = some a' → a'.1 = a.1 ∧ a.2 ≤ a'.2 ∧ (g' L).head? = (g L).head?
  rc : ∀ (L : Nat) cs cs', os[L]? = some (AO.rc cs) → os'[L]? = some (AO.rc cs') → g' L = g L
  rcArr : ∀ (L : Nat) o a cs', os[L]? = some o → o.al = some a → os'[L]? = some (AO.rc cs') → False
  arrRc : ∀ (L : Nat) cs o a, os[L]? = some (AO.rc cs) → os'[L]? = some o → o.al = some a → False
  dead : ∀ (L : Nat), os[L]? = some AO.dead → os'[L]? = some AO.dead
  rd : ∀ b o v, rdF X os g w b o = some v → rdF X os' g' w' b o = some v
  rm : ∀ b, room w b ≤ room w' b

/-- What stands at the start, and is lent: how it goes on. -/
structure Keeps (os : List AO) (g : Nat → List Nat) (w : World) (os' : List AO) (g' : Nat → List Nat) (w' : World) : Prop where
  len : os.length ≤ os'.length
  arr : ∀ (L : Nat) o o' a a', os[L]? = some o → os'[L]? = some o' → o.al = some a → o'.al = some a' → a'.1 = a.1 ∧ a.2 ≤ a'.2 ∧ (g' L).head? = (g L).head?
  rc : ∀ (L : Nat) cs cs', os[L]? = some (AO.rc cs) → os'[L]? = some (AO.rc cs') → g' L = g L
  rcArr : ∀ (L : Nat) o a cs', os[L]? = some o → o.al = some a → os'[L]? = some (AO.rc cs') → False
  arrRc : ∀ (L : Nat) cs o a, os[L]? = some (AO.rc cs) → os'[L]? = some o → o.al = some a → False
  dead : ∀ (L : Nat), os[L]? = some AO.dead → os'[L]? = some AO.dead
  rm : ∀ b, room w b ≤ room w' b

theorem Step.keeps {X : Ctx} {os os' : List AO} {g g' : Nat → List Nat} {w w' : World} (s : Step X os g w os' g' w') : Keeps os g w os' g' w' := ⟨s.len, s.arr, s.rc, s.rcArr, s.arrRc, s.dead, s.rm⟩

theorem Step.refl (X : Ctx) (os : List AO) (g : Nat → List Nat) (w : World) : Step X os g w os g w where
  len := Nat.le_refl _
  arr := fun L o o' a a' h h' e e' => by rw [h] at h'; cases h'; rw [e] at e'; cases e'; exact ⟨rfl, Nat.le_refl _, rfl⟩
  rc := fun _ _ _ _ _ => rfl
  rcArr := fun L o a cs h e h' => by rw [h] at h'; cases h'; cases e
  arrRc := fun L cs o a h h' e => by rw [h] at h'; cases h'; cases e
  dead := fun _ h => h
  rd := fun _ _ _ h => h
  rm := fun _ => Nat.le_refl _

theorem get_some_of_len {os os' : List AO} (h : os.length ≤ os'.length) {L : Nat} {o : AO} (ho : os[L]? = some o) : ∃ o', os'[L]? = some o' := by
  have hl : L < os.length := by
    rcases Nat.lt_or_ge L os.length with h' | h'
    · exact h'
    · rw [List.getElem?_eq_none h'] at ho; cases ho
  exact ⟨os'[L]'(by omega), List.getElem?_eq_getElem _⟩

theorem Step.trans {X : Ctx} {a b c : List AO} {g h i : Nat → List Nat} {u v w : World} (s : Step X a g u b h v) (t : Step X b h v c i w) : Step X a g u c i w where
  len := Nat.le_trans s.len t.len
  arr := fun L o o' p p' h1 h2 e1 e2 => by
    obtain ⟨m, hm⟩ := get_some_of_len s.len h1
    cases hq : m.al with
    | some q =>
      obtain ⟨p1, p2, p3⟩ := s.arr _ _ _ _ _ h1 hm e1 hq
      obtain ⟨q1, q2, q3⟩ := t.arr _ _ _ _ _ hm h2 hq e2
      exact ⟨q1.trans p1, Nat.le_trans p2 q2, q3.trans p3⟩
    | none =>
      cases m with
      | rc cs => exact (s.rcArr _ _ _ _ h1 e1 hm).elim
      | dead => have := t.dead _ hm; rw [h2] at this; cases this; cases e2
      | arr => cases hq
      | nst => cases hq
  rc := fun L cs cs' h1 h2 => by
    obtain ⟨m, hm⟩ := get_some_of_len s.len h1
    cases m with
    | arr o2 z2 xs2 => exact (s.arrRc _ _ _ _ h1 hm rfl).elim
    | nst z2 xs2 op => exact (s.arrRc _ _ _ _ h1 hm rfl).elim
    | rc cs2 => exact (t.rc _ _ _ hm h2).trans (s.rc _ _ _ h1 hm)
    | dead => have := t.dead _ hm; rw [h2] at this; cases this
  rcArr := fun L o p cs' h1 e1 h2 => by
    obtain ⟨m, hm⟩ := get_some_of_len s.len h1
    cases m with
    | arr o2 z2 xs2 => exact t.rcArr _ _ _ _ hm rfl h2
    | nst z2 xs2 op => exact t.rcArr _ _ _ _ hm rfl h2
    | rc cs2 => exact s.rcArr _ _ _ _ h1 e1 hm
    | dead => have := t.dead _ hm; rw [h2] at this; cases this
  arrRc := fun L cs o p h1 h2 e2 => by
    obtain ⟨m, hm⟩ := get_some_of_len s.len h1
    cases m with
    | arr o2 z2 xs2 => exact s.arrRc _ _ _ _ h1 hm rfl
    | nst z2 xs2 op => exact s.arrRc _ _ _ _ h1 hm rfl
    | rc cs2 => exact t.arrRc _ _ _ _ hm h2 e2
    | dead => have := t.dead _ hm; rw [h2] at this; cases this; cases e2
  dead := fun L h1 => t.dead _ (s.dead _ h1)
  rd := fun b o v h1 => t.rd _ _ _ (s.rd _ _ _ h1)
  rm := fun b => Nat.le_trans (s.rm b) (t.rm b)

theorem Keeps.refl (os : List AO) (g : Nat → List Nat) (w : World) : Keeps os g w os g w :=
  (Step.refl ⟨w, fun _ => False, fun _ => False, 0, [], g⟩ os g w).keeps

theorem Keeps.trans {a b c : List AO} {g h i : Nat → List Nat} {u v w : World} (s : Keeps a g u b h v) (t : Keeps b h v c i w) : Keeps a g u c i w where
  len := Nat.le_trans s.len t.len
  arr := fun L o o' p p' h1 h2 e1 e2 => by
    obtain ⟨m, hm⟩ := get_some_of_len s.len h1
    cases hq : m.al with
    | some q =>
      obtain ⟨p1, p2, p3⟩ := s.arr _ _ _ _ _ h1 hm e1 hq
      obtain ⟨q1, q2, q3⟩ := t.arr _ _ _ _ _ hm h2 hq e2
      exact ⟨q1.trans p1, Nat.le_trans p2 q2, q3.trans p3⟩
    | none =>
      cases m with
      | rc cs => exact (s.rcArr _ _ _ _ h1 e1 hm).elim
      | dead => have := t.dead _ hm; rw [h2] at this; cases this; cases e2
      | arr => cases hq
      | nst => cases hq
  rc := fun L cs cs' h1 h2 => by
    obtain ⟨m, hm⟩ := get_some_of_len s.len h1
    cases m with
    | arr o2 z2 xs2 => exact (s.arrRc _ _ _ _ h1 hm rfl).elim
    | nst z2 xs2 op => exact (s.arrRc _ _ _ _ h1 hm rfl).elim
    | rc cs2 => exact (t.rc _ _ _ hm h2).trans (s.rc _ _ _ h1 hm)
    | dead => have := t.dead _ hm; rw [h2] at this; cases this
  rcArr := fun L o p cs' h1 e1 h2 => by
    obtain ⟨m, hm⟩ := get_some_of_len s.len h1
    cases m with
    | arr o2 z2 xs2 => exact t.rcArr _ _ _ _ hm rfl h2
    | nst z2 xs2 op => exact t.rcArr _ _ _ _ hm rfl h2
    | rc cs2 => exact s.rcArr _ _ _ _ h1 e1 hm
    | dead => have := t.dead _ hm; rw [h2] at this; cases this
  arrRc := fun L cs o p h1 h2 e2 => by
    obtain ⟨m, hm⟩ := get_some_of_len s.len h1
    cases m with
    | arr o2 z2 xs2 => exact s.arrRc _ _ _ _ h1 hm rfl
    | nst z2 xs2 op => exact s.arrRc _ _ _ _ h1 hm rfl
    | rc cs2 => exact t.arrRc _ _ _ _ hm h2 e2
    | dead => have := t.dead _ hm; rw [h2] at this; cases this; cases e2
  dead := fun L h1 => t.dead _ (s.dead _ h1)
  rm := fun b => Nat.le_trans (s.rm b) (t.rm b)

theorem Step.repPt {X : Ctx} {os os' : List AO} {g g' : Nat → List Nat} {w w' : World} (s : Step X os g w os' g' w') {L k : Nat} {v : Value} (h : RepPt os g L k v) : RepPt os' g' L k v := by
  unfold RepPt at h ⊢
  cases h1 : os[L]? with
  | none => rw [h1] at h; exact h.elim
  | some o =>
    rw [h1] at h
    obtain ⟨o', h2⟩ := get_some_of_len s.len h1
    rw [h2]
    cases o' with
    | rc cs =>
      cases o with
      | rc cs0 => simp only [s.rc _ _ _ h1 h2]; exact h
      | arr ow0 z0 xs0 => exact (s.rcArr _ _ _ _ h1 rfl h2).elim
      | nst z0 xs0 op0 => exact (s.rcArr _ _ _ _ h1 rfl h2).elim
      | dead => have := s.dead _ h1; rw [h2] at this; cases this
    | arr ow z xs => trivial
    | nst z xs op => trivial
    | dead => trivial

theorem Step.repC {X : Ctx} {os os' : List AO} {g g' : Nat → List Nat} {w w' : World} (s : Step X os g w os' g' w') {x : AV} {v : Value}
    (h : RepC (rdF X os g w) os g w x v) : RepC (rdF X os' g' w') os' g' w' x v := by
  cases x with
  | sc u => exact h
  | fz z xs => exact RepP.mono s.rd h
  | fp z xs i k => obtain ⟨b, o, hv, hr⟩ := h; exact ⟨b, o, hv, hr.mono s.rd⟩
  | sl L off n =>
    simp only [RepC] at h ⊢
    cases h1 : os[L]? with
    | none =>
      rw [h1] at h
      obtain ⟨rfl, rfl, a, rfl⟩ := h
      cases os'[L]? with
      | none => exact ⟨rfl, rfl, a, rfl⟩
      | some o =>
        cases o with
        | arr ow z xs => exact ⟨0, Nat.le_refl _, Nat.zero_le _, .inr ⟨rfl, a, rfl⟩⟩
        | nst z xs op => exact ⟨0, Nat.le_refl _, Nat.zero_le _, .inr ⟨rfl, a, rfl⟩⟩
        | rc cs => trivial
        | dead => trivial
    | some o =>
      rw [h1] at h
      obtain ⟨o', h2⟩ := get_some_of_len s.len h1
      rw [h2]
      cases o' with
      | arr ow z xs =>
        cases o with
        | arr ow0 z0 xs0 =>
          obtain ⟨p1, p2, p3⟩ := s.arr _ _ _ _ _ h1 h2 rfl rfl
          dsimp only at p1 p2
          subst p1
          obtain ⟨cap, hc, hn, hr⟩ := h
          simp only [p3]
          exact ⟨cap, hc, Nat.le_trans hn p2, hr.imp (fun ⟨b, hb, hv, hr⟩ => ⟨b, hb, hv, Nat.le_trans hr (s.rm b)⟩) id⟩
        | nst z0 xs0 op0 =>
          obtain ⟨p1, p2, p3⟩ := s.arr _ _ _ _ _ h1 h2 rfl rfl
          dsimp only at p1 p2
          subst p1
          obtain ⟨cap, hc, hn, hr⟩ := h
          simp only [p3]
          exact ⟨cap, hc, Nat.le_trans hn p2, hr.imp (fun ⟨b, hb, hv, hr⟩ => ⟨b, hb, hv, Nat.le_trans hr (s.rm b)⟩) id⟩
        | rc cs => exact (s.arrRc _ _ _ _ h1 h2 rfl).elim
        | dead => have := s.dead _ h1; rw [h2] at this; cases this
      | nst z xs op =>
        cases o with
        | arr ow0 z0 xs0 =>
          obtain ⟨p1, p2, p3⟩ := s.arr _ _ _ _ _ h1 h2 rfl rfl
          dsimp only at p1 p2
          subst p1
          obtain ⟨cap, hc, hn, hr⟩ := h
          simp only [p3]
          exact ⟨cap, hc, Nat.le_trans hn p2, hr.imp (fun ⟨b, hb, hv, hr⟩ => ⟨b, hb, hv, Nat.le_trans hr (s.rm b)⟩) id⟩
        | nst z0 xs0 op0 =>
          obtain ⟨p1, p2, p3⟩ := s.arr _ _ _ _ _ h1 h2 rfl rfl
          dsimp only at p1 p2
          subst p1
          obtain ⟨cap, hc, hn, hr⟩ := h
          simp only [p3]
          exact ⟨cap, hc, Nat.le_trans hn p2, hr.imp (fun ⟨b, hb, hv, hr⟩ => ⟨b, hb, hv, Nat.le_trans hr (s.rm b)⟩) id⟩
        | rc cs => exact (s.arrRc _ _ _ _ h1 h2 rfl).elim
        | dead => have := s.dead _ h1; rw [h2] at this; cases this
      | rc cs => trivial
      | dead => trivial
  | pa L i k =>
    simp only [RepC] at h ⊢
    cases h1 : os[L]? with
    | none => rw [h1] at h; exact h.elim
    | some o =>
      rw [h1] at h
      obtain ⟨o', h2⟩ := get_some_of_len s.len h1
      rw [h2]
      cases o' with
      | arr ow z xs =>
        cases o with
        | arr ow0 z0 xs0 =>
          obtain ⟨p1, p2, p3⟩ := s.arr _ _ _ _ _ h1 h2 rfl rfl
          dsimp only at p1 p2
          subst p1
          simp only [p3]
          exact h
        | nst z0 xs0 op0 =>
          obtain ⟨p1, p2, p3⟩ := s.arr _ _ _ _ _ h1 h2 rfl rfl
          dsimp only at p1 p2
          subst p1
          simp only [p3]
          exact h
        | rc cs => exact (s.arrRc _ _ _ _ h1 h2 rfl).elim
        | dead => have := s.dead _ h1; rw [h2] at this; cases this
      | nst z xs op =>
        cases o with
        | arr ow0 z0 xs0 =>
          obtain ⟨p1, p2, p3⟩ := s.arr _ _ _ _ _ h1 h2 rfl rfl
          dsimp only at p1 p2
          subst p1
          simp only [p3]
          exact h
        | nst z0 xs0 op0 =>
          obtain ⟨p1, p2, p3⟩ := s.arr _ _ _ _ _ h1 h2 rfl rfl
          dsimp only at p1 p2
          subst p1
          simp only [p3]
          exact h
        | rc cs => exact (s.arrRc _ _ _ _ h1 h2 rfl).elim
        | dead => have := s.dead _ h1; rw [h2] at this; cases this
      | rc cs => trivial
      | dead => trivial
  | clo n ps => obtain ⟨arr, h1, h2⟩ := h; exact ⟨arr, h1, h2.mono rfl fun i p q v a b c => by rw [a] at b; cases b; exact s.repPt c⟩
  | pt L k =>
    simp only [RepC] at h ⊢
    cases h1 : os[L]? with
    | none => rw [h1] at h; exact h.elim
    | some o =>
      rw [h1] at h
      obtain ⟨o', h2⟩ := get_some_of_len s.len h1
      rw [h2]
      cases o' with
      | rc cs =>
        cases o with
        | rc cs0 => simp only [s.rc _ _ _ h1 h2]; exact h
        | arr ow0 z0 xs0 => exact (s.rcArr _ _ _ _ h1 rfl h2).elim
        | nst z0 xs0 op0 => exact (s.rcArr _ _ _ _ h1 rfl h2).elim
        | dead => have := s.dead _ h1; rw [h2] at this; cases this
      | arr ow z xs => trivial
      | nst z xs op => trivial
      | dead => trivial
  | junk => trivial
  | own => trivial
  | agg cs => exact h.elim
  | tup cs => exact h.elim
  | opt b x => exact h.elim

theorem Step.repA {X : Ctx} {os os' : List AO} {g g' : Nat → List Nat} {w w' : World} (s : Step X os g w os' g' w') {x : AV} {v : Value}
    (h : RepA (rdF X os g w) os g w x v) : RepA (rdF X os' g' w') os' g' w' x v := by
  cases x with
  | agg cs => obtain ⟨vs, hv, hl, hp⟩ := h; exact ⟨vs, hv, hl, fun i y hy => let ⟨u, hu, hr⟩ := hp i y hy; ⟨u, hu, s.repC hr⟩⟩
  | sc => exact s.repC (x := .sc _) h
  | fz => exact s.repC (x := .fz _ _) h
  | fp => exact s.repC (x := .fp _ _ _ _) h
  | sl => exact s.repC (x := .sl _ _ _) h
  | pa => exact s.repC (x := .pa _ _ _) h
  | pt => exact s.repC (x := .pt _ _) h
  | clo => exact s.repC (x := .clo _ _) h
  | junk => trivial
  | own => trivial
  | tup => exact h.elim
  | opt => exact h.elim

theorem Step.repV {X : Ctx} {os os' : List AO} {g g' : Nat → List Nat} {w w' : World} (s : Step X os g w os' g' w') {x : AV} {v : Value}
    (h : RepV (rdF X os g w) os g w x v) : RepV (rdF X os' g' w') os' g' w' x v := by
  cases x with
  | tup cs => obtain ⟨vs, hv, hl, hp⟩ := h; exact ⟨vs, hv, hl, fun i y hy => let ⟨u, hu, hr⟩ := hp i y hy; ⟨u, hu, s.repA hr⟩⟩
  | opt b x => exact ⟨fun hb => s.repA (h.1 hb), h.2⟩
  | agg cs => exact s.repA (x := .agg cs) h
  | sc => exact s.repC (x := .sc _) h
  | fz => exact s.repC (x := .fz _ _) h
  | fp => exact s.repC (x := .fp _ _ _ _) h
  | sl => exact s.repC (x := .sl _ _ _) h
  | pa => exact s.repC (x := .pa _ _ _) h
  | pt => exact s.repC (x := .pt _ _) h
  | clo => exact s.repC (x := .clo _ _) h
  | junk => trivial
  | own => trivial

/-- A slice that is ours and stands in a row of ours: its block (if it has one), its rows. -/
def OwnA (rd : Nat → Nat → Option Value) (X : Ctx) (w : World) (l : List Nat) (s : Nat) (ys : List (List AV)) (v : Value) : Prop :=
  0 < s ∧ ((l = [] ∧ ys = [] ∧ ∃ a, v = .slice a 0 0) ∨ ∃ b cap, l = [b] ∧ wr X b ∧ v = .slice (some ⟨b, 0, none⟩) ys.length cap ∧ ys.length ≤ cap ∧
    ∃ c t, w.heap[b]? = some (.cells c t (0, 0)) ∧ cap * s ≤ c.size ∧ (∀ x ∈ ys, x.length = s) ∧
    ∀ (i k : Nat) x y, ys[i]? = some x → x[k]? = some y → ∃ v, c[i * s + k]? = some v ∧ RepP rd y v)

/-- A cell of such a row. -/
def CellN (rd : Nat → Nat → Option Value) (X : Ctx) (w : World) (l : List Nat) : AV → Value → Prop
  | .own s ys, v => OwnA rd X w l s ys v
  | y, v => RepP rd y v

/-- The row that is open. -/
def opnRow : Option (Nat × List AV) → Nat → Prop
  | some (j, _), i => i = j
  | none, _ => False

/-- What an object says of memory. -/
def OOk (X : Ctx) (os : List AO) (g : Nat → List Nat) (w : World) (L : Nat) : Option AO → Prop
  | some (AO.arr true s xs) => 0 < s ∧ ((g L = [] ∧ xs = []) ∨ ∃ b, g L = [b] ∧ wr X b ∧ ∃ c t, w.heap[b]? = some (.cells c t (0, 0)) ∧ xs.length * s ≤ c.size ∧ (∀ x ∈ xs, x.length = s) ∧
      ∀ (i k : Nat) x y, xs[i]? = some x → x[k]? = some y → ∃ v, c[i * s + k]? = some v ∧ RepP (rdF X os g w) y v)
  | some (AO.arr false s xs) => ∀ b, (g L).head? = some b → Row (rdF X os g w) b 0 s xs
  | some (AO.rc cs) => ∃ b, g L = [b] ∧ wr X b ∧ ∃ c t, w.heap[b]? = some (.cells c t (0, 0)) ∧ cs.length ≤ c.size ∧ ∀ (k : Nat) y, cs[k]? = some y → ∃ v, c[k]? = some v ∧ RepC (rdF X os g w) os g w y v
  | some (AO.nst s xs op) => 0 < s ∧ ((g L = [] ∧ xs = [] ∧ op = none) ∨ ∃ b nb, ∃ F : Nat → Nat → List Nat, g L = b :: nb ∧ wr X b ∧ ∃ c t, w.heap[b]? = some (.cells c t (0, 0)) ∧ xs.length * s ≤ c.size ∧ (∀ x ∈ xs, x.length = s) ∧
      (∀ (i k : Nat) x y, xs[i]? = some x → x[k]? = some y → ¬ opnRow op i → ∃ v, c[i * s + k]? = some v ∧ CellN (rdF X os g w) X w (F i k) y v) ∧
      (∀ (j : Nat) row, op = some (j, row) → j < xs.length ∧ row.length = s ∧ ∀ (k : Nat) y, row[k]? = some y → ∃ v, c[j * s + k]? = some v ∧ RepC (rdF X os g w) os g w y v) ∧
      (∀ (i k b' : Nat), b' ∈ F i k → b' ∈ nb) ∧ (∀ (i k i' k' b' : Nat), b' ∈ F i k → b' ∈ F i' k' → i = i' ∧ k = k') ∧ b ∉ nb ∧ ∀ b' ∈ nb, wr X b')
  | _ => True

/-- What the objects say of memory. -/
structure SRel (X : Ctx) (os : List AO) (g : Nat → List Nat) (w : World) : Prop where
  sys : w.os = X.W.os
  tape : w.tape = X.W.tape
  output : w.output = X.W.output
  size : X.W.heap.size ≤ w.heap.size
  same : ∀ b, b < X.W.heap.size → ¬ X.K b → w.heap[b]? = X.W.heap[b]?
  bnd : ∀ L, own os L → ∀ b ∈ g L, b < w.heap.size
  inj : ∀ L M, own os L → own os M → ∀ b, b ∈ g L → b ∈ g M → L = M
  obj : ∀ L, OOk X os g w L os[L]?

theorem OwnA.mono {rd rd' : Nat → Nat → Option Value} {X : Ctx} {w w' : World} {l : List Nat} {s : Nat} {ys : List (List AV)} {v : Value} (hm : ∀ b o v, rd b o = some v → rd' b o = some v)
    (hw : ∀ b ∈ l, w'.heap[b]? = w.heap[b]?) (h : OwnA rd X w l s ys v) : OwnA rd' X w' l s ys v := by
  obtain ⟨h0, h1 | ⟨b, cap, p0, p1, p2, p3, c, t, p4, p5, p6, p7⟩⟩ := h
  · exact ⟨h0, .inl h1⟩
  · refine ⟨h0, .inr ⟨b, cap, p0, p1, p2, p3, c, t, by rw [hw b (by simp [p0])]; exact p4, p5, p6, fun i k x y hx hy => ?_⟩⟩
    obtain ⟨v, hv, hr⟩ := p7 i k x y hx hy
    exact ⟨v, hv, hr.mono hm⟩

theorem CellN.mono {rd rd' : Nat → Nat → Option Value} {X : Ctx} {w w' : World} {l : List Nat} {y : AV} {v : Value} (hm : ∀ b o v, rd b o = some v → rd' b o = some v)
    (hw : ∀ b ∈ l, w'.heap[b]? = w.heap[b]?) (h : CellN rd X w l y v) : CellN rd' X w' l y v := by
  cases y with
  | own s ys => exact OwnA.mono hm hw h
  | _ => exact RepP.mono hm h

theorem own_lt {os : List AO} {L : Nat} (h : own os L) : L < os.length := by
  rcases Nat.lt_or_ge L os.length with h' | h'
  · exact h'
  · unfold own at h; rw [List.getElem?_eq_none h'] at h; exact h.elim

/-- An object that stands as it stood. -/
theorem OOk.step {X : Ctx} {os os' : List AO} {g g' : Nat → List Nat} {w w' : World} (s : Step X os g w os' g' w') {L : Nat} (ho : os'[L]? = os[L]?) (hg : g' L = g L)
    (hw : isOwn os[L]? → ∀ b ∈ g L, w'.heap[b]? = w.heap[b]?) (h : OOk X os g w L os[L]?) : OOk X os' g' w' L os'[L]? := by
  rw [ho]
  cases h1 : os[L]? with
  | none => trivial
  | some o =>
    rw [h1] at h hw
    cases o with
    | arr ow z xs =>
      cases ow with
      | true =>
        obtain ⟨p2, ⟨p0, p1⟩ | ⟨b, p0, p1, c, t, p3, p4, p5, p6⟩⟩ := h
        · exact ⟨p2, .inl ⟨hg.trans p0, p1⟩⟩
        refine ⟨p2, .inr ⟨b, hg.trans p0, p1, c, t, ?_, p4, p5, fun i k x y hx hy => ?_⟩⟩
        · rw [hw trivial b (by simp [p0])]; exact p3
        · obtain ⟨v, hv, hr⟩ := p6 i k x y hx hy; exact ⟨v, hv, hr.mono s.rd⟩
      | false => simp only [OOk, hg] at h ⊢; exact fun b hb => (h b hb).mono s.rd
    | rc cs =>
      obtain ⟨b, p0, p1, c, t, p3, p4, p6⟩ := h
      refine ⟨b, hg.trans p0, p1, c, t, ?_, p4, fun k y hy => ?_⟩
      · rw [hw trivial b (by simp [p0])]; exact p3
      · obtain ⟨v, hv, hr⟩ := p6 k y hy; exact ⟨v, hv, s.repC hr⟩
    | nst z xs op =>
      obtain ⟨p2, ⟨p0, p1⟩ | ⟨b, nb, F, p0, p1, c, t, p3, p4, p5, p6, p7, p8, p9, p10⟩⟩ := h
      · exact ⟨p2, .inl ⟨hg.trans p0, p1⟩⟩
      refine ⟨p2, .inr ⟨b, nb, F, hg.trans p0, p1, c, t, ?_, p4, p5, fun i k x y hx hy hn => ?_, fun j row hj => ?_, p8, p9, p10⟩⟩
      · rw [hw trivial b (by simp [p0])]; exact p3
      · obtain ⟨v, hv, hr⟩ := p6 i k x y hx hy hn
        exact ⟨v, hv, hr.mono s.rd fun b' hb' => hw trivial b' (by simp [p0, p8 i k b' hb'])⟩
      · obtain ⟨q1, q2, q3⟩ := p7 j row hj
        exact ⟨q1, q2, fun k y hy => let ⟨v, hv, hr⟩ := q3 k y hy; ⟨v, hv, s.repC hr⟩⟩
    | dead => trivial

theorem cell_heap {w w' : World} {b o : Nat} (h : w'.heap[b]? = w.heap[b]?) : w'.cell? ⟨b, o, none⟩ = w.cell? ⟨b, o, none⟩ := by simp [World.cell?, h]

theorem room_heap {w w' : World} {b : Nat} (h : w'.heap[b]? = w.heap[b]?) : room w' b = room w b := by simp [room, h]

end Go.AM
end
section
/- How what is known of objects goes on: an object given up, a new one, one written, one moved. Conditions: none. -/
namespace Go.AM
open Go

variable {X : Ctx} {os : List AO} {g : Nat → List Nat} {w : World}

theorem SRel.next {os' : List AO} {g' : Nat → List Nat} {w' : World} (h : SRel X os g w) (st : Step X os g w os' g' w') (hsys : w'.os = w.os) (htape : w'.tape = w.tape) (hout : w'.output = w.output)
    (hsize : w.heap.size ≤ w'.heap.size) (hsame : ∀ b, b < X.W.heap.size → ¬ X.K b → w'.heap[b]? = w.heap[b]?) (C : Nat → Prop)
    (hC : ∀ L, ¬ C L → os'[L]? = os[L]? ∧ (os[L]? ≠ none → g' L = g L) ∧ (own os L → ∀ b ∈ g L, w'.heap[b]? = w.heap[b]?)) (hobj : ∀ L, C L → OOk X os' g' w' L os'[L]?)
    (hbnd : ∀ L, own os' L → ∀ b ∈ g' L, b < w'.heap.size) (hinj : ∀ L M, own os' L → own os' M → ∀ b, b ∈ g' L → b ∈ g' M → L = M) : SRel X os' g' w' where
  sys := hsys.trans h.sys
  tape := htape.trans h.tape
  output := hout.trans h.output
  size := Nat.le_trans h.size hsize
  same := fun b hb hk => (hsame b hb hk).trans (h.same b hb hk)
  bnd := hbnd
  inj := hinj
  obj := fun L => by
    rcases Classical.em (C L) with hc | hc
    · exact hobj L hc
    · obtain ⟨h1, h2, h3⟩ := hC L hc
      cases ho : os[L]? with
      | none => rw [h1, ho]; trivial
      | some o => exact OOk.step st h1 (h2 (by rw [ho]; simp)) h3 (h.obj L)

theorem set_get (os : List AO) (L M : Nat) (o : AO) : (os.set L o)[M]? = if L = M then (if L < os.length then some o else none) else os[M]? := by
  rw [List.getElem?_set]

theorem lt_of_get {α : Type} {l : List α} {i : Nat} {x : α} (h : l[i]? = some x) : i < l.length := by
  rcases Nat.lt_or_ge i l.length with h' | h'
  · exact h'
  · rw [List.getElem?_eq_none h'] at h; cases h

theorem set_same {os : List AO} {L : Nat} {o o' : AO} (h : os[L]? = some o) : (os.set L o')[L]? = some o' := by
  rw [set_get, if_pos rfl, if_pos (lt_of_get h)]

theorem set_other {os : List AO} {L M : Nat} {o' : AO} (h : L ≠ M) : (os.set L o')[M]? = os[M]? := by
  rw [set_get, if_neg h]

/-- An object that is given up: it is nobody's, or gone. -/
theorem SRel.give (h : SRel X os g w) {L : Nat} {o : AO} (hL : os[L]? = some o) (o' : AO) (hn : ¬ isOwn (some o'))
    (hk : o' = .dead ∨ ∃ a, o.al = some a ∧ o'.al = some a) (ho : (∀ b u v, rdF X os g w b u = some v → rdF X (os.set L o') g w b u = some v) → OOk X (os.set L o') g w L (some o')) :
    SRel X (os.set L o') g w ∧ Step X os g w (os.set L o') g w := by
  have hown : ∀ M, own (os.set L o') M → own os M ∧ M ≠ L := by
    intro M hM
    by_cases e : L = M
    · subst e; unfold own at hM; rw [set_same hL] at hM; exact (hn hM).elim
    · unfold own at hM ⊢; rw [set_other e] at hM; exact ⟨hM, Ne.symm e⟩
  have hrd : ∀ b u v, rdF X os g w b u = some v → rdF X (os.set L o') g w b u = some v := by
    intro b u v hb
    rw [rdF_some] at hb ⊢
    exact ⟨hb.1, fun ⟨M, hM, e⟩ => hb.2.1 ⟨M, (hown M hM).1, e⟩, hb.2.2⟩
  have st : Step X os g w (os.set L o') g w := by
    refine ⟨by simp, ?_, fun _ _ _ _ _ => rfl, ?_, ?_, ?_, hrd, fun _ => Nat.le_refl _⟩
    · intro M o1 o2 a1 a2 h1 h2 e1 e2
      by_cases e : L = M
      · subst e
        rw [set_same hL] at h2
        rw [hL] at h1
        cases h1; cases h2
        rcases hk with rfl | ⟨a, q1, q2⟩
        · cases e2
        · rw [e1] at q1; rw [e2] at q2; cases q1; cases q2; exact ⟨rfl, Nat.le_refl _, rfl⟩
      · rw [set_other e, h1] at h2; cases h2; rw [e1] at e2; cases e2; exact ⟨rfl, Nat.le_refl _, rfl⟩
    · intro M o1 a1 c h1 e1 h2
      by_cases e : L = M
      · subst e; rw [set_same hL] at h2; cases h2; rcases hk with hk | ⟨a, q1, q2⟩ <;> contradiction
      · rw [set_other e, h1] at h2; cases h2; cases e1
    · intro M c o1 a1 h1 h2 e1
      by_cases e : L = M
      · subst e; rw [set_same hL] at h2; rw [hL] at h1; cases h1; cases h2
        rcases hk with rfl | ⟨a, q1, q2⟩
        · cases e1
        · cases q1
      · rw [set_other e, h1] at h2; cases h2; cases e1
    · intro M h1
      by_cases e : L = M
      · subst e; rw [hL] at h1; cases h1
        rcases hk with hk | ⟨a, q1, q2⟩
        · rw [hk]; exact set_same hL
        · cases q1
      · rw [set_other e]; exact h1
  refine ⟨h.next st rfl rfl rfl (Nat.le_refl _) (fun _ _ _ => rfl) (fun M => M = L) ?_ ?_ ?_ ?_, st⟩
  · intro M hM; exact ⟨set_other (Ne.symm hM), fun _ => rfl, fun _ _ _ => rfl⟩
  · intro M hM; subst hM; rw [set_same hL]; exact ho hrd
  · intro M hM; exact h.bnd M (hown M hM).1
  · intro M N hM hN b e1 e2; exact h.inj M N (hown M hM).1 (hown N hN).1 b e1 e2

/-- A row of ours, read. -/
theorem SRel.rowOf (h : SRel X os g w) {L s : Nat} {xs : List (List AV)} (hL : os[L]? = some (.arr true s xs)) (os' : List AO) (hno : ∀ b ∈ g L, ¬ ownB os' g b)
    (hrd : ∀ b u v, rdF X os g w b u = some v → rdF X os' g w b u = some v) : ∀ b, (g L).head? = some b → Row (rdF X os' g w) b 0 s xs := by
  intro b hb
  have ho := h.obj L
  rw [hL] at ho
  obtain ⟨p2, ⟨p0, p1⟩ | ⟨b', p0, p1, c, t, p3, p4, p5, p6⟩⟩ := ho
  · rw [p0] at hb; cases hb
  obtain rfl : b' = b := by rw [p0] at hb; simpa using hb
  refine ⟨p5, fun i k x y hx hy => ?_⟩
  obtain ⟨v, hv, hr⟩ := p6 i k x y hx hy
  refine ⟨v, ?_, hr.mono hrd⟩
  rw [rdF_some]
  refine ⟨p1.vis, hno b' (by simp [p0]), ?_⟩
  rw [cell_of_row w b' _ c t (0, 0) p3]
  simpa using hv

theorem not_ownB_set (h : SRel X os g w) {L : Nat} {o o' : AO} (hL : os[L]? = some o) (hw : own os L) (hn : ¬ isOwn (some o')) : ∀ b ∈ g L, ¬ ownB (os.set L o') g b := by
  rintro b hb ⟨M, hM, e⟩
  by_cases e2 : L = M
  · subst e2; unfold own at hM; rw [set_same hL] at hM; exact hn hM
  · unfold own at hM; rw [set_other e2] at hM; exact e2 (h.inj L M hw hM b hb e)

theorem SRel.unown1 (h : SRel X os g w) {L s : Nat} {xs : List (List AV)} (hL : os[L]? = some (.arr true s xs)) :
    SRel X (os.set L (.arr false s xs)) g w ∧ Step X os g w (os.set L (.arr false s xs)) g w :=
  h.give hL _ (by simp [isOwn]) (.inr ⟨_, rfl, rfl⟩) fun hrd => h.rowOf hL _ (not_ownB_set h hL (by unfold own; rw [hL]; trivial) (by simp [isOwn])) hrd

theorem SRel.kill1 (h : SRel X os g w) {L : Nat} {o : AO} (hL : os[L]? = some o) : SRel X (os.set L .dead) g w ∧ Step X os g w (os.set L .dead) g w :=
  h.give hL _ (by simp [isOwn]) (.inl rfl) fun _ => trivial

def updG (g : Nat → List Nat) (n : Nat) (b : List Nat) : Nat → List Nat := fun L => if L = n then b else g L

theorem updG_same (g : Nat → List Nat) (n : Nat) (b : List Nat) : updG g n b n = b := by simp [updG]
theorem updG_other (g : Nat → List Nat) {n L : Nat} {b : List Nat} (h : L ≠ n) : updG g n b L = g L := by simp [updG, h]

theorem push_get (os : List AO) (o : AO) (L : Nat) : (os ++ [o])[L]? = if L < os.length then os[L]? else if L = os.length then some o else none := by
  rw [List.getElem?_append]
  split
  · rfl
  · rename_i hl
    by_cases e : L = os.length
    · subst e; simp
    · rw [if_neg e]; simp; omega

theorem own_push {os : List AO} {o : AO} {L : Nat} (h : own (os ++ [o]) L) : own os L ∨ (L = os.length ∧ isOwn (some o)) := by
  unfold own at h ⊢
  rw [push_get] at h
  split at h
  · exact .inl h
  · split at h
    · rename_i e; exact .inr ⟨e, h⟩
    · exact h.elim

/-- A new name, for a block that nobody of ours has, in a world that has turned only such blocks. -/
theorem SRel.push (h : SRel X os g w) {w' : World} (b : List Nat) (o : AO) (hsys : w'.os = w.os) (htape : w'.tape = w.tape) (hout : w'.output = w.output)
    (hsize : w.heap.size ≤ w'.heap.size) (hsame : ∀ k, k < w.heap.size → w'.heap[k]? = w.heap[k]?) (hb : isOwn (some o) → ∀ k ∈ b, k < w'.heap.size) (hnew : isOwn (some o) → ∀ k ∈ b, w.heap.size ≤ k)
    (ho : (∀ b' u v, rdF X os g w b' u = some v → rdF X (os ++ [o]) (updG g os.length b) w' b' u = some v) → Step X os g w (os ++ [o]) (updG g os.length b) w' → OOk X (os ++ [o]) (updG g os.length b) w' os.length (some o)) :
    SRel X (os ++ [o]) (updG g os.length b) w' ∧ Step X os g w (os ++ [o]) (updG g os.length b) w' := by
  have hlt : ∀ {L : Nat} {x : AO}, os[L]? = some x → L ≠ os.length := fun hx e => by have := lt_of_get hx; omega
  have hold : ∀ {L : Nat} {x : AO}, os[L]? = some x → (os ++ [o])[L]? = some x := fun hx => by rw [push_get, if_pos (lt_of_get hx)]; exact hx
  have hcell : ∀ k u v, w.cell? ⟨k, u, none⟩ = some v → k < w.heap.size := by
    intro k u v hv
    rcases Nat.lt_or_ge k w.heap.size with h' | h'
    · exact h'
    · simp [World.cell?, Array.getElem?_eq_none h'] at hv
  have hrd : ∀ b' u v, rdF X os g w b' u = some v → rdF X (os ++ [o]) (updG g os.length b) w' b' u = some v := by
    intro b' u v hv
    rw [rdF_some] at hv ⊢
    obtain ⟨h1, h2, h3⟩ := hv
    have hl := hcell _ _ _ h3
    refine ⟨h1, ?_, by rw [cell_heap (hsame b' hl)]; exact h3⟩
    rintro ⟨M, hM, e⟩
    rcases own_push hM with hM | ⟨e2, hw⟩
    · rw [updG_other g (by have := own_lt hM; omega)] at e; exact h2 ⟨M, hM, e⟩
    · subst e2; rw [updG_same] at e; have := hnew hw _ e; omega
  have st : Step X os g w (os ++ [o]) (updG g os.length b) w' := by
    refine ⟨by simp, ?_, ?_, ?_, ?_, fun L h1 => hold h1, hrd, fun k => ?_⟩
    rotate_left 4
    · rcases Nat.lt_or_ge k w.heap.size with hk | hk
      · exact Nat.le_of_eq (room_heap (hsame k hk)).symm
      · unfold room; rw [Array.getElem?_eq_none hk]; exact Nat.zero_le _
    · intro L o1 o2 a1 a2 h1 h2 e1 e2
      rw [hold h1] at h2; cases h2; rw [e1] at e2; cases e2
      exact ⟨rfl, Nat.le_refl _, by rw [updG_other g (hlt h1)]⟩
    · intro L c c' h1 _; exact updG_other g (hlt h1)
    · intro L o1 a1 c h1 e1 h2; rw [hold h1] at h2; cases h2; cases e1
    · intro L c o1 a1 h1 h2 e1; rw [hold h1] at h2; cases h2; cases e1
  refine ⟨h.next st hsys htape hout hsize (fun k hk _ => hsame k (Nat.lt_of_lt_of_le hk h.size)) (fun L => L = os.length) ?_ ?_ ?_ ?_, st⟩
  · intro L hL
    refine ⟨?_, fun _ => updG_other g hL, fun hw b hb => hsame _ (h.bnd L hw b hb)⟩
    rw [push_get]
    split
    · rfl
    · rename_i hl
      rw [List.getElem?_eq_none (by omega)]
  · intro L hL
    subst hL
    rw [push_get, if_neg (by omega), if_pos rfl]
    exact ho hrd st
  · intro L hL k hk
    rcases own_push hL with hL | ⟨e, hw⟩
    · rw [updG_other g (by have := own_lt hL; omega)] at hk; exact Nat.lt_of_lt_of_le (h.bnd L hL k hk) hsize
    · subst e; rw [updG_same] at hk; exact hb hw k hk
  · intro L M hL hM k e f
    rcases own_push hL with hL | ⟨e1, hw1⟩ <;> rcases own_push hM with hM | ⟨e2, hw2⟩
    · rw [updG_other g (by have := own_lt hL; omega)] at e; rw [updG_other g (by have := own_lt hM; omega)] at f; exact h.inj L M hL hM k e f
    · subst e2; rw [updG_other g (by have := own_lt hL; omega)] at e; rw [updG_same] at f; have := h.bnd L hL k e; have := hnew hw2 k f; omega
    · subst e1; rw [updG_other g (L := M) (by have := own_lt hM; omega)] at f; rw [updG_same] at e; have := h.bnd M hM k f; have := hnew hw1 k e; omega
    · omega

/-- A draw. -/
theorem SRel.drew (h : SRel X os g w) {w' : World} (hh : w'.heap = w.heap) (hsys : w'.os = w.os) (htape : w'.tape = w.tape) (hout : w'.output = w.output) : SRel X os g w' ∧ Step X os g w os g w' := by
  have hc : ∀ b : Nat, w'.heap[b]? = w.heap[b]? := fun b => by rw [hh]
  have st : Step X os g w os g w' := by
    refine ⟨Nat.le_refl _, ?_, fun _ _ _ _ _ => rfl, ?_, ?_, fun _ h => h, ?_, fun _ => Nat.le_of_eq (room_heap (hc _)).symm⟩
    · intro L o1 o2 a1 a2 h1 h2 e1 e2; rw [h1] at h2; cases h2; rw [e1] at e2; cases e2; exact ⟨rfl, Nat.le_refl _, rfl⟩
    · intro L o1 a1 c h1 e1 h2; rw [h1] at h2; cases h2; cases e1
    · intro L c o1 a1 h1 h2 e1; rw [h1] at h2; cases h2; cases e1
    · intro b u v hv; rw [rdF_some] at hv ⊢; exact ⟨hv.1, hv.2.1, by rw [cell_heap (hc b)]; exact hv.2.2⟩
  refine ⟨h.next st hsys htape hout (by rw [hh]; exact Nat.le_refl _) (fun b _ _ => hc b) (fun _ => False) (fun L _ => ⟨rfl, fun _ => rfl, fun _ _ _ => hc _⟩) (fun _ hf => hf.elim) (fun L hL => by rw [hh]; exact h.bnd L hL) h.inj, st⟩

/-- One of our blocks is written: its object says something else. -/
theorem room_setRow {w : World} {b0 : Nat} {c c' : Array Value} {t : TypeId} (hh : w.heap[b0]? = some (.cells c t (0, 0))) (hc : c.size ≤ c'.size) (b : Nat) : room w b ≤ room (w.setRow b0 c') b := by
  by_cases e : b = b0
  · subst e; unfold room; rw [hh, setRow_heap w b c c' t _ hh]; exact hc
  · exact Nat.le_of_eq (room_heap (setRow_other w b0 b c' e)).symm

theorem SRel.write (h : SRel X os g w) {L b0 : Nat} {o o' : AO} (hmem : b0 ∈ g L) (hwr : wr X b0) (hX : X.Ok) (hL : os[L]? = some o) (hw : isOwn (some o)) (hw' : isOwn (some o')) (c' : Array Value) (c : Array Value) (t : TypeId) (hh : w.heap[b0]? = some (.cells c t (0, 0))) (hc : c.size ≤ c'.size)
    (hk : (∃ a a', o.al = some a ∧ o'.al = some a' ∧ a'.1 = a.1 ∧ a.2 ≤ a'.2) ∨ ∃ cs cs', o = .rc cs ∧ o' = .rc cs')
    (ho : (∀ b u v, rdF X os g w b u = some v → rdF X (os.set L o') g (w.setRow b0 c') b u = some v) → Step X os g w (os.set L o') g (w.setRow b0 c') → OOk X (os.set L o') g (w.setRow b0 c') L (some o')) :
    SRel X (os.set L o') g (w.setRow b0 c') ∧ Step X os g w (os.set L o') g (w.setRow b0 c') := by
  have howL : own os L := by unfold own; rw [hL]; exact hw
  have hown : ∀ M, own (os.set L o') M ↔ own os M := by
    intro M
    by_cases e : L = M
    · subst e; unfold own; rw [set_same hL, hL]; exact ⟨fun _ => hw, fun _ => hw'⟩
    · unfold own; rw [set_other e]
  have hB : ∀ b, ownB (os.set L o') g b ↔ ownB os g b := fun b => ⟨fun ⟨M, hM, e⟩ => ⟨M, (hown M).1 hM, e⟩, fun ⟨M, hM, e⟩ => ⟨M, (hown M).2 hM, e⟩⟩
  have hoth : ∀ b : Nat, b ≠ b0 → (w.setRow b0 c').heap[b]? = w.heap[b]? := fun b hb => setRow_other w b0 b c' hb
  have hrd : ∀ b u v, rdF X os g w b u = some v → rdF X (os.set L o') g (w.setRow b0 c') b u = some v := by
    intro b u v hv
    rw [rdF_some] at hv ⊢
    refine ⟨hv.1, fun hb => hv.2.1 ((hB b).1 hb), ?_⟩
    rw [cell_heap (hoth b fun e => hv.2.1 ⟨L, howL, e ▸ hmem⟩)]
    exact hv.2.2
  have st : Step X os g w (os.set L o') g (w.setRow b0 c') := by
    refine ⟨by simp, ?_, fun _ _ _ _ _ => rfl, ?_, ?_, ?_, hrd, room_setRow hh hc⟩
    · intro M o1 o2 a1 a2 h1 h2 e1 e2
      by_cases e : L = M
      · subst e
        rw [set_same hL] at h2; rw [hL] at h1; cases h1; cases h2
        rcases hk with ⟨a, a', q1, q2, q3, q4⟩ | ⟨cs, cs', q1, q2⟩
        · rw [e1] at q1; rw [e2] at q2; cases q1; cases q2; exact ⟨q3, q4, rfl⟩
        · subst q1; cases e1
      · rw [set_other e, h1] at h2; cases h2; rw [e1] at e2; cases e2; exact ⟨rfl, Nat.le_refl _, rfl⟩
    · intro M o1 a1 cc h1 e1 h2
      by_cases e : L = M
      · subst e; rw [set_same hL] at h2; rw [hL] at h1; cases h1; cases h2
        rcases hk with ⟨a, a', q1, q2, q3, q4⟩ | ⟨cs, cs', q1, q2⟩
        · cases q2
        · subst q1; cases e1
      · rw [set_other e, h1] at h2; cases h2; cases e1
    · intro M cc o1 a1 h1 h2 e1
      by_cases e : L = M
      · subst e; rw [set_same hL] at h2; rw [hL] at h1; cases h1; cases h2
        rcases hk with ⟨a, a', q1, q2, q3, q4⟩ | ⟨cs, cs', q1, q2⟩
        · cases q1
        · subst q2; cases e1
      · rw [set_other e, h1] at h2; cases h2; cases e1
    · intro M h1
      by_cases e : L = M
      · subst e; rw [hL] at h1; cases h1; exact hw.elim
      · rw [set_other e]; exact h1
  refine ⟨h.next st rfl rfl rfl (by simp) ?_ (fun M => M = L) ?_ ?_ ?_ ?_, st⟩
  · intro b hb hk2
    refine hoth b fun e => ?_
    subst e
    rcases hwr with h1 | h1
    · exact hk2 h1
    · omega
  · intro M hM
    refine ⟨set_other (Ne.symm hM), fun _ => rfl, fun hwM b hb => hoth _ fun e => hM (h.inj M L hwM howL b hb (e ▸ hmem))⟩
  · intro M hM; subst hM; rw [set_same hL]; exact ho hrd st
  · intro M hM; simpa using h.bnd M ((hown M).1 hM)
  · intro M N hM hN b e f; exact h.inj M N ((hown M).1 hM) ((hown N).1 hN) b e f

end Go.AM
namespace Go.AM
open Go
variable {X : Ctx} {os : List AO} {g : Nat → List Nat} {w : World}

theorem mv_get (os : List AO) (L M : Nat) (o : AO) (hL : L < os.length) : (os.set L .dead ++ [o])[M]? = if M = L then some .dead else if M = os.length then some o else os[M]? := by
  rw [push_get, List.length_set, set_get]
  by_cases e : M = L
  · subst e; simp [hL]
  · rw [if_neg e, if_neg (Ne.symm e)]
    by_cases e2 : M < os.length
    · rw [if_pos e2, if_neg (by omega)]
    · rw [if_neg e2]
      by_cases e3 : M = os.length
      · rw [if_pos e3, if_pos e3]
      · rw [if_neg e3, if_neg e3, List.getElem?_eq_none (by omega)]

/-- One of our rows is written and has another name from now on. -/
theorem SRel.move (h : SRel X os g w) {L s b0 : Nat} {xs ys : List (List AV)} (hg0 : g L = [b0]) (hL : os[L]? = some (.arr true s xs)) (c' c : Array Value) (t : TypeId) (hh : w.heap[b0]? = some (.cells c t (0, 0))) (hc : c.size ≤ c'.size)
    (ho : (∀ b u v, rdF X os g w b u = some v → rdF X (os.set L .dead ++ [.arr true s ys]) (updG g os.length (g L)) (w.setRow b0 c') b u = some v) →
      OOk X (os.set L .dead ++ [.arr true s ys]) (updG g os.length (g L)) (w.setRow b0 c') os.length (some (.arr true s ys))) :
    SRel X (os.set L .dead ++ [.arr true s ys]) (updG g os.length (g L)) (w.setRow b0 c') ∧ Step X os g w (os.set L .dead ++ [.arr true s ys]) (updG g os.length (g L)) (w.setRow b0 c') := by
  have hl := lt_of_get hL
  have howL : own os L := by unfold own; rw [hL]; trivial
  have hget := fun M => mv_get os L M (.arr true s ys) hl
  have hold : ∀ {M : Nat} {x : AO}, os[M]? = some x → M ≠ L → (os.set L .dead ++ [.arr true s ys])[M]? = some x := fun {M x} hx hM => by
    rw [hget, if_neg hM, if_neg (by have := lt_of_get hx; omega)]; exact hx
  have hown : ∀ M, own (os.set L .dead ++ [.arr true s ys]) M → (own os M ∧ M ≠ L ∧ M ≠ os.length) ∨ M = os.length := by
    intro M hM
    unfold own at hM
    rw [hget] at hM
    split at hM
    · exact hM.elim
    · split at hM
      · rename_i e; exact .inr e
      · rename_i e1 e2; exact .inl ⟨hM, e1, e2⟩
  have hmem : b0 ∈ g L := by simp [hg0]
  have hoth : ∀ b : Nat, b ≠ b0 → (w.setRow b0 c').heap[b]? = w.heap[b]? := fun b hb => setRow_other w b0 b c' hb
  have hnB : ∀ b, ¬ ownB os g b → ¬ ownB (os.set L .dead ++ [.arr true s ys]) (updG g os.length (g L)) b := by
    rintro b hb ⟨M, hM, e⟩
    rcases hown M hM with ⟨h1, h2, h3⟩ | h1
    · rw [updG_other g h3] at e; exact hb ⟨M, h1, e⟩
    · subst h1; rw [updG_same] at e; exact hb ⟨L, howL, e⟩
  have hrd : ∀ b u v, rdF X os g w b u = some v → rdF X (os.set L .dead ++ [.arr true s ys]) (updG g os.length (g L)) (w.setRow b0 c') b u = some v := by
    intro b u v hv
    rw [rdF_some] at hv ⊢
    refine ⟨hv.1, hnB b hv.2.1, ?_⟩
    rw [cell_heap (hoth b fun e => hv.2.1 ⟨L, howL, e ▸ hmem⟩)]
    exact hv.2.2
  have st : Step X os g w (os.set L .dead ++ [.arr true s ys]) (updG g os.length (g L)) (w.setRow b0 c') := by
    refine ⟨by simp, ?_, ?_, ?_, ?_, ?_, hrd, room_setRow hh hc⟩
    · intro M o1 o2 a1 a2 h1 h2 e1 e2
      by_cases e : M = L
      · subst e; rw [hget, if_pos rfl] at h2; cases h2; cases e2
      · rw [hold h1 e] at h2; cases h2; rw [e1] at e2; cases e2
        exact ⟨rfl, Nat.le_refl _, by rw [updG_other g (by have := lt_of_get h1; omega)]⟩
    · intro M cs cs' h1 h2; exact updG_other g (by have := lt_of_get h1; omega)
    · intro M o1 a1 cc h1 e1 h2
      by_cases e : M = L
      · subst e; rw [hget, if_pos rfl] at h2; cases h2
      · rw [hold h1 e] at h2; cases h2; cases e1
    · intro M cc o1 a1 h1 h2 e1
      by_cases e : M = L
      · subst e; rw [hget, if_pos rfl] at h2; cases h2; cases e1
      · rw [hold h1 e] at h2; cases h2; cases e1
    · intro M h1
      by_cases e : M = L
      · subst e; rw [hL] at h1; cases h1
      · exact hold h1 e
  have hwr : wr X b0 := by
    have := h.obj L
    rw [hL] at this
    obtain ⟨_, ⟨p0, _⟩ | ⟨b, p0, p1, _⟩⟩ := this
    · rw [hg0] at p0; cases p0
    · rw [hg0] at p0; cases p0; exact p1
  refine ⟨h.next st rfl rfl rfl (by simp) ?_ (fun M => M = L ∨ M = os.length) ?_ ?_ ?_ ?_, st⟩
  · intro b hb hk2
    refine hoth b fun e => ?_
    subst e
    rcases hwr with h1 | h1
    · exact hk2 h1
    · omega
  · intro M hM
    have h1 : M ≠ L := fun e => hM (.inl e)
    have h2 : M ≠ os.length := fun e => hM (.inr e)
    refine ⟨by rw [hget, if_neg h1, if_neg h2], fun _ => updG_other g h2, fun hwM b hb => hoth _ fun e => h1 (h.inj M L hwM howL b hb (e ▸ hmem))⟩
  · intro M hM
    rcases hM with hM | hM
    · subst hM; rw [hget, if_pos rfl]; trivial
    · subst hM; rw [hget, if_neg (by omega), if_pos rfl]; exact ho hrd
  · intro M hM k hk
    simp only [setRow_size]
    rcases hown M hM with ⟨h1, h2, h3⟩ | h1
    · rw [updG_other g h3] at hk; exact h.bnd M h1 k hk
    · subst h1; rw [updG_same] at hk; exact h.bnd L howL k hk
  · intro M N hM hN k e f
    rcases hown M hM with ⟨h1, h2, h3⟩ | h1 <;> rcases hown N hN with ⟨k1, k2, k3⟩ | k1
    · rw [updG_other g h3] at e; rw [updG_other g k3] at f; exact h.inj M N h1 k1 k e f
    · subst k1; rw [updG_other g h3] at e; rw [updG_same] at f; exact absurd (h.inj M L h1 howL k e f) h2
    · subst h1; rw [updG_same] at e; rw [updG_other g k3] at f; exact absurd (h.inj N L k1 howL k f e) k2
    · omega

end Go.AM
end
section
/- What is known of types; quiet operations do in memory what the abstract machine does. Conditions: none. -/
namespace Go.AM
open Go

def KOk (P : Program) (T : Nat → TI) (k : TK) (d : TypeDesc) : Prop := match k with
  | .int k => d = .int k
  | .bool => d = .bool
  | .str => d = .string
  | .flt k => d = .float k
  | .slice e => d = .slice e
  | .struct fs => ∃ fields, d = .struct fields ∧ fields.toList.mapM (fun f => (P.info? f.type).map fun i => (f.offset, i.size)) = some fs
  | .array n e => d = .array n e ∧ ∃ i, P.info? e = some i ∧ i.size = (T e).sz
  | .other => True

/-- A struct of whole numbers and bools, one cell each. -/
def SortOk (P : Program) (t : Nat) : Option AV → Prop
  | some (.sc (.int _ _)) => ∃ k, P.underlying t = some (.int k)
  | some (.sc (.bool _)) => P.underlying t = some .bool
  | _ => False

def EqOk (P : Program) (zs : List AV) (t : Nat) (d : TypeDesc) : Prop :=
  P.stoodInHeld t = false ∧ P.eqGuardType P.depth t = false ∧ ∃ fields, d = .struct fields ∧ fields.size = zs.length ∧
    ∀ (i : Nat) (f : Field), fields[i]? = some f → f.offset = i ∧ (f.name == "_") = false ∧ SortOk P f.type zs[i]?

structure TyOk (P : Program) (T : Nat → TI) (t : Nat) : Prop where
  ex : ∃ i d z, P.info? t = some i ∧ i.size = (T t).sz ∧ i.bytes = (T t).bytes ∧ P.underlying t = some d ∧
    (match d with | .struct _ | .array _ _ => true | _ => false) = (T t).agg ∧ i.zero = some z ∧ z.cells.toList.map AV.sc = (T t).zero ∧ KOk P T (T t).kind d ∧ (∀ v ∈ z.cells.toList, v.oneCell' = true) ∧ ((T t).eq = true → EqOk P (T t).zero t d) ∧ z.cells.size = i.size
  ft : (T t).ftys ≠ [] → ∃ fields : Array Field, P.underlying t = some (.struct fields) ∧ fields.toList.map (·.type) = (T t).ftys

/-- What is known of the program. -/
structure PrOk (P : Program) (c : Cx) : Prop where
  ty : ∀ t, 0 < (c.T t).sz → TyOk P c.T t
  mixed : P.follows .mixedOrders = true

def GOk (rd : Nat → Nat → Option Value) (x : AV) (n : Nat) : Prop := match x with
  | .fp s xs 0 0 => Row rd n 0 s xs
  | .junk => True
  | _ => False

/-- An activation's state. -/
structure Rel (X : Ctx) (c : Cx) (st : St) (g : Nat → List Nat) (a : Act) (w : World) : Prop where
  srel : SRel X st.os g w
  env : ∀ t, RepV (rdF X st.os g w) st.os g w (lk st.env t) (a.tmps.getD t undef)
  nt : a.tmps.size = X.nt
  defs : a.defers = []
  glob : ∀ n, GOk (rdF X st.os g w) (c.G n) n
  keeps : Keeps X.os0 X.g0 X.W st.os g w

theorem GOk.rep {rd : Nat → Nat → Option Value} {os : List AO} {g : Nat → List Nat} {w : World} {x : AV} {n : Nat} (h : GOk rd x n) : RepC rd os g w x (.pointer (some ⟨n, 0, none⟩)) := by
  unfold GOk at h
  split at h
  · rename_i s xs; exact ⟨n, 0, by simp, h⟩
  · trivial
  · exact h.elim

theorem GOk.mono {rd rd' : Nat → Nat → Option Value} (hm : ∀ b o v, rd b o = some v → rd' b o = some v) {x : AV} {n : Nat} (h : GOk rd x n) : GOk rd' x n := by
  unfold GOk at h ⊢
  split at h
  · exact h.mono hm
  · trivial
  · exact h.elim

theorem RepC.toV {rd : Nat → Nat → Option Value} {os : List AO} {g : Nat → List Nat} {w : World} {x : AV} {v : Value} (h : RepC rd os g w x v) : RepV rd os g w x v := by
  cases x <;> first | exact h | exact h.elim

theorem RepC.toA {rd : Nat → Nat → Option Value} {os : List AO} {g : Nat → List Nat} {w : World} {x : AV} {v : Value} (h : RepC rd os g w x v) : RepA rd os g w x v := by
  cases x <;> first | exact h | exact h.elim

theorem RepA.toV {rd : Nat → Nat → Option Value} {os : List AO} {g : Nat → List Nat} {w : World} {x : AV} {v : Value} (h : RepA rd os g w x v) : RepV rd os g w x v := by
  cases x <;> first | exact h | exact h.elim

theorem Rel.ev {X : Ctx} {c : Cx} {st : St} {g : Nat → List Nat} {a : Act} {w : World} (h : Rel X c st g a w) (x : Operand) : RepV (rdF X st.os g w) st.os g w (ev c st.env x) (a.eval x) := by
  cases x with
  | tmp t => exact h.env t
  | const v => exact rfl
  | global n => exact (h.glob n).rep.toV
  | func f => exact rfl

end Go.AM
namespace Go.AM
open Go

section
variable {P : Program} {c : Cx} {rd : Nat → Nat → Option Value} {os : List AO} {g : Nat → List Nat} {w : World}

theorem RepV.sc {u v : Value} (h : RepV rd os g w (.sc u) v) : v = u := h

theorem RepV.strip {x : AV} {v : Value} (h : RepV rd os g w x v) (hs : stripOk true x) : RepV rd os g w (strip x) v := by
  cases x with
  | opt b y => exact (h.1 (hs rfl)).toV
  | _ => exact h

theorem selA_ok {a x y : AV} {va vx vy : Value} (ha : RepV rd os g w a va) (hx : RepV rd os g w x vx) (hy : RepV rd os g w y vy) (hk : selOk a x y) :
    ∃ t : Bool, va = .bool t ∧ RepV rd os g w (selA a x y) (if t then vx else vy) := by
  unfold selOk at hk
  split at hk
  · rename_i t e1
    obtain ⟨k1, k2, k3⟩ := hk
    have ha' := ha.strip k1
    rw [e1] at ha'
    refine ⟨t, RepV.sc ha', ?_⟩
    unfold selA
    rw [e1]
    simp only [selB_eq]
    cases t
    · exact hy.strip (k3 rfl)
    · exact hx.strip (k2 rfl)
  · exact hk.elim


theorem eqOk_cons {z x y : AV} {zs xs ys : List AV} (h : eqOk (z :: zs) (x :: xs) (y :: ys)) :
    ((∃ k0 a0 k a b, z = .sc (.int k0 a0) ∧ x = .sc (.int k a) ∧ y = .sc (.int k b)) ∨ ∃ a0 a b, z = .sc (.bool a0) ∧ x = .sc (.bool a) ∧ y = .sc (.bool b)) ∧ eqOk zs xs ys := by
  unfold eqOk at h
  split at h
  · rename_i h1 _; cases h1
  · rename_i h1 h2 h3
    cases h1; cases h2; cases h3
    obtain ⟨rfl, h⟩ := h
    exact ⟨.inl ⟨_, _, _, _, _, rfl, rfl, rfl⟩, h⟩
  · rename_i h1 h2 h3; cases h1; cases h2; cases h3; exact ⟨.inr ⟨_, _, _, rfl, rfl, rfl⟩, h⟩
  · exact h.elim

theorem eqOk_len : ∀ {zs xs ys : List AV}, eqOk zs xs ys → xs.length = zs.length ∧ ys.length = zs.length
  | [], [], [], _ => ⟨rfl, rfl⟩
  | z :: zs, x :: xs, y :: ys, h => by have := eqOk_len (eqOk_cons h).2; simp [this]
  | [], [], _ :: _, h => by simp [eqOk] at h
  | [], _ :: _, _, h => by simp [eqOk] at h
  | _ :: _, [], _, h => by simp [eqOk] at h
  | _ :: _, _ :: _, [], h => by simp [eqOk] at h

theorem run_part_flat {t : TypeId} (hu : (∃ k, P.underlying t = some (.int k)) ∨ P.underlying t = some .bool) (vs : Array Value) (n : Nat) (u : Value) (hn : vs[n]? = some u) (w' : World) :
    (part t vs n).run P w' = .ok u w' := by
  rcases hu with ⟨k, hu⟩ | hu <;> simp [part, isAgg, run_underlying hu, hn]

theorem eqFields_ok : ∀ (fs : List Field) (zs xs ys : List AV) (n : Nat) (vs us : Array Value), zs.length = fs.length →
    (∀ (i : Nat) (f : Field), fs[i]? = some f → f.offset = n + i ∧ (f.name == "_") = false ∧ SortOk P f.type zs[i]?) →
    (∀ (i : Nat) y, xs[i]? = some y → ∃ u, vs[n + i]? = some u ∧ RepC rd os g w y u) → (∀ (i : Nat) y, ys[i]? = some y → ∃ u, us[n + i]? = some u ∧ RepC rd os g w y u) → eqOk zs xs ys →
    ∀ (d : Nat) (w' : World), (Op.eqFields (d + 1) vs us fs).run P w' = .ok (eqCells xs ys) w'
  | [], [], [], [], _, _, _, _, _, _, _, _, d, w' => by simp [Op.eqFields, eqCells]
  | [], [], [], _ :: _, _, _, _, _, _, _, _, h, _, _ => by simp [eqOk] at h
  | [], [], _ :: _, _, _, _, _, _, _, _, _, h, _, _ => by simp [eqOk] at h
  | [], _ :: _, _, _, _, _, _, h, _, _, _, _, _, _ => by simp at h
  | _ :: _, [], _, _, _, _, _, h, _, _, _, _, _, _ => by simp at h
  | _ :: _, _ :: _, [], _, _, _, _, _, _, _, _, h, _, _ => by simp [eqOk] at h
  | _ :: _, _ :: _, _ :: _, [], _, _, _, _, _, _, _, h, _, _ => by simp [eqOk] at h
  | f :: fs, z :: zs, x :: xs, y :: ys, n, vs, us, hl, hf, hx, hy, hok, d, w' => by
    obtain ⟨hxy, hok'⟩ := eqOk_cons hok
    obtain ⟨ho, hn, hu⟩ := hf 0 f rfl
    obtain ⟨u, hu1, hu2⟩ := hx 0 x rfl
    obtain ⟨v, hv1, hv2⟩ := hy 0 y rfl
    have ih := eqFields_ok fs zs xs ys (n + 1) vs us (by simpa using hl) (fun i f' hf' => by have := hf (i + 1) f' (by simpa using hf'); rw [show n + 1 + i = n + (i + 1) by omega]; exact this)
      (fun i y hy' => by have := hx (i + 1) y (by simpa using hy'); rw [show n + 1 + i = n + (i + 1) by omega]; exact this) (fun i y hy' => by have := hy (i + 1) y (by simpa using hy'); rw [show n + 1 + i = n + (i + 1) by omega]; exact this) hok' d w'
    have hn' : f.name ≠ "_" := by simpa using hn
    rw [Op.eqFields, if_pos hn']
    rcases hxy with ⟨k0, a0, k, a, b, rfl, rfl, rfl⟩ | ⟨a0, a, b, rfl, rfl, rfl⟩
    · obtain rfl : u = .int k a := hu2
      obtain rfl : v = .int k b := hv2
      have hsu : ∃ k, P.underlying f.type = some (.int k) := hu
      simp only [Sem.run_bind, run_part_flat (w' := w') (.inl hsu) vs f.offset _ (by rw [ho]; exact hu1), run_part_flat (w' := w') (.inl hsu) us f.offset _ (by rw [ho]; exact hv1), Result.andThen_ok]
      obtain ⟨k2, hk2⟩ := hsu
      simp only [run_equalIn_int w' d f.type k k2 a b hk2, Result.andThen_ok, eqCells, eqCell]
      cases hab : a == b <;> simp [ih]
    · obtain rfl : u = .bool a := hu2
      obtain rfl : v = .bool b := hv2
      have hsu : P.underlying f.type = some .bool := hu
      simp only [Sem.run_bind, run_part_flat (w' := w') (.inr hsu) vs f.offset _ (by rw [ho]; exact hu1), run_part_flat (w' := w') (.inr hsu) us f.offset _ (by rw [ho]; exact hv1), Result.andThen_ok]
      simp only [run_equalIn_bool' w' d f.type a b hsu, Result.andThen_ok, eqCells, eqCell]
      cases hab : a == b <;> simp [ih]

theorem binA_ok (hP : PrOk P c) {op : BinOp} {t : TypeId} {x y : AV} {vx vy : Value} (o1 o2 : Operand) (hx : RepV rd os g w x vx) (hy : RepV rd os g w y vy) (hk : binOk (c.T t) op x y) :
    ∃ v, RepV rd os g w (binA op x y) v ∧ ∀ w', (do eqGuard op t o1 o2 vx vy; binOp op t vx vy : Sem Value).run P w' = .ok v w' := by
  unfold binOk at hk
  split at hk
  · rename_i k a k' b
    obtain rfl := RepV.sc hx
    obtain rfl := RepV.sc hy
    refine ⟨intOp op k a b, rfl, fun w' => ?_⟩
    cases op <;> simp only [intOk] at hk <;> simp [eqGuard, binOp, Op.shift, Op.intArith, Op.intDiv, Op.intBits, Op.intCmp, intOp, hk] <;> first | (intro h; omega) | rfl | skip
  · rename_i a b
    obtain rfl := RepV.sc hx
    obtain rfl := RepV.sc hy
    have hm : IntKind.i64.max = 9223372036854775807 := by decide
    refine ⟨strOp op a b, rfl, fun w' => ?_⟩
    cases op <;> simp only [strOk] at hk <;> simp [eqGuard, binOp, Op.stringOp, strOp, hm] <;> first | omega | skip
  · rename_i a b
    obtain rfl := RepV.sc hx
    obtain rfl := RepV.sc hy
    obtain ⟨hz, hkd, hop⟩ := hk
    obtain ⟨i, d, z, h1, h2, h3, h4, h5, h6, h7, h8, h9, h10, _⟩ := (hP.ty t hz).ex
    rw [hkd] at h8
    obtain rfl : d = .bool := h8
    have he : ∀ w', (Op.equal t (.bool a) (.bool b)).run P w' = .ok (a == b) w' := fun w' => run_equalIn_bool' w' 9999 t a b h4
    rcases hop with rfl | rfl
    · exact ⟨.bool (a == b), rfl, fun w' => by simp [eqGuard, binOp, he]⟩
    · exact ⟨.bool (!(a == b)), rfl, fun w' => by simp [eqGuard, binOp, he]⟩
  · rename_i xs ys
    obtain ⟨vs, rfl, hvs, hv⟩ := hx
    obtain ⟨us, rfl, hus, hu⟩ := hy
    obtain ⟨hz, heq, hok, hop⟩ := hk
    obtain ⟨i, d, z, h1, h2, h3, h4, h5, h6, h7, h8, h9, h10, _⟩ := (hP.ty t hz).ex
    obtain ⟨e1, e2, fields, rfl, e3, e4⟩ := h10 heq
    have hf : P.fieldsOf t = fields := by simp [Program.fieldsOf, h4]
    have he : ∀ w', (Op.equalIn 10000 t (.agg vs) (.agg us)).run P w' = .ok (eqCells xs ys) w' := fun w' => by
      rw [run_equalIn_struct w' 9999 t vs us (by rw [hf]; exact h4) e1, hf]
      exact eqFields_ok fields.toList _ xs ys 0 vs us (by simp [e3]) (fun j f hj => by simpa using e4 j f (by simpa using hj)) (fun j y hj => by simpa using hv j y hj) (fun j y hj => by simpa using hu j y hj) hok 9998 w'
    rcases hop with rfl | rfl
    · exact ⟨.bool (eqCells xs ys), rfl, fun w' => by simp [run_eqGuard_agg, run_eql_struct, he, e2]⟩
    · exact ⟨.bool (!(eqCells xs ys)), rfl, fun w' => by simp [run_eqGuard_agg, run_neq_struct, he, e2]⟩
  · exact hk.elim
end
end Go.AM
end
