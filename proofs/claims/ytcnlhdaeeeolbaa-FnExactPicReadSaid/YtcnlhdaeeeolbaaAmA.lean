/- An abstract machine over the model's code: abstract values, states, and what an operation does to them. Conditions: none. -/
import Derived.WalkKit
import Derived.OrdersHeld
import Derived.Below
set_option linter.unusedSimpArgs false
set_option linter.unusedVariables false
namespace Go.AM
open Go

/-- Abstract values. -/
inductive AV where
  | sc (v : Value)
  | fz (sz : Nat) (xs : List (List AV))
  | fp (sz : Nat) (xs : List (List AV)) (i k : Nat)
  | sl (L off len : Nat)
  | pa (L i k : Nat)
  | pt (L k : Nat)
  | clo (n : Nat) (ps : List (Nat × Nat))
  | agg (cs : List AV)
  | tup (vs : List AV)
  | opt (b : Bool) (x : AV)
  | own (sz : Nat) (xs : List (List AV))
  | junk

/-- Abstract objects. -/
inductive AO where
  | arr (own : Bool) (sz : Nat) (xs : List (List AV))
  | rc (cs : List AV)
  | nst (sz : Nat) (xs : List (List AV)) (op : Option (Nat × List AV))
  | dead

/-- Rows: their elements' size, and how many they are. -/
def AO.al : AO → Option (Nat × Nat)
  | .arr _ s xs => some (s, xs.length)
  | .nst s xs _ => some (s, xs.length)
  | _ => none

/-- Kinds of types. -/
inductive TK where
  | int (k : IntKind)
  | bool
  | str
  | flt (k : FloatKind)
  | slice (e : Nat)
  | struct (fs : List (Nat × Nat))
  | array (n e : Nat)
  | other

/-- What is known of a type. -/
structure TI where
  sz : Nat
  bytes : Nat
  agg : Bool
  zero : List AV
  kind : TK
  eq : Bool := false
  ftys : List Nat := []

abbrev Env := List (Nat × AV)

def lk : Env → Nat → AV
  | [], _ => .junk
  | (k, x) :: r, t => if k = t then x else lk r t

def upd (e : Env) (t : Nat) (v : AV) : Env := (t, v) :: e

def put (e : Env) : Option Nat → AV → Env
  | none, _ => e
  | some d, v => upd e d v

structure St where
  env : Env
  os : List AO

/-- What stays the same in one activation. -/
structure Cx where
  T : Nat → TI
  G : Nat → AV

def ev (c : Cx) (e : Env) : Operand → AV
  | .tmp t => lk e t
  | .const v => .sc v
  | .global g => c.G g
  | .func f => .sc (.func (.func f) #[] #[])

/-- The cells of a value. -/
def cellsOf : AV → List AV
  | .agg cs => cs
  | x => [x]

/-- The row of cells behind an address, from there on to its element's end. -/
def rowAt (os : List AO) : AV → List AV
  | .pt L k => match os[L]? with
    | some (.rc cs) => cs.drop k
    | _ => []
  | .pa L i k => match os[L]? with
    | some (.arr _ _ xs) => (xs.getD i []).drop k
    | some (.nst _ _ (some (j, row))) => if i = j then row.drop k else []
    | _ => []
  | .fp _ xs i k => (xs.getD i []).drop k
  | _ => []

def loadV0 (ti : TI) (row : List AV) : AV :=
  if ti.agg then .agg (row.take ti.sz) else row.headD .junk

/-- The whole number, the bool, the text of a value. -/
def numA : AV → Int
  | .sc (.int _ n) => n
  | _ => 0

def boolA : AV → Bool
  | .sc (.bool b) => b
  | _ => false

def strA : AV → ByteArray
  | .sc (.string s) => s
  | _ => .empty

/-- A value as one of its type, by the type's zero. -/
def asLike : AV → AV → AV
  | .sc (.int k _), x => .sc (.int k (numA x))
  | .sc (.bool _), x => .sc (.bool (boolA x))
  | .sc (.string _), x => .sc (.string (strA x))
  | _, x => x

def like : AV → AV → Prop
  | .sc (.int k _), x => match x with
    | .sc (.int k' _) => k' = k
    | _ => False
  | .sc (.bool _), x => match x with
    | .sc (.bool _) => True
    | _ => False
  | .sc (.string _), x => match x with
    | .sc (.string _) => True
    | _ => False
  | _, _ => True

def eta : List AV → List AV → List AV
  | [], _ => []
  | z :: zs, row => asLike z (row.headD .junk) :: eta zs row.tail

def likeAll : List AV → List AV → Prop
  | [], _ => True
  | _ :: _, [] => False
  | z :: zs, x :: xs => like z x ∧ likeAll zs xs

def loadV (ti : TI) (row : List AV) : AV :=
  if ti.agg then .agg (eta ti.zero row) else asLike (ti.zero.headD .junk) (row.headD .junk)

def fieldOff (ti : TI) (f : Nat) : Nat × Nat := match ti.kind with
  | .struct fs => fs.getD f (0, 0)
  | _ => (0, 0)

def addOff (x : AV) (n : Nat) : AV := match x with
  | .pt L k => .pt L (k + n)
  | .pa L i k => .pa L i (k + n)
  | .fp sz xs i k => .fp sz xs i (k + n)
  | _ => .junk

def isAddr (os : List AO) : AV → Bool
  | .pt L _ => match os[L]? with
    | some (.rc _) => true
    | _ => false
  | .pa L _ _ => match os[L]? with
    | some (.arr ..) => true
    | some (.nst ..) => true
    | _ => false
  | .fp .. => true
  | _ => false

/-- Whole numbers: what an operator makes of two. -/
def intOp (op : BinOp) (k : IntKind) (a b : Int) : Value := match op with
  | .add => .int k (k.wrap (a + b))
  | .sub => .int k (k.wrap (a - b))
  | .mul => .int k (k.wrap (a * b))
  | .quo => .int k (k.wrap (a.tdiv b))
  | .rem => .int k (a.tmod b)
  | .and => .int k (k.wrap (BitVec.ofInt k.bits a &&& BitVec.ofInt k.bits b).toNat)
  | .or => .int k (k.wrap (BitVec.ofInt k.bits a ||| BitVec.ofInt k.bits b).toNat)
  | .xor => .int k (k.wrap (BitVec.ofInt k.bits a ^^^ BitVec.ofInt k.bits b).toNat)
  | .andNot => .int k (k.wrap (BitVec.ofInt k.bits a &&& ~~~(BitVec.ofInt k.bits b)).toNat)
  | .shl => .int k (k.wrap (a * 2 ^ (min b.toNat k.bits)))
  | .shr => .int k (a.fdiv (2 ^ (min b.toNat k.bits)))
  | .eql => .bool (a == b)
  | .neq => .bool (a != b)
  | .lss => .bool (decide (a < b))
  | .leq => .bool (decide (a ≤ b))
  | .gtr => .bool (decide (a > b))
  | .geq => .bool (decide (a ≥ b))

def intOk (op : BinOp) (k k' : IntKind) (b : Int) : Prop := match op with
  | .quo | .rem => k = k' ∧ b ≠ 0
  | .shl | .shr => 0 ≤ b
  | _ => k = k'

/-- Texts. -/
def strOp (op : BinOp) (a b : ByteArray) : Value := match op with
  | .add => .string (a ++ b)
  | .eql => .bool (a.toList == b.toList)
  | .neq => .bool (!(a.toList == b.toList))
  | .lss => .bool (Op.bytesLess a.toList b.toList)
  | .leq => .bool (Op.bytesLess a.toList b.toList || a.toList == b.toList)
  | .gtr => .bool (!(Op.bytesLess a.toList b.toList || a.toList == b.toList))
  | .geq => .bool (!(Op.bytesLess a.toList b.toList))
  | _ => undef

def strOk (op : BinOp) (a b : ByteArray) : Prop := match op with
  | .add => a.size + b.size ≤ 9223372036854775807
  | .eql | .neq | .lss | .leq | .gtr | .geq => True
  | _ => False

/-- '==' of two lists of cells: whole numbers and bools. -/
def eqCell : AV → AV → Bool
  | .sc (.int _ a), .sc (.int _ b) => a == b
  | .sc (.bool a), .sc (.bool b) => a == b
  | _, _ => false

def eqCells : List AV → List AV → Bool
  | [], [] => true
  | a :: as, b :: bs => eqCell a b && eqCells as bs
  | _, _ => false

/-- What an operator makes of two values, and when. -/
def binA (op : BinOp) : AV → AV → AV
  | .sc (.int k a), .sc (.int _ b) => .sc (intOp op k a b)
  | .sc (.string a), .sc (.string b) => .sc (strOp op a b)
  | .sc (.bool a), .sc (.bool b) => match op with
    | .eql => .sc (.bool (a == b))
    | .neq => .sc (.bool (!(a == b)))
    | _ => .junk
  | .agg xs, .agg ys => match op with
    | .eql => .sc (.bool (eqCells xs ys))
    | .neq => .sc (.bool (!(eqCells xs ys)))
    | _ => .junk
  | _, _ => .junk

/-- Cells that can be held against each other. -/
def eqOk : List AV → List AV → List AV → Prop
  | [], [], [] => True
  | .sc (.int _ _) :: zs, .sc (.int k _) :: as, .sc (.int k' _) :: bs => k = k' ∧ eqOk zs as bs
  | .sc (.bool _) :: zs, .sc (.bool _) :: as, .sc (.bool _) :: bs => eqOk zs as bs
  | _, _, _ => False

def binOk (ti : TI) (op : BinOp) : AV → AV → Prop
  | .sc (.int k _), .sc (.int k' b) => intOk op k k' b
  | .sc (.string a), .sc (.string b) => strOk op a b
  | .sc (.bool _), .sc (.bool _) => 0 < ti.sz ∧ ti.kind = .bool ∧ (op = .eql ∨ op = .neq)
  | .agg xs, .agg ys => 0 < ti.sz ∧ ti.eq = true ∧ eqOk ti.zero xs ys ∧ (op = .eql ∨ op = .neq)
  | _, _ => False

def unA (op : UnOp) : AV → AV
  | .sc (.int k n) => match op with
    | .neg => .sc (intOp .sub k 0 n)
    | .xor => .sc (intOp .xor k (if k.signed then -1 else k.max) n)
    | _ => .junk
  | .sc (.bool b) => match op with
    | .not => .sc (.bool (!b))
    | _ => .junk
  | _ => .junk

def unOk (op : UnOp) : AV → Prop
  | .sc (.int _ _) => op = .neg ∨ op = .xor
  | .sc (.bool _) => op = .not
  | _ => False

/-- How long a slice or a text is. -/
def lenA : AV → Nat
  | .fz _ xs => xs.length
  | .sl _ _ n => n
  | .sc (.string s) => s.size
  | _ => 0

def lenOk (os : List AO) : AV → Prop
  | .fz .. => True
  | .sl L _ _ => match os[L]? with
    | some (.arr ..) => True
    | some (.nst ..) => True
    | _ => False
  | .sc (.string _) => True
  | .sc (.slice none 0 0) => True
  | _ => False

/-- The elements of a slice. -/
def elems (os : List AO) : AV → List (List AV)
  | .fz _ xs => xs
  | .sl L off n => match os[L]? with
    | some (.arr _ _ xs) => (xs.drop off).take n
    | some (.nst ..) => [[.junk]]
    | _ => []
  | _ => []

def esz (os : List AO) : AV → Nat
  | .fz s _ => s
  | .sl L _ _ => match os[L]? with
    | some (.arr _ s _) => s
    | some (.nst s _ _) => s
    | _ => 0
  | _ => 0

/-- Bytes as a text. -/
def bstr (l : List Int) : ByteArray := ⟨(l.map fun n => UInt8.ofNat n.toNat).toArray⟩

def hdA : List AV → Int
  | x :: _ => numA x
  | [] => 0

def strOf (xs : List (List AV)) : ByteArray := bstr (xs.map hdA)

def byteRow : List AV → Prop
  | [.sc (.int .u8 _)] => True
  | _ => False

def convA (os : List AO) (src dst : TK) : AV → AV
  | .sc (.int _ n) => match dst with
    | .int k => .sc (.int k (k.wrap n))
    | _ => .junk
  | .sc (.string s) => match dst with
    | .str => .sc (.string s)
    | _ => .junk
  | x => match dst with
    | .str => .sc (.string (strOf (elems os x)))
    | _ => .junk

def isNum : AV → Prop
  | .sc (.int _ _) => True
  | _ => False

/-- The address of an element. -/
def idxA (x : AV) (i : Int) : AV := match x with
  | .fz s xs => .fp s xs i.toNat 0
  | .sl L off _ => .pa L (off + i.toNat) 0
  | _ => .junk

def strAt (s : ByteArray) (i : Int) : Value := .int .u8 ((s.data.toList.getD i.toNat 0).toNat : Int)

def optN (c : Cx) (e : Env) (x : Option Operand) (d : Int) : Int := match x with
  | some o => numA (ev c e o)
  | none => d

def optIs (c : Cx) (e : Env) : Option Operand → Prop
  | some o => isNum (ev c e o)
  | none => True

/-- A part of a slice or a text. -/
def cutA (x : AV) (l h : Int) : AV := match x with
  | .fz s xs => .fz s ((xs.take h.toNat).drop l.toNat)
  | .sl L off _ => .sl L (off + l.toNat) (h.toNat - l.toNat)
  | .sc (.string s) => .sc (.string (s.extract l.toNat h.toNat))
  | .sc (.slice none 0 0) => .sc (.slice none 0 0)
  | _ => .junk

/-- Parts laid into cells. -/
def fillA (place : Nat → Option (Nat × Nat)) (cells : List AV) : List (Nat × AV) → Option (List AV)
  | [] => some cells
  | (i, v) :: rest => match place i with
    | none => none
    | some (off, size) =>
      if (cellsOf v).length ≠ size ∨ off + size > cells.length then none
      else fillA place (cells.take off ++ cellsOf v ++ cells.drop (off + size)) rest

def strip : AV → AV
  | .opt _ x => x
  | x => x

def stripOk (g : Bool) : AV → Prop
  | .opt b _ => g = true → b = true
  | _ => True

def selB (t : Bool) : AV → AV → AV
  | .sc (.bool x), .sc (.bool y) => .sc (.bool (bif t then x else y))
  | x, y => if t = true then x else y

def selA (c a b : AV) : AV := match strip c with
  | .sc (.bool t) => selB t (strip a) (strip b)
  | _ => .junk

def selOk (c a b : AV) : Prop := match strip c with
  | .sc (.bool t) => stripOk true c ∧ (t = true → stripOk true a) ∧ (t = false → stripOk true b)
  | _ => False

theorem selB_eq (t : Bool) (x y : AV) : selB t x y = if t = true then x else y := by
  unfold selB
  split
  · cases t <;> rfl
  · rfl

end Go.AM
namespace Go.AM
open Go

/-- Empty slices. -/
def isNil : AV → Bool
  | .sc (.slice none 0 0) => true
  | _ => false

/-- A value as it is put into an array's cell: a slice of ours becomes one that nobody writes any more. -/
def frz (os : List AO) : AV → AV
  | .sl L off n => .fz (esz os (.sl L off n)) (elems os (.sl L off n))
  | x => x

def frzOk (os : List AO) : AV → Prop
  | .sc v => v.oneCell' = true
  | .fz .. => True
  | .sl L _ _ => match os[L]? with
    | some (.arr ..) => True
    | _ => False
  | _ => False

def unown (os : List AO) : AV → List AO
  | .sl L _ _ => match os[L]? with
    | some (.arr _ s xs) => os.set L (.arr false s xs)
    | _ => os
  | _ => os

def unownAll (os : List AO) : List AV → List AO
  | [] => os
  | x :: r => unownAll (unown os x) r

/-- A value as it is put into a record's cell. -/
def recOk (os : List AO) : AV → Prop
  | .sc v => v.oneCell' = true
  | .fz .. => True
  | .sl L _ _ => match os[L]? with
    | some (.arr ..) => True
    | _ => False
  | .pt L _ => match os[L]? with
    | some (.rc _) => True
    | _ => False
  | _ => False

def allP {α : Type} (p : α → Prop) : List α → Prop
  | [] => True
  | x :: r => p x ∧ allP p r

def setCells (cs : List AV) (k : Nat) (vs : List AV) : List AV := cs.take k ++ vs ++ cs.drop (k + vs.length)

/-- What is stored, and when. -/
def storeA (os : List AO) (a : AV) (vs : List AV) : List AO := match a with
  | .pt L k => match os[L]? with
    | some (.rc cs) => os.set L (.rc (setCells cs k vs))
    | _ => os
  | .pa L i k => match os[L]? with
    | some (.arr true s xs) => (unownAll os vs).set L (.arr true s (xs.set i (setCells (xs.getD i []) k (vs.map (frz os)))))
    | some (.nst s xs (some (j, row))) => os.set L (.nst s xs (some (j, setCells row k vs)))
    | _ => os
  | _ => os

def notSl (L : Nat) : AV → Prop
  | .sl M _ _ => M ≠ L
  | _ => True

def storeOk (os : List AO) (a : AV) (vs : List AV) : Prop := match a with
  | .pt L k => match os[L]? with
    | some (.rc cs) => k + vs.length ≤ cs.length ∧ allP (recOk os) vs
    | _ => False
  | .pa L i k => match os[L]? with
    | some (.arr true _ xs) => i < xs.length ∧ k + vs.length ≤ (xs.getD i []).length ∧ allP (frzOk os) vs ∧ allP (notSl L) vs
    | some (.nst _ _ (some (j, row))) => i = j ∧ k + vs.length ≤ row.length ∧ allP (recOk os) vs
    | _ => False
  | _ => False

def touched : AV → List Nat
  | .pt L _ => [L]
  | .pa L _ _ => [L]
  | .sl L _ _ => [L]
  | _ => []

/-- A literal's elements. -/
def litElems (ti : TI) : Nat → List (Nat × AV) → List (List AV)
  | 0, _ => []
  | n + 1, ps => litElems ti n ps ++ [match ps.lookup n with | some v => cellsOf v | none => ti.zero]

def litOk (os : List AO) (ti : TI) (n : Nat) : List (Nat × AV) → Prop
  | [] => True
  | (i, v) :: r => i < n ∧ (cellsOf v).length = ti.sz ∧ allP (frzOk os) (cellsOf v) ∧ r.lookup i = none ∧ litOk os ti n r

/-- Whether a slice can be added to, and what it leaves of what it was. -/
def appBase (os : List AO) (s : AV) : Prop := match s with
  | .sc (.slice none 0 0) => True
  | .sl L off _ => off = 0 ∧ (match os[L]? with
    | some (.arr true _ _) => True
    | _ => False)
  | _ => False

def kill (os : List AO) (s : AV) : List AO := match s with
  | .sl L _ _ => os.set L .dead
  | _ => os

def strElems (s : ByteArray) : List (List AV) := s.data.toList.map fun b => [.sc (.int .u8 b.toNat)]

/-- What is added. -/
def appNew (os : List AO) : AV → List (List AV)
  | .sc (.string s) => strElems s
  | x => elems os x

def appNewOk (os : List AO) (sz : Nat) : AV → Prop
  | .sc (.string _) => sz = 1
  | .sc (.slice none 0 0) => True
  | .fz s xs => s = sz ∨ xs = []
  | .sl L off n => match os[L]? with
    | some (.arr _ s _) => s = sz
    | _ => False
  | _ => False

/-- The names in a value. -/
def names : AV → List Nat
  | .sl L _ _ => [L]
  | .pt L _ => [L]
  | .pa L _ _ => [L]
  | _ => []

/-- Where a name stands in a list. -/
def pos : List Nat → Nat → Option Nat
  | [], _ => none
  | a :: r, t => if a = t then some 0 else match pos r t with
    | some j => some (j + 1)
    | none => none

/-- Names and places, told by places in a list. -/
def posAll (ks : List Nat) : List (Nat × Nat) → Option (List (Nat × Nat))
  | [] => some []
  | p :: r => match pos ks p.1, posAll ks r with
    | some j, some q => some ((j, p.2) :: q)
    | _, _ => none

/-- A row of an array of ours as one that nobody writes any more. -/
def unO : AV → AV
  | .own s xs => .fz s xs
  | x => x

/-- An object's rows as rows that nobody writes any more. -/
def AO.fzr : AO → Option (Nat × List (List AV))
  | .arr _ s xs => some (s, xs)
  | .nst s xs none => some (s, xs.map fun x => x.map unO)
  | _ => none

/-- A value when only the names of 'ks' are kept: what is kept is told by its place in 'ks', what else is ours is told as nobody's. -/
def viewC (ks : List Nat) (os : List AO) : AV → AV
  | .sl L off n => match pos ks L with
    | some j => .sl j off n
    | none => match os[L]? with
      | some (.arr _ s xs) => .fz s ((xs.drop off).take n)
      | some (.nst s xs none) => .fz s (((xs.map fun x => x.map unO).drop off).take n)
      | _ => .junk
  | .pt L k => match pos ks L with
    | some j => .pt j k
    | none => .junk
  | .clo n ps => match posAll ks ps with
    | some q => .clo n q
    | none => .junk
  | .pa L i k => match pos ks L with
    | some j => .pa j i k
    | none => match os[L]? with
      | some (.arr _ s xs) => .fp s xs i k
      | _ => .junk
  | .sc v => .sc v
  | .fz s xs => .fz s xs
  | .fp s xs i k => .fp s xs i k
  | _ => .junk

def viewA (ks : List Nat) (os : List AO) : AV → AV
  | .agg cs => .agg (cs.map (viewC ks os))
  | x => viewC ks os x

def viewV (ks : List Nat) (os : List AO) : AV → AV
  | .tup vs => .tup (vs.map (viewA ks os))
  | .opt b x => .opt b (viewA ks os x)
  | x => viewA ks os x

def viewO (ks : List Nat) (os : List AO) : AO → AO
  | .rc cs => .rc (cs.map (viewC ks os))
  | .nst s xs (some (j, row)) => .nst s xs (some (j, row.map (viewC ks os)))
  | o => o

/-- What a name stands for that is none: a row that holds nothing, or nothing. -/
def virt (L : Nat) : AO := if 3000000 ≤ L then .nst ((L - 3000000) % 1000 + 1) [] none else if 2000000 ≤ L then .arr true ((L - 2000000) % 1000 + 1) [] else .dead

def viewS (ks : List Nat) (os : List AO) : List AO := ks.map fun L => viewO ks os (os.getD L (virt L))

/-- A state when only the names of 'ks' and the places of 'ts' are kept. -/
def viewSt (ts ks : List Nat) (st : St) : St := ⟨ts.map fun t => (t, viewV ks st.os (lk st.env t)), viewS ks st.os⟩

def nodupN : List Nat → Bool
  | [] => true
  | a :: r => (pos r a).isNone && nodupN r

def fromN : Nat → Nat → List Nat → Bool
  | _, 0, _ => true
  | i, n + 1, a :: r => (a == i || (Nat.ble 1000000 a && Nat.ble a 1999999)) && fromN (i + 1) n r
  | _, _ + 1, [] => false

/-- Which names may be kept: the first 'nl', in their order (or a name of nothing in the place of one that is given up), and others. -/
def keepOk (nl : Nat) (ks : List Nat) : Bool := fromN 0 nl ks && nodupN ks

def keepP (nl : Nat) (ks : List Nat) (os : List AO) : Prop := keepOk nl ks = true ∧ os.length ≤ 1000000

/-- A callee's names as ours. -/
def renC (f : Nat → Nat) : AV → AV
  | .sl L off n => .sl (f L) off n
  | .pt L k => .pt (f L) k
  | .pa L i k => .pa (f L) i k
  | .clo n ps => .clo n (ps.map fun p => (f p.1, p.2))
  | x => x

def renA (f : Nat → Nat) : AV → AV
  | .agg cs => .agg (cs.map (renC f))
  | x => renC f x

def renV (f : Nat → Nat) : AV → AV
  | .tup vs => .tup (vs.map (renA f))
  | .opt b x => .opt b (renA f x)
  | x => renA f x

def renO (f : Nat → Nat) : AO → AO
  | .rc cs => .rc (cs.map (renC f))
  | .nst s xs (some (j, row)) => .nst s xs (some (j, row.map (renC f)))
  | o => o

def backN (lend : List Nat) (n : Nat) (j : Nat) : Nat := match lend[j]? with
  | some L => L
  | none => n + (j - lend.length)

def putAll (os : List AO) : List Nat → List AO → List AO
  | L :: r, o :: s => putAll (os.set L o) r s
  | _, _ => os

/-- Our objects behind a call. -/
def merge (lend : List Nat) (os : List AO) (os' : List AO) : List AO :=
  putAll os lend (os'.map (renO (backN lend os.length))) ++ (os'.drop lend.length).map (renO (backN lend os.length))

/-- The names that a value shows without keeping them. -/
def shownC (ks : List Nat) : AV → List Nat
  | .sl L _ _ => if (pos ks L).isSome then [] else [L]
  | .pa L _ _ => if (pos ks L).isSome then [] else [L]
  | _ => []

def shownA (ks : List Nat) : AV → List Nat
  | .agg cs => cs.flatMap (shownC ks)
  | x => shownC ks x

def shownV (ks : List Nat) : AV → List Nat
  | .tup vs => vs.flatMap (shownA ks)
  | .opt _ x => shownA ks x
  | x => shownA ks x

def shownO (ks : List Nat) : AO → List Nat
  | .rc cs => cs.flatMap (shownC ks)
  | .nst _ _ (some (_, row)) => row.flatMap (shownC ks)
  | _ => []

def shownAll (ks : List Nat) (os : List AO) (vs : List AV) : List Nat := vs.flatMap (shownV ks) ++ ks.flatMap fun L => shownO ks (os.getD L .dead)

def unownN (os : List AO) : List Nat → List AO
  | [] => os
  | L :: r => unownN (match os[L]? with | some (.arr _ s xs) => os.set L (.arr false s xs) | some (.nst s xs none) => os.set L (.arr false s (xs.map fun x => x.map unO)) | _ => os) r

/-- No slice of nobody's in it. -/
def noFz0 : AV → Prop
  | .fz _ xs => xs = []
  | .fp .. => False
  | .own .. => False
  | _ => True

def noFzC : AV → Prop
  | .fz _ xs => xs = []
  | .fp .. => False
  | .own _ ys => allP (allP noFz0) ys
  | _ => True

def noFzA : AV → Prop
  | .agg cs => allP noFzC cs
  | x => noFzC x

def noFzV : AV → Prop
  | .tup vs => allP noFzA vs
  | .opt _ x => noFzA x
  | x => noFzA x

def noFzO : AO → Prop
  | .arr true _ xs => allP (allP noFzC) xs
  | .arr false _ _ => False
  | .rc cs => allP noFzC cs
  | .nst _ xs none => allP (allP noFzC) xs
  | .nst .. => False
  | .dead => True

def isOwn : Option AO → Prop
  | some (AO.arr true _ _) => True
  | some (AO.rc _) => True
  | some (AO.nst ..) => True
  | _ => False

def own (os : List AO) (L : Nat) : Prop := isOwn os[L]?

def isIntK : TK → Bool
  | .int _ => true
  | _ => false

def isSlK : TK → Prop
  | .slice _ => True
  | _ => False

def convOk (os : List AO) (src dst : TK) (et : TI) : AV → Prop
  | .sc (.int _ _) => match dst with
    | .int _ => True
    | _ => False
  | .sc (.string _) => match dst with
    | .str => True
    | _ => False
  | x => isSlK src ∧ dst = .str ∧ 0 < et.sz ∧ et.kind = .int .u8 ∧ lenOk os x ∧ (elems os x = [] ∨ esz os x = 1) ∧ allP byteRow (elems os x)

end Go.AM
