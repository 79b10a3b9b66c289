/- An abstract machine over the model's code: operations, regions, code. Conditions: none. -/
import Derived.Test.YtcnlhdaeeeolbaaAmA
set_option linter.unusedSimpArgs false
set_option linter.unusedVariables false
namespace Go.AM
open Go

/-- What callees do: function, arguments, what is lent, and what holds behind it. -/
abbrev CTab := Nat → List AV → List AO → (AV → List AO → Prop) → Prop

def memN : List Nat → Nat → Bool
  | [], _ => false
  | a :: r, t => if a = t then true else memN r t

def isNilC : Operand → Bool
  | .const (.slice none 0 0) => true
  | _ => false

def isPure : Op → Bool
  | .binOp _ _ _ y _ => !isNilC y
  | .move _ | .assign _ | .pick .. | .build .. | .load .. | .nilCheck _ | .unOp .. | .convert .. | .slice .. | .fieldAddr .. | .indexAddr .. | .index .. | .extract .. | .field .. => true
  | .makeFunc (.func _) _ _ => true
  | .call { callee := .builtin .len, .. } => true
  | .call { callee := .builtin .cap, .. } => true
  | .call { callee := .builtin .max, .. } => true
  | .call { callee := .builtin .min, .. } => true
  | _ => false

def isLoad : Op → Bool
  | .load .. => true
  | _ => false

def partsOf (c : Cx) (t : Nat) : Nat → Option (Nat × Nat) := fun i => match (c.T t).kind with
  | .struct fs => fs[i]?
  | .array n e => some (i * (c.T e).sz, (c.T e).sz)
  | _ => none

def elemOf (c : Cx) (t : Nat) : Nat := match (c.T t).kind with
  | .slice e => e
  | _ => 0

def isSliceT (c : Cx) (t : Nat) : Prop := match (c.T t).kind with
  | .slice _ => True
  | _ => False

/-- A cut's bounds. -/
def loOf (r : Operand → AV) : Option Operand → Int
  | some l => numA (r l)
  | none => 0

def hiOf (r : Operand → AV) (x : AV) : Option Operand → Int
  | some h => numA (r h)
  | none => (lenA x : Int)

/-- The greater, the lesser of two. -/
def mxI (x y : Int) : Int := if y > x then y else x
def mnI (x y : Int) : Int := if y < x then y else x
def kN : AV → IntKind
  | .sc (.int k _) => k
  | _ => .i64
def foldA (f : Int → Int → Int) (r : Operand → AV) : List Operand → AV
  | [] => .junk
  | x :: l => .sc (.int (kN (r x)) (l.foldl (fun m y => f m (numA (r y))) (numA (r x))))

/-- A field of a value. -/
def partA (ti : TI) (cs : List AV) (off : Nat) : AV := if ti.agg = true then .agg ((cs.drop off).take ti.sz) else cs.getD off .junk
def fldA (c : Cx) (t f : Nat) : AV → AV
  | .agg cs => partA (c.T ((c.T t).ftys.getD f 0)) cs (fieldOff (c.T t) f).1
  | _ => .junk
def isStructK : TK → Prop
  | .struct _ => True
  | _ => False
def fldOk (c : Cx) (t f : Nat) : AV → Prop
  | .agg cs => 0 < (c.T t).sz ∧ f < (c.T t).ftys.length ∧ isStructK (c.T t).kind ∧ 0 < (c.T ((c.T t).ftys.getD f 0)).sz ∧ (fieldOff (c.T t) f).1 + (c.T ((c.T t).ftys.getD f 0)).sz ≤ cs.length
  | _ => False

/-- Captured variables. -/
def ptsOf : List AV → Option (List (Nat × Nat))
  | [] => some []
  | .pt L k :: r => match ptsOf r with
    | some q => some ((L, k) :: q)
    | none => none
  | _ => none

def cloA (n : Nat) (xs : List AV) : AV := match ptsOf xs with
  | some ps => .clo n ps
  | none => .junk
def cloOk (os : List AO) (xs : List AV) : Prop := (ptsOf xs).isSome = true ∧ allP (fun x => isAddr os x = true) xs

/-- What a quiet operation leaves. -/
def pureA (c : Cx) (os : List AO) (r : Operand → AV) : Op → AV
  | .move x | .assign x => r x
  | .pick a x y => selA (r a) (r x) (r y)
  | .build t ps => match fillA (partsOf c t) (c.T t).zero (ps.toList.map fun p => (p.1, r p.2)) with
    | some cs => .agg cs
    | none => .junk
  | .load t a => loadV (c.T t) (rowAt os (r a))
  | .nilCheck x => r x
  | .binOp op _ x y _ => binA op (r x) (r y)
  | .unOp op _ x => unA op (r x)
  | .convert s d x => convA os (c.T s).kind (c.T d).kind (r x)
  | .slice _ x lo hi _ => cutA (r x) (loOf r lo) (hiOf r (r x) hi)
  | .fieldAddr s x f => addOff (r x) (fieldOff (c.T s) f).1
  | .indexAddr _ x i => idxA (r x) (numA (r i))
  | .index _ x i => match r x with
    | .sc (.string s) => .sc (strAt s (numA (r i)))
    | _ => .junk
  | .extract t i => match r t with
    | .tup vs => vs.getD i .junk
    | _ => .junk
  | .field t x f => fldA c t f (r x)
  | .makeFunc (.func n) _ cs => cloA n (cs.toList.map r)
  | .call { callee := .builtin .len, args, .. } => match args[0]? with
    | some x => .sc (.int .i64 (lenA (r x)))
    | none => .junk
  | .call { callee := .builtin .cap, .. } => .sc (.int .i64 0)
  | .call { callee := .builtin .max, args, .. } => foldA mxI r args.toList
  | .call { callee := .builtin .min, args, .. } => foldA mnI r args.toList
  | _ => .junk

def numOk : Option AV → Prop
  | some x => isNum x
  | none => True

def isBuilt : TK → Prop
  | .struct _ | .array .. => True
  | _ => False

def cutTy (c : Cx) (os : List AO) (t : Nat) : AV → Prop
  | .sc (.string _) => (c.T t).kind = .str
  | .sc (.slice none 0 0) => isSliceT c t ∧ 0 < (c.T (elemOf c t)).sz
  | y => isSliceT c t ∧ 0 < (c.T (elemOf c t)).sz ∧ esz os y = (c.T (elemOf c t)).sz ∧ lenOk os y

def lenTy (c : Cx) (t : Nat) : AV → Prop
  | .sc (.string _) => (c.T t).kind = .str
  | _ => isSliceT c t

/-- A third place of a slice: as high as the second. -/
def mxOk (r : Operand → AV) (x : AV) (lo hi : Option Operand) : Option Operand → Prop
  | none => True
  | some m => lo = none ∧ (∃ h, hi = some h ∧ isNum (r m) ∧ isNum (r h) ∧ numA (r m) = numA (r h)) ∧ ∀ s, x ≠ .sc (.string s)

/-- When a quiet operation does so. -/
def pureOk (c : Cx) (os : List AO) (r : Operand → AV) : Op → Prop
  | .move _ | .assign _ => True
  | .pick a x y => selOk (r a) (r x) (r y)
  | .build t ps => 0 < (c.T t).sz ∧ isBuilt (c.T t).kind ∧ allP (fun p => allP (recOk os) (cellsOf (r p.2))) ps.toList ∧ (fillA (partsOf c t) (c.T t).zero (ps.toList.map fun p => (p.1, r p.2))).isSome = true
  | .load t a => isAddr os (r a) = true ∧ 0 < (c.T t).sz ∧ likeAll (c.T t).zero (rowAt os (r a))
  | .nilCheck x => isAddr os (r x) = true
  | .binOp op t x y _ => binOk (c.T t) op (r x) (r y)
  | .unOp op _ x => unOk op (r x)
  | .convert s d x => 0 < (c.T s).sz ∧ 0 < (c.T d).sz ∧ convOk os (c.T s).kind (c.T d).kind (c.T (elemOf c s)) (r x)
  | .slice t x lo hi mx => 0 < (c.T t).sz ∧ cutTy c os t (r x) ∧
      numOk (lo.map r) ∧ numOk (hi.map r) ∧ mxOk r (r x) lo hi mx ∧
      0 ≤ loOf r lo ∧ loOf r lo ≤ hiOf r (r x) hi ∧ hiOf r (r x) hi ≤ lenA (r x)
  | .fieldAddr s x f => 0 < (c.T s).sz ∧ isAddr os (r x) = true ∧ 0 < (fieldOff (c.T s) f).2
  | .indexAddr t x i => 0 < (c.T t).sz ∧ 0 < (c.T (elemOf c t)).sz ∧ isSliceT c t ∧ esz os (r x) = (c.T (elemOf c t)).sz ∧ lenOk os (r x) ∧ isNum (r i) ∧ 0 ≤ numA (r i) ∧ numA (r i) < lenA (r x)
  | .index t x i => match r x with
    | .sc (.string s) => 0 < (c.T t).sz ∧ (c.T t).kind = .str ∧ isNum (r i) ∧ 0 ≤ numA (r i) ∧ numA (r i) < s.size
    | _ => False
  | .extract t i => match r t with
    | .tup vs => i < vs.length
    | _ => False
  | .field t x f => fldOk c t f (r x)
  | .makeFunc _ fi cs => fi.toList = [] ∧ cloOk os (cs.toList.map r)
  | .call { callee := .builtin .len, args, argTypes } => match args[0]?, argTypes[0]? with
    | some x, some t => 0 < (c.T t).sz ∧ lenOk os (r x) ∧ lenTy c t (r x)
    | _, _ => False
  | .call { callee := .builtin .cap, args, argTypes } => match args[0]?, argTypes[0]? with
    | some x, some t => 0 < (c.T t).sz ∧ isSliceT c t ∧ r x = .sc (.slice none 0 0)
    | _, _ => False
  | .call { callee := .builtin .max, args, .. } => args.toList ≠ [] ∧ allP (fun x => isNum (r x)) args.toList
  | .call { callee := .builtin .min, args, .. } => args.toList ≠ [] ∧ allP (fun x => isNum (r x)) args.toList
  | _ => False

def seqT (c : Cx) : Option Nat → Prop
  | some u => 0 < (c.T u).sz ∧ (match (c.T u).kind with | .slice _ | .str => True | _ => False)
  | none => False

/-- A function that holds nothing. -/
def fnC : AV → Option (Nat × List AV)
  | .sc (.func (.func n) a b) => if a.size = 0 ∧ b.size = 0 then some (n, []) else none
  | .clo n ps => some (n, ps.map fun p => .pt p.1 p.2)
  | _ => none

theorem fnC_func (n : Nat) : fnC (.sc (.func (.func n) #[] #[])) = some (n, []) := rfl
theorem fnC_clo (n : Nat) (ps : List (Nat × Nat)) : fnC (.clo n ps) = some (n, ps.map fun p => .pt p.1 p.2) := rfl

def notStr : AV → Prop
  | .sc (.string _) => False
  | _ => True

def appBound : Nat := 140737488355328

/-- What an operation that is not quiet does. 'H': what it must leave alone. -/
def effA (c : Cx) (CT : CTab) (H : List Nat) (os : List AO) (r : Operand → AV) : Op → (AV → List AO → Prop) → Prop
  | .binOp op t x y _, K => isNilC y = true ∧ r y = .sc (.slice none 0 0) ∧ 0 < (c.T t).sz ∧ isSliceT c t ∧ (op = .eql ∨ op = .neq) ∧ lenOk os (r x) ∧ notStr (r x) ∧ ∀ b : Bool, (b = true → lenA (r x) = 0) → K (.sc (.bool (if op = .eql then b else !b))) os
  | .alloc t, K => 0 < (c.T t).sz ∧ K (.pt os.length 0) (os ++ [.rc (c.T t).zero])
  | .box t v, K => 0 < (c.T t).sz ∧ allP (recOk os) (cellsOf (r v)) ∧ K (.pt os.length 0) (os ++ [.rc (cellsOf (r v))])
  | .store t a v, K => 0 < (c.T t).sz ∧ (cellsOf (r v)).length = (c.T t).sz ∧ storeOk os (r a) (cellsOf (r v)) ∧ allP (fun L => memN H L = false) (names (r a)) ∧ K .junk (storeA os (r a) (cellsOf (r v)))
  | .buildSlice t n ps, K =>
    0 < (c.T t).sz ∧ isSliceT c t ∧ 0 < (c.T (elemOf c t)).sz ∧ n * (c.T (elemOf c t)).sz ≤ 16777216 ∧ litOk os (c.T (elemOf c t)) n (ps.toList.map fun p => (p.1, r p.2)) ∧
    K (.sl os.length 0 n) (unownAll os ((ps.toList.map fun p => (p.1, r p.2)).flatMap fun p => cellsOf p.2) ++
      [.arr true (c.T (elemOf c t)).sz ((litElems (c.T (elemOf c t)) n (ps.toList.map fun p => (p.1, r p.2))).map fun x => x.map (frz os))])
  | .makeSlice t l m, K =>
    0 < (c.T t).sz ∧ isSliceT c t ∧ 0 < (c.T (elemOf c t)).sz ∧ isNum (r l) ∧ isNum (r m) ∧ 0 ≤ numA (r l) ∧ numA (r l) ≤ numA (r m) ∧ (c.T (elemOf c t)).bytes * numA (r m) ≤ 281474976710656 ∧ numA (r m) ≤ 9223372036854775807 ∧
    K (.sl os.length 0 (numA (r l)).toNat) (os ++ [.arr true (c.T (elemOf c t)).sz (List.replicate (numA (r l)).toNat (c.T (elemOf c t)).zero)])
  | .call { callee := .builtin .append, args, argTypes }, K => match args.toList, argTypes.toList with
    | [s, x], [t, u] => if isIntK (c.T u).kind = true then
      0 < (c.T t).sz ∧ isSliceT c t ∧ 0 < (c.T (elemOf c t)).sz ∧ 0 < (c.T u).sz ∧ r s = .sc (.slice none 0 0) ∧ isNum (r x) ∧ 0 ≤ numA (r x) ∧ numA (r x) * ((c.T (elemOf c t)).bytes : Int) ≤ 140737488355328 ∧ numA (r x) ≤ 140737488355328 ∧
      (numA (r x) = 0 → K (.sc (.slice none 0 0)) os) ∧
      (¬ numA (r x) = 0 → K (.sl os.length 0 (numA (r x)).toNat) (os ++ [.arr true (c.T (elemOf c t)).sz (List.replicate (numA (r x)).toNat (c.T (elemOf c t)).zero)]))
      else
      0 < (c.T t).sz ∧ isSliceT c t ∧ 0 < (c.T (elemOf c t)).sz ∧ seqT c (some u) ∧ appBase os (r s) ∧ appNewOk os (c.T (elemOf c t)).sz (r x) ∧ (isNil (r s) = false → esz os (r s) = (c.T (elemOf c t)).sz) ∧
      ((elems os (r s) ++ appNew os (r x)).length * (c.T (elemOf c t)).bytes ≤ appBound) ∧ (elems os (r s) ++ appNew os (r x)).length ≤ appBound ∧ allP (fun L => memN H L = false) (names (r s)) ∧
      (isNil (r s) = true → elems os (r s) ++ appNew os (r x) = [] → K (.sc (.slice none 0 0)) os) ∧
      ((isNil (r s) = true → elems os (r s) ++ appNew os (r x) ≠ []) →
        K (.sl os.length 0 (elems os (r s) ++ appNew os (r x)).length) (kill os (r s) ++ [.arr true (c.T (elemOf c t)).sz (elems os (r s) ++ appNew os (r x))]))
    | _, _ => False
  | .call { callee := .value f, args, .. }, K => match fnC (r f) with
    | some (n, cs) => ∃ (lend : List Nat) (esc : Bool) (post : AV → List AO → Prop),
      CT n ((args.toList.map r ++ cs).map (viewV lend os)) (viewS lend os) post ∧ nodupN lend = true ∧ allP (fun L => own os L ∧ memN H L = false) lend ∧
      (∀ x σ', post x σ' → (esc = false → noFzV x ∧ allP noFzO σ') ∧
        K (renV (backN lend os.length) x) (merge lend (if esc = true then unownN os (shownAll lend os (args.toList.map r ++ cs)) else os) σ'))
    | none => False
  | _, _ => False

inductive Ex where
  | normal
  | exit (id : Nat)
  | ret

/-- Is an operation wanted? -/
def guardA (ops : Array Oper) (e : Env) (j : Nat) (want : Bool) : Option Bool :=
  match (ops[j]?).bind (·.dst) with
  | some t => match lk e t with
    | .sc (.bool b) => some (b == want)
    | .opt g (.sc (.bool b)) => some (g && (b == want))
    | .opt false _ => some false
    | _ => none
  | none => none

def plain : AV → Prop
  | .tup _ | .opt _ _ => False
  | _ => True

def offA : AV := .opt false (.sc (.bool false))

def operOk (c : Cx) (e : Env) (g : Bool) : Op → Prop
  | .pick .. => True
  | o => allP (fun x => stripOk g (ev c e x)) o.operands.toList

/-- The operands of a guarded operation. -/
def gev (c : Cx) (e : Env) : Op → Operand → AV
  | .pick .. => ev c e
  | _ => fun x => strip (ev c e x)

/-- One operation. -/
def stepA (c : Cx) (CT : CTab) (H : List Nat) (ops : Array Oper) (o : Oper) (st : St) (K : St → Prop) : Prop :=
  match o.guard with
  | none =>
    if isPure o.op then pureOk c st.os (ev c st.env) o.op ∧ K ⟨put st.env o.dst (pureA c st.os (ev c st.env) o.op), st.os⟩
    else effA c CT H st.os (ev c st.env) o.op fun v os => K ⟨put st.env o.dst v, os⟩
  | some (j, want) => match guardA ops st.env j want with
    | none => False
    | some g =>
      if isPure o.op then (g = true → operOk c st.env g o.op ∧ pureOk c st.os (gev c st.env o.op) o.op ∧ plain (pureA c st.os (gev c st.env o.op) o.op)) ∧
        K ⟨put st.env o.dst (.opt g (pureA c st.os (gev c st.env o.op) o.op)), st.os⟩
      else (g = true → operOk c st.env g o.op ∧ effA c CT H st.os (gev c st.env o.op) o.op fun v os => K ⟨put st.env o.dst v, os⟩) ∧
        (g = false → K ⟨put st.env o.dst offA, st.os⟩)

def opsA (c : Cx) (CT : CTab) (ops : Array Oper) : List Oper → St → (St → Prop) → Prop
  | [], st, K => K st
  | o :: r, st, K => stepA c CT [] ops o st fun st' => opsA c CT ops r st' K

/-- In which order a region is walked. -/
inductive Plan where
  | done
  | take (i : Nat) (p : Plan)
  | one (i : Nat) (p : Plan)
  | two (i j : Nat) (p q : Plan)
  | last (i : Nat) (p : Plan)

/-- An operation that waits for all loads. -/
def lastB (ops : Array Oper) (i : Nat) : Bool := match ops[i]? with
  | some o => (List.range ops.size).all fun k => k == i || (match ops[k]? with | some u => !isLoad u.op | none => true) || o.after.any (fun e => Region.binds .any e && e.on == k)
  | none => false

def planOkA (ops : Array Oper) : Plan → Nat → Array Bool → Bool
  | .done, _, l => (Region.ready .any ops l).isEmpty
  | .take i p, n + 1, l => (match ops[i]? with | some o => isPure o.op | none => false) && Region.free .any ops l i && (Region.ready .any ops l).contains i && planOkA ops p n (l.setIfInBounds i true)
  | .one i p, n + 1, l => Region.ready .any ops l == [i] && planOkA ops p n (l.setIfInBounds i true)
  | .two i j p q, n + 1, l => Region.ready .any ops l == [i, j] && planOkA ops p n (l.setIfInBounds i true) && planOkA ops q n (l.setIfInBounds j true)
  | .last i p, n + 1, l => Region.ready .any ops l == [i] && lastB ops i && planOkA ops p n (l.setIfInBounds i true)
  | _, 0, _ => false

def planOk (ops : Array Oper) (p : Plan) : Bool := Region.noSelect ops && planOkA ops p ops.size (Array.replicate ops.size false)

def heldA (H : List Nat) : AV → Prop
  | .opt _ x => allP (fun L => memN H L = true) (names x)
  | x => allP (fun L => memN H L = true) (names x)

/-- A conversion that reads no memory. -/
def quietC : AV → Prop
  | .sc (.int _ _) => True
  | .sc (.string _) => True
  | .opt _ (.sc (.int _ _)) => True
  | .opt _ (.sc (.string _)) => True
  | .opt false _ => True
  | _ => False

def heldOk (H : List Nat) (c : Cx) (e : Env) (o : Op) : Prop := match o with
  | .load _ a => heldA H (ev c e a)
  | .convert _ _ x => quietC (ev c e x)
  | _ => True

def planA (c : Cx) (CT : CTab) (ops : Array Oper) (H : List Nat) : Plan → St → (St → Prop) → Prop
  | .done, st, K => K st
  | .take i p, st, K => match ops[i]? with
    | some o => heldOk H c st.env o.op ∧ stepA c CT H ops o st fun st' => planA c CT ops H p st' K
    | none => False
  | .one i p, st, K => match ops[i]? with
    | some o => stepA c CT H ops o st fun st' => planA c CT ops H p st' K
    | none => False
  | .last i p, st, K => match ops[i]? with
    | some o => stepA c CT [] ops o st fun st' => planA c CT ops H p st' K
    | none => False
  | .two i j p q, st, K => match ops[i]?, ops[j]? with
    | some o, some u => (stepA c CT H ops o st fun st' => planA c CT ops H p st' K) ∧ (stepA c CT H ops u st fun st' => planA c CT ops H q st' K)
    | _, _ => False

def keepE (lv : List Nat) : Env → Env
  | [] => []
  | (k, x) :: r => if memN lv k = true then (k, x) :: keepE lv r else keepE lv r

def thenA (next : St → Prop) (Q : Ex → St → Prop) : Ex → St → Prop
  | .normal, s => next s
  | e, s => Q e s

def inBlockA (id : Nat) (Q : Ex → St → Prop) : Ex → St → Prop
  | .exit j, s => if j = id then Q .normal s else Q (.exit j) s
  | e, s => Q e s

/-- Nil told as a slice of no elements. -/
def wkC0 (x y : AV) : Prop := x = y ∨ (isNil x = true ∧ ∃ s, y = .fz s [])
def wkL0 : List AV → List AV → Prop
  | [], [] => True
  | x :: r, y :: s => wkC0 x y ∧ wkL0 r s
  | _, _ => False
def wkR0 : List (List AV) → List (List AV) → Prop
  | [], [] => True
  | x :: r, y :: s => wkL0 x y ∧ wkR0 r s
  | _, _ => False
/-- The same, and a frozen slice whose cells are told so. -/
def wkC (x y : AV) : Prop := x = y ∨ (isNil x = true ∧ ∃ s, y = .fz s []) ∨ ∃ s xs ys, x = .fz s xs ∧ y = .fz s ys ∧ wkR0 xs ys

def wkL : List AV → List AV → Prop
  | [], [] => True
  | x :: r, y :: s => wkC x y ∧ wkL r s
  | _, _ => False

def wkR : List (List AV) → List (List AV) → Prop
  | [], [] => True
  | x :: r, y :: s => wkL x y ∧ wkR r s
  | _, _ => False

/-- Nil told as a slice of ours too. -/
def wkD (x y : AV) : Prop := wkC x y ∨ (isNil x = true ∧ ∃ L, y = .sl L 0 0)

def wkM : List AV → List AV → Prop
  | [], [] => True
  | x :: r, y :: s => wkD x y ∧ wkM r s
  | _, _ => False

def wkA (x y : AV) : Prop := x = y ∨ match x, y with
  | .agg cs, .agg ds => wkM cs ds
  | x, y => wkD x y

def wkT : List AV → List AV → Prop
  | [], [] => True
  | x :: r, y :: s => wkA x y ∧ wkT r s
  | _, _ => False

def wkV (x y : AV) : Prop := x = y ∨ match x, y with
  | .tup vs, .tup us => wkT vs us
  | x, y => wkA x y

def wkO (x y : AO) : Prop := x = y ∨ match x, y with
  | .rc cs, .rc ds => wkM cs ds
  | .arr b s xs, .arr b' s' ys => b = b' ∧ s = s' ∧ wkR xs ys
  | _, _ => False

def wkS : List AO → List AO → Prop
  | [], [] => True
  | x :: r, y :: s => wkO x y ∧ wkS r s
  | _, _ => False

def wkE : Env → Env → Prop
  | [], [] => True
  | (i, x) :: r, (j, y) :: s => i = j ∧ wkV x y ∧ wkE r s
  | _, _ => False

def wkSt (s t : St) : Prop := wkE s.env t.env ∧ wkS s.os t.os

/-- Cells that may stand beside a slice of ours in a row that is closed. -/
def cellP : AV → Prop
  | .sc v => v.oneCell' = true
  | .fz .. => True
  | _ => False

def mkRow (k s : Nat) (x : List AV) : List AV := if isNil (x.getD k .junk) = true then x.set k (.own s []) else x

/-- Rows of ours, told otherwise: as rows that hold slices of ours; with a row that is open; closed again. -/
inductive NS1 : List AO → List AO → Prop
  | mk {os : List AO} (L k s : Nat) {z : Nat} {xs : List (List AV)} : os[L]? = some (.arr true z xs) → 0 < s → NS1 os (os.set L (.nst z (xs.map (mkRow k s)) none))
  | opn {os : List AO} (L i k : Nat) {z s : Nat} {xs ys : List (List AV)} {x : List AV} : os[L]? = some (.nst z xs none) → xs[i]? = some x → x[k]? = some (.own s ys) →
      NS1 os (os.set L (.nst z xs (some (i, x.set k (.sl os.length 0 ys.length)))) ++ [.arr true s ys])
  | cls {os : List AO} (L k : Nat) {z s i N : Nat} {xs ys : List (List AV)} {row : List AV} : os[L]? = some (.nst z xs (some (i, row))) → row[k]? = some (.sl N 0 ys.length) → os[N]? = some (.arr true s ys) →
      (∀ (j : Nat) y, j ≠ k → row[j]? = some y → cellP y) → NS1 os ((os.set L (.nst z (xs.set i (row.set k (.own s ys))) none)).set N .dead)

/-- Told with fewer names and more weakly, or as it is, or with rows told otherwise. -/
def upA (nl : Nat) (A : St → Prop) (s : St) : Prop := A s ∨ (∃ ts ks t, keepP nl ks s.os ∧ wkSt (viewSt ts ks s) t ∧ A t) ∨ ∃ os1, NS1 s.os os1 ∧ A ⟨s.env, os1⟩

/-- The code: what must hold ahead of it. 'nl': how many names are lent; 'lv': the places that are looked at outside of one region. -/
def aw (c : Cx) (CT : CTab) (nl : Nat) (lv : List Nat) : Code → (Ex → St → Prop) → St → Prop
  | .skip, Q, st => Q .normal st
  | .region _ ops false, Q, st => opsA c CT ops ops.toList st fun s => Q .normal ⟨keepE lv s.env, s.os⟩
  | .region _ ops true, Q, st => ∃ (p : Plan) (H : List Nat), planOk ops p = true ∧ planA c CT ops H p st fun s => Q .normal ⟨keepE lv s.env, s.os⟩
  | .seq a b, Q, st => aw c CT nl lv a (thenA (upA nl (aw c CT nl lv b Q)) Q) st
  | .cond x t f, Q, st => match ev c st.env x with
    | .sc (.bool b) => (b = true → aw c CT nl lv t Q st) ∧ (b = false → aw c CT nl lv f Q st)
    | _ => False
  | .block id b, Q, st => aw c CT nl lv b (inBlockA id Q) st
  | .loop b, Q, st => ∃ (ts : List Nat) (I : Nat → St → Prop), (∃ n ks s, keepP nl ks st.os ∧ wkSt (viewSt ts ks st) s ∧ I n s) ∧
      ∀ n s, I n s → aw c CT nl lv b (thenA (fun s' => ∃ m ks t, m < n ∧ keepP nl ks s'.os ∧ wkSt (viewSt ts ks s') t ∧ I m t) Q) s
  | .exit id, Q, st => Q (.exit id) st
  | .ret, Q, st => Q .ret st
  | _, _, _ => False

/-- Every place of an operation is one of the activation's. -/
def dstsOk (nt : Nat) : Code → Bool
  | .region _ ops _ => ops.toList.all fun o => match o.dst with | some d => decide (d < nt) | none => true
  | .seq a b => dstsOk nt a && dstsOk nt b
  | .cond _ a b => dstsOk nt a && dstsOk nt b
  | .block _ b => dstsOk nt b
  | .loop b => dstsOk nt b
  | _ => true

/-- A result, and when it can be read. -/
def resV (c : Cx) (os : List AO) (e : Env) : ResultVar → AV
  | .tmp t => lk e t
  | .cell a t => loadV (c.T t) (rowAt os (lk e a))

def resOk (c : Cx) (os : List AO) (e : Env) : ResultVar → Prop
  | .tmp _ => True
  | .cell a t => isAddr os (lk e a) = true ∧ 0 < (c.T t).sz ∧ likeAll (c.T t).zero (rowAt os (lk e a))

/-- The results. -/
def resA (c : Cx) (ks : List Nat) (os : List AO) (e : Env) : List ResultVar → List AV
  | [] => []
  | r :: rs => viewA ks os (resV c os e r) :: resA c ks os e rs

def oneA : List AV → AV
  | [x] => x
  | l => .tup l

def enterE : Nat → List AV → Env
  | _, [] => []
  | n, x :: r => (n, x) :: enterE (n + 1) r

/-- What must hold at the end. -/
def endQ (c : Cx) (nl : Nat) (rs : List ResultVar) (post : AV → List AO → Prop) : Ex → St → Prop
  | .exit _, _ => False
  | _, st => allP (resOk c st.os st.env) rs ∧ ∃ ks x σ, keepP nl ks st.os ∧ wkV (oneA (resA c ks st.os st.env rs)) x ∧ wkS (viewS ks st.os) σ ∧ post x σ

end Go.AM
