/- Several texts in one. Conditions: none. -/
import Derived.Test.YthcdhlglaeaieaaGreatDoorAmB3
import Derived.Below
import Derived.SizedLaws
import Derived.ChangeSlices
import Derived.SliceStrings
import Derived.FnData
set_option linter.unusedSimpArgs false
set_option linter.unusedVariables false
section
/- What the walk is simplified by: one rule a shape. Conditions: none. -/
namespace Go.AM
open Go

section
variable (c : Cx) (CT : CTab) (nl : Nat) (lv : List Nat) (Q : Ex → St → Prop) (k : List It) (s : St) (os : List AO) (e : Env)

theorem ev_tmp (t : Nat) : ev c e (.tmp t) = lk e t := rfl
theorem ev_const (v : Value) : ev c e (.const v) = .sc v := rfl
theorem ev_func (n : Nat) : ev c e (.func n) = .sc (.func (.func n) #[] #[]) := rfl
theorem ev_glob (n : Nat) : ev c e (.global n) = c.G n := rfl
theorem lk_cons (i : Nat) (x : AV) (t : Nat) : lk ((i, x) :: e) t = if i = t then x else lk e t := rfl
theorem lk_nil (t : Nat) : lk [] t = .junk := rfl
theorem put_some (d : Nat) (x : AV) : put e (some d) x = (d, x) :: e := rfl
theorem put_none (x : AV) : put e none x = e := rfl
theorem keep_nil : keepE lv [] = [] := rfl
theorem keep_cons (i : Nat) (x : AV) : keepE lv ((i, x) :: e) = if memN lv i = true then (i, x) :: keepE lv e else keepE lv e := rfl
theorem memN_nil (t : Nat) : memN [] t = false := rfl
theorem memN_cons (a : Nat) (r : List Nat) (t : Nat) : memN (a :: r) t = if a = t then true else memN r t := rfl

theorem binA_int (op : BinOp) (k k' : IntKind) (a b : Int) : binA op (.sc (.int k a)) (.sc (.int k' b)) = .sc (intOp op k a b) := rfl
theorem binA_str (op : BinOp) (a b : ByteArray) : binA op (.sc (.string a)) (.sc (.string b)) = .sc (strOp op a b) := rfl
theorem binA_bne (a b : Bool) : binA .neq (.sc (.bool a)) (.sc (.bool b)) = .sc (.bool (!(a == b))) := rfl
theorem binA_aeq (a b : List AV) : binA .eql (.agg a) (.agg b) = .sc (.bool (eqCells a b)) := rfl
theorem binA_ane (a b : List AV) : binA .neq (.agg a) (.agg b) = .sc (.bool (!(eqCells a b))) := rfl
theorem binOk_int (ti : TI) (op : BinOp) (k k' : IntKind) (a b : Int) : binOk ti op (.sc (.int k a)) (.sc (.int k' b)) = intOk op k k' b := rfl
theorem binOk_str (ti : TI) (op : BinOp) (a b : ByteArray) : binOk ti op (.sc (.string a)) (.sc (.string b)) = strOk op a b := rfl
theorem binOk_bool (ti : TI) (op : BinOp) (a b : Bool) : binOk ti op (.sc (.bool a)) (.sc (.bool b)) = (0 < ti.sz ∧ ti.kind = .bool ∧ (op = .eql ∨ op = .neq)) := rfl
theorem binOk_agg (ti : TI) (op : BinOp) (a b : List AV) : binOk ti op (.agg a) (.agg b) = (0 < ti.sz ∧ ti.eq = true ∧ eqOk ti.zero a b ∧ (op = .eql ∨ op = .neq)) := rfl
theorem eqOk_nil : eqOk [] [] [] = True := rfl
theorem eqOk_int (z : Int) (k0 k k' : IntKind) (a b : Int) (zs xs ys : List AV) : eqOk (.sc (.int k0 z) :: zs) (.sc (.int k a) :: xs) (.sc (.int k' b) :: ys) = (k = k' ∧ eqOk zs xs ys) := rfl
theorem eqCells_nil : eqCells [] [] = true := rfl
theorem eqCells_int (k k' : IntKind) (a b : Int) (xs ys : List AV) : eqCells (.sc (.int k a) :: xs) (.sc (.int k' b) :: ys) = ((a == b) && eqCells xs ys) := rfl
theorem int_add (k : IntKind) (a b : Int) : intOp .add k a b = .int k (k.wrap (a + b)) := rfl
theorem int_sub (k : IntKind) (a b : Int) : intOp .sub k a b = .int k (k.wrap (a - b)) := rfl
theorem int_mul (k : IntKind) (a b : Int) : intOp .mul k a b = .int k (k.wrap (a * b)) := rfl
theorem int_quo (k : IntKind) (a b : Int) : intOp .quo k a b = .int k (k.wrap (a.tdiv b)) := rfl
theorem int_rem (k : IntKind) (a b : Int) : intOp .rem k a b = .int k (a.tmod b) := rfl
def bor (k : IntKind) (a b : Int) : Int := k.wrap (BitVec.ofInt k.bits a ||| BitVec.ofInt k.bits b).toNat
def bxor (k : IntKind) (a b : Int) : Int := k.wrap (BitVec.ofInt k.bits a ^^^ BitVec.ofInt k.bits b).toNat
theorem int_or (k : IntKind) (a b : Int) : intOp .or k a b = .int k (bor k a b) := rfl
theorem int_xor (k : IntKind) (a b : Int) : intOp .xor k a b = .int k (bxor k a b) := rfl
def pw (k : IntKind) (b : Int) : Int := 2 ^ (min b.toNat k.bits)
theorem int_shl (k : IntKind) (a b : Int) : intOp .shl k a b = .int k (k.wrap (a * pw k b)) := rfl
theorem int_shr (k : IntKind) (a b : Int) : intOp .shr k a b = .int k (a.fdiv (pw k b)) := rfl
theorem int_eql (k : IntKind) (a b : Int) : intOp .eql k a b = .bool (a == b) := rfl
theorem int_neq (k : IntKind) (a b : Int) : intOp .neq k a b = .bool (a != b) := rfl
theorem int_lss (k : IntKind) (a b : Int) : intOp .lss k a b = .bool (decide (a < b)) := rfl
theorem int_leq (k : IntKind) (a b : Int) : intOp .leq k a b = .bool (decide (a ≤ b)) := rfl
theorem int_gtr (k : IntKind) (a b : Int) : intOp .gtr k a b = .bool (decide (a > b)) := rfl
theorem int_geq (k : IntKind) (a b : Int) : intOp .geq k a b = .bool (decide (a ≥ b)) := rfl
theorem iok_add (k : IntKind) (b : Int) : intOk .add k k b = True := eq_true rfl
theorem iok_sub (k : IntKind) (b : Int) : intOk .sub k k b = True := eq_true rfl
theorem iok_mul (k : IntKind) (b : Int) : intOk .mul k k b = True := eq_true rfl
theorem iok_quo (k : IntKind) (b : Int) : intOk .quo k k b = (b ≠ 0) := by simp [intOk]
theorem iok_rem (k : IntKind) (b : Int) : intOk .rem k k b = (b ≠ 0) := by simp [intOk]
theorem iok_or (k : IntKind) (b : Int) : intOk .or k k b = True := eq_true rfl
theorem iok_xor (k : IntKind) (b : Int) : intOk .xor k k b = True := eq_true rfl
theorem iok_shl (k k' : IntKind) (b : Int) : intOk .shl k k' b = (0 ≤ b) := rfl
theorem iok_shr (k k' : IntKind) (b : Int) : intOk .shr k k' b = (0 ≤ b) := rfl
theorem iok_eql (k : IntKind) (b : Int) : intOk .eql k k b = True := eq_true rfl
theorem iok_neq (k : IntKind) (b : Int) : intOk .neq k k b = True := eq_true rfl
theorem iok_lss (k : IntKind) (b : Int) : intOk .lss k k b = True := eq_true rfl
theorem iok_leq (k : IntKind) (b : Int) : intOk .leq k k b = True := eq_true rfl
theorem iok_gtr (k : IntKind) (b : Int) : intOk .gtr k k b = True := eq_true rfl
theorem iok_geq (k : IntKind) (b : Int) : intOk .geq k k b = True := eq_true rfl

theorem unA_neg (k : IntKind) (n : Int) : unA .neg (.sc (.int k n)) = .sc (.int k (k.wrap (0 - n))) := rfl
theorem unA_not (b : Bool) : unA .not (.sc (.bool b)) = .sc (.bool (!b)) := rfl
theorem unOk_neg (k : IntKind) (n : Int) : unOk .neg (.sc (.int k n)) = True := by simp [unOk]
theorem unOk_not (b : Bool) : unOk .not (.sc (.bool b)) = True := by simp [unOk]
theorem convA_int (k k' : IntKind) (n : Int) : convA os (.int k) (.int k') (.sc (.int k n)) = .sc (.int k' (k'.wrap n)) := rfl
theorem convA_fz (k : TK) (z : Nat) (xs : List (List AV)) : convA os k .str (.fz z xs) = .sc (.string (strOf xs)) := rfl
theorem convOk_int (k k' k2 : IntKind) (et : TI) (n : Int) : convOk os (.int k) (.int k') et (.sc (.int k2 n)) = True := rfl
theorem convOk_fz (e : Nat) (et : TI) (z : Nat) (xs : List (List AV)) : convOk os (.slice e) .str et (.fz z xs) = (0 < et.sz ∧ et.kind = .int .u8 ∧ (xs = [] ∨ z = 1) ∧ allP byteRow xs) := by simp [convOk, isSlK, lenOk, elems, esz]
theorem strOp_eql (a b : ByteArray) : strOp .eql a b = .bool (a.toList == b.toList) := rfl
theorem strOk_eql (a b : ByteArray) : strOk .eql a b = True := rfl
theorem selA_t (a b : AV) : selA (.sc (.bool true)) a b = strip a := by simp only [selA, strip, selB_eq, if_true]
theorem selA_f (a b : AV) : selA (.sc (.bool false)) a b = strip b := by simp only [selA, strip, selB_eq, Bool.false_eq_true, if_false]
theorem selOk_t (a b : AV) : selOk (.sc (.bool true)) a b = aV true a := by simp [selOk, strip, aV]
theorem selOk_f (a b : AV) : selOk (.sc (.bool false)) a b = aV true b := by simp [selOk, strip, aV]
theorem selA_ot (g : Bool) (a b : AV) : selA (.opt g (.sc (.bool true))) a b = strip a := by simp only [selA, strip, selB_eq, if_true]
theorem selA_of (g : Bool) (a b : AV) : selA (.opt g (.sc (.bool false))) a b = strip b := by simp only [selA, strip, selB_eq, Bool.false_eq_true, if_false]
theorem selOk_ot (g : Bool) (a b : AV) : selOk (.opt g (.sc (.bool true))) a b = (g = true ∧ aV true a) := by simp [selOk, strip, aV]
theorem selOk_of (g : Bool) (a b : AV) : selOk (.opt g (.sc (.bool false))) a b = (g = true ∧ aV true b) := by simp [selOk, strip, aV]
theorem selA_000 (t x y : Bool) : selA (.sc (.bool t)) (.sc (.bool x)) (.sc (.bool y)) = .sc (.bool (bif t then x else y)) := rfl
theorem selOk_000 (t x y : Bool) : selOk (.sc (.bool t)) (.sc (.bool x)) (.sc (.bool y)) = (True) := by simp [selOk, strip, aV]
theorem selA_001 (t x y gy : Bool) : selA (.sc (.bool t)) (.sc (.bool x)) (.opt gy (.sc (.bool y))) = .sc (.bool (bif t then x else y)) := rfl
theorem selOk_001 (t x y gy : Bool) : selOk (.sc (.bool t)) (.sc (.bool x)) (.opt gy (.sc (.bool y))) = ((t = false → gy = true)) := by simp [selOk, strip, aV]
theorem selA_010 (t x y gx : Bool) : selA (.sc (.bool t)) (.opt gx (.sc (.bool x))) (.sc (.bool y)) = .sc (.bool (bif t then x else y)) := rfl
theorem selOk_010 (t x y gx : Bool) : selOk (.sc (.bool t)) (.opt gx (.sc (.bool x))) (.sc (.bool y)) = ((t = true → gx = true)) := by simp [selOk, strip, aV]
theorem selA_100 (t x y gc : Bool) : selA (.opt gc (.sc (.bool t))) (.sc (.bool x)) (.sc (.bool y)) = .sc (.bool (bif t then x else y)) := rfl
theorem selOk_100 (t x y gc : Bool) : selOk (.opt gc (.sc (.bool t))) (.sc (.bool x)) (.sc (.bool y)) = (gc = true) := by simp [selOk, strip, aV]
theorem selA_101 (t x y gc gy : Bool) : selA (.opt gc (.sc (.bool t))) (.sc (.bool x)) (.opt gy (.sc (.bool y))) = .sc (.bool (bif t then x else y)) := rfl
theorem selOk_101 (t x y gc gy : Bool) : selOk (.opt gc (.sc (.bool t))) (.sc (.bool x)) (.opt gy (.sc (.bool y))) = (gc = true ∧ (t = false → gy = true)) := by simp [selOk, strip, aV]
theorem selA_110 (t x y gc gx : Bool) : selA (.opt gc (.sc (.bool t))) (.opt gx (.sc (.bool x))) (.sc (.bool y)) = .sc (.bool (bif t then x else y)) := rfl
theorem selOk_110 (t x y gc gx : Bool) : selOk (.opt gc (.sc (.bool t))) (.opt gx (.sc (.bool x))) (.sc (.bool y)) = (gc = true ∧ (t = true → gx = true)) := by simp [selOk, strip, aV]
theorem strip_opt (b : Bool) (x : AV) : strip (.opt b x) = x := rfl
theorem strip_sc (v : Value) : strip (.sc v) = .sc v := rfl
theorem strip_pt (L i : Nat) : strip (.pt L i) = .pt L i := rfl
theorem strip_sl (L i j : Nat) : strip (.sl L i j) = .sl L i j := rfl
theorem strip_fz (z : Nat) (xs : List (List AV)) : strip (.fz z xs) = .fz z xs := rfl
theorem strip_agg (xs : List AV) : strip (.agg xs) = .agg xs := rfl
theorem sok_opt (g b : Bool) (x : AV) : aV g (.opt b x) = (g = true → b = true) := rfl
theorem sok_sc (g : Bool) (v : Value) : aV g (.sc v) = True := rfl
theorem sok_pt (g : Bool) (L i : Nat) : aV g (.pt L i) = True := rfl
theorem sok_sl (g : Bool) (L i j : Nat) : aV g (.sl L i j) = True := rfl
theorem sok_fz (g : Bool) (z : Nat) (xs : List (List AV)) : aV g (.fz z xs) = True := rfl
theorem sok_agg (g : Bool) (xs : List AV) : aV g (.agg xs) = True := rfl
theorem plain_sc (v : Value) : plain (.sc v) = True := rfl
theorem plain_pt (L i : Nat) : plain (.pt L i) = True := rfl
theorem plain_sl (L i j : Nat) : plain (.sl L i j) = True := rfl
theorem plain_fz (z : Nat) (xs : List (List AV)) : plain (.fz z xs) = True := rfl
theorem plain_fp (z : Nat) (xs : List (List AV)) (i j : Nat) : plain (.fp z xs i j) = True := rfl
theorem plain_agg (xs : List AV) : plain (.agg xs) = True := rfl

theorem lenA_fz (z : Nat) (xs : List (List AV)) : lenA (.fz z xs) = xs.length := rfl
theorem lenA_sl (L o n : Nat) : lenA (.sl L o n) = n := rfl
theorem lenA_nil : lenA (.sc (.slice none 0 0)) = 0 := rfl
theorem lenOk_fz (z : Nat) (xs : List (List AV)) : lenOk os (.fz z xs) = True := rfl
theorem lenOk_sl (L o n : Nat) : lenOk os (.sl L o n) = (match os[L]? with | some (.arr ..) => True | _ => False) := rfl
theorem lenOk_nil : lenOk os (.sc (.slice none 0 0)) = True := rfl
theorem elems_sl (L o n : Nat) : elems os (.sl L o n) = (match os[L]? with | some (.arr _ _ xs) => (xs.drop o).take n | _ => []) := rfl
theorem elems_nil : elems os (.sc (.slice none 0 0)) = [] := rfl
theorem esz_fz (z : Nat) (xs : List (List AV)) : esz os (.fz z xs) = z := rfl
theorem esz_sl (L o n : Nat) : esz os (.sl L o n) = (match os[L]? with | some (.arr _ z _) => z | _ => 0) := rfl
theorem idxA_fz (z : Nat) (xs : List (List AV)) (i : Int) : idxA (.fz z xs) i = .fp z xs i.toNat 0 := rfl
theorem idxA_sl (L o n : Nat) (i : Int) : idxA (.sl L o n) i = .pa L (o + i.toNat) 0 := rfl
theorem cutA_fz (z : Nat) (xs : List (List AV)) (l h : Int) : cutA (.fz z xs) l h = .fz z ((xs.take h.toNat).drop l.toNat) := rfl
theorem cutA_sl (L o n : Nat) (l h : Int) : cutA (.sl L o n) l h = .sl L (o + l.toNat) (h.toNat - l.toNat) := rfl
theorem cutA_nil (l h : Int) : cutA (.sc (.slice none 0 0)) l h = .sc (.slice none 0 0) := rfl
theorem numA_int (k : IntKind) (n : Int) : numA (.sc (.int k n)) = n := rfl
theorem boolA_b (b : Bool) : boolA (.sc (.bool b)) = b := rfl
theorem isNum_int (k : IntKind) (n : Int) : isNum (.sc (.int k n)) = True := rfl
theorem numOk_none : numOk none = True := rfl
theorem numOk_some (x : AV) : numOk (some x) = isNum x := rfl
theorem loOf_none (r : Operand → AV) : loOf r none = 0 := rfl
theorem loOf_some (r : Operand → AV) (o : Operand) : loOf r (some o) = numA (r o) := rfl
theorem hiOf_none (r : Operand → AV) (x : AV) : hiOf r x none = (lenA x : Int) := rfl
theorem hiOf_some (r : Operand → AV) (x : AV) (o : Operand) : hiOf r x (some o) = numA (r o) := rfl
theorem cutTy_nil (t : Nat) : cutTy c os t (.sc (.slice none 0 0)) = (aW c t ∧ 0 < (c.T (elemOf c t)).sz) := rfl
theorem cutTy_fz (t z : Nat) (xs : List (List AV)) : cutTy c os t (.fz z xs) = (aW c t ∧ 0 < (c.T (elemOf c t)).sz ∧ z = (c.T (elemOf c t)).sz ∧ True) := rfl
theorem cutTy_sl (t L o n : Nat) : cutTy c os t (.sl L o n) = (aW c t ∧ 0 < (c.T (elemOf c t)).sz ∧ esz os (.sl L o n) = (c.T (elemOf c t)).sz ∧ lenOk os (.sl L o n)) := rfl
theorem lenTy_fz (t z : Nat) (xs : List (List AV)) : lenTy c t (.fz z xs) = aW c t := rfl
theorem lenTy_sl (t L o n : Nat) : lenTy c t (.sl L o n) = aW c t := rfl
theorem lenTy_nil (t : Nat) : lenTy c t (.sc (.slice none 0 0)) = aW c t := rfl
theorem elemOf_eq (t : Nat) : elemOf c t = (match (c.T t).kind with | .slice e => e | _ => 0) := rfl
theorem isSliceT_eq (t : Nat) : aW c t = (match (c.T t).kind with | .slice _ => True | _ => False) := rfl

theorem row_pt (L i : Nat) : rowAt os (.pt L i) = (match os[L]? with | some (.rc cs) => cs.drop i | _ => []) := rfl
theorem row_pa (L i j : Nat) : rowAt os (.pa L i j) = (match os[L]? with | some (.arr _ _ xs) => (xs.getD i []).drop j | _ => []) := rfl
theorem row_fp (z : Nat) (xs : List (List AV)) (i j : Nat) : rowAt os (.fp z xs i j) = (xs.getD i []).drop j := rfl
theorem addr_pt (L i : Nat) : dv os (.pt L i) = (match os[L]? with | some (.rc _) => true | _ => false) := rfl
theorem addr_pa (L i j : Nat) : dv os (.pa L i j) = (match os[L]? with | some (.arr ..) => true | _ => false) := rfl
theorem addr_fp (z : Nat) (xs : List (List AV)) (i j : Nat) : dv os (.fp z xs i j) = true := rfl
theorem off_pt (L i n : Nat) : addOff (.pt L i) n = .pt L (i + n) := rfl
theorem off_pa (L i j n : Nat) : addOff (.pa L i j) n = .pa L i (j + n) := rfl
theorem off_fp (z : Nat) (xs : List (List AV)) (i j n : Nat) : addOff (.fp z xs i j) n = .fp z xs i (j + n) := rfl
theorem fieldOff_eq (sz bytes : Nat) (ag : Bool) (zero : List AV) (fs : List (Nat × Nat)) (q : Bool) (ft : List Nat) (f : Nat) : fieldOff ⟨sz, bytes, ag, zero, .struct fs, q, ft⟩ f = fs.getD f (0, 0) := rfl
theorem loadV_one (sz bytes : Nat) (zero : List AV) (kd : TK) (q : Bool) (ft : List Nat) (row : List AV) : loadV ⟨sz, bytes, false, zero, kd, q, ft⟩ row = asLike (zero.headD .junk) (row.headD .junk) := rfl
theorem loadV_agg (sz bytes : Nat) (zero : List AV) (kd : TK) (q : Bool) (ft : List Nat) (row : List AV) : loadV ⟨sz, bytes, true, zero, kd, q, ft⟩ row = .agg (eta zero row) := rfl
theorem eta_nil (row : List AV) : eta [] row = [] := rfl
theorem eta_cons (z : AV) (zs row : List AV) : eta (z :: zs) row = asLike z (row.headD .junk) :: eta zs row.tail := rfl
theorem asLike_int (k : IntKind) (n : Int) (x : AV) : asLike (.sc (.int k n)) x = .sc (.int k (numA x)) := rfl
theorem asLike_bool (b : Bool) (x : AV) : asLike (.sc (.bool b)) x = .sc (.bool (boolA x)) := rfl
theorem asLike_slice (a : Option Addr) (n m : Nat) (x : AV) : asLike (.sc (.slice a n m)) x = x := rfl
theorem asLike_ptr (a : Option Addr) (x : AV) : asLike (.sc (.pointer a)) x = x := rfl
theorem like_int (k : IntKind) (n : Int) (k' : IntKind) (m : Int) : like (.sc (.int k n)) (.sc (.int k' m)) = (k' = k) := rfl
theorem like_bool (b b' : Bool) : like (.sc (.bool b)) (.sc (.bool b')) = True := rfl
theorem like_slice (a : Option Addr) (n m : Nat) (x : AV) : like (.sc (.slice a n m)) x = True := rfl
theorem like_ptr (a : Option Addr) (x : AV) : like (.sc (.pointer a)) x = True := rfl
theorem likeAll_nil (row : List AV) : likeAll [] row = True := rfl
theorem likeAll_cons (z x : AV) (zs xs : List AV) : likeAll (z :: zs) (x :: xs) = (like z x ∧ likeAll zs xs) := rfl

theorem cells_agg (cs : List AV) : cellsOf (.agg cs) = cs := rfl
theorem cells_sc (v : Value) : cellsOf (.sc v) = [.sc v] := rfl
theorem cells_pt (L i : Nat) : cellsOf (.pt L i) = [.pt L i] := rfl
theorem cells_sl (L i j : Nat) : cellsOf (.sl L i j) = [.sl L i j] := rfl
theorem cells_fz (z : Nat) (xs : List (List AV)) : cellsOf (.fz z xs) = [.fz z xs] := rfl
theorem allP_nil {α : Type} (p : α → Prop) : allP p [] = True := rfl
theorem allP_cons {α : Type} (p : α → Prop) (x : α) (r : List α) : allP p (x :: r) = (p x ∧ allP p r) := rfl
theorem recOk_sc (v : Value) : recOk os (.sc v) = (v.oneCell' = true) := rfl
theorem recOk_fz (z : Nat) (xs : List (List AV)) : recOk os (.fz z xs) = True := rfl
theorem recOk_sl (L i j : Nat) : recOk os (.sl L i j) = (match os[L]? with | some (.arr ..) => True | _ => False) := rfl
theorem recOk_pt (L i : Nat) : recOk os (.pt L i) = (match os[L]? with | some (.rc _) => True | _ => False) := rfl
theorem frzOk_sc (v : Value) : frzOk os (.sc v) = (v.oneCell' = true) := rfl
theorem frzOk_fz (z : Nat) (xs : List (List AV)) : frzOk os (.fz z xs) = True := rfl
theorem frzOk_sl (L i j : Nat) : frzOk os (.sl L i j) = (match os[L]? with | some (.arr ..) => True | _ => False) := rfl
theorem one_int (k : IntKind) (n : Int) : (Value.int k n).oneCell' = true := rfl
theorem one_bool (b : Bool) : (Value.bool b).oneCell' = true := rfl
theorem frz_sc (v : Value) : frz os (.sc v) = .sc v := rfl
theorem frz_fz (z : Nat) (xs : List (List AV)) : frz os (.fz z xs) = .fz z xs := rfl
theorem frz_sl (L i j : Nat) : frz os (.sl L i j) = .fz (esz os (.sl L i j)) (elems os (.sl L i j)) := rfl
theorem unown_sc (v : Value) : unown os (.sc v) = os := rfl
theorem unown_fz (z : Nat) (xs : List (List AV)) : unown os (.fz z xs) = os := rfl
theorem unown_sl (L i j : Nat) : unown os (.sl L i j) = (match os[L]? with | some (.arr _ s xs) => os.set L (.arr false s xs) | _ => os) := rfl
theorem unownAll_nil : unownAll os [] = os := rfl
theorem unownAll_cons (x : AV) (r : List AV) : unownAll os (x :: r) = unownAll (unown os x) r := rfl
theorem storeOk_pt (L i : Nat) (vs : List AV) : storeOk os (.pt L i) vs = (match os[L]? with | some (.rc cs) => i + vs.length ≤ cs.length ∧ allP (recOk os) vs | _ => False) := rfl
theorem storeOk_pa (L i j : Nat) (vs : List AV) : storeOk os (.pa L i j) vs = (match os[L]? with | some (.arr true _ xs) => i < xs.length ∧ j + vs.length ≤ (xs.getD i []).length ∧ allP (frzOk os) vs ∧ allP (notSl L) vs | _ => False) := rfl
theorem storeA_pt (L i : Nat) (vs : List AV) : storeA os (.pt L i) vs = (match os[L]? with | some (.rc cs) => os.set L (.rc (setCells cs i vs)) | _ => os) := rfl
theorem storeA_pa (L i j : Nat) (vs : List AV) : storeA os (.pa L i j) vs = (match os[L]? with | some (.arr true s xs) => (unownAll os vs).set L (.arr true s (xs.set i (setCells (xs.getD i []) j (vs.map (frz os))))) | _ => os) := rfl
theorem setCells_nil (cs : List AV) (i : Nat) : setCells cs i [] = cs := by simp [setCells]
theorem setCells_cons0 (x y : AV) (cs vs : List AV) : setCells (y :: cs) 0 (x :: vs) = x :: setCells cs 0 vs := by simp [setCells]
theorem setCells_succ (y : AV) (cs vs : List AV) (i : Nat) : setCells (y :: cs) (i + 1) vs = y :: setCells cs i vs := by simp [setCells, Nat.add_right_comm]
theorem notSl_sc (L : Nat) (v : Value) : notSl L (.sc v) = True := rfl
theorem notSl_fz (L z : Nat) (xs : List (List AV)) : notSl L (.fz z xs) = True := rfl
theorem notSl_sl (L M i j : Nat) : notSl L (.sl M i j) = (M ≠ L) := rfl
theorem names_pt (L i : Nat) : names (.pt L i) = [L] := rfl
theorem names_pa (L i j : Nat) : names (.pa L i j) = [L] := rfl
theorem names_sl (L i j : Nat) : names (.sl L i j) = [L] := rfl
theorem names_sc (v : Value) : names (.sc v) = [] := rfl
theorem heldOk_load (H : List Nat) (t : Nat) (a : Operand) : gl H c e (.load t a) = heldA H (ev c e a) := rfl
theorem heldOk_move (H : List Nat) (x : Operand) : gl H c e (.move x) = True := rfl
theorem heldOk_assign (H : List Nat) (x : Operand) : gl H c e (.assign x) = True := rfl
theorem heldOk_nil (H : List Nat) (x : Operand) : gl H c e (.nilCheck x) = True := rfl
theorem heldOk_bin (H : List Nat) (op : BinOp) (t t' : Nat) (x y : Operand) : gl H c e (.binOp op t x y t') = True := rfl
theorem heldOk_un (H : List Nat) (op : UnOp) (t : Nat) (x : Operand) : gl H c e (.unOp op t x) = True := rfl
theorem heldOk_conv (H : List Nat) (t d : Nat) (x : Operand) : gl H c e (.convert t d x) = quietC (ev c e x) := rfl
theorem quietC_int (k : IntKind) (n : Int) : quietC (.sc (.int k n)) = True := rfl
theorem heldOk_pick (H : List Nat) (a x y : Operand) : gl H c e (.pick a x y) = True := rfl
theorem heldOk_field (H : List Nat) (t : Nat) (x : Operand) (f : Nat) : gl H c e (.fieldAddr t x f) = True := rfl
theorem heldOk_idx (H : List Nat) (t : Nat) (x i : Operand) : gl H c e (.indexAddr t x i) = True := rfl
theorem heldOk_slice (H : List Nat) (t : Nat) (x : Operand) (lo hi mx : Option Operand) : gl H c e (.slice t x lo hi mx) = True := rfl
theorem heldOk_build (H : List Nat) (t : Nat) (ps : Array (Nat × Operand)) : gl H c e (.build t ps) = True := rfl
theorem heldOk_call (H : List Nat) (cl : Call) : gl H c e (.call cl) = True := rfl
theorem heldA_opt (H : List Nat) (b : Bool) (x : AV) : heldA H (.opt b x) = allP (fun L => memN H L = true) (names x) := rfl
theorem heldA_pt (H : List Nat) (L i : Nat) : heldA H (.pt L i) = (memN H L = true ∧ True) := rfl
theorem heldA_pa (H : List Nat) (L i j : Nat) : heldA H (.pa L i j) = (memN H L = true ∧ True) := rfl
theorem heldA_fp (H : List Nat) (z : Nat) (xs : List (List AV)) (i j : Nat) : heldA H (.fp z xs i j) = True := rfl

end

def guardV (want : Bool) : AV → Option Bool
 | .sc (.bool b) => some (b == want)
 | .opt g (.sc (.bool b)) => some (g && (b == want))
 | .opt false _ => some false
 | _ => none

def guardD : Option Oper → Option Nat
 | some o => o.dst
 | none => none

def guardL (e : Env) (want : Bool) : Option Nat → Option Bool
 | some t => guardV want (lk e t)
 | none => none

theorem guardV_b (want b : Bool) : guardV want (.sc (.bool b)) = some (b == want) := rfl
theorem guardV_o (want g b : Bool) : guardV want (.opt g (.sc (.bool b))) = some (g && (b == want)) := rfl
theorem guardL_s (e : Env) (want : Bool) (t : Nat) : guardL e want (some t) = guardV want (lk e t) := rfl
theorem guardD_s (dst : Option Nat) (op : Op) (ty : Nat) (pos : String) (af : Array Edge) (gd : Option (Nat × Bool)) : guardD (some ⟨dst, op, ty, pos, af, gd⟩) = dst := rfl

theorem guardA_L (ops : Array Oper) (e : Env) (j : Nat) (want : Bool) : guardA ops e j want = guardL e want (guardD ops[j]?) := by
 unfold guardA
 cases h : ops[j]? with
 | none => rfl
 | some o =>
  simp only [Option.bind_some, guardD]
  cases o.dst with
  | none => rfl
  | some t =>
   simp only [guardL]
   cases lk e t with
   | sc v => cases v <;> rfl
   | opt g x =>
    cases x with
    | sc v => cases v <;> cases g <;> rfl
    | _ => cases g <;> rfl
   | _ => rfl

section
variable (c : Cx) (CT : CTab) (nl : Nat) (lv : List Nat) (Q : Ex → St → Prop) (k : List It) (os : List AO) (e : Env) (H : List Nat) (dst : Option Nat) (g : Bool)

def guardR (op : Op) : Option Bool → Prop
 | none => False
 | some g =>
   if isPure op then (g = true → operOk c e g op ∧ pureOk c os (gev c e op) op ∧ plain (pureA c os (gev c e op) op)) ∧
    sem c CT nl lv Q k .normal ⟨put e dst (.opt g (pureA c os (gev c e op) op)), os⟩
   else (g = true → operOk c e g op ∧ effA c CT H os (gev c e op) op fun v os => sem c CT nl lv Q k .normal ⟨put e dst v, os⟩) ∧
    (g = false → sem c CT nl lv Q k .normal ⟨put e dst offA, os⟩)

theorem semg (all : Array Oper) (op : Op) (ty : Nat) (pos : String) (af : Array Edge) (j : Nat) (want : Bool) : sem c CT nl lv Q (.op H all ⟨dst, op, ty, pos, af, some (j, want)⟩ :: k) .normal ⟨e, os⟩ = guardR c CT nl lv Q k os e H dst op (guardL e want (guardD all[j]?)) := by
 rw [← guardA_L, sem_guard]
 cases guardA all e j want <;> rfl

theorem semg_move (x : Operand) : guardR c CT nl lv Q k os e H dst (.move x) (some g) = ((g = true → aV true (ev c e x) ∧ plain (strip (ev c e x))) ∧ sem c CT nl lv Q k .normal ⟨put e dst (.opt g (strip (ev c e x))), os⟩) := by
 cases g <;> simp [guardR, isPure, operOk, gev, pureOk, pureA, Op.operands, allP]
theorem semg_load (t : Nat) (x : Operand) : guardR c CT nl lv Q k os e H dst (.load t x) (some g) = ((g = true → aV true (ev c e x) ∧ (dv os (strip (ev c e x)) = true ∧ 0 < (c.T t).sz ∧ likeAll (c.T t).zero (rowAt os (strip (ev c e x)))) ∧ plain (loadV (c.T t) (rowAt os (strip (ev c e x))))) ∧
  sem c CT nl lv Q k .normal ⟨put e dst (.opt g (loadV (c.T t) (rowAt os (strip (ev c e x))))), os⟩) := by
 cases g <;> simp [guardR, isPure, operOk, gev, pureOk, pureA, Op.operands, allP]
theorem semg_nil (x : Operand) : guardR c CT nl lv Q k os e H dst (.nilCheck x) (some g) = ((g = true → aV true (ev c e x) ∧ dv os (strip (ev c e x)) = true ∧ plain (strip (ev c e x))) ∧ sem c CT nl lv Q k .normal ⟨put e dst (.opt g (strip (ev c e x))), os⟩) := by
 cases g <;> simp [guardR, isPure, operOk, gev, pureOk, pureA, Op.operands, allP]
theorem semg_bin (op : BinOp) (t t' : Nat) (x y : Operand) (hy : isPure (.binOp op t x y t') = true) : guardR c CT nl lv Q k os e H dst (.binOp op t x y t') (some g) = ((g = true → (aV true (ev c e x) ∧ aV true (ev c e y)) ∧ binOk (c.T t) op (strip (ev c e x)) (strip (ev c e y)) ∧ plain (binA op (strip (ev c e x)) (strip (ev c e y)))) ∧
  sem c CT nl lv Q k .normal ⟨put e dst (.opt g (binA op (strip (ev c e x)) (strip (ev c e y)))), os⟩) := by
 cases g <;> simp [guardR, hy, operOk, gev, pureOk, pureA, Op.operands, allP]
theorem semg_un (op : UnOp) (t : Nat) (x : Operand) : guardR c CT nl lv Q k os e H dst (.unOp op t x) (some g) = ((g = true → aV true (ev c e x) ∧ unOk op (strip (ev c e x)) ∧ plain (unA op (strip (ev c e x)))) ∧ sem c CT nl lv Q k .normal ⟨put e dst (.opt g (unA op (strip (ev c e x)))), os⟩) := by
 cases g <;> simp [guardR, isPure, operOk, gev, pureOk, pureA, Op.operands, allP]
theorem semg_conv (t d : Nat) (x : Operand) : guardR c CT nl lv Q k os e H dst (.convert t d x) (some g) = ((g = true → aV true (ev c e x) ∧ (0 < (c.T t).sz ∧ 0 < (c.T d).sz ∧ convOk os (c.T t).kind (c.T d).kind (c.T (elemOf c t)) (strip (ev c e x))) ∧ plain (convA os (c.T t).kind (c.T d).kind (strip (ev c e x)))) ∧
  sem c CT nl lv Q k .normal ⟨put e dst (.opt g (convA os (c.T t).kind (c.T d).kind (strip (ev c e x)))), os⟩) := by
 cases g <;> simp [guardR, isPure, operOk, gev, pureOk, pureA, Op.operands, allP]
theorem semg_pick (a x y : Operand) : guardR c CT nl lv Q k os e H dst (.pick a x y) (some g) = ((g = true → selOk (ev c e a) (ev c e x) (ev c e y) ∧ plain (selA (ev c e a) (ev c e x) (ev c e y))) ∧
  sem c CT nl lv Q k .normal ⟨put e dst (.opt g (selA (ev c e a) (ev c e x) (ev c e y))), os⟩) := by
 cases g <;> simp [guardR, isPure, operOk, gev, pureOk, pureA]
theorem semg_field (t : Nat) (x : Operand) (f : Nat) : guardR c CT nl lv Q k os e H dst (.fieldAddr t x f) (some g) = ((g = true → aV true (ev c e x) ∧ (0 < (c.T t).sz ∧ dv os (strip (ev c e x)) = true ∧ 0 < (fieldOff (c.T t) f).2) ∧ plain (addOff (strip (ev c e x)) (fieldOff (c.T t) f).1)) ∧
  sem c CT nl lv Q k .normal ⟨put e dst (.opt g (addOff (strip (ev c e x)) (fieldOff (c.T t) f).1)), os⟩) := by
 cases g <;> simp [guardR, isPure, operOk, gev, pureOk, pureA, Op.operands, allP]
theorem semg_idx (t : Nat) (x i : Operand) : guardR c CT nl lv Q k os e H dst (.indexAddr t x i) (some g) = ((g = true → (aV true (ev c e x) ∧ aV true (ev c e i)) ∧
  (0 < (c.T t).sz ∧ 0 < (c.T (elemOf c t)).sz ∧ aW c t ∧ esz os (strip (ev c e x)) = (c.T (elemOf c t)).sz ∧ lenOk os (strip (ev c e x)) ∧ isNum (strip (ev c e i)) ∧ 0 ≤ numA (strip (ev c e i)) ∧ numA (strip (ev c e i)) < lenA (strip (ev c e x))) ∧
  plain (idxA (strip (ev c e x)) (numA (strip (ev c e i))))) ∧ sem c CT nl lv Q k .normal ⟨put e dst (.opt g (idxA (strip (ev c e x)) (numA (strip (ev c e i))))), os⟩) := by
 cases g <;> simp [guardR, isPure, operOk, gev, pureOk, pureA, Op.operands, allP]
theorem semg_len (x : Operand) (t : Nat) : guardR c CT nl lv Q k os e H dst (.call ⟨.builtin .len, #[x], #[t]⟩) (some g) = ((g = true → aV true (ev c e x) ∧ 0 < (c.T t).sz ∧ lenOk os (strip (ev c e x)) ∧ lenTy c t (strip (ev c e x))) ∧
  sem c CT nl lv Q k .normal ⟨put e dst (.opt g (.sc (.int .i64 (lenA (strip (ev c e x)))))), os⟩) := by
 cases g <;> simp [guardR, isPure, operOk, gev, pureOk, pureA, Op.operands, Call.operands, allP, plain]
theorem semg_call (n : Nat) (args : Array Operand) (tys : Array Nat) : guardR c CT nl lv Q k os e H dst (.call ⟨.value (.func n), args, tys⟩) (some g) = ((g = true → allP (fun x => aV true (ev c e x)) args.toList ∧ callR c CT nl lv Q H n (args.toList.map fun x => strip (ev c e x)) e os dst k) ∧
  (g = false → sem c CT nl lv Q k .normal ⟨put e dst offA, os⟩)) := by
 have h1 : fnC (strip (ev c e (.func n))) = some (n, []) := rfl
 have h2 : ∀ b, aV b (ev c e (.func n)) = True := fun _ => rfl
 cases g
 ·simp [guardR, isPure]
 ·simp only [guardR, isPure, operOk, gev, effA, callR, h1, Op.operands, Call.operands, List.append_nil, Bool.false_eq_true, if_false, Array.toList_append, List.cons_append, List.nil_append, allP, h2, true_and]
end


section
variable (ks : List Nat) (os : List AO) (nl : Nat) (ts : List Nat) (post : AV → List AO → Prop) (e : Env)
theorem resA_nil (c : Cx) : resA c ks os e [] = [] := rfl
theorem resA_cons (c : Cx) (r : ResultVar) (rs : List ResultVar) : resA c ks os e (r :: rs) = viewA ks os (resV c os e r) :: resA c ks os e rs := rfl
theorem resV_tmp (c : Cx) (t : Nat) : resV c os e (.tmp t) = lk e t := rfl
theorem resV_cell (c : Cx) (a t : Nat) : resV c os e (.cell a t) = loadV (c.T t) (rowAt os (lk e a)) := rfl
theorem resOk_tmp (c : Cx) (t : Nat) : resOk c os e (.tmp t) = True := rfl
theorem resOk_cell (c : Cx) (a t : Nat) : resOk c os e (.cell a t) = (dv os (lk e a) = true ∧ 0 < (c.T t).sz ∧ likeAll (c.T t).zero (rowAt os (lk e a))) := rfl
theorem oneA_one (x : AV) : oneA [x] = x := rfl
theorem oneA_two (x y : AV) (l : List AV) : oneA (x :: y :: l) = .tup (x :: y :: l) := rfl
theorem oneA_nil : oneA [] = .tup [] := rfl
theorem viewC_sc (v : Value) : viewC ks os (.sc v) = .sc v := rfl
theorem viewC_fz (z : Nat) (xs : List (List AV)) : viewC ks os (.fz z xs) = .fz z xs := rfl
theorem viewC_sl (L o n : Nat) : viewC ks os (.sl L o n) = match pos ks L with
  | some j => .sl j o n
  | none => match os[L]? with
   | some (.arr _ s xs) => .fz s ((xs.drop o).take n)
   | _ => .junk := rfl
theorem viewC_pt (L k : Nat) : viewC ks os (.pt L k) = match pos ks L with
  | some j => .pt j k
  | none => .junk := rfl
theorem viewA_agg (cs : List AV) : viewA ks os (.agg cs) = .agg (cs.map (viewC ks os)) := rfl
theorem viewA_sc (v : Value) : viewA ks os (.sc v) = .sc v := rfl
theorem viewA_fz (z : Nat) (xs : List (List AV)) : viewA ks os (.fz z xs) = .fz z xs := rfl
theorem viewA_sl (L o n : Nat) : viewA ks os (.sl L o n) = viewC ks os (.sl L o n) := rfl
theorem viewA_pt (L k : Nat) : viewA ks os (.pt L k) = viewC ks os (.pt L k) := rfl
theorem viewV_sc (v : Value) : viewV ks os (.sc v) = .sc v := rfl
theorem viewV_fz (z : Nat) (xs : List (List AV)) : viewV ks os (.fz z xs) = .fz z xs := rfl
theorem viewV_sl (L o n : Nat) : viewV ks os (.sl L o n) = viewC ks os (.sl L o n) := rfl
theorem viewV_pt (L k : Nat) : viewV ks os (.pt L k) = viewC ks os (.pt L k) := rfl
theorem viewO_rc (cs : List AV) : viewO ks os (.rc cs) = .rc (cs.map (viewC ks os)) := rfl
theorem viewO_arr (b : Bool) (s : Nat) (xs : List (List AV)) : viewO ks os (.arr b s xs) = .arr b s xs := rfl
theorem viewO_dead : viewO ks os .dead = .dead := rfl
theorem viewS_nil : bh [] os = [] := rfl
theorem viewS_cons (L : Nat) : bh (L :: ks) os = viewO (L :: ks) os (os.getD L (virt L)) :: ks.map fun L' => viewO (L :: ks) os (os.getD L' (virt L')) := rfl
theorem virt_eq (L : Nat) : virt L = if 2000000 ≤ L then .arr true ((L - 2000000) % 1000 + 1) [] else .dead := rfl
theorem viewSt_eq (s : St) : dX ts ks s = ⟨ts.map fun t => (t, viewV ks s.os (lk s.env t)), bh ks s.os⟩ := rfl
theorem pos_nil (t : Nat) : pos [] t = none := rfl
theorem pos_cons (a t : Nat) (r : List Nat) : pos (a :: r) t = if a = t then some 0 else match pos r t with
  | some j => some (j + 1)
  | none => none := rfl
theorem enter_nil (n : Nat) : enterE n [] = [] := rfl
theorem enter_cons (n : Nat) (x : AV) (r : List AV) : enterE n (x :: r) = (n, x) :: enterE (n + 1) r := rfl
end

section
variable (f : Nat → Nat)
theorem renC_sc (v : Value) : renC f (.sc v) = .sc v := rfl
theorem renC_fz (z : Nat) (xs : List (List AV)) : renC f (.fz z xs) = .fz z xs := rfl
theorem renC_sl (L o n : Nat) : renC f (.sl L o n) = .sl (f L) o n := rfl
theorem renC_pt (L k : Nat) : renC f (.pt L k) = .pt (f L) k := rfl
theorem renA_agg (cs : List AV) : renA f (.agg cs) = .agg (cs.map (renC f)) := rfl
theorem renA_sc (v : Value) : renA f (.sc v) = .sc v := rfl
theorem renA_fz (z : Nat) (xs : List (List AV)) : renA f (.fz z xs) = .fz z xs := rfl
theorem renA_sl (L o n : Nat) : renA f (.sl L o n) = .sl (f L) o n := rfl
theorem renV_tup (cs : List AV) : renV f (.tup cs) = .tup (cs.map (renA f)) := rfl
theorem renV_agg (cs : List AV) : renV f (.agg cs) = .agg (cs.map (renC f)) := rfl
theorem renV_sc (v : Value) : renV f (.sc v) = .sc v := rfl
theorem renV_fz (z : Nat) (xs : List (List AV)) : renV f (.fz z xs) = .fz z xs := rfl
theorem renV_sl (L o n : Nat) : renV f (.sl L o n) = .sl (f L) o n := rfl
theorem renV_pt (L k : Nat) : renV f (.pt L k) = .pt (f L) k := rfl
theorem renO_rc (cs : List AV) : renO f (.rc cs) = .rc (cs.map (renC f)) := rfl
theorem renO_arr (b : Bool) (s : Nat) (xs : List (List AV)) : renO f (.arr b s xs) = .arr b s xs := rfl
theorem renO_dead : renO f .dead = .dead := rfl
theorem merge_eq (lend : List Nat) (os os' : List AO) : merge lend os os' = putAll os lend (os'.map (renO (ek lend os.length))) ++ (os'.drop lend.length).map (renO (ek lend os.length)) := rfl
theorem putAll_nil (os l : List AO) : putAll os [] l = os := by cases l <;> rfl
theorem putAll_cons (os l : List AO) (L : Nat) (r : List Nat) (o : AO) : putAll os (L :: r) (o :: l) = putAll (os.set L o) r l := rfl
theorem backN_eq (lend : List Nat) (n j : Nat) : ek lend n j = match lend[j]? with
 | some L => L
 | none => n + (j - lend.length) := rfl
theorem unownN_nil (os : List AO) : e8 os [] = os := rfl
theorem unownN_cons (os : List AO) (L : Nat) (r : List Nat) : e8 os (L :: r) = e8 (unown os (.sl L 0 0)) r := rfl
theorem shownAll_eq (ks : List Nat) (os : List AO) (vs : List AV) : cX ks os vs = vs.flatMap (shownV ks) ++ ks.flatMap fun L => shownO ks (os.getD L .dead) := rfl
theorem shownC_sc (ks : List Nat) (v : Value) : shownC ks (.sc v) = [] := rfl
theorem shownC_fz (ks : List Nat) (z : Nat) (xs : List (List AV)) : shownC ks (.fz z xs) = [] := rfl
theorem shownC_pt (ks : List Nat) (L k : Nat) : shownC ks (.pt L k) = [] := rfl
theorem shownC_sl (ks : List Nat) (L o n : Nat) : shownC ks (.sl L o n) = if (pos ks L).isSome then [] else [L] := rfl
theorem shownV_sc (ks : List Nat) (v : Value) : shownV ks (.sc v) = [] := rfl
theorem shownV_fz (ks : List Nat) (z : Nat) (xs : List (List AV)) : shownV ks (.fz z xs) = [] := rfl
theorem shownV_pt (ks : List Nat) (L k : Nat) : shownV ks (.pt L k) = [] := rfl
theorem shownV_sl (ks : List Nat) (L o n : Nat) : shownV ks (.sl L o n) = if (pos ks L).isSome then [] else [L] := rfl
theorem shownV_agg (ks : List Nat) (cs : List AV) : shownV ks (.agg cs) = cs.flatMap (shownC ks) := rfl
theorem shownO_rc (ks : List Nat) (cs : List AV) : shownO ks (.rc cs) = cs.flatMap (shownC ks) := rfl
theorem shownO_arr (ks : List Nat) (b : Bool) (s : Nat) (xs : List (List AV)) : shownO ks (.arr b s xs) = [] := rfl
theorem shownO_dead (ks : List Nat) : shownO ks .dead = [] := rfl
theorem noFzV_sc (v : Value) : noFzV (.sc v) = True := rfl
theorem noFzO_rc (cs : List AV) : noFzO (.rc cs) = allP noFzC cs := rfl
theorem noFzC_sc (v : Value) : noFzC (.sc v) = True := rfl
theorem own_eq (os : List AO) (L : Nat) : own os L = isOwn os[L]? := rfl
theorem isOwn_rc (cs : List AV) : isOwn (some (.rc cs)) = True := rfl
theorem isOwn_arr (s : Nat) (xs : List (List AV)) : isOwn (some (.arr true s xs)) = True := rfl
end

theorem wkV_refl (x : AV) : wkV x x := .inl rfl
theorem wkSt_refl (s : St) : wkSt s s := ⟨wkE_refl _, wkS_refl _⟩

theorem wrap64 {n : Int} (h1 : -9223372036854775808 ≤ n) (h2 : n ≤ 9223372036854775807) : IntKind.i64.wrap n = n := by
 rw [IntKind.wrap_i64]; omega


section
variable {c : Cx} {CT : CTab} {nl : Nat} {lv : List Nat} {Q : Ex → St → Prop} {k : List It} {s : St} {e : Env} {os : List AO}
theorem ae (h : sem c CT nl lv Q k .normal s) : sem c CT nl lv Q (.code .skip :: k) .normal s := h
theorem aK {id : Nat} (h : sem c CT nl lv Q k (.exit id) s) : sem c CT nl lv Q (.code (.exit id) :: k) .normal s := h
theorem ab (h : sem c CT nl lv Q k .ret s) : sem c CT nl lv Q (.code .ret :: k) .normal s := h
theorem r_blkE {id : Nat} (h : sem c CT nl lv Q k .normal s) : sem c CT nl lv Q (.blk id :: k) (.exit id) s := by rw [sem_blk_e, if_pos rfl]; exact h
theorem r_join (h : sem c CT nl lv Q k .normal s) : sem c CT nl lv Q (.join :: k) .normal s := .inl h
end


def partK (c : Cx) : TK → Nat → Option (Nat × Nat)
 | .struct fs, i => fs[i]?
 | .array _ e, i => some (i * (c.T e).sz, (c.T e).sz)
 | _, _ => none

def fillO (place : Nat → Option (Nat × Nat)) (cells : List AV) (v : AV) (r : List (Nat × AV)) : Option (Nat × Nat) → Option (List AV)
 | none => none
 | some (off, size) => if (cellsOf v).length = size ∧ off + size ≤ cells.length then fillA place (setCells cells off (cellsOf v)) r else none

def optAgg : Option (List AV) → AV
 | some cs => .agg cs
 | none => .junk

def tupGet (i : Nat) : AV → AV
 | .tup vs => vs.getD i .junk
 | _ => .junk

def tupOk (i : Nat) : AV → Prop
 | .tup vs => i < vs.length
 | _ => False

section
variable (c : Cx) (CT : CTab) (nl : Nat) (lv : List Nat) (Q : Ex → St → Prop) (k : List It) (os : List AO) (e : Env) (H : List Nat) (dst : Option Nat)
theorem partsOf_eq (t : Nat) : partsOf c t = partK c (c.T t).kind := by
 funext i
 unfold partsOf partK
 cases (c.T t).kind <;> rfl
theorem partK_struct (fs : List (Nat × Nat)) (i : Nat) : partK c (.struct fs) i = fs[i]? := rfl
theorem fillA_nil (place : Nat → Option (Nat × Nat)) (cells : List AV) : fillA place cells [] = some cells := rfl
theorem fillA_cons (place : Nat → Option (Nat × Nat)) (cells : List AV) (i : Nat) (v : AV) (r : List (Nat × AV)) : fillA place cells ((i, v) :: r) = fillO place cells v r (place i) := by
 unfold fillA fillO
 cases hp : place i with
 | none => rfl
 | some os =>
  obtain ⟨off, size⟩ := os
  simp only
  by_cases h : (cellsOf v).length = size ∧ off + size ≤ cells.length
  ·rw [if_pos h, if_neg (by omega)]
   have : setCells cells off (cellsOf v) = cells.take off ++ cellsOf v ++ cells.drop (off + size) := by simp [setCells, h.1]
   rw [this]
  ·rw [if_neg h, if_pos (by omega)]
theorem fillO_some (place : Nat → Option (Nat × Nat)) (cells : List AV) (v : AV) (r : List (Nat × AV)) (off size : Nat) : fillO place cells v r (some (off, size)) = if (cellsOf v).length = size ∧ off + size ≤ cells.length then fillA place (setCells cells off (cellsOf v)) r else none := rfl
theorem optAgg_some (cs : List AV) : optAgg (some cs) = .agg cs := rfl
theorem isBuilt_struct (fs : List (Nat × Nat)) : isBuilt (.struct fs) = True := rfl
theorem semb_build (all : Array Oper) (ty : Nat) (pos : String) (af : Array Edge) (t : Nat) (ps : Array (Nat × Operand)) : sem c CT nl lv Q (.op H all ⟨dst, .build t ps, ty, pos, af, none⟩ :: k) .normal ⟨e, os⟩ =
  ((0 < (c.T t).sz ∧ isBuilt (c.T t).kind ∧ allP (fun p => allP (recOk os) (cellsOf (ev c e p.2))) ps.toList ∧ (fillA (partsOf c t) (c.T t).zero (ps.toList.map fun p => (p.1, ev c e p.2))).isSome = true) ∧
   sem c CT nl lv Q k .normal ⟨put e dst (optAgg (fillA (partsOf c t) (c.T t).zero (ps.toList.map fun p => (p.1, ev c e p.2)))), os⟩) := by
 rw [sem_build]
 simp only [pureOk, pureA]
 cases fillA (partsOf c t) (c.T t).zero (ps.toList.map fun p => (p.1, ev c e p.2)) <;> rfl
theorem tupGet_tup (i : Nat) (vs : List AV) : tupGet i (.tup vs) = vs.getD i .junk := rfl
theorem tupOk_tup (i : Nat) (vs : List AV) : tupOk i (.tup vs) = (i < vs.length) := rfl
theorem semb_extract (all : Array Oper) (ty : Nat) (pos : String) (af : Array Edge) (x : Operand) (i : Nat) : sem c CT nl lv Q (.op H all ⟨dst, .extract x i, ty, pos, af, none⟩ :: k) .normal ⟨e, os⟩ =
  (tupOk i (ev c e x) ∧ sem c CT nl lv Q k .normal ⟨put e dst (tupGet i (ev c e x)), os⟩) := by
 rw [sem_extract]
 simp only [pureOk, pureA]
 cases ev c e x <;> rfl
end


theorem call_use {c : Cx} {CT : CTab} {nl : Nat} {lv : List Nat} {Q : Ex → St → Prop} {k : List It} {e : Env} {os : List AO} {H : List Nat} {dst : Option Nat} {n : Nat} {vs vs' : List AV} {σ : List AO} {post : AV → List AO → Prop}
  (lend : List Nat) (con : CT n vs' σ post) (h1 : vs.map (viewV lend os) = vs') (h2 : bh lend os = σ) (hn : nodupN lend = true) (hl : allP (fun L => own os L ∧ memN H L = false) lend)
  (h : ∀ x σ', post x σ' → sem c CT nl lv Q k .normal ⟨put e dst (renV (ek lend os.length) x), merge lend (e8 os (cX lend os vs)) σ'⟩) : callR c CT nl lv Q H n vs e os dst k :=
 ⟨lend, true, post, by rw [h1, h2]; exact con, hn, hl, fun x σ' hx => ⟨fun h0 => (by cases h0), (by rw [if_pos rfl]; exact h x σ' hx)⟩⟩


def ordN {α : Type} : Nat → Nat → List (Nat × α) → Bool
 | _, 0, [] => true
 | i, n + 1, p :: r => p.1 == i && ordN (i + 1) n r
 | _, _, _ => false

theorem ordN_len {α : Type} : ∀ {i n : Nat} {ps : List (Nat × α)}, ordN i n ps = true → ps.length = n
 | _, 0, [], _ => rfl
 | i, n + 1, p :: r, h => by
  simp only [ordN, Bool.and_eq_true] at h
  simp [ordN_len h.2]
 | _, 0, _ :: _, h => by simp [ordN] at h
 | _, _ + 1, [], h => by simp [ordN] at h

theorem ordN_get {α : Type} : ∀ {i n : Nat} {ps : List (Nat × α)}, ordN i n ps = true → ∀ (j : Nat) p, ps[j]? = some p → p.1 = i + j
 | _, 0, [], _, j, p, hp => by simp at hp
 | i, n + 1, q :: r, h, j, p, hp => by
  simp only [ordN, Bool.and_eq_true, beq_iff_eq] at h
  cases j with
  | zero => cases hp; exact h.1
  | succ j => have := ordN_get h.2 j p (by simpa using hp); omega
 | _, 0, _ :: _, h, _, _, _ => by simp [ordN] at h
 | _, _ + 1, [], h, _, _, _ => by simp [ordN] at h

theorem ordN_lookup {α : Type} : ∀ {i n : Nat} {ps : List (Nat × α)}, ordN i n ps = true → ∀ (m : Nat), ps.lookup m = if i ≤ m then (ps[m - i]?).map (·.2) else none
 | _, 0, [], _, m => by simp
 | i, n + 1, (j, x) :: r, h, m => by
  simp only [ordN, Bool.and_eq_true, beq_iff_eq] at h
  obtain ⟨h1, h2⟩ := h
  subst h1
  have ih := ordN_lookup h2 m
  by_cases e : m = j
  ·subst e; simp [List.lookup]
  ·have : (m == j) = false := by simpa using e
   simp only [List.lookup, this, ih]
   by_cases h3 : j ≤ m
   ·rw [if_pos (by omega), if_pos h3]
    have : m - j = (m - (j + 1)) + 1 := by omega
    rw [this]; simp
   ·rw [if_neg (by omega), if_neg h3]
 | _, 0, _ :: _, h, _ => by simp [ordN] at h
 | _, _ + 1, [], h, _ => by simp [ordN] at h

theorem litElems_ord {ti : TI} {n : Nat} {ps : List (Nat × AV)} (h : ordN 0 n ps = true) : litElems ti n ps = ps.map fun p => cellsOf p.2 := by
 apply List.ext_getElem?
 intro i
 have hl := ordN_len h
 by_cases hi : i < n
 ·rw [litElems_get ti ps n i hi, ordN_lookup h, if_pos (Nat.zero_le _), Nat.sub_zero, List.getElem?_map, List.getElem?_eq_getElem (by omega)]
  simp
 ·rw [List.getElem?_eq_none (by rw [dO]; omega), List.getElem?_eq_none (by simp; omega)]

theorem litOk_ord {os : List AO} {ti : TI} {n : Nat} : ∀ {i m : Nat} {ps : List (Nat × AV)}, ordN i m ps = true → i + m ≤ n → allP (fun p => (cellsOf p.2).length = ti.sz ∧ allP (frzOk os) (cellsOf p.2)) ps → litOk os ti n ps
 | _, 0, [], _, _, _ => trivial
 | i, m + 1, (j, x) :: r, h, hn, hp => by
  have h' := h
  simp only [ordN, Bool.and_eq_true, beq_iff_eq] at h
  obtain ⟨h1, h2⟩ := h
  subst h1
  refine ⟨by omega, hp.1.1, hp.1.2, ?_, litOk_ord h2 (by omega) hp.2⟩
  rw [ordN_lookup h2, if_neg (by omega)]
 | _, 0, _ :: _, h, _, _ => by simp [ordN] at h
 | _, _ + 1, [], h, _, _ => by simp [ordN] at h

theorem litOk_iff {os : List AO} {ti : TI} {n : Nat} {ps : List (Nat × AV)} (h : ordN 0 n ps = true) : litOk os ti n ps = allP (fun p => (cellsOf p.2).length = ti.sz ∧ allP (frzOk os) (cellsOf p.2)) ps := by
 apply propext
 refine ⟨fun hk => ?_, fun hp => litOk_ord h (by omega) hp⟩
 have := (litOk_all hk).2
 clear h hk
 induction ps with
 | nil => trivial
 | cons p r ih => exact ⟨⟨(this p (.head _)).2.2, (this p (.head _)).2.1⟩, ih fun q hq => this q (.tail _ hq)⟩

theorem ordN_nil {α : Type} (i : Nat) : ordN i 0 ([] : List (Nat × α)) = true := rfl
theorem ordN_cons {α : Type} (i n j : Nat) (x : α) (r : List (Nat × α)) : ordN i (n + 1) ((j, x) :: r) = (j == i && ordN (i + 1) n r) := rfl


section
variable {c : Cx} {CT : CTab} {nl : Nat} {lv : List Nat} {Q : Ex → St → Prop} {k : List It} {s : St} {e : Env} {os : List AO}
theorem i_call {H : List Nat} {n : Nat} {vs : List AV} {dst : Option Nat} (h : callR c CT nl lv Q H n vs e os dst k) : callR c CT nl lv Q H n vs e os dst k := h
end

end Go.AM
end
section
/- Rules of the walk by which calls, ends and loops go by themselves. Conditions: none. -/
namespace Go.AM
open Go

def gv : AV → List Nat
 | .clo _ ps => ps.map fun p => p.1
 | .sl L _ _ => [L]
 | .pt L _ => [L]
 | .pa L _ _ => [L]
 | _ => []

def cellAt (os : List AO) (j : Nat) : AV → AV
 | .pt L k => match os[L]? with
  | some (.rc cs) => cs.getD (k + j) .junk
  | _ => .junk
 | _ => .junk

def lendAt (os : List AO) (x : AV) : List Nat → List Nat
 | [] => gv x
 | j :: r => lendAt os (cellAt os j x) r

def dq (os : List AO) (vs : List AV) : List (List Nat) → List Nat
 | [] => []
 | [] :: r => dq os vs r
 | (i :: p) :: r => lendAt os (vs.getD i .junk) p ++ dq os vs r

def callW (CT : CTab) (n : Nat) (vs : List AV) (σ : List AO) (K : AV → List AO → Prop) : Prop := ∃ post, CT n vs σ post ∧ ∀ x σ', post x σ' → K x σ'

def behind (c : Cx) (CT : CTab) (nl : Nat) (lv : List Nat) (Q : Ex → St → Prop) (k : List It) (e : Env) (dst : Option Nat) (lend : List Nat) (n : Nat) (os : List AO) (x : AV) (σ' : List AO) : Prop :=
 sem c CT nl lv Q k .normal ⟨put e dst (renV (ek lend n) x), merge lend os σ'⟩

section
variable {c : Cx} {CT : CTab} {nl : Nat} {lv : List Nat} {Q : Ex → St → Prop} {k : List It} {e : Env} {os : List AO} {H : List Nat} {dst : Option Nat} {n : Nat} {vs : List AV}

theorem call_open (ps : List (List Nat)) (h : nodupN (dq os vs ps) = true ∧ allP (fun L => own os L ∧ memN H L = false) (dq os vs ps) ∧
  callW CT n (vs.map (viewV (dq os vs ps) os)) (bh (dq os vs ps) os) (behind c CT nl lv Q k e dst (dq os vs ps) os.length (e8 os (cX (dq os vs ps) os vs)))) : callR c CT nl lv Q H n vs e os dst k := by
 obtain ⟨h1, h2, post, h3, h4⟩ := h
 exact call_use (dq os vs ps) h3 rfl rfl h1 h2 h4

theorem call_openF (ps : List (List Nat)) (h : nodupN (dq os vs ps) = true ∧ allP (fun L => own os L ∧ memN H L = false) (dq os vs ps) ∧
  callW CT n (vs.map (viewV (dq os vs ps) os)) (bh (dq os vs ps) os) (fun x σ' => (noFzV x ∧ allP noFzO σ') ∧ behind c CT nl lv Q k e dst (dq os vs ps) os.length os x σ')) : callR c CT nl lv Q H n vs e os dst k := by
 obtain ⟨h1, h2, post, h3, h4⟩ := h
 exact ⟨dq os vs ps, false, post, h3, h1, h2, fun x σ' hx => ⟨fun _ => (h4 x σ' hx).1, (h4 x σ' hx).2⟩⟩

theorem i_callW {σ : List AO} {K : AV → List AO → Prop} (h : callW CT n vs σ K) : callW CT n vs σ K := h
theorem dK {σ : List AO} {post : AV → List AO → Prop} {K : AV → List AO → Prop} (con : CT n vs σ post) (h : ∀ x σ', post x σ' → K x σ') : callW CT n vs σ K := ⟨post, con, h⟩

theorem bG {lend : List Nat} {m : Nat} {x : AV} {σ' : List AO} (h : sem c CT nl lv Q k .normal ⟨put e dst (renV (ek lend m) x), merge lend os σ'⟩) : behind c CT nl lv Q k e dst lend m os x σ' := h
end

theorem lendOf_nil (os : List AO) (vs : List AV) : dq os vs [] = [] := rfl
theorem lendOf_cons (os : List AO) (vs : List AV) (i : Nat) (p : List Nat) (r : List (List Nat)) : dq os vs ((i :: p) :: r) = lendAt os (vs.getD i .junk) p ++ dq os vs r := rfl
theorem lendAt_nil (os : List AO) (x : AV) : lendAt os x [] = gv x := rfl
theorem lendAt_cons (os : List AO) (x : AV) (j : Nat) (r : List Nat) : lendAt os x (j :: r) = lendAt os (cellAt os j x) r := rfl
theorem cellAt_pt (os : List AO) (j L k : Nat) : cellAt os j (.pt L k) = match os[L]? with
  | some (.rc cs) => cs.getD (k + j) .junk
  | _ => .junk := rfl
theorem nameOf1_sl (L o n : Nat) : gv (.sl L o n) = [L] := rfl
theorem nameOf1_pt (L k : Nat) : gv (.pt L k) = [L] := rfl
theorem nameOf1_sc (v : Value) : gv (.sc v) = [] := rfl
theorem nameOf1_fz (z : Nat) (xs : List (List AV)) : gv (.fz z xs) = [] := rfl
theorem nodupN_nil : nodupN [] = true := rfl
theorem nodupN_cons (a : Nat) (r : List Nat) : nodupN (a :: r) = ((pos r a).isNone && nodupN r) := rfl

def wkEnd (x : AV) (σ : List AO) (post : AV → List AO → Prop) : Prop := ∃ y τ, wkV x y ∧ wkS σ τ ∧ post y τ

section
variable {c : Cx} {nl : Nat} {rs : List ResultVar} {post : AV → List AO → Prop} {e : Env} {os : List AO}
theorem end_use_ret (ks : List Nat) (hk : bZ nl ks = true) (hb : Nat.ble os.length 1000000 = true) (h : allP (resOk c os e) rs ∧ wkEnd (oneA (resA c ks os e rs)) (bh ks os) post) : endQ c nl rs post .ret ⟨e, os⟩ := by
 obtain ⟨h1, y, τ, h2, h3, h4⟩ := h
 exact ⟨h1, ks, y, τ, ⟨hk, Nat.le_of_ble_eq_true hb⟩, h2, h3, h4⟩
theorem end_use_nrm (ks : List Nat) (hk : bZ nl ks = true) (hb : Nat.ble os.length 1000000 = true) (h : allP (resOk c os e) rs ∧ wkEnd (oneA (resA c ks os e rs)) (bh ks os) post) : endQ c nl rs post .normal ⟨e, os⟩ := by
 obtain ⟨h1, y, τ, h2, h3, h4⟩ := h
 exact ⟨h1, ks, y, τ, ⟨hk, Nat.le_of_ble_eq_true hb⟩, h2, h3, h4⟩
theorem bc {x : AV} {σ : List AO} (h : post x σ) : wkEnd x σ post := ⟨x, σ, .inl rfl, wkS_refl _, h⟩
theorem wkEnd_mk {x y : AV} {σ τ : List AO} (h1 : wkV x y) (h2 : wkS σ τ) (h : post y τ) : wkEnd x σ post := ⟨y, τ, h1, h2, h⟩
end

theorem wkL_nil : wkL [] [] := trivial
theorem wkL_cons {x y : AV} {r s : List AV} (h1 : wkC x y) (h2 : wkL r s) : wkL (x :: r) (y :: s) := ⟨h1, h2⟩
theorem wkT_nil : wkT [] [] := trivial
theorem wkT_cons {x y : AV} {r s : List AV} (h1 : wkA x y) (h2 : wkT r s) : wkT (x :: r) (y :: s) := ⟨h1, h2⟩
theorem wkM_nil : wkM [] [] := trivial
theorem wkM_cons {x y : AV} {r s : List AV} (h1 : wkD x y) (h2 : wkM r s) : wkM (x :: r) (y :: s) := ⟨h1, h2⟩
theorem wkD_nil (s : Nat) : wkD (.sc (.slice none 0 0)) (.fz s []) := .inl (.inr (.inl ⟨rfl, s, rfl⟩))
theorem wkD_sl (L : Nat) : wkD (.sc (.slice none 0 0)) (.sl L 0 0) := .inr ⟨rfl, L, rfl⟩
theorem wkA_sl (L : Nat) : wkA (.sc (.slice none 0 0)) (.sl L 0 0) := .inr (wkD_sl L)
theorem wkV_sl (L : Nat) : wkV (.sc (.slice none 0 0)) (.sl L 0 0) := .inr (.inr (wkD_sl L))
theorem wkV_agg {cs ds : List AV} (h : wkM cs ds) : wkV (.agg cs) (.agg ds) := .inr (.inr h)
theorem wkV_tup {cs ds : List AV} (h : wkT cs ds) : wkV (.tup cs) (.tup ds) := .inr h
theorem wkA_agg {cs ds : List AV} (h : wkM cs ds) : wkA (.agg cs) (.agg ds) := .inr h
theorem wkA_refl (x : AV) : wkA x x := .inl rfl
theorem wkA_nil (s : Nat) : wkA (.sc (.slice none 0 0)) (.fz s []) := .inr (wkD_nil s)
theorem wkS_nil : wkS [] [] := trivial
theorem wkS_cons {x y : AO} {r s : List AO} (h1 : wkO x y) (h2 : wkS r s) : wkS (x :: r) (y :: s) := ⟨h1, h2⟩
theorem wkO_refl (x : AO) : wkO x x := .inl rfl
theorem wkO_rc {cs ds : List AV} (h : wkM cs ds) : wkO (.rc cs) (.rc ds) := .inr h
theorem wkO_arr {b : Bool} {z : Nat} {xs ys : List (List AV)} (h : wkR xs ys) : wkO (.arr b z xs) (.arr b z ys) := .inr ⟨rfl, rfl, h⟩
theorem wkE_nil : wkE [] [] := trivial
theorem wkE_cons {i : Nat} {x y : AV} {r s : Env} (h1 : wkV x y) (h2 : wkE r s) : wkE ((i, x) :: r) ((i, y) :: s) := ⟨rfl, h1, h2⟩
theorem wkSt_mk {e e' : Env} {os os' : List AO} (h1 : wkE e e') (h2 : wkS os os') : wkSt ⟨e, os⟩ ⟨e', os'⟩ := ⟨h1, h2⟩
theorem wkC_refl (x : AV) : wkC x x := .inl rfl
theorem wkC_nil (s : Nat) : wkC (.sc (.slice none 0 0)) (.fz s []) := .inr (.inl ⟨rfl, s, rfl⟩)
theorem wkL0_nil : wkL0 [] [] := trivial
theorem wkC0_refl (x : AV) : wkC0 x x := .inl rfl
theorem wkC0_nil (s : Nat) : wkC0 (.sc (.slice none 0 0)) (.fz s []) := .inr ⟨rfl, s, rfl⟩
theorem wkL0_cons {x y : AV} {r s : List AV} (h1 : wkC0 x y) (h2 : wkL0 r s) : wkL0 (x :: r) (y :: s) := ⟨h1, h2⟩
theorem wkC_fz {s : Nat} {xs ys : List (List AV)} (h : wkR0 xs ys) : wkC (.fz s xs) (.fz s ys) := .inr (.inr ⟨s, xs, ys, rfl, rfl, h⟩)
theorem wkA_fz {s : Nat} {xs ys : List (List AV)} (h : wkR0 xs ys) : wkA (.fz s xs) (.fz s ys) := .inr (.inl (wkC_fz h))
theorem wkD_fz {s : Nat} {xs ys : List (List AV)} (h : wkR0 xs ys) : wkD (.fz s xs) (.fz s ys) := .inl (wkC_fz h)
theorem wkV_fz {s : Nat} {xs ys : List (List AV)} (h : wkR0 xs ys) : wkV (.fz s xs) (.fz s ys) := .inr (.inr (.inl (wkC_fz h)))
theorem wkV_nil (s : Nat) : wkV (.sc (.slice none 0 0)) (.fz s []) := .inr (.inr (wkD_nil s))

theorem bif_or (a b : Bool) : (bif a then true else b) = (a || b) := by cases a <;> rfl
theorem bif_and (a b : Bool) : (bif a then b else false) = (a && b) := by cases a <;> rfl

section
variable {c : Cx} {CT : CTab} {nl : Nat} {lv : List Nat} {Q : Ex → St → Prop} {k : List It} {s : St}
def backB {α : Type} (nl : Nat) (ts : List Nat) (F : α → St) (φ : α → Prop) (μ : α → Nat) (a : α) (s' : St) : Prop := ∃ ks a', keepP nl ks s'.os ∧ wkSt (dX ts ks s') (F a') ∧ φ a' ∧ μ a' < μ a
end

theorem wkSs {s t : St} (h : s = t) : wkSt s t := by subst h; exact wkSt_refl _

section
variable (os : List AO)
theorem litOk_nil (ti : TI) (n : Nat) : litOk os ti n [] = True := rfl
theorem litElems_zero (ti : TI) (ps : List (Nat × AV)) : litElems ti 0 ps = [] := rfl
theorem seqT_some (c : Cx) (u : Nat) : seqT c (some u) = (0 < (c.T u).sz ∧ (match (c.T u).kind with | .slice _ | .str => True | _ => False)) := rfl
theorem appBase_nil : appBase os (.sc (.slice none 0 0)) = True := rfl
theorem appBase_sl (L o n : Nat) : appBase os (.sl L o n) = (o = 0 ∧ (match os[L]? with
  | some (.arr true _ _) => True
  | _ => False)) := rfl
theorem appNew_fz (z : Nat) (xs : List (List AV)) : aI os (.fz z xs) = xs := rfl
theorem appNew_sl (L o n : Nat) : aI os (.sl L o n) = elems os (.sl L o n) := rfl
theorem appNewOk_fz (sz z : Nat) (xs : List (List AV)) : appNewOk os sz (.fz z xs) = (z = sz ∨ xs = []) := rfl
theorem appNewOk_sl (sz L o n : Nat) : appNewOk os sz (.sl L o n) = (match os[L]? with
  | some (.arr _ s _) => s = sz
  | _ => False) := rfl
theorem isNil_nil : isNil (.sc (.slice none 0 0)) = true := rfl
theorem isNil_sl (L o n : Nat) : isNil (.sl L o n) = false := rfl
theorem kill_nil : kill os (.sc (.slice none 0 0)) = os := rfl
theorem kill_sl (L o n : Nat) : kill os (.sl L o n) = os.set L .dead := rfl
theorem appBound_eq : appBound = 140737488355328 := rfl
end
attribute [go_sem] litOk_nil litElems_zero seqT_some appBase_nil appBase_sl appNew_fz appNew_sl appNewOk_fz appNewOk_sl isNil_nil isNil_sl kill_nil kill_sl appBound_eq false_imp_iff true_or or_true
section
variable (c : Cx) (CT : CTab) (nl : Nat) (lv : List Nat) (Q : Ex → St → Prop) (k : List It) (e : Env) (os : List AO) (all : Array Oper) (H : List Nat)
def planL (p : Plan) : Option Oper → Prop
 | some o => sem c CT nl lv Q (.op [] all o :: .plan all H p :: k) .normal ⟨e, os⟩
 | none => False
theorem sem_plan_twoE (i j : Nat) (p q : Plan) : sem c CT nl lv Q (.plan all H (.two i j p q) :: k) .normal ⟨e, os⟩ = (planR c CT nl lv Q k all e os H false p all[i]? ∧ planR c CT nl lv Q k all e os H false q all[j]?) := by
 cases h : all[i]? with
 | none => simp only [sem, planA, h, planR, false_and]
 | some o =>
  cases h' : all[j]? with
  | none => simp only [sem, planA, h, h', planR, and_false]
  | some u => simp only [sem, planA, h, h', planR, Bool.false_eq_true, false_imp_iff, true_and]
theorem planL_eq (i : Nat) (p : Plan) : sem c CT nl lv Q (.plan all H (.last i p) :: k) .normal ⟨e, os⟩ = planL c CT nl lv Q k e os all H p all[i]? := by
 cases h : all[i]? with
 | none => simp only [sem, planA, h, planL]
 | some o => simp only [sem, planA, h, planL]
theorem planL_some (p : Plan) (o : Oper) : planL c CT nl lv Q k e os all H p (some o) = sem c CT nl lv Q (.op [] all o :: .plan all H p :: k) .normal ⟨e, os⟩ := rfl
end
theorem pw_1 (k : IntKind) : pw k 1 = 2 := by cases k <;> rfl
theorem pw_8 (k : IntKind) : pw k 8 = 256 := by cases k <;> rfl
theorem pw_u16_15 : pw .u16 15 = 32768 := rfl
attribute [go_sem high] pw_1 pw_8 pw_u16_15
attribute [go_sem] List.size_toArray Int.cast_ofNat_Int
section
variable (c : Cx) (CT : CTab) (nl : Nat) (lv : List Nat) (Q : Ex → St → Prop) (k : List It) (e : Env) (os : List AO) (all : Array Oper) (H : List Nat) (dst : Option Nat) (ty : Nat) (pos : String) (af : Array Edge)
end
attribute [go_sem] Bool.false_eq_true
attribute [go_sem] sem_cap cutA_nil cutTy_nil selA_ot selA_of selOk_ot selOk_of convA_fz convOk_fz strOp_eql strOk_eql heldOk_conv quietC_int
attribute [go_sem] sem_plan_twoE planL_eq planL_some
attribute [go_sem] sem_region sem_blk_e sem_ops_nil sem_ops_cons sem_plan_done planR_take planR_one sem_plan_take sem_plan_one sem_tak_nil sem_tak_cons sem_move sem_assign sem_pick sem_load sem_nilCheck sem_unOp sem_convert sem_slice sem_fieldAddr sem_indexAddr sem_len sem_alloc sem_box sem_store sem_buildSlice sem_makeSlice sem_append sem_call ev_tmp ev_const ev_func ev_glob lk_cons lk_nil put_some put_none keep_nil keep_cons memN_nil memN_cons binA_int binA_str binA_bne binA_aeq binA_ane binOk_int binOk_str binOk_bool binOk_agg eqOk_nil eqOk_int eqCells_nil eqCells_int int_add int_sub int_mul int_quo int_rem int_or int_xor int_shl int_shr int_eql int_neq int_lss int_leq int_gtr int_geq iok_add iok_sub iok_mul iok_quo iok_rem iok_or iok_xor iok_shl iok_shr iok_eql iok_neq iok_lss iok_leq iok_gtr iok_geq unA_neg unA_not unOk_neg unOk_not convA_int convOk_int selA_t selA_f selOk_t selOk_f selA_000 selOk_000 selA_001 selOk_001 selA_010 selOk_010 selA_100 selOk_100 selA_101 selOk_101 selA_110 selOk_110 strip_opt strip_sc strip_pt strip_sl strip_fz strip_agg sok_opt sok_sc sok_pt sok_sl sok_fz sok_agg plain_sc plain_pt plain_sl plain_fz plain_fp plain_agg lenA_fz lenA_sl lenA_nil lenOk_fz lenOk_sl lenOk_nil elems_sl elems_nil esz_fz esz_sl idxA_fz idxA_sl cutA_fz cutA_sl numA_int boolA_b isNum_int numOk_none numOk_some loOf_none loOf_some hiOf_none hiOf_some cutTy_fz cutTy_sl lenTy_fz lenTy_sl lenTy_nil elemOf_eq isSliceT_eq row_pt row_pa row_fp addr_pt addr_pa addr_fp off_pt off_pa off_fp fieldOff_eq loadV_one loadV_agg eta_nil eta_cons asLike_int asLike_bool asLike_slice asLike_ptr like_int like_bool like_slice like_ptr likeAll_nil likeAll_cons cells_agg cells_sc cells_pt cells_sl cells_fz allP_nil allP_cons recOk_sc recOk_fz recOk_sl recOk_pt frzOk_sc frzOk_fz frzOk_sl one_int one_bool frz_sc frz_fz frz_sl unown_sc unown_fz unown_sl unownAll_nil unownAll_cons storeOk_pt storeOk_pa storeA_pt storeA_pa setCells_nil setCells_cons0 setCells_succ notSl_sc notSl_fz notSl_sl names_pt names_pa names_sl names_sc heldOk_load heldOk_move heldOk_assign heldOk_nil heldOk_bin heldOk_un heldOk_conv heldOk_pick heldOk_field heldOk_idx heldOk_slice heldOk_build heldOk_call heldA_opt heldA_pt heldA_pa heldA_fp guardV_b guardV_o guardL_s guardD_s semg semg_move semg_load semg_nil semg_un semg_conv semg_pick semg_field semg_idx semg_len semg_call resA_nil resA_cons resV_tmp resV_cell resOk_tmp resOk_cell oneA_one oneA_two oneA_nil viewC_sc viewC_fz viewC_sl viewC_pt viewA_agg viewA_sc viewA_fz viewA_sl viewA_pt viewV_sc viewV_fz viewV_sl viewV_pt viewO_rc viewO_arr viewO_dead viewS_nil viewS_cons viewSt_eq pos_nil pos_cons enter_nil enter_cons renC_sc renC_fz renC_sl renC_pt renA_agg renA_sc renA_fz renA_sl renV_tup renV_agg renV_sc renV_fz renV_sl renV_pt renO_rc renO_arr renO_dead merge_eq putAll_nil putAll_cons backN_eq unownN_nil unownN_cons shownAll_eq shownC_sc shownC_fz shownC_pt shownC_sl shownV_sc shownV_fz shownV_pt shownV_sl shownV_agg shownO_rc shownO_arr shownO_dead noFzV_sc noFzO_rc noFzC_sc own_eq isOwn_rc isOwn_arr partsOf_eq partK_struct fillA_nil fillA_cons fillO_some optAgg_some isBuilt_struct semb_build tupGet_tup tupOk_tup semb_extract litElems_ord litOk_iff ordN_nil ordN_cons List.getElem?_cons_zero List.getElem?_cons_succ List.getD_cons_zero List.getD_cons_succ List.drop_zero List.drop_succ_cons List.headD_cons List.tail_cons List.take_zero List.take_succ_cons List.length_cons List.length_nil List.set_cons_zero List.set_cons_succ List.nil_append List.cons_append if_true true_and and_true ne_eq not_false_eq_true Nat.lt_add_one Nat.zero_lt_succ Nat.add_zero Nat.zero_add Nat.succ_ne_zero Bool.false_eq_true Option.bind_some Option.bind_none List.getElem?_toArray cond_true cond_false List.flatMap_cons List.flatMap_nil List.append_nil Option.map_none Option.map_some Option.isNone_none Option.isNone_some Option.isSome_some Option.isSome_none and_self Bool.and_self Bool.true_and Bool.and_true beq_self_eq_true List.map_cons List.map_nil implies_true imp_self eq_self Bool.not_eq_true' true_imp_iff beq_iff_eq
attribute [go_sem] List.getElem?_nil List.getD_nil lendOf_nil lendOf_cons lendAt_nil lendAt_cons cellAt_pt nameOf1_sl nameOf1_pt nameOf1_sc nameOf1_fz nodupN_nil nodupN_cons Option.isNone_none Option.isNone_some bif_or bif_and Nat.sub_zero
def isDeadO : Option AO → Bool
 | some .dead => true
 | none => true
 | _ => false
def lentK : Nat → List AO → List Nat → List Nat
 | 0, _, _ => []
 | n + 1, os, ks => (bif isDeadO os[ks.length]? then 1000000 + ks.length else ks.length) :: lentK n os (0 :: ks)
def nmO : Option AO → List Nat
 | some (.rc cs) => cs.flatMap gv
 | _ => []
def autoS : Nat → List AO → List Nat → List Nat → List Nat
 | 0, _, _, acc => acc
 | _ + 1, _, [], acc => acc
 | f + 1, os, L :: r, acc => bif memN acc L then autoS f os r acc else autoS f os (nmO os[L]? ++ r) (acc ++ [L])
def cM (nl : Nat) (os : List AO) (todo : List Nat) : List Nat := autoS 100 os ((lentK nl os []).flatMap (fun L => nmO os[L]?) ++ todo) (lentK nl os [])
def nameV : AV → List Nat
 | .agg cs => cs.flatMap gv
 | .tup vs => vs.flatMap fun v => match v with | .agg cs => cs.flatMap gv | x => gv x
 | .opt _ x => gv x
 | x => gv x
def autoE (nl : Nat) (ts : List Nat) (st : St) : List Nat := cM nl st.os (ts.flatMap fun t => nameV (lk st.env t))

section
variable (nl : Nat) (os : List AO)
theorem isDeadO_dead : isDeadO (some .dead) = true := rfl
theorem isDeadO_arr (b : Bool) (s : Nat) (xs : List (List AV)) : isDeadO (some (.arr b s xs)) = false := rfl
theorem isDeadO_rc (cs : List AV) : isDeadO (some (.rc cs)) = false := rfl
theorem lentK_zero (ks : List Nat) : lentK 0 os ks = [] := rfl
theorem lentK_succ (n : Nat) (ks : List Nat) : lentK (n + 1) os ks = (bif isDeadO os[ks.length]? then 1000000 + ks.length else ks.length) :: lentK n os (0 :: ks) := rfl
theorem nmO_rc (cs : List AV) : nmO (some (.rc cs)) = cs.flatMap gv := rfl
theorem nmO_arr (b : Bool) (s : Nat) (xs : List (List AV)) : nmO (some (.arr b s xs)) = [] := rfl
theorem nmO_none : nmO none = [] := rfl
theorem autoS_nil (f : Nat) (acc : List Nat) : autoS (f + 1) os [] acc = acc := rfl
theorem autoS_cons (f : Nat) (L : Nat) (r acc : List Nat) : autoS (f + 1) os (L :: r) acc = bif memN acc L then autoS f os r acc else autoS f os (nmO os[L]? ++ r) (acc ++ [L]) := rfl
theorem autoK_eq (todo : List Nat) : cM nl os todo = autoS 100 os ((lentK nl os []).flatMap (fun L => nmO os[L]?) ++ todo) (lentK nl os []) := rfl
theorem nameV_agg (cs : List AV) : nameV (.agg cs) = cs.flatMap gv := rfl
theorem nameV_sc (v : Value) : nameV (.sc v) = [] := rfl
theorem nameV_fz (z : Nat) (xs : List (List AV)) : nameV (.fz z xs) = [] := rfl
theorem nameV_sl (L o n : Nat) : nameV (.sl L o n) = [L] := rfl
theorem nameV_pt (L k : Nat) : nameV (.pt L k) = [L] := rfl
theorem autoE_eq (ts : List Nat) (e : Env) : autoE nl ts ⟨e, os⟩ = cM nl os (ts.flatMap fun t => nameV (lk e t)) := rfl
end
attribute [go_sem] isDeadO_dead isDeadO_arr isDeadO_rc lentK_zero lentK_succ nmO_rc nmO_arr nmO_none autoS_nil autoS_cons autoK_eq nameV_agg nameV_sc nameV_fz nameV_sl nameV_pt autoE_eq
section
variable {c : Cx} {CT : CTab} {nl : Nat} {lv : List Nat} {Q : Ex → St → Prop} {k : List It} {s : St}
end
section
variable {c : Cx} {nl : Nat} {rs : List ResultVar} {post : AV → List AO → Prop} {e : Env} {os : List AO}
theorem endA_ret (todo : List Nat) (hk : bZ nl (cM nl os todo) = true) (hb : Nat.ble os.length 1000000 = true) (h : allP (resOk c os e) rs ∧ wkEnd (oneA (resA c (cM nl os todo) os e rs)) (bh (cM nl os todo) os) post) : endQ c nl rs post .ret ⟨e, os⟩ :=
 end_use_ret _ hk hb h
theorem endA_nrm (todo : List Nat) (hk : bZ nl (cM nl os todo) = true) (hb : Nat.ble os.length 1000000 = true) (h : allP (resOk c os e) rs ∧ wkEnd (oneA (resA c (cM nl os todo) os e rs)) (bh (cM nl os todo) os) post) : endQ c nl rs post .normal ⟨e, os⟩ :=
 end_use_nrm _ hk hb h
def resN (c : Cx) (os : List AO) (e : Env) (rs : List ResultVar) : List Nat := rs.flatMap fun r => nameV (resV c os e r)
theorem resN_nil : resN c os e [] = [] := rfl
theorem resN_cons (r : ResultVar) (rs : List ResultVar) : resN c os e (r :: rs) = nameV (resV c os e r) ++ resN c os e rs := rfl
end
attribute [go_sem] resN_nil resN_cons
section
variable {c : Cx} {nl : Nat} {rs : List ResultVar} {post : AV → List AO → Prop} {e : Env} {os : List AO}
theorem endO_ret (hk : bZ nl (cM nl os (resN c os e rs)) = true) (hb : Nat.ble os.length 1000000 = true) (h : allP (resOk c os e) rs ∧ wkEnd (oneA (resA c (cM nl os (resN c os e rs)) os e rs)) (bh (cM nl os (resN c os e rs)) os) post) : endQ c nl rs post .ret ⟨e, os⟩ :=
 end_use_ret _ hk hb h
end
def skipR : List AV → Bool
 | .fz z _ :: _ => z == 1
 | _ => false
theorem noFzV_tup (vs : List AV) : noFzV (.tup vs) = allP noFzA vs := rfl
theorem noFzV_agg (cs : List AV) : noFzV (.agg cs) = allP noFzC cs := rfl
theorem noFzA_sc (v : Value) : noFzA (.sc v) = True := rfl
theorem noFzA_agg (cs : List AV) : noFzA (.agg cs) = allP noFzC cs := rfl
theorem noFzV_sl (L o n : Nat) : noFzV (.sl L o n) = True := rfl
theorem noFzA_sl (L o n : Nat) : noFzA (.sl L o n) = True := rfl
theorem noFzC_sl (L o n : Nat) : noFzC (.sl L o n) = True := rfl
theorem noFzO_arr (s : Nat) (xs : List (List AV)) : noFzO (.arr true s xs) = allP (allP noFzC) xs := rfl
attribute [go_sem] noFzV_tup noFzV_agg noFzA_sc noFzA_agg noFzV_sl noFzA_sl noFzC_sl noFzO_arr
def wkVs : List AV → List AV → Prop
 | [], [] => True
 | x :: r, y :: s => wkV x y ∧ wkVs r s
 | _, _ => False
theorem wkVs_get : ∀ {vs ws : List AV}, wkVs vs ws → ws.length = vs.length ∧ ∀ (i : Nat) y, ws[i]? = some y → ∃ x, vs[i]? = some x ∧ wkV x y
 | [], [], _ => ⟨rfl, fun i y h => by simp at h⟩
 | x :: r, y :: s, h => by
  obtain ⟨h1, h2⟩ := h
  obtain ⟨h3, h4⟩ := wkVs_get h2
  refine ⟨by simp [h3], fun i z hz => ?_⟩
  cases i with
  | zero => simp at hz; subst hz; exact ⟨x, by simp, h1⟩
  | succ i => simp at hz; obtain ⟨u, hu, hw⟩ := h4 i z hz; exact ⟨u, by simpa using hu, hw⟩
 | [], _ :: _, h => h.elim
 | _ :: _, [], h => h.elim
theorem Con.wk {P : Program} {c : Cx} {f : Nat} {vs ws : List AV} {σ : List AO} {post : AV → List AO → Prop} (h : Con P c f ws σ post) (hw : wkVs vs ws) : Con P c f vs σ post := by
 obtain ⟨h1, h2⟩ := h
 obtain ⟨h3, h4⟩ := wkVs_get hw
 refine ⟨h1, fun X vals hX e1 e2 hS hg hlen hv => h2 X vals hX e1 e2 hS hg (by omega) fun i y hy => ?_⟩
 obtain ⟨x, hx, hxy⟩ := h4 i y hy
 obtain ⟨u, hu, hr⟩ := hv i x hx
 exact ⟨u, hu, hr.wk hxy⟩
theorem offA_eq : offA = .opt false (.sc (.bool false)) := rfl
attribute [go_sem] offA_eq
section
variable (c : Cx) (CT : CTab) (nl : Nat) (lv : List Nat) (Q : Ex → St → Prop) (k : List It) (all : Array Oper) (dst : Option Nat) (ty : TypeId) (pos : String) (af : Array Edge) (e : Env) (os : List AO) (H : List Nat)
end
theorem Con.view {P : Program} {c : Cx} {f : Nat} {vs : List AV} {σ : List AO} {post post' : AV → List AO → Prop} (h : Con P c f vs σ post)
  (hp : ∀ x σ', post x σ' → ∃ ks y τ, keepP σ.length ks σ' ∧ wkV (viewA ks σ' x) y ∧ wkS (bh ks σ') τ ∧ post' y τ) : Con P c f vs σ post' := by
 refine ⟨h.1, fun X vals a1 a2 a3 a4 a5 a6 a7 => (h.2 X vals a1 a2 a3 a4 a5 a6 a7).mono ?_⟩
 rintro e w' ⟨v, x, σ', g', he, hpx, hS, hK, hR⟩
 obtain ⟨ks, y, τ, hk, hwx, hws, hp'⟩ := hp x σ' hpx
 have hnd : ks.Nodup := nodupN_spec (by have := hk.1; simp only [bZ, Bool.and_eq_true] at this; exact this.2)
 obtain ⟨h1, h2, h3⟩ := hS.view hnd
 have hal := hws.alike
 have hrd : rdF X τ (viewG ks σ' g') w' = rdF X (bh ks σ') (viewG ks σ' g') w' := by funext b o; exact hal.rd b o
 refine ⟨v, y, τ, viewG ks σ' g', he, hp', h1.wk hws, (hK.view hk).wk hws, ?_⟩
 rw [hrd]
 exact hal.repV (RepV.wk (viewA_V (g := g') h2 (fun j L o => fa) (fun L hL => h3 L (shownV_not hL)) hR).toV hwx)
section
variable (c : Cx) (CT : CTab) (nl : Nat) (lv : List Nat) (Q : Ex → St → Prop) (k : List It) (all : Array Oper) (dst : Option Nat) (ty : TypeId) (pos : String) (af : Array Edge) (e : Env) (os : List AO) (H : List Nat)
theorem sem_field (t : Nat) (x : Operand) (f : Nat) : sem c CT nl lv Q (.op H all ⟨dst, .field t x f, ty, pos, af, none⟩ :: k) .normal ⟨e, os⟩ =
  (fldOk c t f (ev c e x) ∧ sem c CT nl lv Q k .normal ⟨put e dst (fldA c t f (ev c e x)), os⟩) := eW c CT nl lv Q k all dst ty pos af e os H _ rfl
theorem semg_fld (g : Bool) (t : Nat) (x : Operand) (f : Nat) : guardR c CT nl lv Q k os e H dst (.field t x f) (some g) = ((g = true → aV true (ev c e x) ∧ fldOk c t f (strip (ev c e x)) ∧ plain (fldA c t f (strip (ev c e x)))) ∧ sem c CT nl lv Q k .normal ⟨put e dst (.opt g (fldA c t f (strip (ev c e x)))), os⟩) := by
 cases g <;> simp [guardR, isPure, operOk, gev, pureOk, pureA, Op.operands, allP]
theorem fldA_agg (t f : Nat) (cs : List AV) : fldA c t f (.agg cs) = partA (c.T ((c.T t).ftys.getD f 0)) cs (fieldOff (c.T t) f).1 := rfl
theorem fldOk_agg (t f : Nat) (cs : List AV) : fldOk c t f (.agg cs) = (0 < (c.T t).sz ∧ f < (c.T t).ftys.length ∧ isStructK (c.T t).kind ∧ 0 < (c.T ((c.T t).ftys.getD f 0)).sz ∧ (fieldOff (c.T t) f).1 + (c.T ((c.T t).ftys.getD f 0)).sz ≤ cs.length) := rfl
theorem partA_eq (ti : TI) (cs : List AV) (off : Nat) : partA ti cs off = if ti.agg = true then .agg ((cs.drop off).take ti.sz) else cs.getD off .junk := rfl
theorem isStructK_s (fs : List (Nat × Nat)) : isStructK (.struct fs) = True := rfl
end
attribute [go_sem] sem_field semg_fld fldA_agg fldOk_agg partA_eq isStructK_s
def callV (c : Cx) (CT : CTab) (nl : Nat) (lv : List Nat) (Q : Ex → St → Prop) (H : List Nat) (x : AV) (vs : List AV) (e : Env) (os : List AO) (dst : Option Nat) (k : List It) : Prop := match fnC x with
 | some (n, cs) => callR c CT nl lv Q H n (vs ++ cs) e os dst k
 | none => False
section
variable (c : Cx) (CT : CTab) (nl : Nat) (lv : List Nat) (Q : Ex → St → Prop) (k : List It) (all : Array Oper) (dst : Option Nat) (ty : TypeId) (po : String) (af : Array Edge) (e : Env) (os : List AO) (H ks : List Nat)
theorem sem_callV (t : Nat) (args : Array Operand) (tys : Array Nat) : sem c CT nl lv Q (.op H all ⟨dst, .call ⟨.value (.tmp t), args, tys⟩, ty, po, af, none⟩ :: k) .normal ⟨e, os⟩ =
  callV c CT nl lv Q H (lk e t) (args.toList.map (ev c e)) e os dst k := by
 simp only [sem, stepA, isPure, effA, callV, callR, ev, Bool.false_eq_true, if_false]
 cases fnC (lk e t) with
 | none => rfl
 | some q => rfl
theorem semg_callV (t : Nat) (args : Array Operand) (tys : Array Nat) (g : Bool) : guardR c CT nl lv Q k os e H dst (.call ⟨.value (.tmp t), args, tys⟩) (some g) = ((g = true → (aV true (lk e t) ∧ allP (fun x => aV true (ev c e x)) args.toList) ∧ callV c CT nl lv Q H (strip (lk e t)) (args.toList.map fun x => strip (ev c e x)) e os dst k) ∧
  (g = false → sem c CT nl lv Q k .normal ⟨put e dst offA, os⟩)) := by
 cases g
 ·simp [guardR, isPure]
 ·simp only [guardR, isPure, operOk, gev, effA, callV, callR, Op.operands, Call.operands, Bool.false_eq_true, if_false, Array.toList_append, List.cons_append, List.nil_append, allP, ev]
  cases fnC (strip (lk e t)) with
  | none => rfl
  | some q => rfl
theorem callV_func (n : Nat) (vs : List AV) : callV c CT nl lv Q H (.sc (.func (.func n) #[] #[])) vs e os dst k = callR c CT nl lv Q H n vs e os dst k := by
 unfold callV; rw [fnC_func]; simp only [List.append_nil]
theorem callV_clo (n : Nat) (ps : List (Nat × Nat)) (vs : List AV) : callV c CT nl lv Q H (.clo n ps) vs e os dst k = callR c CT nl lv Q H n (vs ++ ps.map fun p => .pt p.1 p.2) e os dst k := rfl
theorem sem_makeFunc (n : Nat) (fi cs : Array Operand) : sem c CT nl lv Q (.op H all ⟨dst, .makeFunc (.func n) fi cs, ty, po, af, none⟩ :: k) .normal ⟨e, os⟩ =
  ((fi.toList = [] ∧ cloOk os (cs.toList.map (ev c e))) ∧ sem c CT nl lv Q k .normal ⟨put e dst (cloA n (cs.toList.map (ev c e))), os⟩) := eW c CT nl lv Q k all dst ty po af e os H _ rfl
theorem ptsOf_nil : ptsOf [] = some [] := rfl
theorem ptsOf_pt (L j : Nat) (r : List AV) : ptsOf (.pt L j :: r) = match ptsOf r with
  | some q => some ((L, j) :: q)
  | none => none := rfl
theorem cloA_eq (n : Nat) (xs : List AV) : cloA n xs = match ptsOf xs with
  | some ps => .clo n ps
  | none => .junk := rfl
theorem cloOk_eq (xs : List AV) : cloOk os xs = ((ptsOf xs).isSome = true ∧ allP (fun x => dv os x = true) xs) := rfl
theorem nameOf1_clo (n : Nat) (ps : List (Nat × Nat)) : gv (.clo n ps) = ps.map fun p => p.1 := rfl
theorem strip_clo (n : Nat) (ps : List (Nat × Nat)) : strip (.clo n ps) = .clo n ps := rfl
theorem sok_clo (b : Bool) (n : Nat) (ps : List (Nat × Nat)) : aV b (.clo n ps) = True := rfl
theorem plain_clo (n : Nat) (ps : List (Nat × Nat)) : plain (.clo n ps) = True := rfl
end
attribute [go_sem] sem_callV semg_callV callV_func callV_clo sem_makeFunc ptsOf_nil ptsOf_pt cloA_eq cloOk_eq nameOf1_clo strip_clo sok_clo plain_clo
theorem asLike_nf (x : AV) : asLike (.sc .nilFunc) x = x := rfl
theorem like_nf (x : AV) : like (.sc .nilFunc) x = True := rfl
attribute [go_sem] asLike_nf like_nf
section
variable (c : Cx) (CT : CTab) (nl : Nat) (lv : List Nat) (Q : Ex → St → Prop) (k : List It) (dst : Option Nat) (e : Env) (os : List AO) (H : List Nat)
theorem semg_bs (t n : Nat) (ps : Array (Nat × Operand)) (g : Bool) : guardR c CT nl lv Q k os e H dst (.buildSlice t n ps) (some g) = ((g = true → allP (fun x => aV true (ev c e x)) (ps.toList.map (·.2)) ∧
  (0 < (c.T t).sz ∧ aW c t ∧ 0 < (c.T (elemOf c t)).sz ∧ n * (c.T (elemOf c t)).sz ≤ 16777216 ∧ litOk os (c.T (elemOf c t)) n (ps.toList.map fun p => (p.1, strip (ev c e p.2))) ∧
   sem c CT nl lv Q k .normal ⟨put e dst (.sl os.length 0 n), unownAll os ((ps.toList.map fun p => (p.1, strip (ev c e p.2))).flatMap fun p => cellsOf p.2) ++
   [.arr true (c.T (elemOf c t)).sz ((litElems (c.T (elemOf c t)) n (ps.toList.map fun p => (p.1, strip (ev c e p.2)))).map fun x => x.map (frz os))]⟩)) ∧
  (g = false → sem c CT nl lv Q k .normal ⟨put e dst offA, os⟩)) := by
 cases g
 ·simp [guardR, isPure]
 ·simp [guardR, isPure, operOk, gev, effA, Op.operands]
end
attribute [go_sem] semg_bs
section
variable (c : Cx) (CT : CTab) (nl : Nat) (lv : List Nat) (Q : Ex → St → Prop) (k : List It) (dst : Option Nat) (e : Env) (os : List AO) (H : List Nat)
theorem semg_cut (t : Nat) (x : Operand) (lo hi : Option Operand) (g : Bool) : guardR c CT nl lv Q k os e H dst (.slice t x lo hi none) (some g) = ((g = true → allP (fun y => aV true (ev c e y)) (x :: lo.toList ++ hi.toList) ∧
  (0 < (c.T t).sz ∧ cutTy c os t (strip (ev c e x)) ∧ numOk (lo.map fun y => strip (ev c e y)) ∧ numOk (hi.map fun y => strip (ev c e y)) ∧ True ∧
   0 ≤ loOf (fun y => strip (ev c e y)) lo ∧ loOf (fun y => strip (ev c e y)) lo ≤ hiOf (fun y => strip (ev c e y)) (strip (ev c e x)) hi ∧ hiOf (fun y => strip (ev c e y)) (strip (ev c e x)) hi ≤ lenA (strip (ev c e x))) ∧
  plain (cutA (strip (ev c e x)) (loOf (fun y => strip (ev c e y)) lo) (hiOf (fun y => strip (ev c e y)) (strip (ev c e x)) hi))) ∧
  sem c CT nl lv Q k .normal ⟨put e dst (.opt g (cutA (strip (ev c e x)) (loOf (fun y => strip (ev c e y)) lo) (hiOf (fun y => strip (ev c e y)) (strip (ev c e x)) hi))), os⟩) := by
 cases g <;> simp [guardR, isPure, operOk, gev, pureOk, pureA, Op.operands, allP, mxOk]
end
attribute [go_sem] semg_cut Option.toList_some Option.toList_none
section
variable (c : Cx) (CT : CTab) (nl : Nat) (lv : List Nat) (Q : Ex → St → Prop) (k : List It) (all : Array Oper) (dst : Option Nat) (ty : Nat) (pos : String) (af : Array Edge) (e : Env) (os : List AO) (H : List Nat) (op : BinOp) (t t' : Nat) (x : Operand) (g : Bool)
theorem sem_bin_t (u : Nat) : sem c CT nl lv Q (.op H all ⟨dst, .binOp op t x (.tmp u) t', ty, pos, af, none⟩ :: k) .normal ⟨e, os⟩ = (binOk (c.T t) op (ev c e x) (ev c e (.tmp u)) ∧ sem c CT nl lv Q k .normal ⟨put e dst (binA op (ev c e x) (ev c e (.tmp u))), os⟩) := sem_binOp c CT nl lv Q k all dst ty pos af e os H op t t' x _ rfl
theorem semg_bin_t (u : Nat) : guardR c CT nl lv Q k os e H dst (.binOp op t x (.tmp u) t') (some g) = ((g = true → (aV true (ev c e x) ∧ aV true (ev c e (.tmp u))) ∧ binOk (c.T t) op (strip (ev c e x)) (strip (ev c e (.tmp u))) ∧ plain (binA op (strip (ev c e x)) (strip (ev c e (.tmp u))))) ∧ sem c CT nl lv Q k .normal ⟨put e dst (.opt g (binA op (strip (ev c e x)) (strip (ev c e (.tmp u))))), os⟩) := semg_bin c CT nl lv Q k os e H dst g op t t' x _ rfl
theorem sem_bin_i (k2 : IntKind) (n : Int) : sem c CT nl lv Q (.op H all ⟨dst, .binOp op t x (.const (.int k2 n)) t', ty, pos, af, none⟩ :: k) .normal ⟨e, os⟩ = (binOk (c.T t) op (ev c e x) (ev c e (.const (.int k2 n))) ∧ sem c CT nl lv Q k .normal ⟨put e dst (binA op (ev c e x) (ev c e (.const (.int k2 n)))), os⟩) := sem_binOp c CT nl lv Q k all dst ty pos af e os H op t t' x _ rfl
theorem semg_bin_i (k2 : IntKind) (n : Int) : guardR c CT nl lv Q k os e H dst (.binOp op t x (.const (.int k2 n)) t') (some g) = ((g = true → (aV true (ev c e x) ∧ aV true (ev c e (.const (.int k2 n)))) ∧ binOk (c.T t) op (strip (ev c e x)) (strip (ev c e (.const (.int k2 n)))) ∧ plain (binA op (strip (ev c e x)) (strip (ev c e (.const (.int k2 n)))))) ∧ sem c CT nl lv Q k .normal ⟨put e dst (.opt g (binA op (strip (ev c e x)) (strip (ev c e (.const (.int k2 n)))))), os⟩) := semg_bin c CT nl lv Q k os e H dst g op t t' x _ rfl
end
attribute [go_sem] sem_bin_t semg_bin_t sem_bin_i semg_bin_i
section
variable (r : Operand → AV)
theorem mxOk_none (x : AV) (lo hi : Option Operand) : mxOk r x lo hi none = True := rfl
theorem mxOk_fz (z : Nat) (xs : List (List AV)) (h m : Operand) : mxOk r (.fz z xs) none (some h) (some m) = (isNum (r m) ∧ isNum (r h) ∧ numA (r m) = numA (r h)) := by simp [mxOk]
end
attribute [go_sem] mxOk_none mxOk_fz
attribute [irreducible] callW
attribute [go_sem] virt_eq
end Go.AM
end
section
/- From a contract to the row of a law over slices of bytes. Conditions: none. -/
namespace Go.AM
open Go Go.RowKit

def u8s (zs : List Int) : List (List AV) := zs.map fun z => [.sc (.int .u8 z)]

theorem u8s_mem {l : List Int} {r : List AV} (h : r ∈ u8s l) : ∃ z, r = [.sc (.int .u8 z)] := by
 obtain ⟨z, _, e⟩ := List.mem_map.1 h
 exact ⟨z, e.symm⟩

def IsRow8 (w : World) (a : Option Addr) (len cap : Nat) (zs : List Int) : Prop :=
 (a = none ∧ len = 0 ∧ cap = 0 ∧ zs = []) ∨
 ∃ x, a = some x ∧ len ≤ cap ∧ cap ≤ maxLen ∧ zs.length = cap ∧ (∀ i, i < zs.length → w.cell? (x.add i) = some (.int .u8 (zs.getD i 0))) ∧ ∀ n ∈ zs, (Lit.int .u8 n).wf = true

theorem IsRow8.rep {w : World} {a : Option Addr} {len cap : Nat} {zs : List Int} (h : IsRow8 w a len cap zs) :
  RepP (fun b o => w.cell? ⟨b, o, none⟩) (.fz 1 (u8s (zs.take len))) (.slice a len cap) ∧ (zs.take len).length = len ∧ ∀ n ∈ zs.take len, 0 ≤ n ∧ n < 256 := by
 rcases h with ⟨rfl, rfl, rfl, rfl⟩ | ⟨x, rfl, hl, _, hz, hc, hw⟩
 ·exact ⟨.nil, rfl, fun n hn => by simp at hn⟩
 ·have hlen : (zs.take len).length = len := by simp; omega
  refine ⟨?_, hlen, fun n hn => ?_⟩
  ·rcases Nat.eq_zero_or_pos len with rfl | hpos
   ·exact .nil
   ·have h0 := hc 0 (by omega)
    obtain ⟨b, o, s⟩ := x
    have hs : s = none := by
     simp only [Addr.add, if_true] at h0
     unfold World.cell? at h0
     split at h0
     ·split at h0
      ·cases h0
      ·rename_i h; cases s with
       | none => rfl
       | some _ => simp at h
     ·cases h0
    subst hs
    have key : RepP (fun b o => w.cell? ⟨b, o, none⟩) (.fz 1 (u8s (zs.take len))) (.slice (some ⟨b, o, none⟩) (u8s (zs.take len)).length cap) := by
     refine .fz (fun i _ => .int .u8 (zs.getD i 0)) (by simp [u8s]; omega) (by intro r hr; obtain ⟨z, rfl⟩ := u8s_mem hr; rfl) ?_ ?_
     ·intro i k r y hr hy
      have hi : i < len := by
       have := (List.getElem?_eq_some_iff.1 hr).1
       simp [u8s] at this; omega
      have hk : k = 0 := by
       have e : r.length = 1 := by
        obtain ⟨z, rfl⟩ := u8s_mem (List.mem_of_getElem? hr); rfl
       have := (List.getElem?_eq_some_iff.1 hy).1
       omega
      subst hk
      have := hc i (by omega)
      simp only [Nat.mul_one, Nat.add_zero]
      rw [← this]
      cases i with
      | zero => rfl
      | succ i => simp [Addr.add]
     ·intro i k r y hr hy
      have hi : i < zs.length := by
       have := (List.getElem?_eq_some_iff.1 hr).1
       simp [u8s] at this; omega
      have e : r = [.sc (.int .u8 (zs.getD i 0))] := by
       simp only [u8s, List.getElem?_map, List.getElem?_take] at hr
       split at hr
       ·simp [hi] at hr
        simp [List.getD, hi, ← hr]
       ·simp at hr
      subst e
      have hk : k = 0 := by
       have := (List.getElem?_eq_some_iff.1 hy).1
       simp at this; omega
      subst hk
      simp at hy
      subst hy
      exact .sc rfl
    have e : (u8s (zs.take len)).length = len := by simp only [u8s, List.length_map]; exact hlen
    rw [e] at key
    exact key
  ·have := hw n (List.mem_of_mem_take hn)
   simp [Lit.wf, IntKind.min, IntKind.max, IntKind.signed, IntKind.bits] at this
   omega

theorem calls_lawG {P : Program} {c : Cx} {f : Nat} {vs : List AV} (h : Con P c f vs [] (fun x σ' => x = .sc (.bool true) ∧ σ' = [])) (W : World) (hG : ∀ n, GOk (fun b o => W.cell? ⟨b, o, none⟩) (c.G n) n) (vals : Array Value) (hs : vals.size = vs.length) (hbd : ∀ fn, P.funcs[f]? = some fn → fn.body.isNone = false)
  (hv : ∀ (i : Nat) y, vs[i]? = some y → (∃ s xs, y = .fz s xs) ∧ ∃ u, vals[i]? = some u ∧ RepP (fun b o => W.cell? ⟨b, o, none⟩) y u) : Calls P f vals W fun e w' => e = .returned (.bool true) ∧ Below W.heap.size W w' := by
 obtain ⟨⟨fn, hfn⟩, h2⟩ := h
 let X : Ctx := ⟨W, fun b => b < W.heap.size, fun _ => False, fn.ntmps, [], fun _ => []⟩
 have hno : ∀ L, ¬ own ([] : List AO) L := fun L hL => by simp [own, isOwn] at hL
 have hrd : rdF X [] X.g0 W = fun b o => W.cell? ⟨b, o, none⟩ := by
  funext b o
  unfold rdF
  rw [if_pos]
  refine ⟨?_, fun ⟨L, hL, _⟩ => hno L hL⟩
  rcases Nat.lt_or_ge b W.heap.size with hb | hb
  ·exact .inl hb
  ·exact .inr (.inr hb)
 have hS : SRel X [] X.g0 X.W := ⟨rfl, rfl, rfl, Nat.le_refl _, fun _ _ _ => rfl, fun L hL => absurd hL (hno L), fun L _ hL => absurd hL (hno L), fun L => by simp [OOk]⟩
 have hcalls : ∀ R, CallsX P f vals W R → Calls P f vals W R := fun R ⟨fn', q1, _, q3⟩ => by
  rcases q3 with q3 | q3
  ·exact q3.2
  ·rw [hbd fn' q1] at q3; exact absurd q3.1 (by simp)
 refine hcalls _ ((h2 X vals ⟨fun b hb => ⟨hb, id⟩, fun b hb => hb.elim⟩ rfl (fun fn' h' => by rw [hfn] at h'; cases h'; rfl) hS (fun n => by show GOk (rdF X [] X.g0 W) (c.G n) n; rw [hrd]; exact hG n) hs ?_).mono ?_)
 ·intro i y hy
  obtain ⟨⟨s, xs, rfl⟩, u, hu, hr⟩ := hv i y hy
  refine ⟨u, hu, ?_⟩
  show RepP (rdF X [] X.g0 W) (.fz s xs) u
  rw [hrd]; exact hr
 ·rintro e w' ⟨v, x, σ', g', rfl, ⟨rfl, rfl⟩, hS', _, hr⟩
  have : v = .bool true := hr
  subst this
  exact ⟨rfl, hS'.sys, hS'.tape, hS'.output, hS'.size, fun k hk => hS'.same k hk id⟩

theorem rep_row {W : World} {x : Addr} {len cap : Nat} {xs : List Value} (hc : len ≤ cap) (hl : xs.length = len) (h1 : ∀ v ∈ xs, v.oneCell' = true) (h : ∀ i v, xs[i]? = some v → W.cell? (x.add i) = some v) :
  RepP (fun b o => W.cell? ⟨b, o, none⟩) (.fz 1 (xs.map fun v => [.sc v])) (.slice (some x) len cap) := by
 subst hl
 rcases xs with _ | ⟨v, vs⟩
 ·exact .nil
 ·have h0 := h 0 v rfl
  obtain ⟨b, o, s⟩ := x
  have hs : s = none := by
   simp only [Addr.add, if_true] at h0
   unfold World.cell? at h0
   split at h0
   ·split at h0
    ·cases h0
    ·rename_i h; cases s with
     | none => rfl
     | some _ => simp at h
   ·cases h0
  subst hs
  generalize hxs : v :: vs = xs at *
  have key : Row (fun b o => W.cell? ⟨b, o, none⟩) b o 1 (xs.map fun v => [AV.sc v]) := by
   refine ⟨fun r hr => ?_, fun i k r y hr hy => ?_⟩
   ·obtain ⟨z, _, rfl⟩ := List.mem_map.1 hr; rfl
   ·simp only [List.getElem?_map, Option.map_eq_some_iff] at hr
    obtain ⟨z, hz, rfl⟩ := hr
    rcases k with _ | k
    ·simp at hy
     subst hy
     refine ⟨z, ?_, .sc (h1 z (List.mem_of_getElem? hz))⟩
     have := h i z hz
     simp only [Nat.mul_one, Nat.add_zero]
     rw [← this]
     cases i with
     | zero => rfl
     | succ i => simp [Addr.add]
    ·simp at hy
  have := RepP.of_row (c := cap) key (by simpa using hc)
  simpa using this

def intOf : DataW Unit → Int
 | .lit (.int _ n) => n
 | _ => 0
def strOf1 : DataW Unit → ByteArray
 | .lit (.string bs) => ⟨bs.toArray⟩
 | _ => ByteArray.empty

theorem laid_ints {P : Program} {W : World} {t e : TypeId} {k : IntKind} {fuel : Nat} {cs : List Value} {d : DataW Unit} {p : List MemPlace} (ht : P.underlying t = some (.slice e)) (he : P.underlying e = some (.int k)) (hc : P.cellsOf e = 1)
  (h : DataW.trod (fun _ => ()) P W 0 (fun _ => true) false fuel t cs = some (d, p)) (zs0 : List Int) (hd : d = .slice (zs0.map fun z => .lit (.int k z)) []) :
  ∃ v, cs = [v] ∧ RepP (fun b o => W.cell? ⟨b, o, none⟩) (.fz 1 (zs0.map fun z => [.sc (.int k z)])) v := by
 rcases Go.ChangeShapes.open_ints ht he hc h with ⟨_, hx⟩ | ⟨a, len, cap, zs, rfl, _, hl, _, hz, hx, hcell, hwf⟩
 ·subst hd; simp at hx
 ·subst hd
  refine ⟨_, rfl, ?_⟩
  have hx1 := (Prod.mk.inj hx).1
  injection hx1 with e1 e2
  have e3 : zs0 = zs.take len := by
   have := congrArg (List.map intOf) e1
   simpa [Go.ChangeShapes.lits, List.map_map, Function.comp_def, intOf] using this
  have hlen : (zs.take len).length = len := by simp; split at hz <;> omega
  have := rep_row (W := W) (x := a) (len := len) (cap := cap) (xs := zs0.map fun z => Value.int k z) hl (by rw [List.length_map, e3]; exact hlen) (by intro v hv; obtain ⟨z, _, rfl⟩ := List.mem_map.1 hv; rfl) (by
   intro i v hv
   simp only [List.getElem?_map, Option.map_eq_some_iff] at hv
   obtain ⟨z, hz', rfl⟩ := hv
   rw [e3, List.getElem?_take] at hz'
   split at hz'
   ·have hi := (List.getElem?_eq_some_iff.1 hz').1
    rw [hcell i hi]; simp [List.getD, hz']
   ·cases hz')
  simpa [List.map_map, Function.comp_def] using this

theorem laid_strs {P : Program} {W : World} {t e : TypeId} {fuel : Nat} {cs : List Value} {d : DataW Unit} {p : List MemPlace} (ht : P.underlying t = some (.slice e)) (he : P.underlying e = some .string) (hc : P.cellsOf e = 1)
  (h : DataW.trod (fun _ => ()) P W 0 (fun _ => true) false fuel t cs = some (d, p)) (ss0 : List ByteArray) (hd : d = .slice (ss0.map fun s => .lit (.string s.data.toList)) []) :
  ∃ v, cs = [v] ∧ RepP (fun b o => W.cell? ⟨b, o, none⟩) (.fz 1 (ss0.map fun s => [.sc (.string s)])) v := by
 rcases Go.ChangeShapes.open_strings ht he hc h with ⟨_, hx⟩ | ⟨a, len, cap, ss, rfl, _, hl, _, hz, hx, hcell, hwf⟩
 ·subst hd; simp at hx
 ·subst hd
  refine ⟨_, rfl, ?_⟩
  have hx1 := (Prod.mk.inj hx).1
  injection hx1 with e1 e2
  have e3 : ss0 = ss.take len := by
   have := congrArg (List.map strOf1) e1
   simpa [Go.ChangeShapes.strs, List.map_map, Function.comp_def, strOf1] using this
  have hlen : (ss.take len).length = len := by simp; split at hz <;> omega
  have := rep_row (W := W) (x := a) (len := len) (cap := cap) (xs := ss0.map fun s => Value.string s) hl (by rw [List.length_map, e3]; exact hlen) (by intro v hv; obtain ⟨z, _, rfl⟩ := List.mem_map.1 hv; rfl) (by
   intro i v hv
   simp only [List.getElem?_map, Option.map_eq_some_iff] at hv
   obtain ⟨z, hz', rfl⟩ := hv
   rw [e3, List.getElem?_take] at hz'
   split at hz'
   ·have hi := (List.getElem?_eq_some_iff.1 hz').1
    rw [hcell i hi]; simp [List.getD, hz']
   ·cases hz')
  simpa [List.map_map, Function.comp_def] using this

theorem gok_one {P : Program} {W : World} {n : Nat} {nm : String} {cs : Array Value} {v : Value} {y : AV} (hg : P.globalNamed nm = some n) (hv : W.var? P nm = some cs) (hcs : cs.toList = [v]) (hr : RepP (fun b o => W.cell? ⟨b, o, none⟩) y v) :
  GOk (fun b o => W.cell? ⟨b, o, none⟩) (.fp 1 [[y]] 0 0) n := by
 refine ⟨fun r hr => by simp at hr; subst hr; rfl, fun i k r z h1 h2 => ?_⟩
 rcases i with _ | i
 ·simp at h1; subst h1
  rcases k with _ | k
  ·simp at h2; subst h2
   refine ⟨v, ?_, hr⟩
   have := World.var?_cell hg hv 0
   simp only [Nat.zero_mul, Nat.add_zero, Nat.zero_add]
   rw [this]
   obtain ⟨l⟩ := cs
   simp at hcs; subst hcs; rfl
  ·simp at h2
 ·simp at h1

theorem var_stays {H : Type} {enc : TypeId × Value → H} {P : Program} (hl : laidOutB P = true) {W W' : World} (bel : Below W.heap.size W W') {n : String} {g : Nat} {t e : TypeId} {cs : Array Value} {f : Nat} {d : DataW H} {p : List MemPlace}
  (hg : P.globalNamed n = some g) (hv : W.var? P n = some cs) (hu : P.underlying t = some (.slice e)) (hr : P.readableRec t = true) (ht : t < P.types.size) (h : DataW.trod enc P W 0 (fun _ => true) true f t cs.toList = some (d, p)) :
  W'.var? P n = some cs ∧ ∃ f', DataW.trod enc P W' 0 (fun b => decide (b < W.heap.size)) true f' t cs.toList = some (d, p) := by
 constructor
 ·unfold World.var? at hv ⊢
  rw [hg] at hv ⊢
  simp only [Option.bind_some] at hv ⊢
  have hlt : g < W.heap.size := by
   rcases Nat.lt_or_ge g W.heap.size with h1 | h1
   ·exact h1
   ·rw [Array.getElem?_eq_none h1] at hv; cases hv
  rw [bel.block g hlt]; exact hv
 ·obtain ⟨v, hcs⟩ : ∃ v : Value, cs.toList = v.cells.toList := by
   rcases DataW.trod_slice hu h with ⟨h0, _⟩ | ⟨a, len, cap, _, _, _, _, h0, _⟩
   ·exact ⟨.slice none 0 0, h0⟩
   ·exact ⟨.slice (some a) len cap, h0⟩
  have lt := DataW.trod_lt f _ _ _ h
  rw [hcs] at h ⊢
  exact Below.trod hl hr ht ⟨f, h⟩ bel lt

theorem sized8 {H : Type} {enc : TypeId × Value → H} {P : Program} {W : World} {base : Nat} {spare : Nat → Bool} {held : Bool} {t e : TypeId} {a : Option Addr} {len cap : Nat} {d : DataW H} {ps : List MemPlace} {ts : List TypeId} {ds : List (DataW H)} {j : Nat}
  (hsz : (DataW.weightsEach P ts ds).all (· ≤ reachBytes) = true) (ht : ts[j]? = some t) (hd : ds[j]? = some d) (hu : P.underlying t = some (.slice e)) (he : P.underlying e = some (.int .u8)) (hc : P.cellsOf e = 1) (hB : P.bytesOf e = 1)
  (h : DataW.Trod enc P W base spare held t (.slice a len cap) d ps) : len ≤ 140737488351232 := by
 obtain ⟨fuel, hf⟩ := h
 rcases Go.ChangeShapes.open_ints hu he hc hf with ⟨hcs, _⟩ | ⟨x, l, c, zs, hcs, _, hl, _, hz, hx, _, _⟩
 ·simp [Value.cells] at hcs
  omega
 ·simp [Value.cells] at hcs
  obtain ⟨rfl, rfl, rfl⟩ := hcs
  obtain ⟨hx, _⟩ := Prod.mk.inj hx
  subst hx
  have z := sized_slice hsz ht hd hu
  rw [hB] at z
  have hl2 : len ≤ zs.length := by
   rw [hz]; split
   ·exact hl
   ·exact Nat.le_refl _
  have h1 : (Go.ChangeShapes.lits (H := H) .u8 (zs.take len)).length = len := by simp [Go.ChangeShapes.lits]; omega
  have h2 : reachBytes = 140737488351232 := rfl
  omega
end Go.AM
end
