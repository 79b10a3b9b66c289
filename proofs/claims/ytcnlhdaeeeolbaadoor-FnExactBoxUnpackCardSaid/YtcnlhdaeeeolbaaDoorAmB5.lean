/- Several texts in one. Conditions: none. -/
import Derived.Test.YtcnlhdaeeeolbaaDoorAmB4
set_option linter.unusedSimpArgs false
set_option linter.unusedVariables false
section
/- What the walk is simplified by: one rule a shape. Conditions: none. -/
namespace Go.AM
open Go

section
variable (c : Cx) (CT : CTab) (nl : Nat) (lv : List Nat) (Q : Ex → St → Prop) (k : List It) (s : St) (os : List AO) (e : Env)

theorem ev_tmp (t : Nat) : ev c e (.tmp t) = lk e t := rfl
theorem ev_const (v : Value) : ev c e (.const v) = .sc v := rfl
theorem ev_func (n : Nat) : ev c e (.func n) = .sc (.func (.func n) #[] #[]) := rfl
theorem ev_glob (n : Nat) : ev c e (.global n) = c.G n := rfl
theorem lk_cons (i : Nat) (x : AV) (t : Nat) : lk ((i, x) :: e) t = if i = t then x else lk e t := rfl
theorem lk_nil (t : Nat) : lk [] t = .junk := rfl
theorem put_some (d : Nat) (x : AV) : put e (some d) x = (d, x) :: e := rfl
theorem put_none (x : AV) : put e none x = e := rfl
theorem keep_nil : keepE lv [] = [] := rfl
theorem keep_cons (i : Nat) (x : AV) : keepE lv ((i, x) :: e) = if memN lv i = true then (i, x) :: keepE lv e else keepE lv e := rfl
theorem memN_nil (t : Nat) : memN [] t = false := rfl
theorem memN_cons (a : Nat) (r : List Nat) (t : Nat) : memN (a :: r) t = if a = t then true else memN r t := rfl

theorem binA_int (op : BinOp) (k k' : IntKind) (a b : Int) : binA op (.sc (.int k a)) (.sc (.int k' b)) = .sc (intOp op k a b) := rfl
theorem binA_str (op : BinOp) (a b : ByteArray) : binA op (.sc (.string a)) (.sc (.string b)) = .sc (strOp op a b) := rfl
theorem binA_beq (a b : Bool) : binA .eql (.sc (.bool a)) (.sc (.bool b)) = .sc (.bool (a == b)) := rfl
theorem binA_bne (a b : Bool) : binA .neq (.sc (.bool a)) (.sc (.bool b)) = .sc (.bool (!(a == b))) := rfl
theorem binA_aeq (a b : List AV) : binA .eql (.agg a) (.agg b) = .sc (.bool (eqCells a b)) := rfl
theorem binA_ane (a b : List AV) : binA .neq (.agg a) (.agg b) = .sc (.bool (!(eqCells a b))) := rfl
theorem binOk_int (ti : TI) (op : BinOp) (k k' : IntKind) (a b : Int) : binOk ti op (.sc (.int k a)) (.sc (.int k' b)) = intOk op k k' b := rfl
theorem binOk_str (ti : TI) (op : BinOp) (a b : ByteArray) : binOk ti op (.sc (.string a)) (.sc (.string b)) = strOk op a b := rfl
theorem binOk_bool (ti : TI) (op : BinOp) (a b : Bool) : binOk ti op (.sc (.bool a)) (.sc (.bool b)) = (0 < ti.sz ∧ ti.kind = .bool ∧ (op = .eql ∨ op = .neq)) := rfl
theorem binOk_agg (ti : TI) (op : BinOp) (a b : List AV) : binOk ti op (.agg a) (.agg b) = (0 < ti.sz ∧ ti.eq = true ∧ eqOk ti.zero a b ∧ (op = .eql ∨ op = .neq)) := rfl
theorem eqOk_nil : eqOk [] [] [] = True := rfl
theorem eqOk_int (z : Int) (k0 k k' : IntKind) (a b : Int) (zs xs ys : List AV) : eqOk (.sc (.int k0 z) :: zs) (.sc (.int k a) :: xs) (.sc (.int k' b) :: ys) = (k = k' ∧ eqOk zs xs ys) := rfl
theorem eqOk_bool (z a b : Bool) (zs xs ys : List AV) : eqOk (.sc (.bool z) :: zs) (.sc (.bool a) :: xs) (.sc (.bool b) :: ys) = eqOk zs xs ys := rfl
theorem eqCells_nil : eqCells [] [] = true := rfl
theorem eqCells_int (k k' : IntKind) (a b : Int) (xs ys : List AV) : eqCells (.sc (.int k a) :: xs) (.sc (.int k' b) :: ys) = ((a == b) && eqCells xs ys) := rfl
theorem eqCells_bool (a b : Bool) (xs ys : List AV) : eqCells (.sc (.bool a) :: xs) (.sc (.bool b) :: ys) = ((a == b) && eqCells xs ys) := rfl

theorem int_add (k : IntKind) (a b : Int) : intOp .add k a b = .int k (k.wrap (a + b)) := rfl
theorem int_sub (k : IntKind) (a b : Int) : intOp .sub k a b = .int k (k.wrap (a - b)) := rfl
theorem int_mul (k : IntKind) (a b : Int) : intOp .mul k a b = .int k (k.wrap (a * b)) := rfl
theorem int_quo (k : IntKind) (a b : Int) : intOp .quo k a b = .int k (k.wrap (a.tdiv b)) := rfl
theorem int_rem (k : IntKind) (a b : Int) : intOp .rem k a b = .int k (a.tmod b) := rfl
def band (k : IntKind) (a b : Int) : Int := k.wrap (BitVec.ofInt k.bits a &&& BitVec.ofInt k.bits b).toNat
def bor (k : IntKind) (a b : Int) : Int := k.wrap (BitVec.ofInt k.bits a ||| BitVec.ofInt k.bits b).toNat
def bxor (k : IntKind) (a b : Int) : Int := k.wrap (BitVec.ofInt k.bits a ^^^ BitVec.ofInt k.bits b).toNat
def bandn (k : IntKind) (a b : Int) : Int := k.wrap (BitVec.ofInt k.bits a &&& ~~~(BitVec.ofInt k.bits b)).toNat
theorem int_and (k : IntKind) (a b : Int) : intOp .and k a b = .int k (band k a b) := rfl
theorem int_or (k : IntKind) (a b : Int) : intOp .or k a b = .int k (bor k a b) := rfl
theorem int_xor (k : IntKind) (a b : Int) : intOp .xor k a b = .int k (bxor k a b) := rfl
theorem int_andn (k : IntKind) (a b : Int) : intOp .andNot k a b = .int k (bandn k a b) := rfl
def pw (k : IntKind) (b : Int) : Int := 2 ^ (min b.toNat k.bits)
theorem pw_eq (k : IntKind) (b : Int) (h : decide (b.toNat ≤ k.bits) = true) : pw k b = 2 ^ b.toNat := by unfold pw; rw [Nat.min_eq_left (of_decide_eq_true h)]
theorem bits_i8 : IntKind.i8.bits = 8 := rfl
theorem bits_i16 : IntKind.i16.bits = 16 := rfl
theorem bits_i32 : IntKind.i32.bits = 32 := rfl
theorem bits_i64 : IntKind.i64.bits = 64 := rfl
theorem bits_u8 : IntKind.u8.bits = 8 := rfl
theorem bits_u16 : IntKind.u16.bits = 16 := rfl
theorem bits_u32 : IntKind.u32.bits = 32 := rfl
theorem bits_u64 : IntKind.u64.bits = 64 := rfl
theorem int_shl (k : IntKind) (a b : Int) : intOp .shl k a b = .int k (k.wrap (a * pw k b)) := rfl
theorem int_shr (k : IntKind) (a b : Int) : intOp .shr k a b = .int k (a.fdiv (pw k b)) := rfl
theorem int_eql (k : IntKind) (a b : Int) : intOp .eql k a b = .bool (a == b) := rfl
theorem int_neq (k : IntKind) (a b : Int) : intOp .neq k a b = .bool (a != b) := rfl
theorem int_lss (k : IntKind) (a b : Int) : intOp .lss k a b = .bool (decide (a < b)) := rfl
theorem int_leq (k : IntKind) (a b : Int) : intOp .leq k a b = .bool (decide (a ≤ b)) := rfl
theorem int_gtr (k : IntKind) (a b : Int) : intOp .gtr k a b = .bool (decide (a > b)) := rfl
theorem int_geq (k : IntKind) (a b : Int) : intOp .geq k a b = .bool (decide (a ≥ b)) := rfl
theorem iok_add (k : IntKind) (b : Int) : intOk .add k k b = True := eq_true rfl
theorem iok_sub (k : IntKind) (b : Int) : intOk .sub k k b = True := eq_true rfl
theorem iok_mul (k : IntKind) (b : Int) : intOk .mul k k b = True := eq_true rfl
theorem iok_quo (k : IntKind) (b : Int) : intOk .quo k k b = (b ≠ 0) := by simp [intOk]
theorem iok_rem (k : IntKind) (b : Int) : intOk .rem k k b = (b ≠ 0) := by simp [intOk]
theorem iok_and (k : IntKind) (b : Int) : intOk .and k k b = True := eq_true rfl
theorem iok_or (k : IntKind) (b : Int) : intOk .or k k b = True := eq_true rfl
theorem iok_xor (k : IntKind) (b : Int) : intOk .xor k k b = True := eq_true rfl
theorem iok_andn (k : IntKind) (b : Int) : intOk .andNot k k b = True := eq_true rfl
theorem iok_shl (k k' : IntKind) (b : Int) : intOk .shl k k' b = (0 ≤ b) := rfl
theorem iok_shr (k k' : IntKind) (b : Int) : intOk .shr k k' b = (0 ≤ b) := rfl
theorem iok_eql (k : IntKind) (b : Int) : intOk .eql k k b = True := eq_true rfl
theorem iok_neq (k : IntKind) (b : Int) : intOk .neq k k b = True := eq_true rfl
theorem iok_lss (k : IntKind) (b : Int) : intOk .lss k k b = True := eq_true rfl
theorem iok_leq (k : IntKind) (b : Int) : intOk .leq k k b = True := eq_true rfl
theorem iok_gtr (k : IntKind) (b : Int) : intOk .gtr k k b = True := eq_true rfl
theorem iok_geq (k : IntKind) (b : Int) : intOk .geq k k b = True := eq_true rfl

theorem unA_neg (k : IntKind) (n : Int) : unA .neg (.sc (.int k n)) = .sc (.int k (k.wrap (0 - n))) := rfl
theorem unA_not (b : Bool) : unA .not (.sc (.bool b)) = .sc (.bool (!b)) := rfl
theorem unOk_neg (k : IntKind) (n : Int) : unOk .neg (.sc (.int k n)) = True := by simp [unOk]
theorem unOk_not (b : Bool) : unOk .not (.sc (.bool b)) = True := by simp [unOk]
theorem convA_int (k k' : IntKind) (n : Int) : convA os (.int k) (.int k') (.sc (.int k n)) = .sc (.int k' (k'.wrap n)) := rfl
theorem convA_str (b : ByteArray) : convA os .str .str (.sc (.string b)) = .sc (.string b) := rfl
theorem convA_sl (k : TK) (L o n : Nat) : convA os k .str (.sl L o n) = .sc (.string (strOf (elems os (.sl L o n)))) := rfl
theorem convA_fz (k : TK) (z : Nat) (xs : List (List AV)) : convA os k .str (.fz z xs) = .sc (.string (strOf xs)) := rfl
theorem convA_nil (k : TK) : convA os k .str (.sc (.slice none 0 0)) = .sc (.string (strOf [])) := rfl
theorem convOk_int (k k' k2 : IntKind) (et : TI) (n : Int) : convOk os (.int k) (.int k') et (.sc (.int k2 n)) = True := rfl
theorem convOk_str (et : TI) (b : ByteArray) : convOk os .str .str et (.sc (.string b)) = True := rfl
theorem convOk_sl (e : Nat) (et : TI) (L o n : Nat) : convOk os (.slice e) .str et (.sl L o n) = (0 < et.sz ∧ et.kind = .int .u8 ∧ lenOk os (.sl L o n) ∧ (elems os (.sl L o n) = [] ∨ esz os (.sl L o n) = 1) ∧ allP byteRow (elems os (.sl L o n))) := by simp [convOk, isSlK]
theorem convOk_fz (e : Nat) (et : TI) (z : Nat) (xs : List (List AV)) : convOk os (.slice e) .str et (.fz z xs) = (0 < et.sz ∧ et.kind = .int .u8 ∧ (xs = [] ∨ z = 1) ∧ allP byteRow xs) := by simp [convOk, isSlK, lenOk, elems, esz]
theorem convOk_nil (e : Nat) (et : TI) : convOk os (.slice e) .str et (.sc (.slice none 0 0)) = (0 < et.sz ∧ et.kind = .int .u8) := by simp [convOk, isSlK, lenOk, elems, allP]
theorem strOp_add (a b : ByteArray) : strOp .add a b = .string (a ++ b) := rfl
theorem strOp_eql (a b : ByteArray) : strOp .eql a b = .bool (a.toList == b.toList) := rfl
theorem strOp_neq (a b : ByteArray) : strOp .neq a b = .bool (!(a.toList == b.toList)) := rfl
theorem strOk_eql (a b : ByteArray) : strOk .eql a b = True := rfl
theorem strOk_neq (a b : ByteArray) : strOk .neq a b = True := rfl
theorem strOk_add (a b : ByteArray) : strOk .add a b = (a.size + b.size ≤ 9223372036854775807) := rfl

theorem selA_t (a b : AV) : selA (.sc (.bool true)) a b = strip a := by simp only [selA, strip, selB_eq, if_true]
theorem selA_f (a b : AV) : selA (.sc (.bool false)) a b = strip b := by simp only [selA, strip, selB_eq, Bool.false_eq_true, if_false]
theorem selOk_t (a b : AV) : selOk (.sc (.bool true)) a b = stripOk true a := by simp [selOk, strip, stripOk]
theorem selOk_f (a b : AV) : selOk (.sc (.bool false)) a b = stripOk true b := by simp [selOk, strip, stripOk]
theorem selA_ot (g : Bool) (a b : AV) : selA (.opt g (.sc (.bool true))) a b = strip a := by simp only [selA, strip, selB_eq, if_true]
theorem selA_of (g : Bool) (a b : AV) : selA (.opt g (.sc (.bool false))) a b = strip b := by simp only [selA, strip, selB_eq, Bool.false_eq_true, if_false]
theorem selOk_ot (g : Bool) (a b : AV) : selOk (.opt g (.sc (.bool true))) a b = (g = true ∧ stripOk true a) := by simp [selOk, strip, stripOk]
theorem selOk_of (g : Bool) (a b : AV) : selOk (.opt g (.sc (.bool false))) a b = (g = true ∧ stripOk true b) := by simp [selOk, strip, stripOk]
theorem selA_000 (t x y : Bool) : selA (.sc (.bool t)) (.sc (.bool x)) (.sc (.bool y)) = .sc (.bool (bif t then x else y)) := rfl
theorem selOk_000 (t x y : Bool) : selOk (.sc (.bool t)) (.sc (.bool x)) (.sc (.bool y)) = (True) := by simp [selOk, strip, stripOk]
theorem selA_001 (t x y gy : Bool) : selA (.sc (.bool t)) (.sc (.bool x)) (.opt gy (.sc (.bool y))) = .sc (.bool (bif t then x else y)) := rfl
theorem selOk_001 (t x y gy : Bool) : selOk (.sc (.bool t)) (.sc (.bool x)) (.opt gy (.sc (.bool y))) = ((t = false → gy = true)) := by simp [selOk, strip, stripOk]
theorem selA_010 (t x y gx : Bool) : selA (.sc (.bool t)) (.opt gx (.sc (.bool x))) (.sc (.bool y)) = .sc (.bool (bif t then x else y)) := rfl
theorem selOk_010 (t x y gx : Bool) : selOk (.sc (.bool t)) (.opt gx (.sc (.bool x))) (.sc (.bool y)) = ((t = true → gx = true)) := by simp [selOk, strip, stripOk]
theorem selA_011 (t x y gx gy : Bool) : selA (.sc (.bool t)) (.opt gx (.sc (.bool x))) (.opt gy (.sc (.bool y))) = .sc (.bool (bif t then x else y)) := rfl
theorem selOk_011 (t x y gx gy : Bool) : selOk (.sc (.bool t)) (.opt gx (.sc (.bool x))) (.opt gy (.sc (.bool y))) = ((t = true → gx = true) ∧ (t = false → gy = true)) := by simp [selOk, strip, stripOk]
theorem selA_100 (t x y gc : Bool) : selA (.opt gc (.sc (.bool t))) (.sc (.bool x)) (.sc (.bool y)) = .sc (.bool (bif t then x else y)) := rfl
theorem selOk_100 (t x y gc : Bool) : selOk (.opt gc (.sc (.bool t))) (.sc (.bool x)) (.sc (.bool y)) = (gc = true) := by simp [selOk, strip, stripOk]
theorem selA_101 (t x y gc gy : Bool) : selA (.opt gc (.sc (.bool t))) (.sc (.bool x)) (.opt gy (.sc (.bool y))) = .sc (.bool (bif t then x else y)) := rfl
theorem selOk_101 (t x y gc gy : Bool) : selOk (.opt gc (.sc (.bool t))) (.sc (.bool x)) (.opt gy (.sc (.bool y))) = (gc = true ∧ (t = false → gy = true)) := by simp [selOk, strip, stripOk]
theorem selA_110 (t x y gc gx : Bool) : selA (.opt gc (.sc (.bool t))) (.opt gx (.sc (.bool x))) (.sc (.bool y)) = .sc (.bool (bif t then x else y)) := rfl
theorem selOk_110 (t x y gc gx : Bool) : selOk (.opt gc (.sc (.bool t))) (.opt gx (.sc (.bool x))) (.sc (.bool y)) = (gc = true ∧ (t = true → gx = true)) := by simp [selOk, strip, stripOk]
theorem selA_111 (t x y gc gx gy : Bool) : selA (.opt gc (.sc (.bool t))) (.opt gx (.sc (.bool x))) (.opt gy (.sc (.bool y))) = .sc (.bool (bif t then x else y)) := rfl
theorem selOk_111 (t x y gc gx gy : Bool) : selOk (.opt gc (.sc (.bool t))) (.opt gx (.sc (.bool x))) (.opt gy (.sc (.bool y))) = (gc = true ∧ (t = true → gx = true) ∧ (t = false → gy = true)) := by simp [selOk, strip, stripOk]

theorem strip_opt (b : Bool) (x : AV) : strip (.opt b x) = x := rfl
theorem strip_sc (v : Value) : strip (.sc v) = .sc v := rfl
theorem strip_pt (L i : Nat) : strip (.pt L i) = .pt L i := rfl
theorem strip_pa (L i j : Nat) : strip (.pa L i j) = .pa L i j := rfl
theorem strip_sl (L i j : Nat) : strip (.sl L i j) = .sl L i j := rfl
theorem strip_fz (z : Nat) (xs : List (List AV)) : strip (.fz z xs) = .fz z xs := rfl
theorem strip_fp (z : Nat) (xs : List (List AV)) (i j : Nat) : strip (.fp z xs i j) = .fp z xs i j := rfl
theorem strip_agg (xs : List AV) : strip (.agg xs) = .agg xs := rfl
theorem sok_opt (g b : Bool) (x : AV) : stripOk g (.opt b x) = (g = true → b = true) := rfl
theorem sok_sc (g : Bool) (v : Value) : stripOk g (.sc v) = True := rfl
theorem sok_pt (g : Bool) (L i : Nat) : stripOk g (.pt L i) = True := rfl
theorem sok_pa (g : Bool) (L i j : Nat) : stripOk g (.pa L i j) = True := rfl
theorem sok_sl (g : Bool) (L i j : Nat) : stripOk g (.sl L i j) = True := rfl
theorem sok_fz (g : Bool) (z : Nat) (xs : List (List AV)) : stripOk g (.fz z xs) = True := rfl
theorem sok_fp (g : Bool) (z : Nat) (xs : List (List AV)) (i j : Nat) : stripOk g (.fp z xs i j) = True := rfl
theorem sok_agg (g : Bool) (xs : List AV) : stripOk g (.agg xs) = True := rfl
theorem plain_sc (v : Value) : plain (.sc v) = True := rfl
theorem plain_pt (L i : Nat) : plain (.pt L i) = True := rfl
theorem plain_pa (L i j : Nat) : plain (.pa L i j) = True := rfl
theorem plain_sl (L i j : Nat) : plain (.sl L i j) = True := rfl
theorem plain_fz (z : Nat) (xs : List (List AV)) : plain (.fz z xs) = True := rfl
theorem plain_fp (z : Nat) (xs : List (List AV)) (i j : Nat) : plain (.fp z xs i j) = True := rfl
theorem plain_agg (xs : List AV) : plain (.agg xs) = True := rfl

theorem lenA_fz (z : Nat) (xs : List (List AV)) : lenA (.fz z xs) = xs.length := rfl
theorem lenA_sl (L o n : Nat) : lenA (.sl L o n) = n := rfl
theorem lenA_str (b : ByteArray) : lenA (.sc (.string b)) = b.size := rfl
theorem lenA_nil : lenA (.sc (.slice none 0 0)) = 0 := rfl
theorem lenOk_fz (z : Nat) (xs : List (List AV)) : lenOk os (.fz z xs) = True := rfl
theorem lenOk_sl (L o n : Nat) : lenOk os (.sl L o n) = (match os[L]? with | some (.arr ..) => True | some (.nst ..) => True | _ => False) := rfl
theorem lenOk_str (b : ByteArray) : lenOk os (.sc (.string b)) = True := rfl
theorem lenOk_nil : lenOk os (.sc (.slice none 0 0)) = True := rfl
theorem elems_fz (z : Nat) (xs : List (List AV)) : elems os (.fz z xs) = xs := rfl
theorem elems_sl (L o n : Nat) : elems os (.sl L o n) = (match os[L]? with | some (.arr _ _ xs) => (xs.drop o).take n | some (.nst ..) => [[.junk]] | _ => []) := rfl
theorem elems_nil : elems os (.sc (.slice none 0 0)) = [] := rfl
theorem esz_fz (z : Nat) (xs : List (List AV)) : esz os (.fz z xs) = z := rfl
theorem esz_sl (L o n : Nat) : esz os (.sl L o n) = (match os[L]? with | some (.arr _ z _) => z | some (.nst z _ _) => z | _ => 0) := rfl
theorem idxA_fz (z : Nat) (xs : List (List AV)) (i : Int) : idxA (.fz z xs) i = .fp z xs i.toNat 0 := rfl
theorem idxA_sl (L o n : Nat) (i : Int) : idxA (.sl L o n) i = .pa L (o + i.toNat) 0 := rfl
theorem cutA_fz (z : Nat) (xs : List (List AV)) (l h : Int) : cutA (.fz z xs) l h = .fz z ((xs.take h.toNat).drop l.toNat) := rfl
theorem cutA_sl (L o n : Nat) (l h : Int) : cutA (.sl L o n) l h = .sl L (o + l.toNat) (h.toNat - l.toNat) := rfl
theorem cutA_nil (l h : Int) : cutA (.sc (.slice none 0 0)) l h = .sc (.slice none 0 0) := rfl
theorem cutA_str (b : ByteArray) (l h : Int) : cutA (.sc (.string b)) l h = .sc (.string (b.extract l.toNat h.toNat)) := rfl
theorem numA_int (k : IntKind) (n : Int) : numA (.sc (.int k n)) = n := rfl
theorem boolA_b (b : Bool) : boolA (.sc (.bool b)) = b := rfl
theorem strA_s (b : ByteArray) : strA (.sc (.string b)) = b := rfl
theorem isNum_int (k : IntKind) (n : Int) : isNum (.sc (.int k n)) = True := rfl
theorem numOk_none : numOk none = True := rfl
theorem numOk_some (x : AV) : numOk (some x) = isNum x := rfl
theorem loOf_none (r : Operand → AV) : loOf r none = 0 := rfl
theorem loOf_some (r : Operand → AV) (o : Operand) : loOf r (some o) = numA (r o) := rfl
theorem hiOf_none (r : Operand → AV) (x : AV) : hiOf r x none = (lenA x : Int) := rfl
theorem hiOf_some (r : Operand → AV) (x : AV) (o : Operand) : hiOf r x (some o) = numA (r o) := rfl
theorem cutTy_nil (t : Nat) : cutTy c os t (.sc (.slice none 0 0)) = (isSliceT c t ∧ 0 < (c.T (elemOf c t)).sz) := rfl
theorem cutTy_str (t : Nat) (b : ByteArray) : cutTy c os t (.sc (.string b)) = ((c.T t).kind = .str) := rfl
theorem cutTy_fz (t z : Nat) (xs : List (List AV)) : cutTy c os t (.fz z xs) = (isSliceT c t ∧ 0 < (c.T (elemOf c t)).sz ∧ z = (c.T (elemOf c t)).sz ∧ True) := rfl
theorem cutTy_sl (t L o n : Nat) : cutTy c os t (.sl L o n) = (isSliceT c t ∧ 0 < (c.T (elemOf c t)).sz ∧ esz os (.sl L o n) = (c.T (elemOf c t)).sz ∧ lenOk os (.sl L o n)) := rfl
theorem lenTy_str (t : Nat) (b : ByteArray) : lenTy c t (.sc (.string b)) = ((c.T t).kind = .str) := rfl
theorem lenTy_fz (t z : Nat) (xs : List (List AV)) : lenTy c t (.fz z xs) = isSliceT c t := rfl
theorem lenTy_sl (t L o n : Nat) : lenTy c t (.sl L o n) = isSliceT c t := rfl
theorem lenTy_nil (t : Nat) : lenTy c t (.sc (.slice none 0 0)) = isSliceT c t := rfl
theorem elemOf_eq (t : Nat) : elemOf c t = (match (c.T t).kind with | .slice e => e | _ => 0) := rfl
theorem isSliceT_eq (t : Nat) : isSliceT c t = (match (c.T t).kind with | .slice _ => True | _ => False) := rfl

theorem row_pt (L i : Nat) : rowAt os (.pt L i) = (match os[L]? with | some (.rc cs) => cs.drop i | _ => []) := rfl
theorem row_pa (L i j : Nat) : rowAt os (.pa L i j) = (match os[L]? with | some (.arr _ _ xs) => (xs.getD i []).drop j | some (.nst _ _ (some (q, row))) => if i = q then row.drop j else [] | _ => []) := rfl
theorem row_fp (z : Nat) (xs : List (List AV)) (i j : Nat) : rowAt os (.fp z xs i j) = (xs.getD i []).drop j := rfl
theorem addr_pt (L i : Nat) : isAddr os (.pt L i) = (match os[L]? with | some (.rc _) => true | _ => false) := rfl
theorem addr_pa (L i j : Nat) : isAddr os (.pa L i j) = (match os[L]? with | some (.arr ..) => true | some (.nst ..) => true | _ => false) := rfl
theorem addr_fp (z : Nat) (xs : List (List AV)) (i j : Nat) : isAddr os (.fp z xs i j) = true := rfl
theorem off_pt (L i n : Nat) : addOff (.pt L i) n = .pt L (i + n) := rfl
theorem off_pa (L i j n : Nat) : addOff (.pa L i j) n = .pa L i (j + n) := rfl
theorem off_fp (z : Nat) (xs : List (List AV)) (i j n : Nat) : addOff (.fp z xs i j) n = .fp z xs i (j + n) := rfl
theorem fieldOff_eq (sz bytes : Nat) (ag : Bool) (zero : List AV) (fs : List (Nat × Nat)) (q : Bool) (ft : List Nat) (f : Nat) : fieldOff ⟨sz, bytes, ag, zero, .struct fs, q, ft⟩ f = fs.getD f (0, 0) := rfl
theorem loadV_one (sz bytes : Nat) (zero : List AV) (kd : TK) (q : Bool) (ft : List Nat) (row : List AV) : loadV ⟨sz, bytes, false, zero, kd, q, ft⟩ row = asLike (zero.headD .junk) (row.headD .junk) := rfl
theorem loadV_agg (sz bytes : Nat) (zero : List AV) (kd : TK) (q : Bool) (ft : List Nat) (row : List AV) : loadV ⟨sz, bytes, true, zero, kd, q, ft⟩ row = .agg (eta zero row) := rfl
theorem eta_nil (row : List AV) : eta [] row = [] := rfl
theorem eta_cons (z : AV) (zs row : List AV) : eta (z :: zs) row = asLike z (row.headD .junk) :: eta zs row.tail := rfl
theorem asLike_int (k : IntKind) (n : Int) (x : AV) : asLike (.sc (.int k n)) x = .sc (.int k (numA x)) := rfl
theorem asLike_bool (b : Bool) (x : AV) : asLike (.sc (.bool b)) x = .sc (.bool (boolA x)) := rfl
theorem asLike_str (b : ByteArray) (x : AV) : asLike (.sc (.string b)) x = .sc (.string (strA x)) := rfl
theorem asLike_slice (a : Option Addr) (n m : Nat) (x : AV) : asLike (.sc (.slice a n m)) x = x := rfl
theorem asLike_ptr (a : Option Addr) (x : AV) : asLike (.sc (.pointer a)) x = x := rfl
theorem like_int (k : IntKind) (n : Int) (k' : IntKind) (m : Int) : like (.sc (.int k n)) (.sc (.int k' m)) = (k' = k) := rfl
theorem like_bool (b b' : Bool) : like (.sc (.bool b)) (.sc (.bool b')) = True := rfl
theorem like_str (b b' : ByteArray) : like (.sc (.string b)) (.sc (.string b')) = True := rfl
theorem like_slice (a : Option Addr) (n m : Nat) (x : AV) : like (.sc (.slice a n m)) x = True := rfl
theorem like_ptr (a : Option Addr) (x : AV) : like (.sc (.pointer a)) x = True := rfl
theorem likeAll_nil (row : List AV) : likeAll [] row = True := rfl
theorem likeAll_cons (z x : AV) (zs xs : List AV) : likeAll (z :: zs) (x :: xs) = (like z x ∧ likeAll zs xs) := rfl

theorem cells_agg (cs : List AV) : cellsOf (.agg cs) = cs := rfl
theorem cells_sc (v : Value) : cellsOf (.sc v) = [.sc v] := rfl
theorem cells_pt (L i : Nat) : cellsOf (.pt L i) = [.pt L i] := rfl
theorem cells_sl (L i j : Nat) : cellsOf (.sl L i j) = [.sl L i j] := rfl
theorem cells_fz (z : Nat) (xs : List (List AV)) : cellsOf (.fz z xs) = [.fz z xs] := rfl
theorem allP_nil {α : Type} (p : α → Prop) : allP p [] = True := rfl
theorem allP_cons {α : Type} (p : α → Prop) (x : α) (r : List α) : allP p (x :: r) = (p x ∧ allP p r) := rfl
theorem recOk_sc (v : Value) : recOk os (.sc v) = (v.oneCell' = true) := rfl
theorem recOk_fz (z : Nat) (xs : List (List AV)) : recOk os (.fz z xs) = True := rfl
theorem recOk_sl (L i j : Nat) : recOk os (.sl L i j) = (match os[L]? with | some (.arr ..) => True | _ => False) := rfl
theorem recOk_pt (L i : Nat) : recOk os (.pt L i) = (match os[L]? with | some (.rc _) => True | _ => False) := rfl
theorem frzOk_sc (v : Value) : frzOk os (.sc v) = (v.oneCell' = true) := rfl
theorem frzOk_fz (z : Nat) (xs : List (List AV)) : frzOk os (.fz z xs) = True := rfl
theorem frzOk_sl (L i j : Nat) : frzOk os (.sl L i j) = (match os[L]? with | some (.arr ..) => True | _ => False) := rfl
theorem one_int (k : IntKind) (n : Int) : (Value.int k n).oneCell' = true := rfl
theorem one_bool (b : Bool) : (Value.bool b).oneCell' = true := rfl
theorem one_str (b : ByteArray) : (Value.string b).oneCell' = true := rfl
theorem one_slice (a : Option Addr) (n m : Nat) : (Value.slice a n m).oneCell' = true := rfl
theorem one_ptr (a : Option Addr) : (Value.pointer a).oneCell' = true := rfl
theorem frz_sc (v : Value) : frz os (.sc v) = .sc v := rfl
theorem frz_fz (z : Nat) (xs : List (List AV)) : frz os (.fz z xs) = .fz z xs := rfl
theorem frz_sl (L i j : Nat) : frz os (.sl L i j) = .fz (esz os (.sl L i j)) (elems os (.sl L i j)) := rfl
theorem unown_sc (v : Value) : unown os (.sc v) = os := rfl
theorem unown_fz (z : Nat) (xs : List (List AV)) : unown os (.fz z xs) = os := rfl
theorem unown_sl (L i j : Nat) : unown os (.sl L i j) = (match os[L]? with | some (.arr _ s xs) => os.set L (.arr false s xs) | _ => os) := rfl
theorem unownAll_nil : unownAll os [] = os := rfl
theorem unownAll_cons (x : AV) (r : List AV) : unownAll os (x :: r) = unownAll (unown os x) r := rfl
theorem storeOk_pt (L i : Nat) (vs : List AV) : storeOk os (.pt L i) vs = (match os[L]? with | some (.rc cs) => i + vs.length ≤ cs.length ∧ allP (recOk os) vs | _ => False) := rfl
theorem storeOk_pa (L i j : Nat) (vs : List AV) : storeOk os (.pa L i j) vs = (match os[L]? with | some (.arr true _ xs) => i < xs.length ∧ j + vs.length ≤ (xs.getD i []).length ∧ allP (frzOk os) vs ∧ allP (notSl L) vs | some (.nst _ _ (some (q, row))) => i = q ∧ j + vs.length ≤ row.length ∧ allP (recOk os) vs | _ => False) := rfl
theorem storeA_pt (L i : Nat) (vs : List AV) : storeA os (.pt L i) vs = (match os[L]? with | some (.rc cs) => os.set L (.rc (setCells cs i vs)) | _ => os) := rfl
theorem storeA_pa (L i j : Nat) (vs : List AV) : storeA os (.pa L i j) vs = (match os[L]? with | some (.arr true s xs) => (unownAll os vs).set L (.arr true s (xs.set i (setCells (xs.getD i []) j (vs.map (frz os))))) | some (.nst s xs (some (q, row))) => os.set L (.nst s xs (some (q, setCells row j vs))) | _ => os) := rfl
theorem setCells_zero (x y : AV) (cs : List AV) : setCells (y :: cs) 0 [x] = x :: cs := rfl
theorem setCells_nil (cs : List AV) (i : Nat) : setCells cs i [] = cs := by simp [setCells]
theorem setCells_cons0 (x y : AV) (cs vs : List AV) : setCells (y :: cs) 0 (x :: vs) = x :: setCells cs 0 vs := by simp [setCells]
theorem setCells_succ (y : AV) (cs vs : List AV) (i : Nat) : setCells (y :: cs) (i + 1) vs = y :: setCells cs i vs := by simp [setCells, Nat.add_right_comm]
theorem notSl_sc (L : Nat) (v : Value) : notSl L (.sc v) = True := rfl
theorem notSl_fz (L z : Nat) (xs : List (List AV)) : notSl L (.fz z xs) = True := rfl
theorem notSl_sl (L M i j : Nat) : notSl L (.sl M i j) = (M ≠ L) := rfl
theorem names_pt (L i : Nat) : names (.pt L i) = [L] := rfl
theorem names_pa (L i j : Nat) : names (.pa L i j) = [L] := rfl
theorem names_sl (L i j : Nat) : names (.sl L i j) = [L] := rfl
theorem names_sc (v : Value) : names (.sc v) = [] := rfl
theorem names_fz (z : Nat) (xs : List (List AV)) : names (.fz z xs) = [] := rfl
theorem names_fp (z : Nat) (xs : List (List AV)) (i j : Nat) : names (.fp z xs i j) = [] := rfl
theorem heldOk_load (H : List Nat) (t : Nat) (a : Operand) : heldOk H c e (.load t a) = heldA H (ev c e a) := rfl
theorem heldOk_move (H : List Nat) (x : Operand) : heldOk H c e (.move x) = True := rfl
theorem heldOk_assign (H : List Nat) (x : Operand) : heldOk H c e (.assign x) = True := rfl
theorem heldOk_nil (H : List Nat) (x : Operand) : heldOk H c e (.nilCheck x) = True := rfl
theorem heldOk_bin (H : List Nat) (op : BinOp) (t t' : Nat) (x y : Operand) : heldOk H c e (.binOp op t x y t') = True := rfl
theorem heldOk_un (H : List Nat) (op : UnOp) (t : Nat) (x : Operand) : heldOk H c e (.unOp op t x) = True := rfl
theorem heldOk_conv (H : List Nat) (t d : Nat) (x : Operand) : heldOk H c e (.convert t d x) = quietC (ev c e x) := rfl
theorem quietC_int (k : IntKind) (n : Int) : quietC (.sc (.int k n)) = True := rfl
theorem quietC_str (s : ByteArray) : quietC (.sc (.string s)) = True := rfl
theorem quietC_oint (b : Bool) (k : IntKind) (n : Int) : quietC (.opt b (.sc (.int k n))) = True := rfl
theorem quietC_ostr (b : Bool) (s : ByteArray) : quietC (.opt b (.sc (.string s))) = True := rfl
theorem heldOk_pick (H : List Nat) (a x y : Operand) : heldOk H c e (.pick a x y) = True := rfl
theorem heldOk_field (H : List Nat) (t : Nat) (x : Operand) (f : Nat) : heldOk H c e (.fieldAddr t x f) = True := rfl
theorem heldOk_idx (H : List Nat) (t : Nat) (x i : Operand) : heldOk H c e (.indexAddr t x i) = True := rfl
theorem heldOk_index (H : List Nat) (t : Nat) (x i : Operand) : heldOk H c e (.index t x i) = True := rfl
theorem heldOk_slice (H : List Nat) (t : Nat) (x : Operand) (lo hi mx : Option Operand) : heldOk H c e (.slice t x lo hi mx) = True := rfl
theorem heldOk_build (H : List Nat) (t : Nat) (ps : Array (Nat × Operand)) : heldOk H c e (.build t ps) = True := rfl
theorem heldOk_extract (H : List Nat) (x : Operand) (i : Nat) : heldOk H c e (.extract x i) = True := rfl
theorem heldOk_call (H : List Nat) (cl : Call) : heldOk H c e (.call cl) = True := rfl
theorem heldA_opt (H : List Nat) (b : Bool) (x : AV) : heldA H (.opt b x) = allP (fun L => memN H L = true) (names x) := rfl
theorem heldA_pt (H : List Nat) (L i : Nat) : heldA H (.pt L i) = (memN H L = true ∧ True) := rfl
theorem heldA_pa (H : List Nat) (L i j : Nat) : heldA H (.pa L i j) = (memN H L = true ∧ True) := rfl
theorem heldA_fp (H : List Nat) (z : Nat) (xs : List (List AV)) (i j : Nat) : heldA H (.fp z xs i j) = True := rfl

theorem pk_move (r : Operand → AV) (x : Operand) : pureOk c os r (.move x) = True := rfl
theorem pk_assign (r : Operand → AV) (x : Operand) : pureOk c os r (.assign x) = True := rfl
theorem pk_load (r : Operand → AV) (t : Nat) (a : Operand) : pureOk c os r (.load t a) = (isAddr os (r a) = true ∧ 0 < (c.T t).sz ∧ likeAll (c.T t).zero (rowAt os (r a))) := rfl
theorem pk_nil (r : Operand → AV) (x : Operand) : pureOk c os r (.nilCheck x) = (isAddr os (r x) = true) := rfl
theorem pk_bin (r : Operand → AV) (op : BinOp) (t t' : Nat) (x y : Operand) : pureOk c os r (.binOp op t x y t') = binOk (c.T t) op (r x) (r y) := rfl
theorem pk_un (r : Operand → AV) (op : UnOp) (t : Nat) (x : Operand) : pureOk c os r (.unOp op t x) = unOk op (r x) := rfl
theorem pk_conv (r : Operand → AV) (t d : Nat) (x : Operand) : pureOk c os r (.convert t d x) = (0 < (c.T t).sz ∧ 0 < (c.T d).sz ∧ convOk os (c.T t).kind (c.T d).kind (c.T (elemOf c t)) (r x)) := rfl
theorem pk_pick (r : Operand → AV) (a x y : Operand) : pureOk c os r (.pick a x y) = selOk (r a) (r x) (r y) := rfl
theorem pk_field (r : Operand → AV) (t : Nat) (x : Operand) (f : Nat) : pureOk c os r (.fieldAddr t x f) = (0 < (c.T t).sz ∧ isAddr os (r x) = true ∧ 0 < (fieldOff (c.T t) f).2) := rfl
theorem pk_idx (r : Operand → AV) (t : Nat) (x i : Operand) : pureOk c os r (.indexAddr t x i) = (0 < (c.T t).sz ∧ 0 < (c.T (elemOf c t)).sz ∧ isSliceT c t ∧ esz os (r x) = (c.T (elemOf c t)).sz ∧ lenOk os (r x) ∧ isNum (r i) ∧ 0 ≤ numA (r i) ∧ numA (r i) < lenA (r x)) := rfl
theorem pk_len (r : Operand → AV) (x : Operand) (t : Nat) : pureOk c os r (.call ⟨.builtin .len, #[x], #[t]⟩) = (0 < (c.T t).sz ∧ lenOk os (r x) ∧ lenTy c t (r x)) := rfl
theorem pk_max (r : Operand → AV) (x y : Operand) (tys : Array Nat) : pureOk c os r (.call ⟨.builtin .max, #[x, y], tys⟩) = (isNum (r x) ∧ isNum (r y)) := by simp [pureOk, allP]
theorem pk_min (r : Operand → AV) (x y : Operand) (tys : Array Nat) : pureOk c os r (.call ⟨.builtin .min, #[x, y], tys⟩) = (isNum (r x) ∧ isNum (r y)) := by simp [pureOk, allP]
theorem pk_max3 (r : Operand → AV) (x y z : Operand) (tys : Array Nat) : pureOk c os r (.call ⟨.builtin .max, #[x, y, z], tys⟩) = (isNum (r x) ∧ isNum (r y) ∧ isNum (r z)) := by simp [pureOk, allP]
theorem pa_max (r : Operand → AV) (x y : Operand) (tys : Array Nat) : pureA c os r (.call ⟨.builtin .max, #[x, y], tys⟩) = .sc (.int (kN (r x)) (mxI (numA (r x)) (numA (r y)))) := rfl
theorem pa_min (r : Operand → AV) (x y : Operand) (tys : Array Nat) : pureA c os r (.call ⟨.builtin .min, #[x, y], tys⟩) = .sc (.int (kN (r x)) (mnI (numA (r x)) (numA (r y)))) := rfl
theorem pa_max3 (r : Operand → AV) (x y z : Operand) (tys : Array Nat) : pureA c os r (.call ⟨.builtin .max, #[x, y, z], tys⟩) = .sc (.int (kN (r x)) (mxI (mxI (numA (r x)) (numA (r y))) (numA (r z)))) := rfl
theorem kN_int (k : IntKind) (n : Int) : kN (.sc (.int k n)) = k := rfl
theorem pa_move (r : Operand → AV) (x : Operand) : pureA c os r (.move x) = r x := rfl
theorem pa_assign (r : Operand → AV) (x : Operand) : pureA c os r (.assign x) = r x := rfl
theorem pa_load (r : Operand → AV) (t : Nat) (a : Operand) : pureA c os r (.load t a) = loadV (c.T t) (rowAt os (r a)) := rfl
theorem pa_nil (r : Operand → AV) (x : Operand) : pureA c os r (.nilCheck x) = r x := rfl
theorem pa_bin (r : Operand → AV) (op : BinOp) (t t' : Nat) (x y : Operand) : pureA c os r (.binOp op t x y t') = binA op (r x) (r y) := rfl
theorem pa_un (r : Operand → AV) (op : UnOp) (t : Nat) (x : Operand) : pureA c os r (.unOp op t x) = unA op (r x) := rfl
theorem pa_conv (r : Operand → AV) (t d : Nat) (x : Operand) : pureA c os r (.convert t d x) = convA os (c.T t).kind (c.T d).kind (r x) := rfl
theorem pa_pick (r : Operand → AV) (a x y : Operand) : pureA c os r (.pick a x y) = selA (r a) (r x) (r y) := rfl
theorem pa_field (r : Operand → AV) (t : Nat) (x : Operand) (f : Nat) : pureA c os r (.fieldAddr t x f) = addOff (r x) (fieldOff (c.T t) f).1 := rfl
theorem pa_idx (r : Operand → AV) (t : Nat) (x i : Operand) : pureA c os r (.indexAddr t x i) = idxA (r x) (numA (r i)) := rfl
theorem pa_len (r : Operand → AV) (x : Operand) (t : Nat) : pureA c os r (.call ⟨.builtin .len, #[x], #[t]⟩) = .sc (.int .i64 (lenA (r x))) := rfl
theorem ok_move (g : Bool) (x : Operand) : operOk c e g (.move x) = (stripOk g (ev c e x) ∧ True) := rfl
theorem ok_assign (g : Bool) (x : Operand) : operOk c e g (.assign x) = (stripOk g (ev c e x) ∧ True) := rfl
theorem ok_load (g : Bool) (t : Nat) (x : Operand) : operOk c e g (.load t x) = (stripOk g (ev c e x) ∧ True) := rfl
theorem ok_nil (g : Bool) (x : Operand) : operOk c e g (.nilCheck x) = (stripOk g (ev c e x) ∧ True) := rfl
theorem ok_un (g : Bool) (op : UnOp) (t : Nat) (x : Operand) : operOk c e g (.unOp op t x) = (stripOk g (ev c e x) ∧ True) := rfl
theorem ok_conv (g : Bool) (t d : Nat) (x : Operand) : operOk c e g (.convert t d x) = (stripOk g (ev c e x) ∧ True) := rfl
theorem ok_field (g : Bool) (t : Nat) (x : Operand) (f : Nat) : operOk c e g (.fieldAddr t x f) = (stripOk g (ev c e x) ∧ True) := rfl
theorem ok_bin (g : Bool) (op : BinOp) (t t' : Nat) (x y : Operand) : operOk c e g (.binOp op t x y t') = (stripOk g (ev c e x) ∧ stripOk g (ev c e y) ∧ True) := rfl
theorem ok_idx (g : Bool) (t : Nat) (x y : Operand) : operOk c e g (.indexAddr t x y) = (stripOk g (ev c e x) ∧ stripOk g (ev c e y) ∧ True) := rfl
theorem ok_pick (g : Bool) (a x y : Operand) : operOk c e g (.pick a x y) = True := rfl
theorem ok_len (g : Bool) (x : Operand) (t : Nat) : operOk c e g (.call ⟨.builtin .len, #[x], #[t]⟩) = (stripOk g (ev c e x) ∧ True) := rfl
theorem ip_max (x y : Operand) (tys : Array Nat) : isPure (.call ⟨.builtin .max, #[x, y], tys⟩) = true := rfl
theorem ip_min (x y : Operand) (tys : Array Nat) : isPure (.call ⟨.builtin .min, #[x, y], tys⟩) = true := rfl
theorem ip_max3 (x y z : Operand) (tys : Array Nat) : isPure (.call ⟨.builtin .max, #[x, y, z], tys⟩) = true := rfl
theorem ip_move (x : Operand) : isPure (.move x) = true := rfl
theorem ip_assign (x : Operand) : isPure (.assign x) = true := rfl
theorem ip_load (t : Nat) (x : Operand) : isPure (.load t x) = true := rfl
theorem ip_nil (x : Operand) : isPure (.nilCheck x) = true := rfl
theorem ip_bin_t (op : BinOp) (t t' : Nat) (x : Operand) (u : Nat) : isPure (.binOp op t x (.tmp u) t') = true := rfl
theorem ip_bin_i (op : BinOp) (t t' : Nat) (x : Operand) (k : IntKind) (n : Int) : isPure (.binOp op t x (.const (.int k n)) t') = true := rfl
theorem ip_bin_b (op : BinOp) (t t' : Nat) (x : Operand) (b : Bool) : isPure (.binOp op t x (.const (.bool b)) t') = true := rfl
theorem ip_bin_s (op : BinOp) (t t' : Nat) (x : Operand) (b : ByteArray) : isPure (.binOp op t x (.const (.string b)) t') = true := rfl
theorem ip_un (op : UnOp) (t : Nat) (x : Operand) : isPure (.unOp op t x) = true := rfl
theorem ip_conv (t d : Nat) (x : Operand) : isPure (.convert t d x) = true := rfl
theorem ip_pick (a x y : Operand) : isPure (.pick a x y) = true := rfl
theorem ip_field (t : Nat) (x : Operand) (f : Nat) : isPure (.fieldAddr t x f) = true := rfl
theorem ip_idx (t : Nat) (x i : Operand) : isPure (.indexAddr t x i) = true := rfl
theorem ip_len (x : Operand) (t : Nat) : isPure (.call ⟨.builtin .len, #[x], #[t]⟩) = true := rfl
theorem ip_call (f : Operand) (args : Array Operand) (tys : Array Nat) : isPure (.call ⟨.value f, args, tys⟩) = false := rfl
end

def guardV (want : Bool) : AV → Option Bool
  | .sc (.bool b) => some (b == want)
  | .opt g (.sc (.bool b)) => some (g && (b == want))
  | .opt false _ => some false
  | _ => none

def guardD : Option Oper → Option Nat
  | some o => o.dst
  | none => none

def guardL (e : Env) (want : Bool) : Option Nat → Option Bool
  | some t => guardV want (lk e t)
  | none => none

theorem guardV_b (want b : Bool) : guardV want (.sc (.bool b)) = some (b == want) := rfl
theorem guardV_o (want g b : Bool) : guardV want (.opt g (.sc (.bool b))) = some (g && (b == want)) := rfl
theorem guardV_x (want : Bool) (x : AV) : guardV want (.opt false x) = some false := by
  unfold guardV; split <;> simp_all
theorem guardL_s (e : Env) (want : Bool) (t : Nat) : guardL e want (some t) = guardV want (lk e t) := rfl
theorem guardD_s (dst : Option Nat) (op : Op) (ty : Nat) (pos : String) (af : Array Edge) (gd : Option (Nat × Bool)) : guardD (some ⟨dst, op, ty, pos, af, gd⟩) = dst := rfl

theorem guardA_L (ops : Array Oper) (e : Env) (j : Nat) (want : Bool) : guardA ops e j want = guardL e want (guardD ops[j]?) := by
  unfold guardA
  cases h : ops[j]? with
  | none => rfl
  | some o =>
    simp only [Option.bind_some, guardD]
    cases o.dst with
    | none => rfl
    | some t =>
      simp only [guardL]
      cases lk e t with
      | sc v => cases v <;> rfl
      | opt g x =>
        cases x with
        | sc v => cases v <;> cases g <;> rfl
        | _ => cases g <;> rfl
      | _ => rfl

section
variable (c : Cx) (CT : CTab) (nl : Nat) (lv : List Nat) (Q : Ex → St → Prop) (k : List It) (os : List AO) (e : Env) (H : List Nat) (dst : Option Nat) (g : Bool)

/-- A guarded operation that is to be told. -/
def guardR (op : Op) : Option Bool → Prop
  | none => False
  | some g =>
      if isPure op then (g = true → operOk c e g op ∧ pureOk c os (gev c e op) op ∧ plain (pureA c os (gev c e op) op)) ∧
        sem c CT nl lv Q k .normal ⟨put e dst (.opt g (pureA c os (gev c e op) op)), os⟩
      else (g = true → operOk c e g op ∧ effA c CT H os (gev c e op) op fun v os => sem c CT nl lv Q k .normal ⟨put e dst v, os⟩) ∧
        (g = false → sem c CT nl lv Q k .normal ⟨put e dst offA, os⟩)

theorem semg (all : Array Oper) (op : Op) (ty : Nat) (pos : String) (af : Array Edge) (j : Nat) (want : Bool) : sem c CT nl lv Q (.op H all ⟨dst, op, ty, pos, af, some (j, want)⟩ :: k) .normal ⟨e, os⟩ = guardR c CT nl lv Q k os e H dst op (guardL e want (guardD all[j]?)) := by
  rw [← guardA_L, sem_guard]
  cases guardA all e j want <;> rfl

theorem semg_move (x : Operand) : guardR c CT nl lv Q k os e H dst (.move x) (some g) = ((g = true → stripOk true (ev c e x) ∧ plain (strip (ev c e x))) ∧ sem c CT nl lv Q k .normal ⟨put e dst (.opt g (strip (ev c e x))), os⟩) := by
  cases g <;> simp [guardR, isPure, operOk, gev, pureOk, pureA, Op.operands, allP]
theorem semg_load (t : Nat) (x : Operand) : guardR c CT nl lv Q k os e H dst (.load t x) (some g) = ((g = true → stripOk true (ev c e x) ∧ (isAddr os (strip (ev c e x)) = true ∧ 0 < (c.T t).sz ∧ likeAll (c.T t).zero (rowAt os (strip (ev c e x)))) ∧ plain (loadV (c.T t) (rowAt os (strip (ev c e x))))) ∧
    sem c CT nl lv Q k .normal ⟨put e dst (.opt g (loadV (c.T t) (rowAt os (strip (ev c e x))))), os⟩) := by
  cases g <;> simp [guardR, isPure, operOk, gev, pureOk, pureA, Op.operands, allP]
theorem semg_nil (x : Operand) : guardR c CT nl lv Q k os e H dst (.nilCheck x) (some g) = ((g = true → stripOk true (ev c e x) ∧ isAddr os (strip (ev c e x)) = true ∧ plain (strip (ev c e x))) ∧ sem c CT nl lv Q k .normal ⟨put e dst (.opt g (strip (ev c e x))), os⟩) := by
  cases g <;> simp [guardR, isPure, operOk, gev, pureOk, pureA, Op.operands, allP]
theorem semg_bin (op : BinOp) (t t' : Nat) (x y : Operand) (hy : isPure (.binOp op t x y t') = true) : guardR c CT nl lv Q k os e H dst (.binOp op t x y t') (some g) = ((g = true → (stripOk true (ev c e x) ∧ stripOk true (ev c e y)) ∧ binOk (c.T t) op (strip (ev c e x)) (strip (ev c e y)) ∧ plain (binA op (strip (ev c e x)) (strip (ev c e y)))) ∧
    sem c CT nl lv Q k .normal ⟨put e dst (.opt g (binA op (strip (ev c e x)) (strip (ev c e y)))), os⟩) := by
  cases g <;> simp [guardR, hy, operOk, gev, pureOk, pureA, Op.operands, allP]
theorem semg_un (op : UnOp) (t : Nat) (x : Operand) : guardR c CT nl lv Q k os e H dst (.unOp op t x) (some g) = ((g = true → stripOk true (ev c e x) ∧ unOk op (strip (ev c e x)) ∧ plain (unA op (strip (ev c e x)))) ∧ sem c CT nl lv Q k .normal ⟨put e dst (.opt g (unA op (strip (ev c e x)))), os⟩) := by
  cases g <;> simp [guardR, isPure, operOk, gev, pureOk, pureA, Op.operands, allP]
theorem semg_conv (t d : Nat) (x : Operand) : guardR c CT nl lv Q k os e H dst (.convert t d x) (some g) = ((g = true → stripOk true (ev c e x) ∧ (0 < (c.T t).sz ∧ 0 < (c.T d).sz ∧ convOk os (c.T t).kind (c.T d).kind (c.T (elemOf c t)) (strip (ev c e x))) ∧ plain (convA os (c.T t).kind (c.T d).kind (strip (ev c e x)))) ∧
    sem c CT nl lv Q k .normal ⟨put e dst (.opt g (convA os (c.T t).kind (c.T d).kind (strip (ev c e x)))), os⟩) := by
  cases g <;> simp [guardR, isPure, operOk, gev, pureOk, pureA, Op.operands, allP]
theorem semg_pick (a x y : Operand) : guardR c CT nl lv Q k os e H dst (.pick a x y) (some g) = ((g = true → selOk (ev c e a) (ev c e x) (ev c e y) ∧ plain (selA (ev c e a) (ev c e x) (ev c e y))) ∧
    sem c CT nl lv Q k .normal ⟨put e dst (.opt g (selA (ev c e a) (ev c e x) (ev c e y))), os⟩) := by
  cases g <;> simp [guardR, isPure, operOk, gev, pureOk, pureA]
theorem semg_field (t : Nat) (x : Operand) (f : Nat) : guardR c CT nl lv Q k os e H dst (.fieldAddr t x f) (some g) = ((g = true → stripOk true (ev c e x) ∧ (0 < (c.T t).sz ∧ isAddr os (strip (ev c e x)) = true ∧ 0 < (fieldOff (c.T t) f).2) ∧ plain (addOff (strip (ev c e x)) (fieldOff (c.T t) f).1)) ∧
    sem c CT nl lv Q k .normal ⟨put e dst (.opt g (addOff (strip (ev c e x)) (fieldOff (c.T t) f).1)), os⟩) := by
  cases g <;> simp [guardR, isPure, operOk, gev, pureOk, pureA, Op.operands, allP]
theorem semg_idx (t : Nat) (x i : Operand) : guardR c CT nl lv Q k os e H dst (.indexAddr t x i) (some g) = ((g = true → (stripOk true (ev c e x) ∧ stripOk true (ev c e i)) ∧
    (0 < (c.T t).sz ∧ 0 < (c.T (elemOf c t)).sz ∧ isSliceT c t ∧ esz os (strip (ev c e x)) = (c.T (elemOf c t)).sz ∧ lenOk os (strip (ev c e x)) ∧ isNum (strip (ev c e i)) ∧ 0 ≤ numA (strip (ev c e i)) ∧ numA (strip (ev c e i)) < lenA (strip (ev c e x))) ∧
    plain (idxA (strip (ev c e x)) (numA (strip (ev c e i))))) ∧ sem c CT nl lv Q k .normal ⟨put e dst (.opt g (idxA (strip (ev c e x)) (numA (strip (ev c e i))))), os⟩) := by
  cases g <;> simp [guardR, isPure, operOk, gev, pureOk, pureA, Op.operands, allP]
theorem semg_len (x : Operand) (t : Nat) : guardR c CT nl lv Q k os e H dst (.call ⟨.builtin .len, #[x], #[t]⟩) (some g) = ((g = true → stripOk true (ev c e x) ∧ 0 < (c.T t).sz ∧ lenOk os (strip (ev c e x)) ∧ lenTy c t (strip (ev c e x))) ∧
    sem c CT nl lv Q k .normal ⟨put e dst (.opt g (.sc (.int .i64 (lenA (strip (ev c e x)))))), os⟩) := by
  cases g <;> simp [guardR, isPure, operOk, gev, pureOk, pureA, Op.operands, Call.operands, allP, plain]
theorem semg_call (n : Nat) (args : Array Operand) (tys : Array Nat) : guardR c CT nl lv Q k os e H dst (.call ⟨.value (.func n), args, tys⟩) (some g) = ((g = true → allP (fun x => stripOk true (ev c e x)) args.toList ∧ callR c CT nl lv Q H n (args.toList.map fun x => strip (ev c e x)) e os dst k) ∧
    (g = false → sem c CT nl lv Q k .normal ⟨put e dst offA, os⟩)) := by
  have h1 : fnC (strip (ev c e (.func n))) = some (n, []) := rfl
  have h2 : ∀ b, stripOk b (ev c e (.func n)) = True := fun _ => rfl
  cases g
  · simp [guardR, isPure]
  · simp only [guardR, isPure, operOk, gev, effA, callR, h1, Op.operands, Call.operands, List.append_nil, Bool.false_eq_true, if_false, Array.toList_append, List.cons_append, List.nil_append, allP, h2, true_and]
end


section
variable (ks : List Nat) (os : List AO) (nl : Nat) (ts : List Nat) (post : AV → List AO → Prop) (e : Env)
theorem end_ret (c : Cx) (rs : List ResultVar) : endQ c nl rs post .ret ⟨e, os⟩ = (allP (resOk c os e) rs ∧ ∃ ks x σ, keepP nl ks os ∧ wkV (oneA (resA c ks os e rs)) x ∧ wkS (viewS ks os) σ ∧ post x σ) := rfl
theorem end_normal (c : Cx) (rs : List ResultVar) : endQ c nl rs post .normal ⟨e, os⟩ = (allP (resOk c os e) rs ∧ ∃ ks x σ, keepP nl ks os ∧ wkV (oneA (resA c ks os e rs)) x ∧ wkS (viewS ks os) σ ∧ post x σ) := rfl
theorem resA_nil (c : Cx) : resA c ks os e [] = [] := rfl
theorem resA_cons (c : Cx) (r : ResultVar) (rs : List ResultVar) : resA c ks os e (r :: rs) = viewA ks os (resV c os e r) :: resA c ks os e rs := rfl
theorem resV_tmp (c : Cx) (t : Nat) : resV c os e (.tmp t) = lk e t := rfl
theorem resV_cell (c : Cx) (a t : Nat) : resV c os e (.cell a t) = loadV (c.T t) (rowAt os (lk e a)) := rfl
theorem resOk_tmp (c : Cx) (t : Nat) : resOk c os e (.tmp t) = True := rfl
theorem resOk_cell (c : Cx) (a t : Nat) : resOk c os e (.cell a t) = (isAddr os (lk e a) = true ∧ 0 < (c.T t).sz ∧ likeAll (c.T t).zero (rowAt os (lk e a))) := rfl
theorem oneA_one (x : AV) : oneA [x] = x := rfl
theorem oneA_two (x y : AV) (l : List AV) : oneA (x :: y :: l) = .tup (x :: y :: l) := rfl
theorem oneA_nil : oneA [] = .tup [] := rfl
theorem viewC_sc (v : Value) : viewC ks os (.sc v) = .sc v := rfl
theorem viewC_fz (z : Nat) (xs : List (List AV)) : viewC ks os (.fz z xs) = .fz z xs := rfl
theorem viewC_fp (z : Nat) (xs : List (List AV)) (i k : Nat) : viewC ks os (.fp z xs i k) = .fp z xs i k := rfl
theorem viewC_junk : viewC ks os .junk = .junk := rfl
theorem viewC_sl (L o n : Nat) : viewC ks os (.sl L o n) = match pos ks L with
    | some j => .sl j o n
    | none => match os[L]? with
      | some (.arr _ s xs) => .fz s ((xs.drop o).take n)
      | some (.nst s xs none) => .fz s (((xs.map fun x => x.map unO).drop o).take n)
      | _ => .junk := rfl
theorem viewC_pt (L k : Nat) : viewC ks os (.pt L k) = match pos ks L with
    | some j => .pt j k
    | none => .junk := rfl
theorem viewA_agg (cs : List AV) : viewA ks os (.agg cs) = .agg (cs.map (viewC ks os)) := rfl
theorem viewA_sc (v : Value) : viewA ks os (.sc v) = .sc v := rfl
theorem viewA_fz (z : Nat) (xs : List (List AV)) : viewA ks os (.fz z xs) = .fz z xs := rfl
theorem viewA_sl (L o n : Nat) : viewA ks os (.sl L o n) = viewC ks os (.sl L o n) := rfl
theorem viewA_pt (L k : Nat) : viewA ks os (.pt L k) = viewC ks os (.pt L k) := rfl
theorem viewA_junk : viewA ks os .junk = .junk := rfl
theorem viewV_tup (vs : List AV) : viewV ks os (.tup vs) = .tup (vs.map (viewA ks os)) := rfl
theorem viewV_agg (cs : List AV) : viewV ks os (.agg cs) = .agg (cs.map (viewC ks os)) := rfl
theorem viewV_sc (v : Value) : viewV ks os (.sc v) = .sc v := rfl
theorem viewV_fz (z : Nat) (xs : List (List AV)) : viewV ks os (.fz z xs) = .fz z xs := rfl
theorem viewV_sl (L o n : Nat) : viewV ks os (.sl L o n) = viewC ks os (.sl L o n) := rfl
theorem viewV_pt (L k : Nat) : viewV ks os (.pt L k) = viewC ks os (.pt L k) := rfl
theorem viewV_junk : viewV ks os .junk = .junk := rfl
theorem viewO_rc (cs : List AV) : viewO ks os (.rc cs) = .rc (cs.map (viewC ks os)) := rfl
theorem viewO_arr (b : Bool) (s : Nat) (xs : List (List AV)) : viewO ks os (.arr b s xs) = .arr b s xs := rfl
theorem viewO_dead : viewO ks os .dead = .dead := rfl
theorem viewS_nil : viewS [] os = [] := rfl
theorem viewS_cons (L : Nat) : viewS (L :: ks) os = viewO (L :: ks) os (os.getD L (virt L)) :: ks.map fun L' => viewO (L :: ks) os (os.getD L' (virt L')) := rfl
theorem virt_eq (L : Nat) : virt L = if 3000000 ≤ L then .nst ((L - 3000000) % 1000 + 1) [] none else if 2000000 ≤ L then .arr true ((L - 2000000) % 1000 + 1) [] else .dead := rfl
theorem viewSt_eq (s : St) : viewSt ts ks s = ⟨ts.map fun t => (t, viewV ks s.os (lk s.env t)), viewS ks s.os⟩ := rfl
theorem pos_nil (t : Nat) : pos [] t = none := rfl
theorem pos_cons (a t : Nat) (r : List Nat) : pos (a :: r) t = if a = t then some 0 else match pos r t with
    | some j => some (j + 1)
    | none => none := rfl
theorem enter_nil (n : Nat) : enterE n [] = [] := rfl
theorem enter_cons (n : Nat) (x : AV) (r : List AV) : enterE n (x :: r) = (n, x) :: enterE (n + 1) r := rfl
end

section
variable (f : Nat → Nat)
theorem renC_sc (v : Value) : renC f (.sc v) = .sc v := rfl
theorem renC_fz (z : Nat) (xs : List (List AV)) : renC f (.fz z xs) = .fz z xs := rfl
theorem renC_sl (L o n : Nat) : renC f (.sl L o n) = .sl (f L) o n := rfl
theorem renC_pt (L k : Nat) : renC f (.pt L k) = .pt (f L) k := rfl
theorem renA_agg (cs : List AV) : renA f (.agg cs) = .agg (cs.map (renC f)) := rfl
theorem renA_sc (v : Value) : renA f (.sc v) = .sc v := rfl
theorem renA_fz (z : Nat) (xs : List (List AV)) : renA f (.fz z xs) = .fz z xs := rfl
theorem renA_sl (L o n : Nat) : renA f (.sl L o n) = .sl (f L) o n := rfl
theorem renA_pt (L k : Nat) : renA f (.pt L k) = .pt (f L) k := rfl
theorem renV_tup (cs : List AV) : renV f (.tup cs) = .tup (cs.map (renA f)) := rfl
theorem renV_agg (cs : List AV) : renV f (.agg cs) = .agg (cs.map (renC f)) := rfl
theorem renV_sc (v : Value) : renV f (.sc v) = .sc v := rfl
theorem renV_fz (z : Nat) (xs : List (List AV)) : renV f (.fz z xs) = .fz z xs := rfl
theorem renV_sl (L o n : Nat) : renV f (.sl L o n) = .sl (f L) o n := rfl
theorem renV_pt (L k : Nat) : renV f (.pt L k) = .pt (f L) k := rfl
theorem renV_junk : renV f .junk = .junk := rfl
theorem renO_rc (cs : List AV) : renO f (.rc cs) = .rc (cs.map (renC f)) := rfl
theorem renO_arr (b : Bool) (s : Nat) (xs : List (List AV)) : renO f (.arr b s xs) = .arr b s xs := rfl
theorem renO_dead : renO f .dead = .dead := rfl
theorem merge_eq (lend : List Nat) (os os' : List AO) : merge lend os os' = putAll os lend (os'.map (renO (backN lend os.length))) ++ (os'.drop lend.length).map (renO (backN lend os.length)) := rfl
theorem putAll_nil (os l : List AO) : putAll os [] l = os := by cases l <;> rfl
theorem putAll_cons (os l : List AO) (L : Nat) (r : List Nat) (o : AO) : putAll os (L :: r) (o :: l) = putAll (os.set L o) r l := rfl
theorem backN_eq (lend : List Nat) (n j : Nat) : backN lend n j = match lend[j]? with
  | some L => L
  | none => n + (j - lend.length) := rfl
theorem unownN_nil (os : List AO) : unownN os [] = os := rfl
theorem unownN_cons (os : List AO) (L : Nat) (r : List Nat) : unownN os (L :: r) = unownN (match os[L]? with | some (.arr _ s xs) => os.set L (.arr false s xs) | some (.nst s xs none) => os.set L (.arr false s (xs.map fun x => x.map unO)) | _ => os) r := rfl
theorem shownAll_eq (ks : List Nat) (os : List AO) (vs : List AV) : shownAll ks os vs = vs.flatMap (shownV ks) ++ ks.flatMap fun L => shownO ks (os.getD L .dead) := rfl
theorem shownC_sc (ks : List Nat) (v : Value) : shownC ks (.sc v) = [] := rfl
theorem shownC_fz (ks : List Nat) (z : Nat) (xs : List (List AV)) : shownC ks (.fz z xs) = [] := rfl
theorem shownC_pt (ks : List Nat) (L k : Nat) : shownC ks (.pt L k) = [] := rfl
theorem shownC_sl (ks : List Nat) (L o n : Nat) : shownC ks (.sl L o n) = if (pos ks L).isSome then [] else [L] := rfl
theorem shownV_sc (ks : List Nat) (v : Value) : shownV ks (.sc v) = [] := rfl
theorem shownV_fz (ks : List Nat) (z : Nat) (xs : List (List AV)) : shownV ks (.fz z xs) = [] := rfl
theorem shownV_pt (ks : List Nat) (L k : Nat) : shownV ks (.pt L k) = [] := rfl
theorem shownV_sl (ks : List Nat) (L o n : Nat) : shownV ks (.sl L o n) = if (pos ks L).isSome then [] else [L] := rfl
theorem shownV_agg (ks : List Nat) (cs : List AV) : shownV ks (.agg cs) = cs.flatMap (shownC ks) := rfl
theorem shownO_rc (ks : List Nat) (cs : List AV) : shownO ks (.rc cs) = cs.flatMap (shownC ks) := rfl
theorem shownO_arr (ks : List Nat) (b : Bool) (s : Nat) (xs : List (List AV)) : shownO ks (.arr b s xs) = [] := rfl
theorem shownO_dead (ks : List Nat) : shownO ks .dead = [] := rfl
theorem noFzV_sc (v : Value) : noFzV (.sc v) = True := rfl
theorem noFzO_rc (cs : List AV) : noFzO (.rc cs) = allP noFzC cs := rfl
theorem noFzC_sc (v : Value) : noFzC (.sc v) = True := rfl
theorem own_eq (os : List AO) (L : Nat) : own os L = isOwn os[L]? := rfl
theorem isOwn_rc (cs : List AV) : isOwn (some (.rc cs)) = True := rfl
theorem isOwn_arr (s : Nat) (xs : List (List AV)) : isOwn (some (.arr true s xs)) = True := rfl
end

theorem wkV_refl (x : AV) : wkV x x := .inl rfl
theorem wkSt_refl (s : St) : wkSt s s := ⟨wkE_refl _, wkS_refl _⟩

theorem wrap64 {n : Int} (h1 : -9223372036854775808 ≤ n) (h2 : n ≤ 9223372036854775807) : IntKind.i64.wrap n = n := by
  rw [IntKind.wrap_i64]; omega


section
variable {c : Cx} {CT : CTab} {nl : Nat} {lv : List Nat} {Q : Ex → St → Prop} {k : List It} {s : St} {e : Env} {os : List AO}
theorem r_reg {id : Nat} {ops : Array Oper} (h : sem c CT nl lv Q (.ops ops ops.toList :: k) .normal s) : sem c CT nl lv Q (.code (.region id ops false) :: k) .normal s := h
theorem r_skip (h : sem c CT nl lv Q k .normal s) : sem c CT nl lv Q (.code .skip :: k) .normal s := h
theorem r_exit {id : Nat} (h : sem c CT nl lv Q k (.exit id) s) : sem c CT nl lv Q (.code (.exit id) :: k) .normal s := h
theorem r_ret (h : sem c CT nl lv Q k .ret s) : sem c CT nl lv Q (.code .ret :: k) .normal s := h
theorem r_codeR {d : Code} (h : sem c CT nl lv Q k .ret s) : sem c CT nl lv Q (.code d :: k) .ret s := h
theorem r_codeE {d : Code} {j : Nat} (h : sem c CT nl lv Q k (.exit j) s) : sem c CT nl lv Q (.code d :: k) (.exit j) s := h
theorem r_blkN {id : Nat} (h : sem c CT nl lv Q k .normal s) : sem c CT nl lv Q (.blk id :: k) .normal s := h
theorem r_blkR {id : Nat} (h : sem c CT nl lv Q k .ret s) : sem c CT nl lv Q (.blk id :: k) .ret s := h
theorem r_blkE {id : Nat} (h : sem c CT nl lv Q k .normal s) : sem c CT nl lv Q (.blk id :: k) (.exit id) s := by rw [sem_blk_e, if_pos rfl]; exact h
theorem r_blkX {id j : Nat} (hne : (j == id) = false) (h : sem c CT nl lv Q k (.exit j) s) : sem c CT nl lv Q (.blk id :: k) (.exit j) s := by rw [sem_blk_e, if_neg (by simpa using hne)]; exact h
theorem r_backR {B : St → Prop} (h : sem c CT nl lv Q k .ret s) : sem c CT nl lv Q (.back B :: k) .ret s := h
theorem r_backE {B : St → Prop} {j : Nat} (h : sem c CT nl lv Q k (.exit j) s) : sem c CT nl lv Q (.back B :: k) (.exit j) s := h
theorem r_nil {ex : Ex} (h : Q ex s) : sem c CT nl lv Q [] ex s := h
theorem r_join (h : sem c CT nl lv Q k .normal s) : sem c CT nl lv Q (.join :: k) .normal s := .inl h
theorem r_joinR (h : sem c CT nl lv Q k .ret s) : sem c CT nl lv Q (.join :: k) .ret s := h
theorem r_joinE {j : Nat} (h : sem c CT nl lv Q k (.exit j) s) : sem c CT nl lv Q (.join :: k) (.exit j) s := h
end


def partK (c : Cx) : TK → Nat → Option (Nat × Nat)
  | .struct fs, i => fs[i]?
  | .array _ e, i => some (i * (c.T e).sz, (c.T e).sz)
  | _, _ => none

def fillO (place : Nat → Option (Nat × Nat)) (cells : List AV) (v : AV) (r : List (Nat × AV)) : Option (Nat × Nat) → Option (List AV)
  | none => none
  | some (off, size) => if (cellsOf v).length = size ∧ off + size ≤ cells.length then fillA place (setCells cells off (cellsOf v)) r else none

def optAgg : Option (List AV) → AV
  | some cs => .agg cs
  | none => .junk

def tupGet (i : Nat) : AV → AV
  | .tup vs => vs.getD i .junk
  | _ => .junk

def tupOk (i : Nat) : AV → Prop
  | .tup vs => i < vs.length
  | _ => False

section
variable (c : Cx) (CT : CTab) (nl : Nat) (lv : List Nat) (Q : Ex → St → Prop) (k : List It) (os : List AO) (e : Env) (H : List Nat) (dst : Option Nat)
theorem partsOf_eq (t : Nat) : partsOf c t = partK c (c.T t).kind := by
  funext i
  unfold partsOf partK
  cases (c.T t).kind <;> rfl
theorem partK_struct (fs : List (Nat × Nat)) (i : Nat) : partK c (.struct fs) i = fs[i]? := rfl
theorem partK_array (n el i : Nat) : partK c (.array n el) i = some (i * (c.T el).sz, (c.T el).sz) := rfl
theorem fillA_nil (place : Nat → Option (Nat × Nat)) (cells : List AV) : fillA place cells [] = some cells := rfl
theorem fillA_cons (place : Nat → Option (Nat × Nat)) (cells : List AV) (i : Nat) (v : AV) (r : List (Nat × AV)) : fillA place cells ((i, v) :: r) = fillO place cells v r (place i) := by
  unfold fillA fillO
  cases hp : place i with
  | none => rfl
  | some os =>
    obtain ⟨off, size⟩ := os
    simp only
    by_cases h : (cellsOf v).length = size ∧ off + size ≤ cells.length
    · rw [if_pos h, if_neg (by omega)]
      have : setCells cells off (cellsOf v) = cells.take off ++ cellsOf v ++ cells.drop (off + size) := by simp [setCells, h.1]
      rw [this]
    · rw [if_neg h, if_pos (by omega)]
theorem fillO_some (place : Nat → Option (Nat × Nat)) (cells : List AV) (v : AV) (r : List (Nat × AV)) (off size : Nat) : fillO place cells v r (some (off, size)) = if (cellsOf v).length = size ∧ off + size ≤ cells.length then fillA place (setCells cells off (cellsOf v)) r else none := rfl
theorem optAgg_some (cs : List AV) : optAgg (some cs) = .agg cs := rfl
theorem isBuilt_struct (fs : List (Nat × Nat)) : isBuilt (.struct fs) = True := rfl
theorem isBuilt_array (n el : Nat) : isBuilt (.array n el) = True := rfl
theorem semb_build (all : Array Oper) (ty : Nat) (pos : String) (af : Array Edge) (t : Nat) (ps : Array (Nat × Operand)) : sem c CT nl lv Q (.op H all ⟨dst, .build t ps, ty, pos, af, none⟩ :: k) .normal ⟨e, os⟩ =
    ((0 < (c.T t).sz ∧ isBuilt (c.T t).kind ∧ allP (fun p => allP (recOk os) (cellsOf (ev c e p.2))) ps.toList ∧ (fillA (partsOf c t) (c.T t).zero (ps.toList.map fun p => (p.1, ev c e p.2))).isSome = true) ∧
      sem c CT nl lv Q k .normal ⟨put e dst (optAgg (fillA (partsOf c t) (c.T t).zero (ps.toList.map fun p => (p.1, ev c e p.2)))), os⟩) := by
  rw [sem_build]
  simp only [pureOk, pureA]
  cases fillA (partsOf c t) (c.T t).zero (ps.toList.map fun p => (p.1, ev c e p.2)) <;> rfl
theorem tupGet_tup (i : Nat) (vs : List AV) : tupGet i (.tup vs) = vs.getD i .junk := rfl
theorem tupOk_tup (i : Nat) (vs : List AV) : tupOk i (.tup vs) = (i < vs.length) := rfl
theorem semb_extract (all : Array Oper) (ty : Nat) (pos : String) (af : Array Edge) (x : Operand) (i : Nat) : sem c CT nl lv Q (.op H all ⟨dst, .extract x i, ty, pos, af, none⟩ :: k) .normal ⟨e, os⟩ =
    (tupOk i (ev c e x) ∧ sem c CT nl lv Q k .normal ⟨put e dst (tupGet i (ev c e x)), os⟩) := by
  rw [sem_extract]
  simp only [pureOk, pureA]
  cases ev c e x <;> rfl
theorem allP_eq {α : Type} (p : α → Prop) (x : α) (r : List α) : allP p (x :: r) = (p x ∧ allP p r) := rfl
end


/-- A call by its contract. -/
theorem call_use {c : Cx} {CT : CTab} {nl : Nat} {lv : List Nat} {Q : Ex → St → Prop} {k : List It} {e : Env} {os : List AO} {H : List Nat} {dst : Option Nat} {n : Nat} {vs vs' : List AV} {σ : List AO} {post : AV → List AO → Prop}
    (lend : List Nat) (con : CT n vs' σ post) (h1 : vs.map (viewV lend os) = vs') (h2 : viewS lend os = σ) (hn : nodupN lend = true) (hl : allP (fun L => own os L ∧ memN H L = false) lend)
    (h : ∀ x σ', post x σ' → sem c CT nl lv Q k .normal ⟨put e dst (renV (backN lend os.length) x), merge lend (unownN os (shownAll lend os vs)) σ'⟩) : callR c CT nl lv Q H n vs e os dst k :=
  ⟨lend, true, post, by rw [h1, h2]; exact con, hn, hl, fun x σ' hx => ⟨fun h0 => (by cases h0), (by rw [if_pos rfl]; exact h x σ' hx)⟩⟩


/-- Places in their order, from 'i' on, 'n' of them. -/
def ordN {α : Type} : Nat → Nat → List (Nat × α) → Bool
  | _, 0, [] => true
  | i, n + 1, p :: r => p.1 == i && ordN (i + 1) n r
  | _, _, _ => false

theorem ordN_len {α : Type} : ∀ {i n : Nat} {ps : List (Nat × α)}, ordN i n ps = true → ps.length = n
  | _, 0, [], _ => rfl
  | i, n + 1, p :: r, h => by
    simp only [ordN, Bool.and_eq_true] at h
    simp [ordN_len h.2]
  | _, 0, _ :: _, h => by simp [ordN] at h
  | _, _ + 1, [], h => by simp [ordN] at h

theorem ordN_get {α : Type} : ∀ {i n : Nat} {ps : List (Nat × α)}, ordN i n ps = true → ∀ (j : Nat) p, ps[j]? = some p → p.1 = i + j
  | _, 0, [], _, j, p, hp => by simp at hp
  | i, n + 1, q :: r, h, j, p, hp => by
    simp only [ordN, Bool.and_eq_true, beq_iff_eq] at h
    cases j with
    | zero => cases hp; exact h.1
    | succ j => have := ordN_get h.2 j p (by simpa using hp); omega
  | _, 0, _ :: _, h, _, _, _ => by simp [ordN] at h
  | _, _ + 1, [], h, _, _, _ => by simp [ordN] at h

theorem ordN_lookup {α : Type} : ∀ {i n : Nat} {ps : List (Nat × α)}, ordN i n ps = true → ∀ (m : Nat), ps.lookup m = if i ≤ m then (ps[m - i]?).map (·.2) else none
  | _, 0, [], _, m => by simp
  | i, n + 1, (j, x) :: r, h, m => by
    simp only [ordN, Bool.and_eq_true, beq_iff_eq] at h
    obtain ⟨h1, h2⟩ := h
    subst h1
    have ih := ordN_lookup h2 m
    by_cases e : m = j
    · subst e; simp [List.lookup]
    · have : (m == j) = false := by simpa using e
      simp only [List.lookup, this, ih]
      by_cases h3 : j ≤ m
      · rw [if_pos (by omega), if_pos h3]
        have : m - j = (m - (j + 1)) + 1 := by omega
        rw [this]; simp
      · rw [if_neg (by omega), if_neg h3]
  | _, 0, _ :: _, h, _ => by simp [ordN] at h
  | _, _ + 1, [], h, _ => by simp [ordN] at h

theorem litElems_ord {ti : TI} {n : Nat} {ps : List (Nat × AV)} (h : ordN 0 n ps = true) : litElems ti n ps = ps.map fun p => cellsOf p.2 := by
  apply List.ext_getElem?
  intro i
  have hl := ordN_len h
  by_cases hi : i < n
  · rw [litElems_get ti ps n i hi, ordN_lookup h, if_pos (Nat.zero_le _), Nat.sub_zero, List.getElem?_map, List.getElem?_eq_getElem (by omega)]
    simp
  · rw [List.getElem?_eq_none (by rw [litElems_len]; omega), List.getElem?_eq_none (by simp; omega)]

theorem litOk_ord {os : List AO} {ti : TI} {n : Nat} : ∀ {i m : Nat} {ps : List (Nat × AV)}, ordN i m ps = true → i + m ≤ n → allP (fun p => (cellsOf p.2).length = ti.sz ∧ allP (frzOk os) (cellsOf p.2)) ps → litOk os ti n ps
  | _, 0, [], _, _, _ => trivial
  | i, m + 1, (j, x) :: r, h, hn, hp => by
    have h' := h
    simp only [ordN, Bool.and_eq_true, beq_iff_eq] at h
    obtain ⟨h1, h2⟩ := h
    subst h1
    refine ⟨by omega, hp.1.1, hp.1.2, ?_, litOk_ord h2 (by omega) hp.2⟩
    rw [ordN_lookup h2, if_neg (by omega)]
  | _, 0, _ :: _, h, _, _ => by simp [ordN] at h
  | _, _ + 1, [], h, _, _ => by simp [ordN] at h

theorem litOk_iff {os : List AO} {ti : TI} {n : Nat} {ps : List (Nat × AV)} (h : ordN 0 n ps = true) : litOk os ti n ps = allP (fun p => (cellsOf p.2).length = ti.sz ∧ allP (frzOk os) (cellsOf p.2)) ps := by
  apply propext
  refine ⟨fun hk => ?_, fun hp => litOk_ord h (by omega) hp⟩
  have := (litOk_all hk).2
  clear h hk
  induction ps with
  | nil => trivial
  | cons p r ih => exact ⟨⟨(this p (.head _)).2.2, (this p (.head _)).2.1⟩, ih fun q hq => this q (.tail _ hq)⟩

theorem ordN_nil {α : Type} (i : Nat) : ordN i 0 ([] : List (Nat × α)) = true := rfl
theorem ordN_cons {α : Type} (i n j : Nat) (x : α) (r : List (Nat × α)) : ordN i (n + 1) ((j, x) :: r) = (j == i && ordN (i + 1) n r) := rfl


section
variable {c : Cx} {CT : CTab} {nl : Nat} {lv : List Nat} {Q : Ex → St → Prop} {k : List It} {s : St} {e : Env} {os : List AO}
theorem i_call {H : List Nat} {n : Nat} {vs : List AV} {dst : Option Nat} (h : callR c CT nl lv Q H n vs e os dst k) : callR c CT nl lv Q H n vs e os dst k := h
theorem i_loop {b : Code} (h : sem c CT nl lv Q (.code (.loop b) :: k) .normal s) : sem c CT nl lv Q (.code (.loop b) :: k) .normal s := h
theorem i_draw {id : Nat} {ops : Array Oper} (h : sem c CT nl lv Q (.code (.region id ops true) :: k) .normal s) : sem c CT nl lv Q (.code (.region id ops true) :: k) .normal s := h
end

end Go.AM
end
