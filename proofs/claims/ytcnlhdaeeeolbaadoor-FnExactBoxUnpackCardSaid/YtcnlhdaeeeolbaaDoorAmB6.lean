/- Several texts in one. Conditions: none. -/
import Derived.Test.YtcnlhdaeeeolbaaDoorAmB5
import Derived.Below
import Derived.SizedLaws
import Derived.ChangeSlices
import Derived.SliceStrings
import Derived.FnData
set_option linter.unusedSimpArgs false
set_option linter.unusedVariables false
section
/- Rules of the walk by which calls, ends and loops go by themselves. Conditions: none. -/
namespace Go.AM
open Go

/-- What is lent: by places of arguments and of their cells. -/
def nameOf1 : AV → List Nat
  | .clo _ ps => ps.map fun p => p.1
  | .sl L _ _ => [L]
  | .pt L _ => [L]
  | .pa L _ _ => [L]
  | _ => []

def cellAt (os : List AO) (j : Nat) : AV → AV
  | .pt L k => match os[L]? with
    | some (.rc cs) => cs.getD (k + j) .junk
    | _ => .junk
  | _ => .junk

def lendAt (os : List AO) (x : AV) : List Nat → List Nat
  | [] => nameOf1 x
  | j :: r => lendAt os (cellAt os j x) r

def lendOf (os : List AO) (vs : List AV) : List (List Nat) → List Nat
  | [] => []
  | [] :: r => lendOf os vs r
  | (i :: p) :: r => lendAt os (vs.getD i .junk) p ++ lendOf os vs r

/-- A call whose arguments are told. -/
def callW (CT : CTab) (n : Nat) (vs : List AV) (σ : List AO) (K : AV → List AO → Prop) : Prop := ∃ post, CT n vs σ post ∧ ∀ x σ', post x σ' → K x σ'

/-- A state behind a call. -/
def behind (c : Cx) (CT : CTab) (nl : Nat) (lv : List Nat) (Q : Ex → St → Prop) (k : List It) (e : Env) (dst : Option Nat) (lend : List Nat) (n : Nat) (os : List AO) (x : AV) (σ' : List AO) : Prop :=
  sem c CT nl lv Q k .normal ⟨put e dst (renV (backN lend n) x), merge lend os σ'⟩

section
variable {c : Cx} {CT : CTab} {nl : Nat} {lv : List Nat} {Q : Ex → St → Prop} {k : List It} {e : Env} {os : List AO} {H : List Nat} {dst : Option Nat} {n : Nat} {vs : List AV}

theorem call_open (ps : List (List Nat)) (h : nodupN (lendOf os vs ps) = true ∧ allP (fun L => own os L ∧ memN H L = false) (lendOf os vs ps) ∧
    callW CT n (vs.map (viewV (lendOf os vs ps) os)) (viewS (lendOf os vs ps) os) (behind c CT nl lv Q k e dst (lendOf os vs ps) os.length (unownN os (shownAll (lendOf os vs ps) os vs)))) : callR c CT nl lv Q H n vs e os dst k := by
  obtain ⟨h1, h2, post, h3, h4⟩ := h
  exact call_use (lendOf os vs ps) h3 rfl rfl h1 h2 h4

/-- A call that keeps nothing: its results hold no slice. -/
theorem call_openF (ps : List (List Nat)) (h : nodupN (lendOf os vs ps) = true ∧ allP (fun L => own os L ∧ memN H L = false) (lendOf os vs ps) ∧
    callW CT n (vs.map (viewV (lendOf os vs ps) os)) (viewS (lendOf os vs ps) os) (fun x σ' => (noFzV x ∧ allP noFzO σ') ∧ behind c CT nl lv Q k e dst (lendOf os vs ps) os.length os x σ')) : callR c CT nl lv Q H n vs e os dst k := by
  obtain ⟨h1, h2, post, h3, h4⟩ := h
  exact ⟨lendOf os vs ps, false, post, h3, h1, h2, fun x σ' hx => ⟨fun _ => (h4 x σ' hx).1, (h4 x σ' hx).2⟩⟩

theorem i_callW {σ : List AO} {K : AV → List AO → Prop} (h : callW CT n vs σ K) : callW CT n vs σ K := h
theorem callW_use {σ : List AO} {post : AV → List AO → Prop} {K : AV → List AO → Prop} (con : CT n vs σ post) (h : ∀ x σ', post x σ' → K x σ') : callW CT n vs σ K := ⟨post, con, h⟩

theorem behind_eq (lend : List Nat) (m : Nat) (x : AV) (σ' : List AO) : behind c CT nl lv Q k e dst lend m os x σ' = sem c CT nl lv Q k .normal ⟨put e dst (renV (backN lend m) x), merge lend os σ'⟩ := rfl
theorem behind_go {lend : List Nat} {m : Nat} {x : AV} {σ' : List AO} (h : sem c CT nl lv Q k .normal ⟨put e dst (renV (backN lend m) x), merge lend os σ'⟩) : behind c CT nl lv Q k e dst lend m os x σ' := h
end

theorem lendOf_nil (os : List AO) (vs : List AV) : lendOf os vs [] = [] := rfl
theorem lendOf_cons (os : List AO) (vs : List AV) (i : Nat) (p : List Nat) (r : List (List Nat)) : lendOf os vs ((i :: p) :: r) = lendAt os (vs.getD i .junk) p ++ lendOf os vs r := rfl
theorem lendAt_nil (os : List AO) (x : AV) : lendAt os x [] = nameOf1 x := rfl
theorem lendAt_cons (os : List AO) (x : AV) (j : Nat) (r : List Nat) : lendAt os x (j :: r) = lendAt os (cellAt os j x) r := rfl
theorem cellAt_pt (os : List AO) (j L k : Nat) : cellAt os j (.pt L k) = match os[L]? with
    | some (.rc cs) => cs.getD (k + j) .junk
    | _ => .junk := rfl
theorem nameOf1_sl (L o n : Nat) : nameOf1 (.sl L o n) = [L] := rfl
theorem nameOf1_pt (L k : Nat) : nameOf1 (.pt L k) = [L] := rfl
theorem nameOf1_sc (v : Value) : nameOf1 (.sc v) = [] := rfl
theorem nameOf1_fz (z : Nat) (xs : List (List AV)) : nameOf1 (.fz z xs) = [] := rfl
theorem nodupN_nil : nodupN [] = true := rfl
theorem nodupN_cons (a : Nat) (r : List Nat) : nodupN (a :: r) = ((pos r a).isNone && nodupN r) := rfl

/-- The end. -/
def wkEnd (x : AV) (σ : List AO) (post : AV → List AO → Prop) : Prop := ∃ y τ, wkV x y ∧ wkS σ τ ∧ post y τ

section
variable {c : Cx} {nl : Nat} {rs : List ResultVar} {post : AV → List AO → Prop} {e : Env} {os : List AO}
theorem end_use_ret (ks : List Nat) (hk : keepOk nl ks = true) (hb : Nat.ble os.length 1000000 = true) (h : allP (resOk c os e) rs ∧ wkEnd (oneA (resA c ks os e rs)) (viewS ks os) post) : endQ c nl rs post .ret ⟨e, os⟩ := by
  obtain ⟨h1, y, τ, h2, h3, h4⟩ := h
  exact ⟨h1, ks, y, τ, ⟨hk, Nat.le_of_ble_eq_true hb⟩, h2, h3, h4⟩
theorem end_use_nrm (ks : List Nat) (hk : keepOk nl ks = true) (hb : Nat.ble os.length 1000000 = true) (h : allP (resOk c os e) rs ∧ wkEnd (oneA (resA c ks os e rs)) (viewS ks os) post) : endQ c nl rs post .normal ⟨e, os⟩ := by
  obtain ⟨h1, y, τ, h2, h3, h4⟩ := h
  exact ⟨h1, ks, y, τ, ⟨hk, Nat.le_of_ble_eq_true hb⟩, h2, h3, h4⟩
theorem wkEnd_same {x : AV} {σ : List AO} (h : post x σ) : wkEnd x σ post := ⟨x, σ, .inl rfl, wkS_refl _, h⟩
theorem wkEnd_mk {x y : AV} {σ τ : List AO} (h1 : wkV x y) (h2 : wkS σ τ) (h : post y τ) : wkEnd x σ post := ⟨y, τ, h1, h2, h⟩
end

theorem wkL_nil : wkL [] [] := trivial
theorem wkL_cons {x y : AV} {r s : List AV} (h1 : wkC x y) (h2 : wkL r s) : wkL (x :: r) (y :: s) := ⟨h1, h2⟩
theorem wkT_nil : wkT [] [] := trivial
theorem wkT_cons {x y : AV} {r s : List AV} (h1 : wkA x y) (h2 : wkT r s) : wkT (x :: r) (y :: s) := ⟨h1, h2⟩
theorem wkM_nil : wkM [] [] := trivial
theorem wkM_cons {x y : AV} {r s : List AV} (h1 : wkD x y) (h2 : wkM r s) : wkM (x :: r) (y :: s) := ⟨h1, h2⟩
theorem wkD_nil (s : Nat) : wkD (.sc (.slice none 0 0)) (.fz s []) := .inl (.inr (.inl ⟨rfl, s, rfl⟩))
theorem wkD_sl (L : Nat) : wkD (.sc (.slice none 0 0)) (.sl L 0 0) := .inr ⟨rfl, L, rfl⟩
theorem wkA_sl (L : Nat) : wkA (.sc (.slice none 0 0)) (.sl L 0 0) := .inr (wkD_sl L)
theorem wkV_sl (L : Nat) : wkV (.sc (.slice none 0 0)) (.sl L 0 0) := .inr (.inr (wkD_sl L))
theorem wkV_agg {cs ds : List AV} (h : wkM cs ds) : wkV (.agg cs) (.agg ds) := .inr (.inr h)
theorem wkV_tup {cs ds : List AV} (h : wkT cs ds) : wkV (.tup cs) (.tup ds) := .inr h
theorem wkA_agg {cs ds : List AV} (h : wkM cs ds) : wkA (.agg cs) (.agg ds) := .inr h
theorem wkA_refl (x : AV) : wkA x x := .inl rfl
theorem wkA_nil (s : Nat) : wkA (.sc (.slice none 0 0)) (.fz s []) := .inr (wkD_nil s)
theorem wkS_nil : wkS [] [] := trivial
theorem wkS_cons {x y : AO} {r s : List AO} (h1 : wkO x y) (h2 : wkS r s) : wkS (x :: r) (y :: s) := ⟨h1, h2⟩
theorem wkO_refl (x : AO) : wkO x x := .inl rfl
theorem wkO_rc {cs ds : List AV} (h : wkM cs ds) : wkO (.rc cs) (.rc ds) := .inr h
theorem wkO_arr {b : Bool} {z : Nat} {xs ys : List (List AV)} (h : wkR xs ys) : wkO (.arr b z xs) (.arr b z ys) := .inr ⟨rfl, rfl, h⟩
theorem wkR_nil : wkR [] [] := trivial
theorem wkR_cons {x y : List AV} {r s : List (List AV)} (h1 : wkL x y) (h2 : wkR r s) : wkR (x :: r) (y :: s) := ⟨h1, h2⟩
theorem wkE_nil : wkE [] [] := trivial
theorem wkE_cons {i : Nat} {x y : AV} {r s : Env} (h1 : wkV x y) (h2 : wkE r s) : wkE ((i, x) :: r) ((i, y) :: s) := ⟨rfl, h1, h2⟩
theorem wkSt_mk {e e' : Env} {os os' : List AO} (h1 : wkE e e') (h2 : wkS os os') : wkSt ⟨e, os⟩ ⟨e', os'⟩ := ⟨h1, h2⟩
theorem wkC_refl (x : AV) : wkC x x := .inl rfl
theorem wkC_nil (s : Nat) : wkC (.sc (.slice none 0 0)) (.fz s []) := .inr (.inl ⟨rfl, s, rfl⟩)
theorem wkL0_nil : wkL0 [] [] := trivial
theorem wkC0_refl (x : AV) : wkC0 x x := .inl rfl
theorem wkC0_nil (s : Nat) : wkC0 (.sc (.slice none 0 0)) (.fz s []) := .inr ⟨rfl, s, rfl⟩
theorem wkL0_cons {x y : AV} {r s : List AV} (h1 : wkC0 x y) (h2 : wkL0 r s) : wkL0 (x :: r) (y :: s) := ⟨h1, h2⟩
theorem wkR0_cons {x y : List AV} {r s : List (List AV)} (h1 : wkL0 x y) (h2 : wkR0 r s) : wkR0 (x :: r) (y :: s) := ⟨h1, h2⟩
theorem wkC_fz {s : Nat} {xs ys : List (List AV)} (h : wkR0 xs ys) : wkC (.fz s xs) (.fz s ys) := .inr (.inr ⟨s, xs, ys, rfl, rfl, h⟩)
theorem wkA_fz {s : Nat} {xs ys : List (List AV)} (h : wkR0 xs ys) : wkA (.fz s xs) (.fz s ys) := .inr (.inl (wkC_fz h))
theorem wkD_fz {s : Nat} {xs ys : List (List AV)} (h : wkR0 xs ys) : wkD (.fz s xs) (.fz s ys) := .inl (wkC_fz h)
theorem wkV_fz {s : Nat} {xs ys : List (List AV)} (h : wkR0 xs ys) : wkV (.fz s xs) (.fz s ys) := .inr (.inr (.inl (wkC_fz h)))
theorem wkV_nil (s : Nat) : wkV (.sc (.slice none 0 0)) (.fz s []) := .inr (.inr (wkD_nil s))

/-- A condition's fact, told plainly. -/
theorem bif_or (a b : Bool) : (bif a then true else b) = (a || b) := by cases a <;> rfl
theorem bif_and (a b : Bool) : (bif a then b else false) = (a && b) := by cases a <;> rfl

section
variable {c : Cx} {CT : CTab} {nl : Nat} {lv : List Nat} {Q : Ex → St → Prop} {k : List It} {s : St}
/-- What holds behind a round. -/
def backB {α : Type} (nl : Nat) (ts : List Nat) (F : α → St) (φ : α → Prop) (μ : α → Nat) (a : α) (s' : St) : Prop := ∃ ks a', keepP nl ks s'.os ∧ wkSt (viewSt ts ks s') (F a') ∧ φ a' ∧ μ a' < μ a
/-- A loop: by a family of states. -/
theorem sem_loop' {α : Type} {b : Code} (ts : List Nat) (F : α → St) (φ : α → Prop) (μ : α → Nat) (ks : List Nat) (a0 : α) (hk : keepOk nl ks = true) (hb : Nat.ble s.os.length 1000000 = true) (h0 : wkSt (viewSt ts ks s) (F a0) ∧ φ a0)
    (hr : ∀ a, φ a → sem c CT nl lv Q (.code b :: .back (backB nl ts F φ μ a) :: k) .normal (F a)) : sem c CT nl lv Q (.code (.loop b) :: k) .normal s :=
  sem_loop c CT nl lv Q k s b ts ks F φ μ a0 ⟨hk, Nat.le_of_ble_eq_true hb⟩ h0.1 h0.2 hr
theorem back_use {α : Type} {ts : List Nat} {F : α → St} {φ : α → Prop} {μ : α → Nat} {a : α} (ks : List Nat) (a' : α) (hk : keepOk nl ks = true) (hb : Nat.ble s.os.length 1000000 = true) (h : wkSt (viewSt ts ks s) (F a') ∧ φ a' ∧ μ a' < μ a) :
    sem c CT nl lv Q (.back (backB nl ts F φ μ a) :: k) .normal s := ⟨ks, a', ⟨hk, Nat.le_of_ble_eq_true hb⟩, h⟩
end

theorem wkSt_same {s t : St} (h : s = t) : wkSt s t := by subst h; exact wkSt_refl _

section
variable (os : List AO)
theorem litOk_nil (ti : TI) (n : Nat) : litOk os ti n [] = True := rfl
theorem litElems_zero (ti : TI) (ps : List (Nat × AV)) : litElems ti 0 ps = [] := rfl
theorem seqT_some (c : Cx) (u : Nat) : seqT c (some u) = (0 < (c.T u).sz ∧ (match (c.T u).kind with | .slice _ | .str => True | _ => False)) := rfl
theorem appBase_nil : appBase os (.sc (.slice none 0 0)) = True := rfl
theorem appBase_sl (L o n : Nat) : appBase os (.sl L o n) = (o = 0 ∧ (match os[L]? with
    | some (.arr true _ _) => True
    | _ => False)) := rfl
theorem appNew_str (s : ByteArray) : appNew os (.sc (.string s)) = strElems s := rfl
theorem appNew_nil : appNew os (.sc (.slice none 0 0)) = [] := rfl
theorem appNew_fz (z : Nat) (xs : List (List AV)) : appNew os (.fz z xs) = xs := rfl
theorem appNew_sl (L o n : Nat) : appNew os (.sl L o n) = elems os (.sl L o n) := rfl
theorem appNewOk_str (sz : Nat) (s : ByteArray) : appNewOk os sz (.sc (.string s)) = (sz = 1) := rfl
theorem appNewOk_nil (sz : Nat) : appNewOk os sz (.sc (.slice none 0 0)) = True := rfl
theorem appNewOk_fz (sz z : Nat) (xs : List (List AV)) : appNewOk os sz (.fz z xs) = (z = sz ∨ xs = []) := rfl
theorem appNewOk_sl (sz L o n : Nat) : appNewOk os sz (.sl L o n) = (match os[L]? with
    | some (.arr _ s _) => s = sz
    | _ => False) := rfl
theorem isNil_nil : isNil (.sc (.slice none 0 0)) = true := rfl
theorem isNil_sl (L o n : Nat) : isNil (.sl L o n) = false := rfl
theorem isNil_fz (z : Nat) (xs : List (List AV)) : isNil (.fz z xs) = false := rfl
theorem kill_nil : kill os (.sc (.slice none 0 0)) = os := rfl
theorem kill_sl (L o n : Nat) : kill os (.sl L o n) = os.set L .dead := rfl
theorem appBound_eq : appBound = 140737488355328 := rfl
end
attribute [go_sem] litOk_nil litElems_zero seqT_some appBase_nil appBase_sl appNew_str appNew_nil appNew_fz appNew_sl appNewOk_str appNewOk_nil appNewOk_fz appNewOk_sl isNil_nil isNil_sl isNil_fz kill_nil kill_sl appBound_eq false_imp_iff true_or or_true
section
variable (c : Cx) (CT : CTab) (nl : Nat) (lv : List Nat) (Q : Ex → St → Prop) (k : List It) (e : Env) (os : List AO) (all : Array Oper) (H : List Nat)
def planL (p : Plan) : Option Oper → Prop
  | some o => sem c CT nl lv Q (.op [] all o :: .plan all H p :: k) .normal ⟨e, os⟩
  | none => False
theorem sem_plan_twoE (i j : Nat) (p q : Plan) : sem c CT nl lv Q (.plan all H (.two i j p q) :: k) .normal ⟨e, os⟩ = (planR c CT nl lv Q k all e os H false p all[i]? ∧ planR c CT nl lv Q k all e os H false q all[j]?) := by
  cases h : all[i]? with
  | none => simp only [sem, planA, h, planR, false_and]
  | some o =>
    cases h' : all[j]? with
    | none => simp only [sem, planA, h, h', planR, and_false]
    | some u => simp only [sem, planA, h, h', planR, Bool.false_eq_true, false_imp_iff, true_and]
theorem planL_eq (i : Nat) (p : Plan) : sem c CT nl lv Q (.plan all H (.last i p) :: k) .normal ⟨e, os⟩ = planL c CT nl lv Q k e os all H p all[i]? := by
  cases h : all[i]? with
  | none => simp only [sem, planA, h, planL]
  | some o => simp only [sem, planA, h, planL]
theorem planL_some (p : Plan) (o : Oper) : planL c CT nl lv Q k e os all H p (some o) = sem c CT nl lv Q (.op [] all o :: .plan all H p :: k) .normal ⟨e, os⟩ := rfl
end
theorem pw_1 (k : IntKind) : pw k 1 = 2 := by cases k <;> rfl
theorem pw_2 (k : IntKind) : pw k 2 = 4 := by cases k <;> rfl
theorem pw_3 (k : IntKind) : pw k 3 = 8 := by cases k <;> rfl
theorem pw_4 (k : IntKind) : pw k 4 = 16 := by cases k <;> rfl
theorem pw_5 (k : IntKind) : pw k 5 = 32 := by cases k <;> rfl
theorem pw_6 (k : IntKind) : pw k 6 = 64 := by cases k <;> rfl
theorem pw_7 (k : IntKind) : pw k 7 = 128 := by cases k <;> rfl
theorem pw_8 (k : IntKind) : pw k 8 = 256 := by cases k <;> rfl
theorem pw_i64_12 : pw .i64 12 = 4096 := rfl
theorem pw_i64_15 : pw .i64 15 = 32768 := rfl
theorem pw_i64_16 : pw .i64 16 = 65536 := rfl
theorem pw_i64_24 : pw .i64 24 = 16777216 := rfl
theorem pw_i64_31 : pw .i64 31 = 2147483648 := rfl
theorem pw_i64_32 : pw .i64 32 = 4294967296 := rfl
theorem pw_i64_40 : pw .i64 40 = 1099511627776 := rfl
theorem pw_i64_48 : pw .i64 48 = 281474976710656 := rfl
theorem pw_i64_52 : pw .i64 52 = 4503599627370496 := rfl
theorem pw_i64_56 : pw .i64 56 = 72057594037927936 := rfl
theorem pw_i64_63 : pw .i64 63 = 9223372036854775808 := rfl
theorem pw_u64_12 : pw .u64 12 = 4096 := rfl
theorem pw_u64_15 : pw .u64 15 = 32768 := rfl
theorem pw_u64_16 : pw .u64 16 = 65536 := rfl
theorem pw_u64_24 : pw .u64 24 = 16777216 := rfl
theorem pw_u64_31 : pw .u64 31 = 2147483648 := rfl
theorem pw_u64_32 : pw .u64 32 = 4294967296 := rfl
theorem pw_u64_40 : pw .u64 40 = 1099511627776 := rfl
theorem pw_u64_48 : pw .u64 48 = 281474976710656 := rfl
theorem pw_u64_52 : pw .u64 52 = 4503599627370496 := rfl
theorem pw_u64_56 : pw .u64 56 = 72057594037927936 := rfl
theorem pw_u64_63 : pw .u64 63 = 9223372036854775808 := rfl
theorem pw_u32_12 : pw .u32 12 = 4096 := rfl
theorem pw_u32_15 : pw .u32 15 = 32768 := rfl
theorem pw_u32_16 : pw .u32 16 = 65536 := rfl
theorem pw_u32_24 : pw .u32 24 = 16777216 := rfl
theorem pw_u32_31 : pw .u32 31 = 2147483648 := rfl
theorem pw_u32_32 : pw .u32 32 = 4294967296 := rfl
theorem pw_u16_12 : pw .u16 12 = 4096 := rfl
theorem pw_u16_15 : pw .u16 15 = 32768 := rfl
theorem pw_u16_16 : pw .u16 16 = 65536 := rfl
attribute [go_sem high] pw_1 pw_2 pw_3 pw_4 pw_5 pw_6 pw_7 pw_8 pw_i64_12 pw_i64_15 pw_i64_16 pw_i64_24 pw_i64_31 pw_i64_32 pw_i64_40 pw_i64_48 pw_i64_52 pw_i64_56 pw_i64_63 pw_u64_12 pw_u64_15 pw_u64_16 pw_u64_24 pw_u64_31 pw_u64_32 pw_u64_40 pw_u64_48 pw_u64_52 pw_u64_56 pw_u64_63 pw_u32_12 pw_u32_15 pw_u32_16 pw_u32_24 pw_u32_31 pw_u32_32 pw_u16_12 pw_u16_15 pw_u16_16
attribute [go_sem] List.size_toArray Int.cast_ofNat_Int
/-- A byte of a text. -/
def bat (s : ByteArray) (i : Int) : Int := ((s.data.toList.getD i.toNat 0).toNat : Int)
def idxOk (c : Cx) (t : Nat) (v i : AV) : Prop := match v with
  | .sc (.string s) => 0 < (c.T t).sz ∧ (c.T t).kind = .str ∧ isNum i ∧ 0 ≤ numA i ∧ numA i < s.size
  | _ => False
def idxV (v i : AV) : AV := match v with
  | .sc (.string s) => .sc (.int .u8 (bat s (numA i)))
  | _ => .junk
section
variable (c : Cx) (CT : CTab) (nl : Nat) (lv : List Nat) (Q : Ex → St → Prop) (k : List It) (e : Env) (os : List AO) (all : Array Oper) (H : List Nat) (dst : Option Nat) (ty : Nat) (pos : String) (af : Array Edge)
theorem sem_indexE (t : Nat) (x i : Operand) : sem c CT nl lv Q (.op H all ⟨dst, .index t x i, ty, pos, af, none⟩ :: k) .normal ⟨e, os⟩ = (idxOk c t (ev c e x) (ev c e i) ∧ sem c CT nl lv Q k .normal ⟨put e dst (idxV (ev c e x) (ev c e i)), os⟩) := by
  rw [sem_index]
  have h1 : pureOk c os (ev c e) (.index t x i) = idxOk c t (ev c e x) (ev c e i) := rfl
  have h2 : pureA c os (ev c e) (.index t x i) = idxV (ev c e x) (ev c e i) := rfl
  rw [h1, h2]
theorem semg_index (g : Bool) (t : Nat) (x i : Operand) : guardR c CT nl lv Q k os e H dst (.index t x i) (some g) = ((g = true → (stripOk true (ev c e x) ∧ stripOk true (ev c e i)) ∧ idxOk c t (strip (ev c e x)) (strip (ev c e i)) ∧ plain (idxV (strip (ev c e x)) (strip (ev c e i)))) ∧
    sem c CT nl lv Q k .normal ⟨put e dst (.opt g (idxV (strip (ev c e x)) (strip (ev c e i)))), os⟩) := by
  have h1 : ∀ r, pureOk c os r (.index t x i) = idxOk c t (r x) (r i) := fun r => rfl
  have h2 : ∀ r, pureA c os r (.index t x i) = idxV (r x) (r i) := fun r => rfl
  cases g <;> simp [guardR, isPure, operOk, gev, h1, h2, Op.operands, allP]
end
theorem idxOk_str (c : Cx) (t : Nat) (s : ByteArray) (i : AV) : idxOk c t (.sc (.string s)) i = (0 < (c.T t).sz ∧ (c.T t).kind = .str ∧ isNum i ∧ 0 ≤ numA i ∧ numA i < s.size) := rfl
theorem idxV_str (s : ByteArray) (i : AV) : idxV (.sc (.string s)) i = .sc (.int .u8 (bat s (numA i))) := rfl
theorem isIntK_int (k : IntKind) : isIntK (.int k) = true := rfl
theorem isIntK_slice (e : Nat) : isIntK (.slice e) = false := rfl
theorem isIntK_str : isIntK .str = false := rfl
attribute [go_sem] isIntK_int isIntK_slice isIntK_str Bool.false_eq_true
attribute [go_sem] sem_cap cutA_nil cutTy_nil selA_ot selA_of selOk_ot selOk_of sem_indexE semg_index idxOk_str idxV_str convA_sl convA_fz convA_nil convOk_sl convOk_fz convOk_nil strOp_add strOk_add strOp_eql strOp_neq strOk_eql strOk_neq heldOk_conv quietC_int quietC_str quietC_oint quietC_ostr cutA_str cutTy_str
attribute [go_sem] sem_plan_twoE planL_eq planL_some
attribute [go_sem] sem_skip sem_region sem_exit sem_ret condR_true condR_false sem_blk_n sem_blk_e sem_blk_r sem_code_e sem_code_r sem_back_e sem_back_r sem_ops_nil sem_ops_cons sem_plan_done planR_take planR_one sem_plan_take sem_plan_one sem_tak_nil sem_tak_cons sem_move sem_assign sem_pick sem_load sem_nilCheck sem_unOp sem_convert sem_slice sem_fieldAddr sem_indexAddr sem_len sem_alloc sem_box sem_store sem_buildSlice sem_makeSlice sem_append sem_call ev_tmp ev_const ev_func ev_glob lk_cons lk_nil put_some put_none keep_nil keep_cons memN_nil memN_cons binA_int binA_str binA_beq binA_bne binA_aeq binA_ane binOk_int binOk_str binOk_bool binOk_agg eqOk_nil eqOk_int eqOk_bool eqCells_nil eqCells_int eqCells_bool int_add int_sub int_mul int_quo int_rem int_and int_or int_xor int_andn iok_andn int_shl int_shr int_eql int_neq int_lss int_leq int_gtr int_geq iok_add iok_sub iok_mul iok_quo iok_rem iok_and iok_or iok_xor iok_shl iok_shr iok_eql iok_neq iok_lss iok_leq iok_gtr iok_geq unA_neg unA_not unOk_neg unOk_not convA_int convA_str convOk_int convOk_str selA_t selA_f selOk_t selOk_f selA_000 selOk_000 selA_001 selOk_001 selA_010 selOk_010 selA_011 selOk_011 selA_100 selOk_100 selA_101 selOk_101 selA_110 selOk_110 selA_111 selOk_111 strip_opt strip_sc strip_pt strip_pa strip_sl strip_fz strip_fp strip_agg sok_opt sok_sc sok_pt sok_pa sok_sl sok_fz sok_fp sok_agg plain_sc plain_pt plain_pa plain_sl plain_fz plain_fp plain_agg lenA_fz lenA_sl lenA_str lenA_nil lenOk_fz lenOk_sl lenOk_str lenOk_nil elems_fz elems_sl elems_nil esz_fz esz_sl idxA_fz idxA_sl cutA_fz cutA_sl cutA_str numA_int boolA_b strA_s isNum_int numOk_none numOk_some loOf_none loOf_some hiOf_none hiOf_some cutTy_str cutTy_fz cutTy_sl lenTy_str lenTy_fz lenTy_sl lenTy_nil elemOf_eq isSliceT_eq row_pt row_pa row_fp addr_pt addr_pa addr_fp off_pt off_pa off_fp fieldOff_eq loadV_one loadV_agg eta_nil eta_cons asLike_int asLike_bool asLike_str asLike_slice asLike_ptr like_int like_bool like_str like_slice like_ptr likeAll_nil likeAll_cons cells_agg cells_sc cells_pt cells_sl cells_fz allP_nil allP_cons recOk_sc recOk_fz recOk_sl recOk_pt frzOk_sc frzOk_fz frzOk_sl one_int one_bool one_str one_slice one_ptr frz_sc frz_fz frz_sl unown_sc unown_fz unown_sl unownAll_nil unownAll_cons storeOk_pt storeOk_pa storeA_pt storeA_pa setCells_zero setCells_nil setCells_cons0 setCells_succ notSl_sc notSl_fz notSl_sl names_pt names_pa names_sl names_sc names_fz names_fp heldOk_load heldOk_move heldOk_assign heldOk_nil heldOk_bin heldOk_un heldOk_conv heldOk_pick heldOk_field heldOk_idx heldOk_index heldOk_slice heldOk_build heldOk_extract heldOk_call heldA_opt heldA_pt heldA_pa heldA_fp pk_move pk_assign pk_load pk_nil pk_bin pk_un pk_conv pk_pick pk_field pk_idx pk_len pa_move pa_assign pa_load pa_nil pa_bin pa_un pa_conv pa_pick pa_field pa_idx pa_len ok_move ok_assign ok_load ok_nil ok_un ok_conv ok_field ok_bin ok_idx ok_pick ok_len ip_move ip_assign ip_load ip_nil ip_bin_t ip_bin_i ip_bin_b ip_bin_s ip_un ip_conv ip_pick ip_field ip_idx ip_len ip_call guardV_b guardV_o guardL_s guardD_s semg semg_move semg_load semg_nil semg_un semg_conv semg_pick semg_field semg_idx semg_len semg_call end_ret end_normal resA_nil resA_cons resV_tmp resV_cell resOk_tmp resOk_cell oneA_one oneA_two oneA_nil viewC_sc viewC_fz viewC_fp viewC_junk viewC_sl viewC_pt viewA_agg viewA_sc viewA_fz viewA_sl viewA_pt viewA_junk viewV_tup viewV_agg viewV_sc viewV_fz viewV_sl viewV_pt viewV_junk viewO_rc viewO_arr viewO_dead viewS_nil viewS_cons viewSt_eq pos_nil pos_cons enter_nil enter_cons renC_sc renC_fz renC_sl renC_pt renA_agg renA_sc renA_fz renA_sl renA_pt renV_tup renV_agg renV_sc renV_fz renV_sl renV_pt renV_junk renO_rc renO_arr renO_dead merge_eq putAll_nil putAll_cons backN_eq unownN_nil unownN_cons shownAll_eq shownC_sc shownC_fz shownC_pt shownC_sl shownV_sc shownV_fz shownV_pt shownV_sl shownV_agg shownO_rc shownO_arr shownO_dead noFzV_sc noFzO_rc noFzC_sc own_eq isOwn_rc isOwn_arr partsOf_eq partK_struct partK_array fillA_nil fillA_cons fillO_some optAgg_some isBuilt_struct isBuilt_array semb_build tupGet_tup tupOk_tup semb_extract litElems_ord litOk_iff ordN_nil ordN_cons List.getElem?_cons_zero List.getElem?_cons_succ List.getD_cons_zero List.getD_cons_succ List.drop_zero List.drop_succ_cons List.headD_cons List.tail_cons List.take_zero List.take_succ_cons List.length_cons List.length_nil List.set_cons_zero List.set_cons_succ List.nil_append List.cons_append if_true true_and and_true ne_eq not_false_eq_true Nat.lt_add_one Nat.zero_lt_succ Nat.add_zero Nat.zero_add Nat.succ_ne_zero Bool.false_eq_true Option.bind_some Option.bind_none List.getElem?_toArray cond_true cond_false List.flatMap_cons List.flatMap_nil List.append_nil Option.map_none Option.map_some Option.isNone_none Option.isNone_some Option.isSome_some Option.isSome_none and_self Bool.and_self Bool.true_and Bool.and_true beq_self_eq_true List.map_cons List.map_nil implies_true imp_self eq_self Bool.not_eq_true' true_imp_iff beq_iff_eq
attribute [go_sem] List.getElem?_nil List.getD_nil lendOf_nil lendOf_cons lendAt_nil lendAt_cons cellAt_pt nameOf1_sl nameOf1_pt nameOf1_sc nameOf1_fz nodupN_nil nodupN_cons Option.isNone_none Option.isNone_some bif_or bif_and Nat.sub_zero
/-- Which names are kept, by themselves: what is lent, what is in it, and what is asked for. -/
def isDeadO : Option AO → Bool
  | some .dead => true
  | none => true
  | _ => false
def lentK : Nat → List AO → List Nat → List Nat
  | 0, _, _ => []
  | n + 1, os, ks => (bif isDeadO os[ks.length]? then 1000000 + ks.length else ks.length) :: lentK n os (0 :: ks)
def nmO : Option AO → List Nat
  | some (.rc cs) => cs.flatMap nameOf1
  | _ => []
def autoS : Nat → List AO → List Nat → List Nat → List Nat
  | 0, _, _, acc => acc
  | _ + 1, _, [], acc => acc
  | f + 1, os, L :: r, acc => bif memN acc L then autoS f os r acc else autoS f os (nmO os[L]? ++ r) (acc ++ [L])
def autoK (nl : Nat) (os : List AO) (todo : List Nat) : List Nat := autoS 100 os ((lentK nl os []).flatMap (fun L => nmO os[L]?) ++ todo) (lentK nl os [])
def nameV : AV → List Nat
  | .agg cs => cs.flatMap nameOf1
  | .tup vs => vs.flatMap fun v => match v with | .agg cs => cs.flatMap nameOf1 | x => nameOf1 x
  | .opt _ x => nameOf1 x
  | x => nameOf1 x
def autoE (nl : Nat) (ts : List Nat) (st : St) : List Nat := autoK nl st.os (ts.flatMap fun t => nameV (lk st.env t))

section
variable (nl : Nat) (os : List AO)
theorem isDeadO_dead : isDeadO (some .dead) = true := rfl
theorem isDeadO_none : isDeadO none = true := rfl
theorem isDeadO_arr (b : Bool) (s : Nat) (xs : List (List AV)) : isDeadO (some (.arr b s xs)) = false := rfl
theorem isDeadO_rc (cs : List AV) : isDeadO (some (.rc cs)) = false := rfl
theorem lentK_zero (ks : List Nat) : lentK 0 os ks = [] := rfl
theorem lentK_succ (n : Nat) (ks : List Nat) : lentK (n + 1) os ks = (bif isDeadO os[ks.length]? then 1000000 + ks.length else ks.length) :: lentK n os (0 :: ks) := rfl
theorem nmO_rc (cs : List AV) : nmO (some (.rc cs)) = cs.flatMap nameOf1 := rfl
theorem nmO_arr (b : Bool) (s : Nat) (xs : List (List AV)) : nmO (some (.arr b s xs)) = [] := rfl
theorem nmO_dead : nmO (some .dead) = [] := rfl
theorem nmO_none : nmO none = [] := rfl
theorem autoS_nil (f : Nat) (acc : List Nat) : autoS (f + 1) os [] acc = acc := rfl
theorem autoS_cons (f : Nat) (L : Nat) (r acc : List Nat) : autoS (f + 1) os (L :: r) acc = bif memN acc L then autoS f os r acc else autoS f os (nmO os[L]? ++ r) (acc ++ [L]) := rfl
theorem autoK_eq (todo : List Nat) : autoK nl os todo = autoS 100 os ((lentK nl os []).flatMap (fun L => nmO os[L]?) ++ todo) (lentK nl os []) := rfl
theorem nameV_agg (cs : List AV) : nameV (.agg cs) = cs.flatMap nameOf1 := rfl
theorem nameV_tupN : nameV (.tup []) = [] := rfl
theorem nameV_tupA (cs : List AV) (vs : List AV) : nameV (.tup (.agg cs :: vs)) = cs.flatMap nameOf1 ++ nameV (.tup vs) := rfl
theorem nameV_tupS (v : Value) (vs : List AV) : nameV (.tup (.sc v :: vs)) = nameV (.tup vs) := rfl
theorem nameV_tupF (z : Nat) (xs : List (List AV)) (vs : List AV) : nameV (.tup (.fz z xs :: vs)) = nameV (.tup vs) := rfl
theorem nameV_tupL (L o n : Nat) (vs : List AV) : nameV (.tup (.sl L o n :: vs)) = L :: nameV (.tup vs) := rfl
theorem nameV_tupP (L o : Nat) (vs : List AV) : nameV (.tup (.pt L o :: vs)) = L :: nameV (.tup vs) := rfl
theorem nameV_sc (v : Value) : nameV (.sc v) = [] := rfl
theorem nameV_fz (z : Nat) (xs : List (List AV)) : nameV (.fz z xs) = [] := rfl
theorem nameV_fp (z : Nat) (xs : List (List AV)) (i k : Nat) : nameV (.fp z xs i k) = [] := rfl
theorem nameV_sl (L o n : Nat) : nameV (.sl L o n) = [L] := rfl
theorem nameV_pt (L k : Nat) : nameV (.pt L k) = [L] := rfl
theorem nameV_pa (L i k : Nat) : nameV (.pa L i k) = [L] := rfl
theorem nameV_junk : nameV .junk = [] := rfl
theorem nameOf1_fp (z : Nat) (xs : List (List AV)) (i k : Nat) : nameOf1 (.fp z xs i k) = [] := rfl
theorem nameOf1_junk : nameOf1 .junk = [] := rfl
theorem nameOf1_pa (L i k : Nat) : nameOf1 (.pa L i k) = [L] := rfl
theorem autoE_eq (ts : List Nat) (e : Env) : autoE nl ts ⟨e, os⟩ = autoK nl os (ts.flatMap fun t => nameV (lk e t)) := rfl
end
attribute [go_sem] isDeadO_dead isDeadO_none isDeadO_arr isDeadO_rc lentK_zero lentK_succ nmO_rc nmO_arr nmO_dead nmO_none autoS_nil autoS_cons autoK_eq nameV_agg nameV_tupN nameV_tupA nameV_tupS nameV_tupF nameV_tupL nameV_tupP nameV_sc nameV_fz nameV_fp nameV_sl nameV_pt nameV_pa nameV_junk nameOf1_fp nameOf1_junk nameOf1_pa autoE_eq
section
variable {c : Cx} {CT : CTab} {nl : Nat} {lv : List Nat} {Q : Ex → St → Prop} {k : List It} {s : St}
theorem sem_loopA {α : Type} {b : Code} (ts : List Nat) (F : α → St) (φ : α → Prop) (μ : α → Nat) (a0 : α) (hk : keepOk nl (autoE nl ts s) = true) (hb : Nat.ble s.os.length 1000000 = true) (h0 : wkSt (viewSt ts (autoE nl ts s) s) (F a0) ∧ φ a0)
    (hr : ∀ a, φ a → sem c CT nl lv Q (.code b :: .back (backB nl ts F φ μ a) :: k) .normal (F a)) : sem c CT nl lv Q (.code (.loop b) :: k) .normal s :=
  sem_loop c CT nl lv Q k s b ts (autoE nl ts s) F φ μ a0 ⟨hk, Nat.le_of_ble_eq_true hb⟩ h0.1 h0.2 hr
theorem back_useA {α : Type} {ts : List Nat} {F : α → St} {φ : α → Prop} {μ : α → Nat} {a : α} (a' : α) (hk : keepOk nl (autoE nl ts s) = true) (hb : Nat.ble s.os.length 1000000 = true) (h : wkSt (viewSt ts (autoE nl ts s) s) (F a') ∧ φ a' ∧ μ a' < μ a) :
    sem c CT nl lv Q (.back (backB nl ts F φ μ a) :: k) .normal s := ⟨autoE nl ts s, a', ⟨hk, Nat.le_of_ble_eq_true hb⟩, h⟩
end
section
variable {c : Cx} {nl : Nat} {rs : List ResultVar} {post : AV → List AO → Prop} {e : Env} {os : List AO}
theorem endA_ret (todo : List Nat) (hk : keepOk nl (autoK nl os todo) = true) (hb : Nat.ble os.length 1000000 = true) (h : allP (resOk c os e) rs ∧ wkEnd (oneA (resA c (autoK nl os todo) os e rs)) (viewS (autoK nl os todo) os) post) : endQ c nl rs post .ret ⟨e, os⟩ :=
  end_use_ret _ hk hb h
theorem endA_nrm (todo : List Nat) (hk : keepOk nl (autoK nl os todo) = true) (hb : Nat.ble os.length 1000000 = true) (h : allP (resOk c os e) rs ∧ wkEnd (oneA (resA c (autoK nl os todo) os e rs)) (viewS (autoK nl os todo) os) post) : endQ c nl rs post .normal ⟨e, os⟩ :=
  end_use_nrm _ hk hb h
/-- The names of the results. -/
def resN (c : Cx) (os : List AO) (e : Env) (rs : List ResultVar) : List Nat := rs.flatMap fun r => nameV (resV c os e r)
theorem resN_nil : resN c os e [] = [] := rfl
theorem resN_cons (r : ResultVar) (rs : List ResultVar) : resN c os e (r :: rs) = nameV (resV c os e r) ++ resN c os e rs := rfl
end
attribute [go_sem] resN_nil resN_cons
section
variable {c : Cx} {nl : Nat} {rs : List ResultVar} {post : AV → List AO → Prop} {e : Env} {os : List AO}
theorem endO_ret (hk : keepOk nl (autoK nl os (resN c os e rs)) = true) (hb : Nat.ble os.length 1000000 = true) (h : allP (resOk c os e) rs ∧ wkEnd (oneA (resA c (autoK nl os (resN c os e rs)) os e rs)) (viewS (autoK nl os (resN c os e rs)) os) post) : endQ c nl rs post .ret ⟨e, os⟩ :=
  end_use_ret _ hk hb h
theorem endO_nrm (hk : keepOk nl (autoK nl os (resN c os e rs)) = true) (hb : Nat.ble os.length 1000000 = true) (h : allP (resOk c os e) rs ∧ wkEnd (oneA (resA c (autoK nl os (resN c os e rs)) os e rs)) (viewS (autoK nl os (resN c os e rs)) os) post) : endQ c nl rs post .normal ⟨e, os⟩ :=
  end_use_nrm _ hk hb h
end
/-- The records that a region leaves alone, by themselves: all but those that are lent, and readers. -/
def skipR : List AV → Bool
  | .fz z _ :: _ => z == 1
  | _ => false
def recN : Nat → List AO → List Nat
  | _, [] => []
  | i, .rc cs :: r => bif skipR cs then recN (i + 1) r else i :: recN (i + 1) r
  | i, .arr .. :: r => recN (i + 1) r
  | i, .nst .. :: r => i :: recN (i + 1) r
  | i, .dead :: r => recN (i + 1) r
theorem skipR_fz (z : Nat) (xs : List (List AV)) (r : List AV) : skipR (.fz z xs :: r) = (z == 1) := rfl
theorem skipR_sc (v : Value) (r : List AV) : skipR (.sc v :: r) = false := rfl
theorem skipR_sl (L o n : Nat) (r : List AV) : skipR (.sl L o n :: r) = false := rfl
theorem skipR_pt (L k : Nat) (r : List AV) : skipR (.pt L k :: r) = false := rfl
theorem skipR_nil : skipR [] = false := rfl
theorem recN_nil (i : Nat) : recN i [] = [] := rfl
theorem recN_rc (i : Nat) (cs : List AV) (r : List AO) : recN i (.rc cs :: r) = bif skipR cs then recN (i + 1) r else i :: recN (i + 1) r := rfl
theorem recN_arr (i : Nat) (b : Bool) (s : Nat) (xs : List (List AV)) (r : List AO) : recN i (.arr b s xs :: r) = recN (i + 1) r := rfl
theorem recN_nst (i z : Nat) (xs : List (List AV)) (op : Option (Nat × List AV)) (r : List AO) : recN i (.nst z xs op :: r) = i :: recN (i + 1) r := rfl
theorem recN_dead (i : Nat) (r : List AO) : recN i (.dead :: r) = recN (i + 1) r := rfl
theorem sem_planA {c : Cx} {CT : CTab} {nl : Nat} {lv : List Nat} {Q : Ex → St → Prop} {k : List It} {e : Env} {os : List AO} {id : Nat} {ops : Array Oper} (p : Plan) (hp : planOk ops p = true) (h : sem c CT nl lv Q (.plan ops (recN nl (os.drop nl)) p :: k) .normal ⟨e, os⟩) : sem c CT nl lv Q (.code (.region id ops true) :: k) .normal ⟨e, os⟩ := sem_plan p _ hp h
attribute [go_sem] skipR_fz skipR_sc skipR_sl skipR_pt skipR_nil recN_nil recN_rc recN_arr recN_dead
theorem noFzV_tup (vs : List AV) : noFzV (.tup vs) = allP noFzA vs := rfl
theorem noFzV_agg (cs : List AV) : noFzV (.agg cs) = allP noFzC cs := rfl
theorem noFzA_sc (v : Value) : noFzA (.sc v) = True := rfl
theorem noFzA_agg (cs : List AV) : noFzA (.agg cs) = allP noFzC cs := rfl
theorem noFzV_sl (L o n : Nat) : noFzV (.sl L o n) = True := rfl
theorem noFzV_pt (L k : Nat) : noFzV (.pt L k) = True := rfl
theorem noFzA_sl (L o n : Nat) : noFzA (.sl L o n) = True := rfl
theorem noFzA_pt (L k : Nat) : noFzA (.pt L k) = True := rfl
theorem noFzC_sl (L o n : Nat) : noFzC (.sl L o n) = True := rfl
theorem noFzC_pt (L k : Nat) : noFzC (.pt L k) = True := rfl
theorem noFzO_arr (s : Nat) (xs : List (List AV)) : noFzO (.arr true s xs) = allP (allP noFzC) xs := rfl
theorem noFzO_dead : noFzO .dead = True := rfl
attribute [go_sem] noFzV_tup noFzV_agg noFzA_sc noFzA_agg noFzV_sl noFzV_pt noFzA_sl noFzA_pt noFzC_sl noFzC_pt noFzO_arr noFzO_dead
def wkVs : List AV → List AV → Prop
  | [], [] => True
  | x :: r, y :: s => wkV x y ∧ wkVs r s
  | _, _ => False
theorem wkVs_get : ∀ {vs ws : List AV}, wkVs vs ws → ws.length = vs.length ∧ ∀ (i : Nat) y, ws[i]? = some y → ∃ x, vs[i]? = some x ∧ wkV x y
  | [], [], _ => ⟨rfl, fun i y h => by simp at h⟩
  | x :: r, y :: s, h => by
    obtain ⟨h1, h2⟩ := h
    obtain ⟨h3, h4⟩ := wkVs_get h2
    refine ⟨by simp [h3], fun i z hz => ?_⟩
    cases i with
    | zero => simp at hz; subst hz; exact ⟨x, by simp, h1⟩
    | succ i => simp at hz; obtain ⟨u, hu, hw⟩ := h4 i z hz; exact ⟨u, by simpa using hu, hw⟩
  | [], _ :: _, h => h.elim
  | _ :: _, [], h => h.elim
/-- A contract serves arguments that are told less weakly. -/
theorem Con.wk {P : Program} {c : Cx} {f : Nat} {vs ws : List AV} {σ : List AO} {post : AV → List AO → Prop} (h : Con P c f ws σ post) (hw : wkVs vs ws) : Con P c f vs σ post := by
  obtain ⟨h1, h2⟩ := h
  obtain ⟨h3, h4⟩ := wkVs_get hw
  refine ⟨h1, fun X vals hX e1 e2 hS hg hlen hv => h2 X vals hX e1 e2 hS hg (by omega) fun i y hy => ?_⟩
  obtain ⟨x, hx, hxy⟩ := h4 i y hy
  obtain ⟨u, hu, hr⟩ := hv i x hx
  exact ⟨u, hu, hr.wk hxy⟩
theorem offA_eq : offA = .opt false (.sc (.bool false)) := rfl
attribute [go_sem] offA_eq
section
variable (c : Cx) (CT : CTab) (nl : Nat) (lv : List Nat) (Q : Ex → St → Prop) (k : List It) (all : Array Oper) (dst : Option Nat) (ty : TypeId) (pos : String) (af : Array Edge) (e : Env) (os : List AO) (H : List Nat)
theorem sem_max (x y : Operand) (tys : Array Nat) : sem c CT nl lv Q (.op H all ⟨dst, .call ⟨.builtin .max, #[x, y], tys⟩, ty, pos, af, none⟩ :: k) .normal ⟨e, os⟩ =
    ((isNum (ev c e x) ∧ isNum (ev c e y)) ∧ sem c CT nl lv Q k .normal ⟨put e dst (.sc (.int (kN (ev c e x)) (mxI (numA (ev c e x)) (numA (ev c e y))))), os⟩) := by
  rw [sem_pure c CT nl lv Q k all dst ty pos af e os H _ rfl, pk_max, pa_max]
theorem sem_min (x y : Operand) (tys : Array Nat) : sem c CT nl lv Q (.op H all ⟨dst, .call ⟨.builtin .min, #[x, y], tys⟩, ty, pos, af, none⟩ :: k) .normal ⟨e, os⟩ =
    ((isNum (ev c e x) ∧ isNum (ev c e y)) ∧ sem c CT nl lv Q k .normal ⟨put e dst (.sc (.int (kN (ev c e x)) (mnI (numA (ev c e x)) (numA (ev c e y))))), os⟩) := by
  rw [sem_pure c CT nl lv Q k all dst ty pos af e os H _ rfl, pk_min, pa_min]
theorem sem_max3 (x y z : Operand) (tys : Array Nat) : sem c CT nl lv Q (.op H all ⟨dst, .call ⟨.builtin .max, #[x, y, z], tys⟩, ty, pos, af, none⟩ :: k) .normal ⟨e, os⟩ =
    ((isNum (ev c e x) ∧ isNum (ev c e y) ∧ isNum (ev c e z)) ∧ sem c CT nl lv Q k .normal ⟨put e dst (.sc (.int (kN (ev c e x)) (mxI (mxI (numA (ev c e x)) (numA (ev c e y))) (numA (ev c e z))))), os⟩) := by
  rw [sem_pure c CT nl lv Q k all dst ty pos af e os H _ rfl, pk_max3, pa_max3]
end
attribute [go_sem] sem_max sem_min sem_max3 kN_int
attribute [go_sem] pw_eq bits_i8 bits_i16 bits_i32 bits_i64 bits_u8 bits_u16 bits_u32 bits_u64
/-- A contract, told with fewer names and more weakly. -/
theorem Con.view {P : Program} {c : Cx} {f : Nat} {vs : List AV} {σ : List AO} {post post' : AV → List AO → Prop} (h : Con P c f vs σ post)
    (hp : ∀ x σ', post x σ' → ∃ ks y τ, keepP σ.length ks σ' ∧ wkV (viewA ks σ' x) y ∧ wkS (viewS ks σ') τ ∧ post' y τ) : Con P c f vs σ post' := by
  refine ⟨h.1, fun X vals a1 a2 a3 a4 a5 a6 a7 => (h.2 X vals a1 a2 a3 a4 a5 a6 a7).mono ?_⟩
  rintro e w' ⟨v, x, σ', g', he, hpx, hS, hK, hR⟩
  obtain ⟨ks, y, τ, hk, hwx, hws, hp'⟩ := hp x σ' hpx
  have hnd : ks.Nodup := nodupN_spec (by have := hk.1; simp only [keepOk, Bool.and_eq_true] at this; exact this.2)
  obtain ⟨h1, h2, h3⟩ := hS.view hnd
  have hal := hws.alike
  have hrd : rdF X τ (viewG ks σ' g') w' = rdF X (viewS ks σ') (viewG ks σ' g') w' := by funext b o; exact hal.rd b o
  refine ⟨v, y, τ, viewG ks σ' g', he, hp', h1.wk hws, (hK.view hk).wk hws, ?_⟩
  rw [hrd]
  exact hal.repV (RepV.wk (viewA_V (g := g') h2 (fun j L o => viewG_get) (fun L hL => h3 L (shownV_not hL)) hR).toV hwx)
section
variable (c : Cx) (CT : CTab) (nl : Nat) (lv : List Nat) (Q : Ex → St → Prop) (k : List It) (all : Array Oper) (dst : Option Nat) (ty : TypeId) (pos : String) (af : Array Edge) (e : Env) (os : List AO) (H : List Nat)
theorem sem_field (t : Nat) (x : Operand) (f : Nat) : sem c CT nl lv Q (.op H all ⟨dst, .field t x f, ty, pos, af, none⟩ :: k) .normal ⟨e, os⟩ =
    (fldOk c t f (ev c e x) ∧ sem c CT nl lv Q k .normal ⟨put e dst (fldA c t f (ev c e x)), os⟩) := sem_pure c CT nl lv Q k all dst ty pos af e os H _ rfl
theorem semg_fld (g : Bool) (t : Nat) (x : Operand) (f : Nat) : guardR c CT nl lv Q k os e H dst (.field t x f) (some g) = ((g = true → stripOk true (ev c e x) ∧ fldOk c t f (strip (ev c e x)) ∧ plain (fldA c t f (strip (ev c e x)))) ∧ sem c CT nl lv Q k .normal ⟨put e dst (.opt g (fldA c t f (strip (ev c e x)))), os⟩) := by
  cases g <;> simp [guardR, isPure, operOk, gev, pureOk, pureA, Op.operands, allP]
theorem heldOk_fld (t : Nat) (x : Operand) (f : Nat) : heldOk H c e (.field t x f) = True := rfl
theorem fldA_agg (t f : Nat) (cs : List AV) : fldA c t f (.agg cs) = partA (c.T ((c.T t).ftys.getD f 0)) cs (fieldOff (c.T t) f).1 := rfl
theorem fldOk_agg (t f : Nat) (cs : List AV) : fldOk c t f (.agg cs) = (0 < (c.T t).sz ∧ f < (c.T t).ftys.length ∧ isStructK (c.T t).kind ∧ 0 < (c.T ((c.T t).ftys.getD f 0)).sz ∧ (fieldOff (c.T t) f).1 + (c.T ((c.T t).ftys.getD f 0)).sz ≤ cs.length) := rfl
theorem partA_eq (ti : TI) (cs : List AV) (off : Nat) : partA ti cs off = if ti.agg = true then .agg ((cs.drop off).take ti.sz) else cs.getD off .junk := rfl
theorem isStructK_s (fs : List (Nat × Nat)) : isStructK (.struct fs) = True := rfl
end
attribute [go_sem] sem_field semg_fld heldOk_fld fldA_agg fldOk_agg partA_eq isStructK_s
/-- Function values that have captured variables. -/
def callV (c : Cx) (CT : CTab) (nl : Nat) (lv : List Nat) (Q : Ex → St → Prop) (H : List Nat) (x : AV) (vs : List AV) (e : Env) (os : List AO) (dst : Option Nat) (k : List It) : Prop := match fnC x with
  | some (n, cs) => callR c CT nl lv Q H n (vs ++ cs) e os dst k
  | none => False
section
variable (c : Cx) (CT : CTab) (nl : Nat) (lv : List Nat) (Q : Ex → St → Prop) (k : List It) (all : Array Oper) (dst : Option Nat) (ty : TypeId) (po : String) (af : Array Edge) (e : Env) (os : List AO) (H ks : List Nat)
theorem sem_callV (t : Nat) (args : Array Operand) (tys : Array Nat) : sem c CT nl lv Q (.op H all ⟨dst, .call ⟨.value (.tmp t), args, tys⟩, ty, po, af, none⟩ :: k) .normal ⟨e, os⟩ =
    callV c CT nl lv Q H (lk e t) (args.toList.map (ev c e)) e os dst k := by
  simp only [sem, stepA, isPure, effA, callV, callR, ev, Bool.false_eq_true, if_false]
  cases fnC (lk e t) with
  | none => rfl
  | some q => rfl
theorem semg_callV (t : Nat) (args : Array Operand) (tys : Array Nat) (g : Bool) : guardR c CT nl lv Q k os e H dst (.call ⟨.value (.tmp t), args, tys⟩) (some g) = ((g = true → (stripOk true (lk e t) ∧ allP (fun x => stripOk true (ev c e x)) args.toList) ∧ callV c CT nl lv Q H (strip (lk e t)) (args.toList.map fun x => strip (ev c e x)) e os dst k) ∧
    (g = false → sem c CT nl lv Q k .normal ⟨put e dst offA, os⟩)) := by
  cases g
  · simp [guardR, isPure]
  · simp only [guardR, isPure, operOk, gev, effA, callV, callR, Op.operands, Call.operands, Bool.false_eq_true, if_false, Array.toList_append, List.cons_append, List.nil_append, allP, ev]
    cases fnC (strip (lk e t)) with
    | none => rfl
    | some q => rfl
theorem callV_func (n : Nat) (vs : List AV) : callV c CT nl lv Q H (.sc (.func (.func n) #[] #[])) vs e os dst k = callR c CT nl lv Q H n vs e os dst k := by
  unfold callV; rw [fnC_func]; simp only [List.append_nil]
theorem callV_clo (n : Nat) (ps : List (Nat × Nat)) (vs : List AV) : callV c CT nl lv Q H (.clo n ps) vs e os dst k = callR c CT nl lv Q H n (vs ++ ps.map fun p => .pt p.1 p.2) e os dst k := rfl
theorem sem_makeFunc (n : Nat) (fi cs : Array Operand) : sem c CT nl lv Q (.op H all ⟨dst, .makeFunc (.func n) fi cs, ty, po, af, none⟩ :: k) .normal ⟨e, os⟩ =
    ((fi.toList = [] ∧ cloOk os (cs.toList.map (ev c e))) ∧ sem c CT nl lv Q k .normal ⟨put e dst (cloA n (cs.toList.map (ev c e))), os⟩) := sem_pure c CT nl lv Q k all dst ty po af e os H _ rfl
theorem heldOk_mf (n : Fn) (fi cs : Array Operand) : heldOk H c e (.makeFunc n fi cs) = True := rfl
theorem ptsOf_nil : ptsOf [] = some [] := rfl
theorem ptsOf_pt (L j : Nat) (r : List AV) : ptsOf (.pt L j :: r) = match ptsOf r with
    | some q => some ((L, j) :: q)
    | none => none := rfl
theorem cloA_eq (n : Nat) (xs : List AV) : cloA n xs = match ptsOf xs with
    | some ps => .clo n ps
    | none => .junk := rfl
theorem cloOk_eq (xs : List AV) : cloOk os xs = ((ptsOf xs).isSome = true ∧ allP (fun x => isAddr os x = true) xs) := rfl
theorem posAll_nil : posAll ks [] = some [] := rfl
theorem posAll_cons (p : Nat × Nat) (r : List (Nat × Nat)) : posAll ks (p :: r) = match pos ks p.1, posAll ks r with
    | some j, some q => some ((j, p.2) :: q)
    | _, _ => none := rfl
theorem viewC_clo (n : Nat) (ps : List (Nat × Nat)) : viewC ks os (.clo n ps) = match posAll ks ps with
    | some q => .clo n q
    | none => .junk := rfl
theorem viewA_clo (n : Nat) (ps : List (Nat × Nat)) : viewA ks os (.clo n ps) = viewC ks os (.clo n ps) := rfl
theorem viewV_clo (n : Nat) (ps : List (Nat × Nat)) : viewV ks os (.clo n ps) = viewC ks os (.clo n ps) := rfl
theorem renC_clo (f : Nat → Nat) (n : Nat) (ps : List (Nat × Nat)) : renC f (.clo n ps) = .clo n (ps.map fun p => (f p.1, p.2)) := rfl
theorem renA_clo (f : Nat → Nat) (n : Nat) (ps : List (Nat × Nat)) : renA f (.clo n ps) = .clo n (ps.map fun p => (f p.1, p.2)) := rfl
theorem renV_clo (f : Nat → Nat) (n : Nat) (ps : List (Nat × Nat)) : renV f (.clo n ps) = .clo n (ps.map fun p => (f p.1, p.2)) := rfl
theorem shownC_clo (n : Nat) (ps : List (Nat × Nat)) : shownC ks (.clo n ps) = [] := rfl
theorem shownV_clo (n : Nat) (ps : List (Nat × Nat)) : shownV ks (.clo n ps) = [] := rfl
theorem nameOf1_clo (n : Nat) (ps : List (Nat × Nat)) : nameOf1 (.clo n ps) = ps.map fun p => p.1 := rfl
theorem nameV_clo (n : Nat) (ps : List (Nat × Nat)) : nameV (.clo n ps) = ps.map fun p => p.1 := rfl
theorem strip_clo (n : Nat) (ps : List (Nat × Nat)) : strip (.clo n ps) = .clo n ps := rfl
theorem sok_clo (b : Bool) (n : Nat) (ps : List (Nat × Nat)) : stripOk b (.clo n ps) = True := rfl
theorem plain_clo (n : Nat) (ps : List (Nat × Nat)) : plain (.clo n ps) = True := rfl
theorem noFzC_clo (n : Nat) (ps : List (Nat × Nat)) : noFzC (.clo n ps) = True := rfl
theorem one_func (n : Nat) : (Value.func (.func n) #[] #[]).oneCell' = true := rfl
end
attribute [go_sem] sem_callV semg_callV callV_func callV_clo sem_makeFunc heldOk_mf ptsOf_nil ptsOf_pt cloA_eq cloOk_eq posAll_nil posAll_cons viewC_clo viewA_clo viewV_clo renC_clo renA_clo renV_clo shownC_clo shownV_clo nameOf1_clo nameV_clo strip_clo sok_clo plain_clo noFzC_clo one_func
theorem asLike_nf (x : AV) : asLike (.sc .nilFunc) x = x := rfl
theorem like_nf (x : AV) : like (.sc .nilFunc) x = True := rfl
attribute [go_sem] asLike_nf like_nf
section
variable (c : Cx) (CT : CTab) (nl : Nat) (lv : List Nat) (Q : Ex → St → Prop) (k : List It) (dst : Option Nat) (e : Env) (os : List AO) (H : List Nat)
theorem semg_bs (t n : Nat) (ps : Array (Nat × Operand)) (g : Bool) : guardR c CT nl lv Q k os e H dst (.buildSlice t n ps) (some g) = ((g = true → allP (fun x => stripOk true (ev c e x)) (ps.toList.map (·.2)) ∧
    (0 < (c.T t).sz ∧ isSliceT c t ∧ 0 < (c.T (elemOf c t)).sz ∧ n * (c.T (elemOf c t)).sz ≤ 16777216 ∧ litOk os (c.T (elemOf c t)) n (ps.toList.map fun p => (p.1, strip (ev c e p.2))) ∧
      sem c CT nl lv Q k .normal ⟨put e dst (.sl os.length 0 n), unownAll os ((ps.toList.map fun p => (p.1, strip (ev c e p.2))).flatMap fun p => cellsOf p.2) ++
      [.arr true (c.T (elemOf c t)).sz ((litElems (c.T (elemOf c t)) n (ps.toList.map fun p => (p.1, strip (ev c e p.2)))).map fun x => x.map (frz os))]⟩)) ∧
    (g = false → sem c CT nl lv Q k .normal ⟨put e dst offA, os⟩)) := by
  cases g
  · simp [guardR, isPure]
  · simp [guardR, isPure, operOk, gev, effA, Op.operands]
end
attribute [go_sem] semg_bs
section
variable (c : Cx) (CT : CTab) (nl : Nat) (lv : List Nat) (Q : Ex → St → Prop) (k : List It) (dst : Option Nat) (e : Env) (os : List AO) (H : List Nat)
theorem semg_build (t : Nat) (ps : Array (Nat × Operand)) (g : Bool) : guardR c CT nl lv Q k os e H dst (.build t ps) (some g) = ((g = true → allP (fun x => stripOk true (ev c e x)) (ps.toList.map (·.2)) ∧
    (0 < (c.T t).sz ∧ isBuilt (c.T t).kind ∧ allP (fun p => allP (recOk os) (cellsOf (strip (ev c e p.2)))) ps.toList ∧ (fillA (partsOf c t) (c.T t).zero (ps.toList.map fun p => (p.1, strip (ev c e p.2)))).isSome = true) ∧
    plain (optAgg (fillA (partsOf c t) (c.T t).zero (ps.toList.map fun p => (p.1, strip (ev c e p.2)))))) ∧
    sem c CT nl lv Q k .normal ⟨put e dst (.opt g (optAgg (fillA (partsOf c t) (c.T t).zero (ps.toList.map fun p => (p.1, strip (ev c e p.2)))))), os⟩) := by
  simp only [guardR, isPure, operOk, gev, pureOk, pureA, Op.operands, if_true]
  cases fillA (partsOf c t) (c.T t).zero (ps.toList.map fun p => (p.1, strip (ev c e p.2))) <;> cases g <;> simp [optAgg]
theorem strip_num (x : Operand) (r : Operand → AV) : (some (r x) : Option AV) = some (r x) := rfl
theorem semg_cut (t : Nat) (x : Operand) (lo hi : Option Operand) (g : Bool) : guardR c CT nl lv Q k os e H dst (.slice t x lo hi none) (some g) = ((g = true → allP (fun y => stripOk true (ev c e y)) (x :: lo.toList ++ hi.toList) ∧
    (0 < (c.T t).sz ∧ cutTy c os t (strip (ev c e x)) ∧ numOk (lo.map fun y => strip (ev c e y)) ∧ numOk (hi.map fun y => strip (ev c e y)) ∧ True ∧
      0 ≤ loOf (fun y => strip (ev c e y)) lo ∧ loOf (fun y => strip (ev c e y)) lo ≤ hiOf (fun y => strip (ev c e y)) (strip (ev c e x)) hi ∧ hiOf (fun y => strip (ev c e y)) (strip (ev c e x)) hi ≤ lenA (strip (ev c e x))) ∧
    plain (cutA (strip (ev c e x)) (loOf (fun y => strip (ev c e y)) lo) (hiOf (fun y => strip (ev c e y)) (strip (ev c e x)) hi))) ∧
    sem c CT nl lv Q k .normal ⟨put e dst (.opt g (cutA (strip (ev c e x)) (loOf (fun y => strip (ev c e y)) lo) (hiOf (fun y => strip (ev c e y)) (strip (ev c e x)) hi))), os⟩) := by
  cases g <;> simp [guardR, isPure, operOk, gev, pureOk, pureA, Op.operands, allP, mxOk]
end
attribute [go_sem] guardV_x semg_build semg_cut Option.toList_some Option.toList_none
section
variable (c : Cx) (CT : CTab) (nl : Nat) (lv : List Nat) (Q : Ex → St → Prop) (k : List It) (all : Array Oper) (dst : Option Nat) (ty : Nat) (pos : String) (af : Array Edge) (e : Env) (os : List AO) (H : List Nat) (op : BinOp) (t t' : Nat) (x : Operand) (g : Bool)
theorem sem_bin_t (u : Nat) : sem c CT nl lv Q (.op H all ⟨dst, .binOp op t x (.tmp u) t', ty, pos, af, none⟩ :: k) .normal ⟨e, os⟩ = (binOk (c.T t) op (ev c e x) (ev c e (.tmp u)) ∧ sem c CT nl lv Q k .normal ⟨put e dst (binA op (ev c e x) (ev c e (.tmp u))), os⟩) := sem_binOp c CT nl lv Q k all dst ty pos af e os H op t t' x _ rfl
theorem semg_bin_t (u : Nat) : guardR c CT nl lv Q k os e H dst (.binOp op t x (.tmp u) t') (some g) = ((g = true → (stripOk true (ev c e x) ∧ stripOk true (ev c e (.tmp u))) ∧ binOk (c.T t) op (strip (ev c e x)) (strip (ev c e (.tmp u))) ∧ plain (binA op (strip (ev c e x)) (strip (ev c e (.tmp u))))) ∧ sem c CT nl lv Q k .normal ⟨put e dst (.opt g (binA op (strip (ev c e x)) (strip (ev c e (.tmp u))))), os⟩) := semg_bin c CT nl lv Q k os e H dst g op t t' x _ rfl
theorem sem_bin_i (k2 : IntKind) (n : Int) : sem c CT nl lv Q (.op H all ⟨dst, .binOp op t x (.const (.int k2 n)) t', ty, pos, af, none⟩ :: k) .normal ⟨e, os⟩ = (binOk (c.T t) op (ev c e x) (ev c e (.const (.int k2 n))) ∧ sem c CT nl lv Q k .normal ⟨put e dst (binA op (ev c e x) (ev c e (.const (.int k2 n)))), os⟩) := sem_binOp c CT nl lv Q k all dst ty pos af e os H op t t' x _ rfl
theorem semg_bin_i (k2 : IntKind) (n : Int) : guardR c CT nl lv Q k os e H dst (.binOp op t x (.const (.int k2 n)) t') (some g) = ((g = true → (stripOk true (ev c e x) ∧ stripOk true (ev c e (.const (.int k2 n)))) ∧ binOk (c.T t) op (strip (ev c e x)) (strip (ev c e (.const (.int k2 n)))) ∧ plain (binA op (strip (ev c e x)) (strip (ev c e (.const (.int k2 n)))))) ∧ sem c CT nl lv Q k .normal ⟨put e dst (.opt g (binA op (strip (ev c e x)) (strip (ev c e (.const (.int k2 n)))))), os⟩) := semg_bin c CT nl lv Q k os e H dst g op t t' x _ rfl
theorem sem_bin_b (b : Bool) : sem c CT nl lv Q (.op H all ⟨dst, .binOp op t x (.const (.bool b)) t', ty, pos, af, none⟩ :: k) .normal ⟨e, os⟩ = (binOk (c.T t) op (ev c e x) (ev c e (.const (.bool b))) ∧ sem c CT nl lv Q k .normal ⟨put e dst (binA op (ev c e x) (ev c e (.const (.bool b)))), os⟩) := sem_binOp c CT nl lv Q k all dst ty pos af e os H op t t' x _ rfl
theorem semg_bin_b (b : Bool) : guardR c CT nl lv Q k os e H dst (.binOp op t x (.const (.bool b)) t') (some g) = ((g = true → (stripOk true (ev c e x) ∧ stripOk true (ev c e (.const (.bool b)))) ∧ binOk (c.T t) op (strip (ev c e x)) (strip (ev c e (.const (.bool b)))) ∧ plain (binA op (strip (ev c e x)) (strip (ev c e (.const (.bool b)))))) ∧ sem c CT nl lv Q k .normal ⟨put e dst (.opt g (binA op (strip (ev c e x)) (strip (ev c e (.const (.bool b)))))), os⟩) := semg_bin c CT nl lv Q k os e H dst g op t t' x _ rfl
theorem sem_bin_s (b : ByteArray) : sem c CT nl lv Q (.op H all ⟨dst, .binOp op t x (.const (.string b)) t', ty, pos, af, none⟩ :: k) .normal ⟨e, os⟩ = (binOk (c.T t) op (ev c e x) (ev c e (.const (.string b))) ∧ sem c CT nl lv Q k .normal ⟨put e dst (binA op (ev c e x) (ev c e (.const (.string b)))), os⟩) := sem_binOp c CT nl lv Q k all dst ty pos af e os H op t t' x _ rfl
theorem semg_bin_s (b : ByteArray) : guardR c CT nl lv Q k os e H dst (.binOp op t x (.const (.string b)) t') (some g) = ((g = true → (stripOk true (ev c e x) ∧ stripOk true (ev c e (.const (.string b)))) ∧ binOk (c.T t) op (strip (ev c e x)) (strip (ev c e (.const (.string b)))) ∧ plain (binA op (strip (ev c e x)) (strip (ev c e (.const (.string b)))))) ∧ sem c CT nl lv Q k .normal ⟨put e dst (.opt g (binA op (strip (ev c e x)) (strip (ev c e (.const (.string b)))))), os⟩) := semg_bin c CT nl lv Q k os e H dst g op t t' x _ rfl
end
attribute [go_sem] sem_bin_t semg_bin_t sem_bin_i semg_bin_i sem_bin_b semg_bin_b sem_bin_s semg_bin_s
section
variable (r : Operand → AV)
theorem mxOk_none (x : AV) (lo hi : Option Operand) : mxOk r x lo hi none = True := rfl
theorem mxOk_fz (z : Nat) (xs : List (List AV)) (h m : Operand) : mxOk r (.fz z xs) none (some h) (some m) = (isNum (r m) ∧ isNum (r h) ∧ numA (r m) = numA (r h)) := by simp [mxOk]
theorem mxOk_sl (L o n : Nat) (h m : Operand) : mxOk r (.sl L o n) none (some h) (some m) = (isNum (r m) ∧ isNum (r h) ∧ numA (r m) = numA (r h)) := by simp [mxOk]
end
attribute [go_sem] mxOk_none mxOk_fz mxOk_sl
attribute [irreducible] callW
attribute [go_sem] virt_eq
end Go.AM
end
section
/- From a contract to the row of a law over slices of bytes. Conditions: none. -/
namespace Go.AM
open Go Go.RowKit

/-- Whole numbers as bytes' cells. -/
def u8s (zs : List Int) : List (List AV) := zs.map fun z => [.sc (.int .u8 z)]

theorem u8s_mem {l : List Int} {r : List AV} (h : r ∈ u8s l) : ∃ z, r = [.sc (.int .u8 z)] := by
  obtain ⟨z, _, e⟩ := List.mem_map.1 h
  exact ⟨z, e.symm⟩

def IsRow8 (w : World) (a : Option Addr) (len cap : Nat) (zs : List Int) : Prop :=
  (a = none ∧ len = 0 ∧ cap = 0 ∧ zs = []) ∨
  ∃ x, a = some x ∧ len ≤ cap ∧ cap ≤ maxLen ∧ zs.length = cap ∧ (∀ i, i < zs.length → w.cell? (x.add i) = some (.int .u8 (zs.getD i 0))) ∧ ∀ n ∈ zs, (Lit.int .u8 n).wf = true

theorem IsRow8.rep {w : World} {a : Option Addr} {len cap : Nat} {zs : List Int} (h : IsRow8 w a len cap zs) :
    RepP (fun b o => w.cell? ⟨b, o, none⟩) (.fz 1 (u8s (zs.take len))) (.slice a len cap) ∧ (zs.take len).length = len ∧ ∀ n ∈ zs.take len, 0 ≤ n ∧ n < 256 := by
  rcases h with ⟨rfl, rfl, rfl, rfl⟩ | ⟨x, rfl, hl, _, hz, hc, hw⟩
  · exact ⟨.nil, rfl, fun n hn => by simp at hn⟩
  · have hlen : (zs.take len).length = len := by simp; omega
    refine ⟨?_, hlen, fun n hn => ?_⟩
    · rcases Nat.eq_zero_or_pos len with rfl | hpos
      · exact .nil
      · have h0 := hc 0 (by omega)
        obtain ⟨b, o, s⟩ := x
        have hs : s = none := by
          simp only [Addr.add, if_true] at h0
          unfold World.cell? at h0
          split at h0
          · split at h0
            · cases h0
            · rename_i h; cases s with
              | none => rfl
              | some _ => simp at h
          · cases h0
        subst hs
        have key : RepP (fun b o => w.cell? ⟨b, o, none⟩) (.fz 1 (u8s (zs.take len))) (.slice (some ⟨b, o, none⟩) (u8s (zs.take len)).length cap) := by
          refine .fz (fun i _ => .int .u8 (zs.getD i 0)) (by simp [u8s]; omega) (by intro r hr; obtain ⟨z, rfl⟩ := u8s_mem hr; rfl) ?_ ?_
          · intro i k r y hr hy
            have hi : i < len := by
              have := (List.getElem?_eq_some_iff.1 hr).1
              simp [u8s] at this; omega
            have hk : k = 0 := by
              have e : r.length = 1 := by
                obtain ⟨z, rfl⟩ := u8s_mem (List.mem_of_getElem? hr); rfl
              have := (List.getElem?_eq_some_iff.1 hy).1
              omega
            subst hk
            have := hc i (by omega)
            simp only [Nat.mul_one, Nat.add_zero]
            rw [← this]
            cases i with
            | zero => rfl
            | succ i => simp [Addr.add]
          · intro i k r y hr hy
            have hi : i < zs.length := by
              have := (List.getElem?_eq_some_iff.1 hr).1
              simp [u8s] at this; omega
            have e : r = [.sc (.int .u8 (zs.getD i 0))] := by
              simp only [u8s, List.getElem?_map, List.getElem?_take] at hr
              split at hr
              · simp [hi] at hr
                simp [List.getD, hi, ← hr]
              · simp at hr
            subst e
            have hk : k = 0 := by
              have := (List.getElem?_eq_some_iff.1 hy).1
              simp at this; omega
            subst hk
            simp at hy
            subst hy
            exact .sc rfl
        have e : (u8s (zs.take len)).length = len := by simp only [u8s, List.length_map]; exact hlen
        rw [e] at key
        exact key
    · have := hw n (List.mem_of_mem_take hn)
      simp [Lit.wf, IntKind.min, IntKind.max, IntKind.signed, IntKind.bits] at this
      omega

/-- A law's function, called. -/
theorem calls_lawG {P : Program} {c : Cx} {f : Nat} {vs : List AV} (h : Con P c f vs [] (fun x σ' => x = .sc (.bool true) ∧ σ' = [])) (W : World) (hG : ∀ n, GOk (fun b o => W.cell? ⟨b, o, none⟩) (c.G n) n) (vals : Array Value) (hs : vals.size = vs.length) (hbd : ∀ fn, P.funcs[f]? = some fn → fn.body.isNone = false)
    (hv : ∀ (i : Nat) y, vs[i]? = some y → (∃ s xs, y = .fz s xs) ∧ ∃ u, vals[i]? = some u ∧ RepP (fun b o => W.cell? ⟨b, o, none⟩) y u) : Calls P f vals W fun e w' => e = .returned (.bool true) ∧ Below W.heap.size W w' := by
  obtain ⟨⟨fn, hfn⟩, h2⟩ := h
  let X : Ctx := ⟨W, fun b => b < W.heap.size, fun _ => False, fn.ntmps, [], fun _ => []⟩
  have hno : ∀ L, ¬ own ([] : List AO) L := fun L hL => by simp [own, isOwn] at hL
  have hrd : rdF X [] X.g0 W = fun b o => W.cell? ⟨b, o, none⟩ := by
    funext b o
    unfold rdF
    rw [if_pos]
    refine ⟨?_, fun ⟨L, hL, _⟩ => hno L hL⟩
    rcases Nat.lt_or_ge b W.heap.size with hb | hb
    · exact .inl hb
    · exact .inr (.inr hb)
  have hS : SRel X [] X.g0 X.W := ⟨rfl, rfl, rfl, Nat.le_refl _, fun _ _ _ => rfl, fun L hL => absurd hL (hno L), fun L _ hL => absurd hL (hno L), fun L => by simp [OOk]⟩
  have hcalls : ∀ R, CallsX P f vals W R → Calls P f vals W R := fun R ⟨fn', q1, _, q3⟩ => by
    rcases q3 with q3 | q3
    · exact q3.2
    · rw [hbd fn' q1] at q3; exact absurd q3.1 (by simp)
  refine hcalls _ ((h2 X vals ⟨fun b hb => ⟨hb, id⟩, fun b hb => hb.elim⟩ rfl (fun fn' h' => by rw [hfn] at h'; cases h'; rfl) hS (fun n => by show GOk (rdF X [] X.g0 W) (c.G n) n; rw [hrd]; exact hG n) hs ?_).mono ?_)
  · intro i y hy
    obtain ⟨⟨s, xs, rfl⟩, u, hu, hr⟩ := hv i y hy
    refine ⟨u, hu, ?_⟩
    show RepP (rdF X [] X.g0 W) (.fz s xs) u
    rw [hrd]; exact hr
  · rintro e w' ⟨v, x, σ', g', rfl, ⟨rfl, rfl⟩, hS', _, hr⟩
    have : v = .bool true := hr
    subst this
    exact ⟨rfl, hS'.sys, hS'.tape, hS'.output, hS'.size, fun k hk => hS'.same k hk id⟩

theorem calls_law {P : Program} {c : Cx} {f : Nat} {vs : List AV} (h : Con P c f vs [] (fun x σ' => x = .sc (.bool true) ∧ σ' = [])) (hG : ∀ n, c.G n = .junk) (W : World) (vals : Array Value) (hs : vals.size = vs.length) (hbd : ∀ fn, P.funcs[f]? = some fn → fn.body.isNone = false)
    (hv : ∀ (i : Nat) y, vs[i]? = some y → (∃ s xs, y = .fz s xs) ∧ ∃ u, vals[i]? = some u ∧ RepP (fun b o => W.cell? ⟨b, o, none⟩) y u) : Calls P f vals W fun e w' => e = .returned (.bool true) ∧ Below W.heap.size W w' :=
  calls_lawG h W (fun n => by rw [hG]; trivial) vals hs hbd hv

/-- A slice of values that stand in one cell each. -/
theorem rep_row {W : World} {x : Addr} {len cap : Nat} {xs : List Value} (hc : len ≤ cap) (hl : xs.length = len) (h1 : ∀ v ∈ xs, v.oneCell' = true) (h : ∀ i v, xs[i]? = some v → W.cell? (x.add i) = some v) :
    RepP (fun b o => W.cell? ⟨b, o, none⟩) (.fz 1 (xs.map fun v => [.sc v])) (.slice (some x) len cap) := by
  subst hl
  rcases xs with _ | ⟨v, vs⟩
  · exact .nil
  · have h0 := h 0 v rfl
    obtain ⟨b, o, s⟩ := x
    have hs : s = none := by
      simp only [Addr.add, if_true] at h0
      unfold World.cell? at h0
      split at h0
      · split at h0
        · cases h0
        · rename_i h; cases s with
          | none => rfl
          | some _ => simp at h
      · cases h0
    subst hs
    generalize hxs : v :: vs = xs at *
    have key : Row (fun b o => W.cell? ⟨b, o, none⟩) b o 1 (xs.map fun v => [AV.sc v]) := by
      refine ⟨fun r hr => ?_, fun i k r y hr hy => ?_⟩
      · obtain ⟨z, _, rfl⟩ := List.mem_map.1 hr; rfl
      · simp only [List.getElem?_map, Option.map_eq_some_iff] at hr
        obtain ⟨z, hz, rfl⟩ := hr
        rcases k with _ | k
        · simp at hy
          subst hy
          refine ⟨z, ?_, .sc (h1 z (List.mem_of_getElem? hz))⟩
          have := h i z hz
          simp only [Nat.mul_one, Nat.add_zero]
          rw [← this]
          cases i with
          | zero => rfl
          | succ i => simp [Addr.add]
        · simp at hy
    have := RepP.of_row (c := cap) key (by simpa using hc)
    simpa using this

def intOf : DataW Unit → Int
  | .lit (.int _ n) => n
  | _ => 0
def strOf1 : DataW Unit → ByteArray
  | .lit (.string bs) => ⟨bs.toArray⟩
  | _ => ByteArray.empty

/-- A package variable, a slice of whole numbers, laid. -/
theorem laid_ints {P : Program} {W : World} {t e : TypeId} {k : IntKind} {fuel : Nat} {cs : List Value} {d : DataW Unit} {p : List MemPlace} (ht : P.underlying t = some (.slice e)) (he : P.underlying e = some (.int k)) (hc : P.cellsOf e = 1)
    (h : DataW.trod (fun _ => ()) P W 0 (fun _ => true) false fuel t cs = some (d, p)) (zs0 : List Int) (hd : d = .slice (zs0.map fun z => .lit (.int k z)) []) :
    ∃ v, cs = [v] ∧ RepP (fun b o => W.cell? ⟨b, o, none⟩) (.fz 1 (zs0.map fun z => [.sc (.int k z)])) v := by
  rcases Go.ChangeShapes.open_ints ht he hc h with ⟨_, hx⟩ | ⟨a, len, cap, zs, rfl, _, hl, _, hz, hx, hcell, hwf⟩
  · subst hd; simp at hx
  · subst hd
    refine ⟨_, rfl, ?_⟩
    have hx1 := (Prod.mk.inj hx).1
    injection hx1 with e1 e2
    have e3 : zs0 = zs.take len := by
      have := congrArg (List.map intOf) e1
      simpa [Go.ChangeShapes.lits, List.map_map, Function.comp_def, intOf] using this
    have hlen : (zs.take len).length = len := by simp; split at hz <;> omega
    have := rep_row (W := W) (x := a) (len := len) (cap := cap) (xs := zs0.map fun z => Value.int k z) hl (by rw [List.length_map, e3]; exact hlen) (by intro v hv; obtain ⟨z, _, rfl⟩ := List.mem_map.1 hv; rfl) (by
      intro i v hv
      simp only [List.getElem?_map, Option.map_eq_some_iff] at hv
      obtain ⟨z, hz', rfl⟩ := hv
      rw [e3, List.getElem?_take] at hz'
      split at hz'
      · have hi := (List.getElem?_eq_some_iff.1 hz').1
        rw [hcell i hi]; simp [List.getD, hz']
      · cases hz')
    simpa [List.map_map, Function.comp_def] using this

/-- A package variable, a slice of texts, laid. -/
theorem laid_strs {P : Program} {W : World} {t e : TypeId} {fuel : Nat} {cs : List Value} {d : DataW Unit} {p : List MemPlace} (ht : P.underlying t = some (.slice e)) (he : P.underlying e = some .string) (hc : P.cellsOf e = 1)
    (h : DataW.trod (fun _ => ()) P W 0 (fun _ => true) false fuel t cs = some (d, p)) (ss0 : List ByteArray) (hd : d = .slice (ss0.map fun s => .lit (.string s.data.toList)) []) :
    ∃ v, cs = [v] ∧ RepP (fun b o => W.cell? ⟨b, o, none⟩) (.fz 1 (ss0.map fun s => [.sc (.string s)])) v := by
  rcases Go.ChangeShapes.open_strings ht he hc h with ⟨_, hx⟩ | ⟨a, len, cap, ss, rfl, _, hl, _, hz, hx, hcell, hwf⟩
  · subst hd; simp at hx
  · subst hd
    refine ⟨_, rfl, ?_⟩
    have hx1 := (Prod.mk.inj hx).1
    injection hx1 with e1 e2
    have e3 : ss0 = ss.take len := by
      have := congrArg (List.map strOf1) e1
      simpa [Go.ChangeShapes.strs, List.map_map, Function.comp_def, strOf1] using this
    have hlen : (ss.take len).length = len := by simp; split at hz <;> omega
    have := rep_row (W := W) (x := a) (len := len) (cap := cap) (xs := ss0.map fun s => Value.string s) hl (by rw [List.length_map, e3]; exact hlen) (by intro v hv; obtain ⟨z, _, rfl⟩ := List.mem_map.1 hv; rfl) (by
      intro i v hv
      simp only [List.getElem?_map, Option.map_eq_some_iff] at hv
      obtain ⟨z, hz', rfl⟩ := hv
      rw [e3, List.getElem?_take] at hz'
      split at hz'
      · have hi := (List.getElem?_eq_some_iff.1 hz').1
        rw [hcell i hi]; simp [List.getD, hz']
      · cases hz')
    simpa [List.map_map, Function.comp_def] using this

/-- A package variable of one cell. -/
theorem gok_one {P : Program} {W : World} {n : Nat} {nm : String} {cs : Array Value} {v : Value} {y : AV} (hg : P.globalNamed nm = some n) (hv : W.var? P nm = some cs) (hcs : cs.toList = [v]) (hr : RepP (fun b o => W.cell? ⟨b, o, none⟩) y v) :
    GOk (fun b o => W.cell? ⟨b, o, none⟩) (.fp 1 [[y]] 0 0) n := by
  refine ⟨fun r hr => by simp at hr; subst hr; rfl, fun i k r z h1 h2 => ?_⟩
  rcases i with _ | i
  · simp at h1; subst h1
    rcases k with _ | k
    · simp at h2; subst h2
      refine ⟨v, ?_, hr⟩
      have := World.var?_cell hg hv 0
      simp only [Nat.zero_mul, Nat.add_zero, Nat.zero_add]
      rw [this]
      obtain ⟨l⟩ := cs
      simp at hcs; subst hcs; rfl
    · simp at h2
  · simp at h1

/-- A package variable, a slice, reads behind the call as ahead of it. -/
theorem var_stays {H : Type} {enc : TypeId × Value → H} {P : Program} (hl : laidOutB P = true) {W W' : World} (bel : Below W.heap.size W W') {n : String} {g : Nat} {t e : TypeId} {cs : Array Value} {f : Nat} {d : DataW H} {p : List MemPlace}
    (hg : P.globalNamed n = some g) (hv : W.var? P n = some cs) (hu : P.underlying t = some (.slice e)) (hr : P.readableRec t = true) (ht : t < P.types.size) (h : DataW.trod enc P W 0 (fun _ => true) true f t cs.toList = some (d, p)) :
    W'.var? P n = some cs ∧ ∃ f', DataW.trod enc P W' 0 (fun b => decide (b < W.heap.size)) true f' t cs.toList = some (d, p) := by
  constructor
  · unfold World.var? at hv ⊢
    rw [hg] at hv ⊢
    simp only [Option.bind_some] at hv ⊢
    have hlt : g < W.heap.size := by
      rcases Nat.lt_or_ge g W.heap.size with h1 | h1
      · exact h1
      · rw [Array.getElem?_eq_none h1] at hv; cases hv
    rw [bel.block g hlt]; exact hv
  · obtain ⟨v, hcs⟩ : ∃ v : Value, cs.toList = v.cells.toList := by
      rcases DataW.trod_slice hu h with ⟨h0, _⟩ | ⟨a, len, cap, _, _, _, _, h0, _⟩
      · exact ⟨.slice none 0 0, h0⟩
      · exact ⟨.slice (some a) len cap, h0⟩
    have lt := DataW.trod_lt f _ _ _ h
    rw [hcs] at h ⊢
    exact Below.trod hl hr ht ⟨f, h⟩ bel lt

/-- A slice of bytes is no longer than its weight allows. -/
theorem sized8 {H : Type} {enc : TypeId × Value → H} {P : Program} {W : World} {base : Nat} {spare : Nat → Bool} {held : Bool} {t e : TypeId} {a : Option Addr} {len cap : Nat} {d : DataW H} {ps : List MemPlace} {ts : List TypeId} {ds : List (DataW H)} {j : Nat}
    (hsz : (DataW.weightsEach P ts ds).all (· ≤ reachBytes) = true) (ht : ts[j]? = some t) (hd : ds[j]? = some d) (hu : P.underlying t = some (.slice e)) (he : P.underlying e = some (.int .u8)) (hc : P.cellsOf e = 1) (hB : P.bytesOf e = 1)
    (h : DataW.Trod enc P W base spare held t (.slice a len cap) d ps) : len ≤ 140737488351232 := by
  obtain ⟨fuel, hf⟩ := h
  rcases Go.ChangeShapes.open_ints hu he hc hf with ⟨hcs, _⟩ | ⟨x, l, c, zs, hcs, _, hl, _, hz, hx, _, _⟩
  · simp [Value.cells] at hcs
    omega
  · simp [Value.cells] at hcs
    obtain ⟨rfl, rfl, rfl⟩ := hcs
    obtain ⟨hx, _⟩ := Prod.mk.inj hx
    subst hx
    have z := sized_slice hsz ht hd hu
    rw [hB] at z
    have hl2 : len ≤ zs.length := by
      rw [hz]; split
      · exact hl
      · exact Nat.le_refl _
    have h1 : (Go.ChangeShapes.lits (H := H) .u8 (zs.take len)).length = len := by simp [Go.ChangeShapes.lits]; omega
    have h2 : reachBytes = 140737488351232 := rfl
    omega
end Go.AM
end
section
/- Pure programs: guards, parts of lists, loops, rows of lists; and the walk beside them. Conditions: none. -/
namespace Go.AM
open Go

/-- Goes on where something holds. -/
def gd {α : Type} (b : Bool) (k : Option α) : Option α := cond b k none
theorem gd_some {α : Type} {b : Bool} {k : Option α} {r : α} (h : gd b k = some r) : b = true ∧ k = some r := by
  cases b with
  | true => exact ⟨rfl, h⟩
  | false => cases h
theorem gd_t {α : Type} (k : Option α) : gd true k = k := rfl
theorem bind_some' {α β : Type} {o : Option α} {k : α → Option β} {r : β} (h : o.bind k = some r) : ∃ x, o = some x ∧ k x = some r := by
  cases o with
  | none => cases h
  | some x => exact ⟨x, rfl, h⟩
theorem cond_t {α : Type} {b : Bool} {x y r : α} (h : cond b x y = r) (hb : b = true) : x = r := by subst hb; exact h
theorem cond_f {α : Type} {b : Bool} {x y r : α} (h : cond b x y = r) (hb : b = false) : y = r := by subst hb; exact h

/-- Rows of a list. -/
def R {α : Type} (f : α → List AV) (l : List α) : List (List AV) := l.map f
section
variable {α : Type} (f : α → List AV) (l m : List α)
theorem R_nil : R f [] = [] := rfl
theorem R_cons (x : α) : f x :: R f l = R f (x :: l) := rfl
theorem R_cne (x : α) : (R f (x :: l) = []) = False := by simp [R]
theorem R_len : (R f l).length = l.length := List.length_map ..
theorem R_app : R f l ++ R f m = R f (l ++ m) := List.map_append.symm
theorem R_take (n : Nat) : (R f l).take n = R f (l.take n) := List.map_take.symm
theorem R_drop (n : Nat) : (R f l).drop n = R f (l.drop n) := List.map_drop.symm
theorem R_set (n : Nat) (x : α) : (R f l).set n (f x) = R f (l.set n x) := List.map_set.symm
theorem R_rep (n : Nat) (x : α) : List.replicate n (f x) = R f (List.replicate n x) := List.map_replicate.symm
theorem R_take_len : (R f l).take l.length = R f l := by rw [R_take, List.take_length]
theorem R_get [Inhabited α] {n : Nat} (h : n < l.length) : (R f l).getD n [] = f (l.getD n default) := by
  simp [R, List.getD, h]
end
attribute [go_sem] Bool.and_false Bool.false_and Bool.or_true Bool.true_or Bool.or_false Bool.false_or Bool.not_not R_cne R_nil R_len R_app R_take R_drop R_take_len List.take_length List.length_set List.length_replicate Int.toNat_natCast decide_true decide_false Bool.not_true Bool.not_false beq_true beq_false Bool.not_eq_false'

/-- An element of a list. -/
def idx {α : Type} [Inhabited α] (l : List α) (i : Int) : Option α := cond (decide (0 ≤ i) && decide (i < l.length)) (some (l.getD i.toNat default)) none
theorem idx_some {α : Type} [Inhabited α] {l : List α} {i : Int} {x : α} (h : idx l i = some x) : 0 ≤ i ∧ i < l.length ∧ (∀ f : α → List AV, (R f l).getD i.toNat [] = f x) ∧ l.getD i.toNat default = x := by
  unfold idx at h
  by_cases hi : 0 ≤ i ∧ i < l.length
  · have h0 : (decide (0 ≤ i) && decide (i < l.length)) = true := by simp [hi]
    rw [h0] at h
    injection h with h
    refine ⟨hi.1, hi.2, fun f => ?_, h⟩
    rw [R_get f l (by omega), h]
  · have h0 : (decide (0 ≤ i) && decide (i < l.length)) = false := by simpa using hi
    rw [h0] at h; cases h
/-- A part of a list. -/
def prt {α : Type} (l : List α) (a b : Int) : Option (List α) := cond (decide (0 ≤ a) && decide (a ≤ b) && decide (b ≤ l.length)) (some ((l.take b.toNat).drop a.toNat)) none
theorem prt_some {α : Type} {l m : List α} {a b : Int} (h : prt l a b = some m) : 0 ≤ a ∧ a ≤ b ∧ b ≤ l.length ∧ (l.take b.toNat).drop a.toNat = m := by
  unfold prt at h
  by_cases hi : (0 ≤ a ∧ a ≤ b) ∧ b ≤ l.length
  · have h0 : (decide (0 ≤ a) && decide (a ≤ b) && decide (b ≤ l.length)) = true := by simp [hi]
    rw [h0] at h
    injection h with h
    exact ⟨hi.1.1, hi.1.2, hi.2, h⟩
  · have h0 : (decide (0 ≤ a) && decide (a ≤ b) && decide (b ≤ l.length)) = false := by
      simp only [Bool.and_eq_false_iff, decide_eq_false_iff_not]; omega
    rw [h0] at h; cases h

def prtH {α : Type} (l : List α) (b : Int) : Option (List α) := cond (decide (0 ≤ b) && decide (b ≤ l.length)) (some (l.take b.toNat)) none
theorem prtH_some {α : Type} {l m : List α} {b : Int} (h : prtH l b = some m) : 0 ≤ b ∧ b ≤ l.length ∧ l.take b.toNat = m := by
  unfold prtH at h
  by_cases hi : 0 ≤ b ∧ b ≤ l.length
  · have h0 : (decide (0 ≤ b) && decide (b ≤ l.length)) = true := by simp [hi]
    rw [h0] at h
    injection h with h
    exact ⟨hi.1, hi.2, h⟩
  · have h0 : (decide (0 ≤ b) && decide (b ≤ l.length)) = false := by simpa using hi
    rw [h0] at h; cases h
def prtL {α : Type} (l : List α) (a : Int) : Option (List α) := cond (decide (0 ≤ a) && decide (a ≤ l.length)) (some (l.drop a.toNat)) none
theorem prtL_some {α : Type} {l m : List α} {b : Int} (h : prtL l b = some m) : 0 ≤ b ∧ b ≤ l.length ∧ l.drop b.toNat = m := by
  unfold prtL at h
  by_cases hi : 0 ≤ b ∧ b ≤ l.length
  · have h0 : (decide (0 ≤ b) && decide (b ≤ l.length)) = true := by simp [hi]
    rw [h0] at h
    injection h with h
    exact ⟨hi.1, hi.2, h⟩
  · have h0 : (decide (0 ≤ b) && decide (b ≤ l.length)) = false := by simpa using hi
    rw [h0] at h; cases h
/-- What may be added to, made. -/
def apOk (n b : Nat) : Bool := decide (n * b ≤ 140737488355328) && decide (n ≤ 140737488355328)
theorem apOk_1 {n b : Nat} (h : apOk n b = true) : n * b ≤ 140737488355328 := by simp [apOk] at h; exact h.1
theorem apOk_2 {n b : Nat} (h : apOk n b = true) : n ≤ 140737488355328 := by simp [apOk] at h; exact h.2
def mkOk (l m : Int) (b : Nat) : Bool := decide (0 ≤ l) && decide (l ≤ m) && decide (b * m ≤ 281474976710656) && decide (m ≤ 9223372036854775807)
theorem mkOk_some {l m : Int} {b : Nat} (h : mkOk l m b = true) : 0 ≤ l ∧ l ≤ m ∧ b * m ≤ 281474976710656 ∧ m ≤ 9223372036854775807 := by
  simp [mkOk] at h; exact ⟨h.1.1.1, h.1.1.2, h.1.2, h.2⟩
theorem ne_of_bne {a b : Int} (h : (a != b) = true) : ¬ a = b := by simpa using h
theorem dec_and {p q : Prop} [Decidable p] [Decidable q] (h : (decide p && decide q) = true) : p ∧ q := by simpa using h
theorem dec_and3 {p q r : Prop} [Decidable p] [Decidable q] [Decidable r] (h : (decide p && decide q && decide r) = true) : p ∧ q ∧ r := by simpa [and_assoc] using h
open Classical in
/-- What comes of both answers, where a list may be nil. -/
noncomputable def nilq {α β : Type} (l : List α) (f : Bool → Option β) : Option β := if l = [] then (if f true = f false then f true else none) else f false
theorem nilq_some {α β : Type} {l : List α} {f : Bool → Option β} {r : β} (h : nilq l f = some r) (b : Bool) (hb : b = true → l.length = 0) : f b = some r := by
  unfold nilq at h
  split at h
  · split at h
    · rename_i e
      cases b
      · rw [← e]; exact h
      · exact h
    · cases h
  · rename_i hl
    cases b with
    | false => exact h
    | true => exact absurd (List.eq_nil_of_length_eq_zero (hb rfl)) hl
theorem nilq_eq {α β : Type} {l : List α} {f : Bool → Option β} {r : β} (h0 : f false = some r) (h1 : l = [] → f true = some r) : nilq l f = some r := by
  unfold nilq
  split
  · rename_i e; rw [h1 e, h0, if_pos rfl]
  · exact h0
theorem isE_t {α : Type} {l : List α} (h : l.isEmpty = true) (f : α → List AV) : R f l = [] := by
  cases l with
  | nil => rfl
  | cons _ _ => cases h
theorem isE_f {α : Type} {l : List α} (h : l.isEmpty = false) (f : α → List AV) : ¬ R f l = [] := by
  cases l with
  | nil => cases h
  | cons _ _ => intro e; cases e
theorem wkR_nilR {α : Type} (f : α → List AV) : wkR [] (R f []) := trivial
theorem wkR_consR {α : Type} {f : α → List AV} {x : List AV} {xs : List (List AV)} {y : α} {l : List α} (h1 : wkL x (f y)) (h2 : wkR xs (R f l)) : wkR (x :: xs) (R f (y :: l)) := ⟨h1, h2⟩
theorem wkR0_nilR {α : Type} (f : α → List AV) : wkR0 [] (R f []) := trivial
theorem wkR0_consR {α : Type} {f : α → List AV} {x : List AV} {xs : List (List AV)} {y : α} {l : List α} (h1 : wkL0 x (f y)) (h2 : wkR0 xs (R f l)) : wkR0 (x :: xs) (R f (y :: l)) := ⟨h1, h2⟩
theorem wkR_repR {α : Type} {f : α → List AV} {z : List AV} {x : α} (h : wkL z (f x)) : ∀ n, wkR (List.replicate n z) (R f (List.replicate n x))
  | 0 => trivial
  | n + 1 => ⟨h, wkR_repR h n⟩
theorem wkR_appR {α : Type} {f : α → List AV} {ys : List (List AV)} {l m : List α} (h : wkR ys (R f m)) : wkR (R f l ++ ys) (R f (l ++ m)) := by
  rw [← R_app]; exact wkR_app (wkR_refl _) h

/-- Rounds: on with a new state, or out with a result. -/
def iterN {α β : Type} (f : α → Option (α ⊕ β)) : Nat → α → Option β
  | 0, _ => none
  | n + 1, a => (f a).bind fun x => match x with
    | .inl a' => iterN f n a'
    | .inr b => some b
theorem iterN_up {α β : Type} {f : α → Option (α ⊕ β)} {b : β} : ∀ {n : Nat} {a : α}, iterN f n a = some b → iterN f (n + 1) a = some b
  | 0, _, h => by cases h
  | n + 1, a, h => by
    obtain ⟨x, hx, h⟩ := bind_some' h
    rw [iterN, hx]
    cases x with
    | inl a' => exact iterN_up (n := n) h
    | inr c => exact h
theorem iterN_le {α β : Type} {f : α → Option (α ⊕ β)} {b : β} {n m : Nat} {a : α} (h : iterN f n a = some b) (hm : n ≤ m) : iterN f m a = some b := by
  induction hm with
  | refl => exact h
  | step _ ih => exact iterN_up ih
open Classical in
noncomputable def loop {α β : Type} (f : α → Option (α ⊕ β)) (a : α) : Option β := if h : ∃ b n, iterN f n a = some b then some h.choose else none
theorem loop_some {α β : Type} {f : α → Option (α ⊕ β)} {a : α} {b : β} : loop f a = some b ↔ ∃ n, iterN f n a = some b := by
  unfold loop
  constructor
  · intro h
    split at h
    · rename_i hx; injection h with h; subst h; exact hx.choose_spec
    · cases h
  · rintro ⟨n, hn⟩
    have hx : ∃ b n, iterN f n a = some b := ⟨b, n, hn⟩
    rw [dif_pos hx]
    obtain ⟨m, hm⟩ := hx.choose_spec
    have h1 := iterN_le hm (Nat.le_max_left m n)
    rw [iterN_le hn (Nat.le_max_right m n)] at h1
    exact h1.symm ▸ rfl
theorem loop_out {α β : Type} {f : α → Option (α ⊕ β)} {a : α} {b : β} (h : f a = some (.inr b)) : loop f a = some b := loop_some.2 ⟨1, by rw [iterN, h]; rfl⟩
theorem loop_on {α β : Type} {f : α → Option (α ⊕ β)} {a a' : α} (h : f a = some (.inl a')) : loop f a = loop f a' := by
  apply Option.ext
  intro b
  rw [loop_some, loop_some]
  constructor
  · rintro ⟨n, hn⟩
    cases n with
    | zero => cases hn
    | succ n => rw [iterN, h] at hn; exact ⟨n, hn⟩
  · rintro ⟨n, hn⟩
    exact ⟨n + 1, by rw [iterN, h]; exact hn⟩
/-- A loop, by what holds ahead of each round and a number that falls. -/
theorem loop_inv {α β : Type} {f : α → Option (α ⊕ β)} (I : α → Prop) (μ : α → Nat) (P : β → Prop) (h : ∀ a, I a → (∃ a', f a = some (.inl a') ∧ I a' ∧ μ a' < μ a) ∨ ∃ b, f a = some (.inr b) ∧ P b) : ∀ a, I a → ∃ b, loop f a = some b ∧ P b := by
  have key : ∀ n a, μ a ≤ n → I a → ∃ b, loop f a = some b ∧ P b := by
    intro n
    induction n with
    | zero =>
      intro a hn ha
      rcases h a ha with ⟨a', _, _, h3⟩ | ⟨b, h1, h2⟩
      · omega
      · exact ⟨b, loop_out h1, h2⟩
    | succ n ih =>
      intro a hn ha
      rcases h a ha with ⟨a', h1, h2, h3⟩ | ⟨b, h1, h2⟩
      · rw [loop_on h1]; exact ih a' (by omega) h2
      · exact ⟨b, loop_out h1, h2⟩
  exact fun a ha => key _ a (Nat.le_refl _) ha

/-- Kinds of states at one place. -/
inductive P2 where
  | a | b
inductive P3 where
  | a | b | c
inductive P4 where
  | a | b | c | d

section
variable {c : Cx} {CT : CTab} {nl : Nat} {lv : List Nat} {Q : Ex → St → Prop} {k : List It} {s : St}
/-- A place where several ways meet: told by a family of states. -/
theorem sem_cutJ {ι α : Type} {a b : Code} (T : ι → α → St) (φ : ι → α → Prop) (hJ : ∀ i x, φ i x → sem c CT nl lv Q (.code b :: k) .normal (T i x))
    (h : ∀ k', k' = .code b :: k → (∀ i x, φ i x → sem c CT nl lv Q k' .normal (T i x)) → sem c CT nl lv Q (.code a :: .join :: k') .normal s) : sem c CT nl lv Q (.code (.seq a b) :: k) .normal s := by
  rw [sem_seq]; exact h _ rfl hJ
theorem r_joinU {ι α : Type} {T : ι → α → St} {φ : ι → α → Prop} (J : ∀ i x, φ i x → sem c CT nl lv Q k .normal (T i x)) (ts : List Nat) (i : ι) (x : α) (hk : keepOk nl (autoE nl ts s) = true) (hb : Nat.ble s.os.length 1000000 = true)
    (h : wkSt (viewSt ts (autoE nl ts s) s) (T i x) ∧ φ i x) : sem c CT nl lv Q (.join :: k) .normal s :=
  .inr (.inl ⟨ts, _, T i x, ⟨hk, Nat.le_of_ble_eq_true hb⟩, h.1, J i x h.2⟩)
theorem r_joinV {ι α : Type} {T : ι → α → St} {φ : ι → α → Prop} (J : ∀ i x, φ i x → sem c CT nl lv Q k .normal (T i x)) (ts ks : List Nat) (i : ι) (x : α) (hk : keepOk nl ks = true) (hb : Nat.ble s.os.length 1000000 = true)
    (h : wkSt (viewSt ts ks s) (T i x) ∧ φ i x) : sem c CT nl lv Q (.join :: k) .normal s :=
  .inr (.inl ⟨ts, ks, T i x, ⟨hk, Nat.le_of_ble_eq_true hb⟩, h.1, J i x h.2⟩)
/-- A loop beside a pure one. -/
def backP {ι α β : Type} (nl : Nat) (ts : List Nat) (F : ι → α → St) (φ : ι → α → Prop) (f : α → Option (α ⊕ β)) (o : β) (n : Nat) (i : ι) (a : α) : St → Prop :=
  backB nl ts (fun p : Nat × ι × α => F p.2.1 p.2.2) (fun p => φ p.2.1 p.2.2 ∧ iterN f p.1 p.2.2 = some o) (fun p => p.1) (n + 1, i, a)
theorem sem_loopV {ι α β : Type} {b : Code} (ts ks : List Nat) (F : ι → α → St) (φ : ι → α → Prop) (f : α → Option (α ⊕ β)) (i0 : ι) (a0 : α) {o : β} (hL : loop f a0 = some o) (hk : keepOk nl ks = true) (hb : Nat.ble s.os.length 1000000 = true)
    (h0 : wkSt (viewSt ts ks s) (F i0 a0) ∧ φ i0 a0)
    (hr : ∀ n i a x k', k' = .back (backP nl ts F φ f o n i a) :: k → φ i a → f a = some x → (∀ a', x = .inl a' → iterN f n a' = some o) → (∀ q, x = .inr q → q = o) → sem c CT nl lv Q (.code b :: k') .normal (F i a)) :
    sem c CT nl lv Q (.code (.loop b) :: k) .normal s := by
  obtain ⟨n, hn⟩ := loop_some.1 hL
  refine sem_loop c CT nl lv Q k s b ts ks (fun p : Nat × ι × α => F p.2.1 p.2.2) (fun p => φ p.2.1 p.2.2 ∧ iterN f p.1 p.2.2 = some o) (fun p => p.1) (n, i0, a0) ⟨hk, Nat.le_of_ble_eq_true hb⟩ h0.1 ⟨h0.2, hn⟩ ?_
  rintro ⟨m, i, a⟩ ⟨hφ, hm⟩
  cases m with
  | zero => cases hm
  | succ m =>
    obtain ⟨x, hx, hm⟩ := bind_some' hm
    exact hr m i a x _ rfl hφ hx (fun a' e => by subst e; exact hm) (fun q e => by subst e; injection hm)
theorem sem_loopP {ι α β : Type} {b : Code} (ts : List Nat) (F : ι → α → St) (φ : ι → α → Prop) (f : α → Option (α ⊕ β)) (i0 : ι) (a0 : α) {o : β} (hL : loop f a0 = some o) (hk : keepOk nl (autoE nl ts s) = true) (hb : Nat.ble s.os.length 1000000 = true)
    (h0 : wkSt (viewSt ts (autoE nl ts s) s) (F i0 a0) ∧ φ i0 a0)
    (hr : ∀ n i a x k', k' = .back (backP nl ts F φ f o n i a) :: k → φ i a → f a = some x → (∀ a', x = .inl a' → iterN f n a' = some o) → (∀ q, x = .inr q → q = o) → sem c CT nl lv Q (.code b :: k') .normal (F i a)) :
    sem c CT nl lv Q (.code (.loop b) :: k) .normal s :=
  sem_loopV ts (autoE nl ts s) F φ f i0 a0 hL hk hb h0 hr
theorem r_backP {ι α β : Type} {ts : List Nat} {F : ι → α → St} {φ : ι → α → Prop} {f : α → Option (α ⊕ β)} {o : β} {n : Nat} {i0 : ι} {a0 : α} (i : ι) (a' : α) (hk : keepOk nl (autoE nl ts s) = true) (hb : Nat.ble s.os.length 1000000 = true)
    (h : wkSt (viewSt ts (autoE nl ts s) s) (F i a') ∧ φ i a') (hi : iterN f n a' = some o) : sem c CT nl lv Q (.back (backP nl ts F φ f o n i0 a0) :: k) .normal s :=
  ⟨autoE nl ts s, (n, i, a'), ⟨hk, Nat.le_of_ble_eq_true hb⟩, h.1, ⟨h.2, hi⟩, Nat.lt_succ_self n⟩
theorem r_backV {ι α β : Type} {ts : List Nat} {F : ι → α → St} {φ : ι → α → Prop} {f : α → Option (α ⊕ β)} {o : β} {n : Nat} {i0 : ι} {a0 : α} (ks : List Nat) (i : ι) (a' : α) (hk : keepOk nl ks = true) (hb : Nat.ble s.os.length 1000000 = true)
    (h : wkSt (viewSt ts ks s) (F i a') ∧ φ i a') (hi : iterN f n a' = some o) : sem c CT nl lv Q (.back (backP nl ts F φ f o n i0 a0) :: k) .normal s :=
  ⟨ks, (n, i, a'), ⟨hk, Nat.le_of_ble_eq_true hb⟩, h.1, ⟨h.2, hi⟩, Nat.lt_succ_self n⟩
theorem sem_ifh {x : Operand} {t f : Code} {e : Env} {os : List AO} {b : Bool} {α : Type} {u v r : α} (hb : ev c e x = .sc (.bool b)) (h : cond b u v = r) (ht : u = r → sem c CT nl lv Q (.code t :: k) .normal ⟨e, os⟩)
    (hf : v = r → sem c CT nl lv Q (.code f :: k) .normal ⟨e, os⟩) : sem c CT nl lv Q (.code (.cond x t f) :: k) .normal ⟨e, os⟩ :=
  sem_if hb (fun q => ht (cond_t h q)) (fun q => hf (cond_f h q))
theorem r_cN {b : Code} {k' : List It} (hk : k = .join :: .code b :: k') (h : sem c CT nl lv Q (.code b :: k') .normal s) : sem c CT nl lv Q k .normal s := by subst hk; exact r_join h
theorem r_cR {b : Code} {k' : List It} (hk : k = .join :: .code b :: k') (h : sem c CT nl lv Q k' .ret s) : sem c CT nl lv Q k .ret s := by subst hk; exact h
theorem r_cE {b : Code} {j : Nat} {k' : List It} (hk : k = .join :: .code b :: k') (h : sem c CT nl lv Q k' (.exit j) s) : sem c CT nl lv Q k (.exit j) s := by subst hk; exact h
theorem r_jR {b : Code} {k' : List It} (hk : k = .code b :: k') (h : sem c CT nl lv Q k' .ret s) : sem c CT nl lv Q (.join :: k) .ret s := by subst hk; exact h
theorem r_jE {b : Code} {j : Nat} {k' : List It} (hk : k = .code b :: k') (h : sem c CT nl lv Q k' (.exit j) s) : sem c CT nl lv Q (.join :: k) (.exit j) s := by subst hk; exact h
theorem r_bN {id : Nat} {k' : List It} (hk : k = .blk id :: k') (h : sem c CT nl lv Q k' .normal s) : sem c CT nl lv Q k .normal s := by subst hk; exact h
theorem r_bE {id : Nat} {k' : List It} (hk : k = .blk id :: k') (h : sem c CT nl lv Q k' .normal s) : sem c CT nl lv Q k (.exit id) s := by subst hk; exact r_blkE h
theorem r_bX {id j : Nat} {k' : List It} (hk : k = .blk id :: k') (hne : (j == id) = false) (h : sem c CT nl lv Q k' (.exit j) s) : sem c CT nl lv Q k (.exit j) s := by subst hk; exact r_blkX hne h
theorem r_bR {id : Nat} {k' : List It} (hk : k = .blk id :: k') (h : sem c CT nl lv Q k' .ret s) : sem c CT nl lv Q k .ret s := by subst hk; exact h
theorem r_kE {B : St → Prop} {j : Nat} {k' : List It} (hk : k = .back B :: k') (h : sem c CT nl lv Q k' (.exit j) s) : sem c CT nl lv Q k (.exit j) s := by subst hk; exact h
theorem r_kR {B : St → Prop} {k' : List It} (hk : k = .back B :: k') (h : sem c CT nl lv Q k' .ret s) : sem c CT nl lv Q k .ret s := by subst hk; exact h
section
variable {e : Env} {os : List AO} {rs : List ResultVar} {post : AV → List AO → Prop}
theorem r_eAR (hQ : endQ c nl rs post = Q) (hk : keepOk nl (autoK nl os []) = true) (hb : Nat.ble os.length 1000000 = true) (h : allP (resOk c os e) rs ∧ wkEnd (oneA (resA c (autoK nl os []) os e rs)) (viewS (autoK nl os []) os) post) : sem c CT nl lv Q [] .ret ⟨e, os⟩ := by
  subst hQ; exact endA_ret [] hk hb h
theorem r_eAN (hQ : endQ c nl rs post = Q) (hk : keepOk nl (autoK nl os []) = true) (hb : Nat.ble os.length 1000000 = true) (h : allP (resOk c os e) rs ∧ wkEnd (oneA (resA c (autoK nl os []) os e rs)) (viewS (autoK nl os []) os) post) : sem c CT nl lv Q [] .normal ⟨e, os⟩ := by
  subst hQ; exact endA_nrm [] hk hb h
theorem r_eOR (hQ : endQ c nl rs post = Q) (hk : keepOk nl (autoK nl os (resN c os e rs)) = true) (hb : Nat.ble os.length 1000000 = true) (h : allP (resOk c os e) rs ∧ wkEnd (oneA (resA c (autoK nl os (resN c os e rs)) os e rs)) (viewS (autoK nl os (resN c os e rs)) os) post) : sem c CT nl lv Q [] .ret ⟨e, os⟩ := by
  subst hQ; exact endO_ret hk hb h
theorem r_eON (hQ : endQ c nl rs post = Q) (hk : keepOk nl (autoK nl os (resN c os e rs)) = true) (hb : Nat.ble os.length 1000000 = true) (h : allP (resOk c os e) rs ∧ wkEnd (oneA (resA c (autoK nl os (resN c os e rs)) os e rs)) (viewS (autoK nl os (resN c os e rs)) os) post) : sem c CT nl lv Q [] .normal ⟨e, os⟩ := by
  subst hQ; exact endO_nrm hk hb h
theorem r_eVR (ks : List Nat) (hQ : endQ c nl rs post = Q) (hk : keepOk nl ks = true) (hb : Nat.ble os.length 1000000 = true) (h : allP (resOk c os e) rs ∧ wkEnd (oneA (resA c ks os e rs)) (viewS ks os) post) : sem c CT nl lv Q [] .ret ⟨e, os⟩ := by
  subst hQ; exact end_use_ret ks hk hb h
theorem r_eVN (ks : List Nat) (hQ : endQ c nl rs post = Q) (hk : keepOk nl ks = true) (hb : Nat.ble os.length 1000000 = true) (h : allP (resOk c os e) rs ∧ wkEnd (oneA (resA c ks os e rs)) (viewS ks os) post) : sem c CT nl lv Q [] .normal ⟨e, os⟩ := by
  subst hQ; exact end_use_nrm ks hk hb h
end
/-- A slice held against nil. -/
theorem r_nileq {op : BinOp} {t t' : Nat} {x : Operand} {H : List Nat} {all : Array Oper} {dst : Option Nat} {ty : Nat} {po : String} {af : Array Edge} {e : Env} {os : List AO}
    (h : (0 < (c.T t).sz ∧ isSliceT c t ∧ (op = .eql ∨ op = .neq) ∧ lenOk os (ev c e x) ∧ notStr (ev c e x)) ∧ ∀ b : Bool, (b = true → lenA (ev c e x) = 0) → sem c CT nl lv Q k .normal ⟨put e dst (.sc (.bool (if op = .eql then b else !b))), os⟩) :
    sem c CT nl lv Q (.op H all ⟨dst, .binOp op t x (.const (.slice none 0 0)) t', ty, po, af, none⟩ :: k) .normal ⟨e, os⟩ := by
  obtain ⟨⟨h1, h2, h3, h4, h5⟩, h6⟩ := h
  exact ⟨rfl, rfl, h1, h2, h3, h4, h5, h6⟩
theorem sem_ifT {x : Operand} {t f : Code} {e : Env} {os : List AO} (hb : ev c e x = .sc (.bool true)) (ht : sem c CT nl lv Q (.code t :: k) .normal ⟨e, os⟩) : sem c CT nl lv Q (.code (.cond x t f) :: k) .normal ⟨e, os⟩ :=
  sem_if hb (fun _ => ht) (fun h => by cases h)
theorem sem_ifF {x : Operand} {t f : Code} {e : Env} {os : List AO} (hb : ev c e x = .sc (.bool false)) (ht : sem c CT nl lv Q (.code f :: k) .normal ⟨e, os⟩) : sem c CT nl lv Q (.code (.cond x t f) :: k) .normal ⟨e, os⟩ :=
  sem_if hb (fun h => by cases h) (fun _ => ht)
end
/-! ### Texts -/
def bts (s : ByteArray) : List Int := s.data.toList.map fun b => (b.toNat : Int)
theorem strOf_R {α : Type} (e : α → List AV) (f : α → Int) (h : ∀ x, hdA (e x) = f x) (l : List α) : strOf (R e l) = bstr (l.map f) := by
  rw [strOf, R, List.map_map]; exact congrArg bstr (List.map_congr_left fun x _ => h x)
theorem byteRow_R {α : Type} (e : α → List AV) (h : ∀ x, byteRow (e x)) (l : List α) : allP byteRow (R e l) = True := by
  simp only [eq_iff_iff, iff_true, R]
  induction l with
  | nil => trivial
  | cons x l ih => exact ⟨h x, ih⟩
theorem noFz_R {α : Type} (e : α → List AV) (h : ∀ x, allP noFzC (e x)) (l : List α) : allP (allP noFzC) (R e l) = True := by
  simp only [eq_iff_iff, iff_true, R]
  induction l with
  | nil => trivial
  | cons x l ih => exact ⟨h x, ih⟩
theorem take_rep_self {α : Type} (n : Nat) (a : α) : (List.replicate n a).take n = List.replicate n a := by rw [List.take_replicate, Nat.min_self]
theorem take_set_self {α : Type} (l : List α) (i : Nat) (a : α) : (l.set i a).take l.length = l.set i a := List.take_of_length_le (by simp)
theorem take_set_self2 {α : Type} (l : List α) (i j : Nat) (a b : α) : ((l.set i a).set j b).take l.length = (l.set i a).set j b := List.take_of_length_le (by simp)
theorem take_set_self3 {α : Type} (l : List α) (i j k : Nat) (a b c : α) : (((l.set i a).set j b).set k c).take l.length = ((l.set i a).set j b).set k c := List.take_of_length_le (by simp)
attribute [go_sem] take_rep_self take_set_self take_set_self2 take_set_self3
/-- append(nil, make([]E, n)...). -/
def zaOk (n : Int) (b : Nat) : Bool := decide (0 ≤ n) && decide (n * (b : Int) ≤ 140737488355328) && decide (n ≤ 140737488355328)
theorem zaOk_some {n : Int} {b : Nat} (h : zaOk n b = true) : 0 ≤ n ∧ n * (b : Int) ≤ 140737488355328 ∧ n ≤ 140737488355328 := dec_and3 h
def zq (n : Int) : Bool := n == 0
theorem zq_t {n : Int} (h : zq n = true) : (n = 0) = True := by simpa [zq] using h
theorem zq_f {n : Int} (h : zq n = false) : (n = 0) = False := by simpa [zq] using h
/-- An array that the result alone names may be cut to what the result shows. -/
theorem Con.shrink {P : Program} {c : Cx} {f : Nat} {vs : List AV} {post post' : AV → List AO → Prop} (h : Con P c f vs [] post)
    (hp : ∀ x σ', post x σ' → post' x σ' ∨ ∃ s xs n, x = .sl 0 0 n ∧ σ' = [.arr true s xs] ∧ (n ≤ xs.length → post' x [.arr true s (xs.take n)])) : Con P c f vs [] post' := by
  refine ⟨h.1, fun X vals a1 a2 a3 a4 a5 a6 a7 => (h.2 X vals a1 a2 a3 a4 a5 a6 a7).mono ?_⟩
  rintro e w' ⟨v, x, σ', g', he, hpo, hs, hk, hr⟩
  rcases hp x σ' hpo with hq | ⟨s, xs, n, rfl, rfl, hq⟩
  · exact ⟨v, x, σ', g', he, hq, hs, hk, hr⟩
  · have hr' : RepC (rdF X [.arr true s xs] g' w') [.arr true s xs] g' w' (.sl 0 0 n) v := hr
    simp only [RepC, List.getElem?_cons_zero] at hr'
    obtain ⟨cap, q1, q2, q3⟩ := hr'
    have hn : n ≤ xs.length := by omega
    have hown : ∀ L, own [.arr true s (xs.take n)] L = own [.arr true s xs] L := by
      intro L; cases L <;> rfl
    have hrd : rdF X [.arr true s (xs.take n)] g' w' = rdF X [.arr true s xs] g' w' := by
      have hob : ownB [.arr true s (xs.take n)] g' = ownB [.arr true s xs] g' := by
        funext b; unfold ownB; exact congrArg Exists (funext fun L => by rw [hown])
      funext b o; unfold rdF; rw [show ownB [.arr true s (xs.take n)] g' b = ownB [.arr true s xs] g' b from congrFun hob b]
    have ho := hs.obj 0
    simp only [List.getElem?_cons_zero, OOk] at ho
    refine ⟨v, .sl 0 0 n, [.arr true s (xs.take n)], g', he, hq hn, ⟨hs.sys, hs.tape, hs.output, hs.size, hs.same, fun L hL => hs.bnd L (by rw [← hown]; exact hL), fun L M hL hM => hs.inj L M (by rw [← hown]; exact hL) (by rw [← hown]; exact hM), fun L => ?_⟩, ?_, ?_⟩
    · cases L with
      | succ L => simp [OOk]
      | zero =>
        simp only [List.getElem?_cons_zero, OOk, hrd]
        obtain ⟨p2, ⟨p0, rfl⟩ | ⟨b, p0, p1, cc, t, p3, p4, p5, p6⟩⟩ := ho
        · exact ⟨p2, .inl ⟨p0, List.take_nil⟩⟩
        refine ⟨p2, .inr ⟨b, p0, p1, cc, t, p3, ?_, fun y hy => p5 y (List.mem_of_mem_take hy), fun i k y z hy hz => ?_⟩⟩
        · rw [List.length_take]; exact Nat.le_trans (Nat.mul_le_mul_right _ (Nat.min_le_right _ _)) p4
        · rw [List.getElem?_take] at hy
          split at hy
          · exact p6 i k y z hy hz
          · cases hy
    · exact ⟨by simp, fun L o o' a a' e => by simp at e, fun L cs cs' e => by simp at e, fun L o a cs' e => by simp at e, fun L cs o a e => by simp at e, fun L e => by simp at e, hk.rm⟩
    · refine RepC.toV ?_
      simp only [RepC, List.getElem?_cons_zero]
      exact ⟨cap, q1, by rw [List.length_take]; omega, q3⟩
open Classical in
/-- What comes of ever deeper calls. -/
noncomputable def lim {β : Type} (h : Nat → Option β) : Option β := if q : ∃ b n, h n = some b then some q.choose else none
theorem lim_some {β : Type} {h : Nat → Option β} {b : β} (e : lim h = some b) : ∃ n, h n = some b := by
  unfold lim at e
  split at e
  · rename_i q; injection e with e; subst e; exact q.choose_spec
  · cases e
/-- More is told. -/
def le {β : Type} (o p : Option β) : Prop := ∀ b, o = some b → p = some b
theorem le_refl {β : Type} (o : Option β) : le o o := fun _ h => h
theorem le_none {β : Type} (o : Option β) : le none o := fun _ h => by cases h
theorem le_bind {α β : Type} {o p : Option α} {k m : α → Option β} (h1 : le o p) (h2 : ∀ x, le (k x) (m x)) : le (o.bind k) (p.bind m) := fun b h => by
  obtain ⟨x, hx, hk⟩ := bind_some' h
  rw [h1 x hx]; exact h2 x b hk
theorem le_cond {β : Type} {c : Bool} {x y z w : Option β} (h1 : le x z) (h2 : le y w) : le (cond c x y) (cond c z w) := by cases c <;> assumption
theorem le_gd {β : Type} {c : Bool} {x y : Option β} (h : le x y) : le (gd c x) (gd c y) := by cases c; exact le_refl _; exact h
theorem le_iter {α β : Type} {f g : α → Option (α ⊕ β)} (h : ∀ a, le (f a) (g a)) : ∀ (n : Nat) (a : α), le (iterN f n a) (iterN g n a)
  | 0, _ => le_refl _
  | n + 1, a => le_bind (h a) fun x => by
    cases x with
    | inl a' => exact le_iter h n a'
    | inr b => exact le_refl _
theorem le_loop {α β : Type} {f g : α → Option (α ⊕ β)} (h : ∀ a, le (f a) (g a)) (a : α) : le (loop f a) (loop g a) := fun b hb => by
  obtain ⟨n, hn⟩ := loop_some.1 hb
  exact loop_some.2 ⟨n, le_iter h n a b hn⟩
theorem le_sum {α β γ : Type} {f f' : α → Option γ} {g g' : β → Option γ} (h1 : ∀ a, le (f a) (f' a)) (h2 : ∀ b, le (g b) (g' b)) (x : α ⊕ β) : le (Sum.elim f g x) (Sum.elim f' g' x) := by
  cases x with
  | inl a => exact h1 a
  | inr b => exact h2 b
theorem le_nilq {α β : Type} {l : List α} {f g : Bool → Option β} (h : ∀ b, le (f b) (g b)) : le (nilq l f) (nilq l g) := fun b hb => by
  unfold nilq at hb ⊢
  split at hb
  · rename_i hl
    rw [if_pos hl]
    split at hb
    · rename_i e
      rw [e] at hb
      have h1 := h true b (by rw [e]; exact hb)
      rw [h1, h false b hb, if_pos rfl]
    · cases hb
  · rename_i hl
    rw [if_neg hl]; exact h false b hb
theorem lim_eq {β : Type} {h : Nat → Option β} (hm : ∀ n, le (h n) (h (n + 1))) {b : β} {n : Nat} (e : h n = some b) : lim h = some b := by
  have up : ∀ k n, le (h n) (h (n + k)) := by
    intro k
    induction k with
    | zero => intro n; exact le_refl _
    | succ k ih => intro n c hc; exact hm _ c (ih n c hc)
  have q : ∃ b n, h n = some b := ⟨b, n, e⟩
  unfold lim
  rw [dif_pos q]
  obtain ⟨m, hm2⟩ := q.choose_spec
  have h1 := up n m _ hm2
  have h2 := up m n _ e
  rw [Nat.add_comm] at h2
  rw [h1] at h2
  exact h2
/-- A result of which a part is told no more. -/
def dropL : List AV → List AV → Prop
  | [], [] => True
  | x :: r, y :: s => (y = x ∨ y = .junk) ∧ dropL r s
  | _, _ => False
theorem dropL_get : ∀ {xs ys : List AV}, dropL xs ys → ys.length = xs.length ∧ ∀ (i : Nat) y, ys[i]? = some y → ∃ x, xs[i]? = some x ∧ (y = x ∨ y = .junk)
  | [], [], _ => ⟨rfl, fun i z hz => by simp at hz⟩
  | x :: r, y :: s, h => by
    obtain ⟨h1, h2⟩ := dropL_get h.2
    refine ⟨by simp [h1], fun i z hz => ?_⟩
    cases i with
    | zero => cases hz; exact ⟨x, rfl, h.1⟩
    | succ i => simpa using h2 i z (by simpa using hz)
  | [], _ :: _, h => h.elim
  | _ :: _, [], h => h.elim
theorem noFzA_junk : noFzA .junk = True := rfl
theorem renA_junk (f : Nat → Nat) : renA f .junk = .junk := rfl
attribute [go_sem] noFzA_junk renA_junk
theorem Con.drop {P : Program} {c : Cx} {f : Nat} {vs : List AV} {σ : List AO} {post post' : AV → List AO → Prop} (h : Con P c f vs σ post)
    (hp : ∀ x σ', post x σ' → ∃ xs ys, x = .tup xs ∧ dropL xs ys ∧ post' (.tup ys) σ') : Con P c f vs σ post' := by
  refine ⟨h.1, fun X vals a1 a2 a3 a4 a5 a6 a7 => (h.2 X vals a1 a2 a3 a4 a5 a6 a7).mono ?_⟩
  rintro e w' ⟨v, x, σ', g', he, hpo, hs, hk, hr⟩
  obtain ⟨xs, ys, rfl, hd, hq⟩ := hp x σ' hpo
  obtain ⟨d1, d2⟩ := dropL_get hd
  obtain ⟨vs', hv, hl, hr⟩ := hr
  refine ⟨v, .tup ys, σ', g', he, hq, hs, hk, vs', hv, by omega, fun i y hy => ?_⟩
  obtain ⟨x, hx, hy2⟩ := d2 i y hy
  obtain ⟨u, hu, hr⟩ := hr i x hx
  refine ⟨u, hu, ?_⟩
  rcases hy2 with rfl | rfl
  · exact hr
  · trivial
/-! ### Rows that hold slices of ours -/
section
variable {c : Cx} {CT : CTab} {nl : Nat} {lv : List Nat} {Q : Ex → St → Prop} {k : List It} {e : Env} {os os0 : List AO}
theorem r_cO {b : Code} {k' : List It} (os1 : List AO) (hk : k = .join :: .code b :: k') (hn : NS1 os os0) (he : os0 = os1) (h : sem c CT nl lv Q (.code b :: k') .normal ⟨e, os1⟩) : sem c CT nl lv Q k .normal ⟨e, os⟩ := by
  subst hk; subst he; exact .inr (.inr ⟨_, hn, h⟩)
end
def cellsBut : Nat → List AV → Prop
  | _, [] => True
  | 0, _ :: r => allP cellP r
  | n + 1, x :: r => cellP x ∧ cellsBut n r
theorem cellsBut_get : ∀ {n : Nat} {r : List AV}, cellsBut n r → ∀ (j : Nat) y, j ≠ n → r[j]? = some y → cellP y
  | _, [], _, j, y, _, h => by simp at h
  | 0, _ :: r, hc, j, y, hj, h => by
    cases j with
    | zero => exact absurd rfl hj
    | succ j => exact allP_get hc (by simpa using h)
  | n + 1, x :: r, hc, j, y, hj, h => by
    cases j with
    | zero => simp at h; subst h; exact hc.1
    | succ j => exact cellsBut_get hc.2 j y (by omega) (by simpa using h)
theorem n_cls {os : List AO} (L k : Nat) {z s i N n : Nat} {xs ys : List (List AV)} {row : List AV} (hL : os[L]? = some (.nst z xs (some (i, row)))) (hk : row[k]? = some (.sl N 0 n)) (hN : os[N]? = some (.arr true s ys)) (hn : n = ys.length) (hc : cellsBut k row) :
    NS1 os ((os.set L (.nst z (xs.set i (row.set k (.own s ys))) none)).set N .dead) := by
  subst hn; exact .cls L k hL hk hN (cellsBut_get hc)
theorem R_some {α : Type} [Inhabited α] {l : List α} {i : Int} {m : Nat} {x : α} {f : α → List AV} (e : i.toNat = m) (h : 0 ≤ i ∧ i < l.length ∧ ∀ f : α → List AV, (R f l).getD m [] = f x) : (R f l)[m]? = some (f x) := by
  subst e
  obtain ⟨h1, h2, h3⟩ := h
  have hl : i.toNat < (R f l).length := by rw [R_len]; omega
  rw [← h3 f, List.getD, List.getElem?_eq_getElem hl]; rfl
theorem unO_R {α : Type} (e e' : α → List AV) (h : ∀ x, (e x).map unO = e' x) (l : List α) : ((R e l).map fun x => x.map unO) = R e' l := by
  simp only [R, List.map_map]; exact List.map_congr_left fun x _ => h x
theorem mk_R {α : Type} (e : α → List AV) (k s : Nat) (z : List AV) (x : α) (h : mkRow k s z = e x) (n : Nat) : (List.replicate n z).map (mkRow k s) = R e (List.replicate n x) := by
  simp only [R, List.map_replicate, h]
theorem noFz0_R {α : Type} (e : α → List AV) (h : ∀ x, allP noFz0 (e x)) (l : List α) : allP (allP noFz0) (R e l) := by
  simp only [R]
  induction l with
  | nil => trivial
  | cons x l ih => exact ⟨h x, ih⟩
section
variable (z : Nat) (xs : List (List AV))
theorem noFzO_nst : noFzO (.nst z xs none) = allP (allP noFzC) xs := rfl
theorem renO_nst (f : Nat → Nat) : renO f (.nst z xs none) = .nst z xs none := rfl
theorem viewO_nst (ks : List Nat) (os : List AO) : viewO ks os (.nst z xs none) = .nst z xs none := rfl
theorem shownO_nst (ks : List Nat) : shownO ks (.nst z xs none) = [] := rfl
theorem viewO_nstS (ks : List Nat) (os : List AO) (j : Nat) (row : List AV) : viewO ks os (.nst z xs (some (j, row))) = .nst z xs (some (j, row.map (viewC ks os))) := rfl
theorem renO_nstS (f : Nat → Nat) (j : Nat) (row : List AV) : renO f (.nst z xs (some (j, row))) = .nst z xs (some (j, row.map (renC f))) := rfl
theorem shownO_nstS (ks : List Nat) (j : Nat) (row : List AV) : shownO ks (.nst z xs (some (j, row))) = row.flatMap (shownC ks) := rfl
theorem isOwn_nst (op : Option (Nat × List AV)) : isOwn (some (.nst z xs op)) = True := rfl
theorem isDeadO_nst (op : Option (Nat × List AV)) : isDeadO (some (.nst z xs op)) = false := rfl
theorem nmO_nst (op : Option (Nat × List AV)) : nmO (some (.nst z xs op)) = [] := rfl
theorem unO_sc (v : Value) : unO (.sc v) = .sc v := rfl
theorem unO_own : unO (.own z xs) = .fz z xs := rfl
end
attribute [go_sem] noFzO_nst renO_nst viewO_nst shownO_nst viewO_nstS renO_nstS shownO_nstS isOwn_nst isDeadO_nst nmO_nst recN_nst
end Go.AM
end
