/- Rules of the walk by which calls, ends and loops go by themselves. Conditions: none. -/
import Derived.Test.YtcnlhdaeeeolbaaAmS
set_option linter.unusedSimpArgs false
set_option linter.unusedVariables false
namespace Go.AM
open Go

/-- What is lent: by places of arguments and of their cells. -/
def nameOf1 : AV → List Nat
  | .clo _ ps => ps.map fun p => p.1
  | .sl L _ _ => [L]
  | .pt L _ => [L]
  | .pa L _ _ => [L]
  | _ => []

def cellAt (os : List AO) (j : Nat) : AV → AV
  | .pt L k => match os[L]? with
    | some (.rc cs) => cs.getD (k + j) .junk
    | _ => .junk
  | _ => .junk

def lendAt (os : List AO) (x : AV) : List Nat → List Nat
  | [] => nameOf1 x
  | j :: r => lendAt os (cellAt os j x) r

def lendOf (os : List AO) (vs : List AV) : List (List Nat) → List Nat
  | [] => []
  | [] :: r => lendOf os vs r
  | (i :: p) :: r => lendAt os (vs.getD i .junk) p ++ lendOf os vs r

/-- A call whose arguments are told. -/
def callW (CT : CTab) (n : Nat) (vs : List AV) (σ : List AO) (K : AV → List AO → Prop) : Prop := ∃ post, CT n vs σ post ∧ ∀ x σ', post x σ' → K x σ'

/-- A state behind a call. -/
def behind (c : Cx) (CT : CTab) (nl : Nat) (lv : List Nat) (Q : Ex → St → Prop) (k : List It) (e : Env) (dst : Option Nat) (lend : List Nat) (n : Nat) (os : List AO) (x : AV) (σ' : List AO) : Prop :=
  sem c CT nl lv Q k .normal ⟨put e dst (renV (backN lend n) x), merge lend os σ'⟩

section
variable {c : Cx} {CT : CTab} {nl : Nat} {lv : List Nat} {Q : Ex → St → Prop} {k : List It} {e : Env} {os : List AO} {H : List Nat} {dst : Option Nat} {n : Nat} {vs : List AV}

theorem call_open (ps : List (List Nat)) (h : nodupN (lendOf os vs ps) = true ∧ allP (fun L => own os L ∧ memN H L = false) (lendOf os vs ps) ∧
    callW CT n (vs.map (viewV (lendOf os vs ps) os)) (viewS (lendOf os vs ps) os) (behind c CT nl lv Q k e dst (lendOf os vs ps) os.length (unownN os (shownAll (lendOf os vs ps) os vs)))) : callR c CT nl lv Q H n vs e os dst k := by
  obtain ⟨h1, h2, post, h3, h4⟩ := h
  exact call_use (lendOf os vs ps) h3 rfl rfl h1 h2 h4

/-- A call that keeps nothing: its results hold no slice. -/
theorem call_openF (ps : List (List Nat)) (h : nodupN (lendOf os vs ps) = true ∧ allP (fun L => own os L ∧ memN H L = false) (lendOf os vs ps) ∧
    callW CT n (vs.map (viewV (lendOf os vs ps) os)) (viewS (lendOf os vs ps) os) (fun x σ' => (noFzV x ∧ allP noFzO σ') ∧ behind c CT nl lv Q k e dst (lendOf os vs ps) os.length os x σ')) : callR c CT nl lv Q H n vs e os dst k := by
  obtain ⟨h1, h2, post, h3, h4⟩ := h
  exact ⟨lendOf os vs ps, false, post, h3, h1, h2, fun x σ' hx => ⟨fun _ => (h4 x σ' hx).1, (h4 x σ' hx).2⟩⟩

theorem i_callW {σ : List AO} {K : AV → List AO → Prop} (h : callW CT n vs σ K) : callW CT n vs σ K := h
theorem callW_use {σ : List AO} {post : AV → List AO → Prop} {K : AV → List AO → Prop} (con : CT n vs σ post) (h : ∀ x σ', post x σ' → K x σ') : callW CT n vs σ K := ⟨post, con, h⟩

theorem behind_eq (lend : List Nat) (m : Nat) (x : AV) (σ' : List AO) : behind c CT nl lv Q k e dst lend m os x σ' = sem c CT nl lv Q k .normal ⟨put e dst (renV (backN lend m) x), merge lend os σ'⟩ := rfl
theorem behind_go {lend : List Nat} {m : Nat} {x : AV} {σ' : List AO} (h : sem c CT nl lv Q k .normal ⟨put e dst (renV (backN lend m) x), merge lend os σ'⟩) : behind c CT nl lv Q k e dst lend m os x σ' := h
end

theorem lendOf_nil (os : List AO) (vs : List AV) : lendOf os vs [] = [] := rfl
theorem lendOf_cons (os : List AO) (vs : List AV) (i : Nat) (p : List Nat) (r : List (List Nat)) : lendOf os vs ((i :: p) :: r) = lendAt os (vs.getD i .junk) p ++ lendOf os vs r := rfl
theorem lendAt_nil (os : List AO) (x : AV) : lendAt os x [] = nameOf1 x := rfl
theorem lendAt_cons (os : List AO) (x : AV) (j : Nat) (r : List Nat) : lendAt os x (j :: r) = lendAt os (cellAt os j x) r := rfl
theorem cellAt_pt (os : List AO) (j L k : Nat) : cellAt os j (.pt L k) = match os[L]? with
    | some (.rc cs) => cs.getD (k + j) .junk
    | _ => .junk := rfl
theorem nameOf1_sl (L o n : Nat) : nameOf1 (.sl L o n) = [L] := rfl
theorem nameOf1_pt (L k : Nat) : nameOf1 (.pt L k) = [L] := rfl
theorem nameOf1_sc (v : Value) : nameOf1 (.sc v) = [] := rfl
theorem nameOf1_fz (z : Nat) (xs : List (List AV)) : nameOf1 (.fz z xs) = [] := rfl
theorem nodupN_nil : nodupN [] = true := rfl
theorem nodupN_cons (a : Nat) (r : List Nat) : nodupN (a :: r) = ((pos r a).isNone && nodupN r) := rfl

/-- The end. -/
def wkEnd (x : AV) (σ : List AO) (post : AV → List AO → Prop) : Prop := ∃ y τ, wkV x y ∧ wkS σ τ ∧ post y τ

section
variable {c : Cx} {nl : Nat} {rs : List ResultVar} {post : AV → List AO → Prop} {e : Env} {os : List AO}
theorem end_use_ret (ks : List Nat) (hk : keepOk nl ks = true) (hb : Nat.ble os.length 1000000 = true) (h : allP (resOk c os e) rs ∧ wkEnd (oneA (resA c ks os e rs)) (viewS ks os) post) : endQ c nl rs post .ret ⟨e, os⟩ := by
  obtain ⟨h1, y, τ, h2, h3, h4⟩ := h
  exact ⟨h1, ks, y, τ, ⟨hk, Nat.le_of_ble_eq_true hb⟩, h2, h3, h4⟩
theorem end_use_nrm (ks : List Nat) (hk : keepOk nl ks = true) (hb : Nat.ble os.length 1000000 = true) (h : allP (resOk c os e) rs ∧ wkEnd (oneA (resA c ks os e rs)) (viewS ks os) post) : endQ c nl rs post .normal ⟨e, os⟩ := by
  obtain ⟨h1, y, τ, h2, h3, h4⟩ := h
  exact ⟨h1, ks, y, τ, ⟨hk, Nat.le_of_ble_eq_true hb⟩, h2, h3, h4⟩
theorem wkEnd_same {x : AV} {σ : List AO} (h : post x σ) : wkEnd x σ post := ⟨x, σ, .inl rfl, wkS_refl _, h⟩
theorem wkEnd_mk {x y : AV} {σ τ : List AO} (h1 : wkV x y) (h2 : wkS σ τ) (h : post y τ) : wkEnd x σ post := ⟨y, τ, h1, h2, h⟩
end

theorem wkL_nil : wkL [] [] := trivial
theorem wkL_cons {x y : AV} {r s : List AV} (h1 : wkC x y) (h2 : wkL r s) : wkL (x :: r) (y :: s) := ⟨h1, h2⟩
theorem wkT_nil : wkT [] [] := trivial
theorem wkT_cons {x y : AV} {r s : List AV} (h1 : wkA x y) (h2 : wkT r s) : wkT (x :: r) (y :: s) := ⟨h1, h2⟩
theorem wkM_nil : wkM [] [] := trivial
theorem wkM_cons {x y : AV} {r s : List AV} (h1 : wkD x y) (h2 : wkM r s) : wkM (x :: r) (y :: s) := ⟨h1, h2⟩
theorem wkD_nil (s : Nat) : wkD (.sc (.slice none 0 0)) (.fz s []) := .inl (.inr (.inl ⟨rfl, s, rfl⟩))
theorem wkD_sl (L : Nat) : wkD (.sc (.slice none 0 0)) (.sl L 0 0) := .inr ⟨rfl, L, rfl⟩
theorem wkA_sl (L : Nat) : wkA (.sc (.slice none 0 0)) (.sl L 0 0) := .inr (wkD_sl L)
theorem wkV_sl (L : Nat) : wkV (.sc (.slice none 0 0)) (.sl L 0 0) := .inr (.inr (wkD_sl L))
theorem wkV_agg {cs ds : List AV} (h : wkM cs ds) : wkV (.agg cs) (.agg ds) := .inr (.inr h)
theorem wkV_tup {cs ds : List AV} (h : wkT cs ds) : wkV (.tup cs) (.tup ds) := .inr h
theorem wkA_agg {cs ds : List AV} (h : wkM cs ds) : wkA (.agg cs) (.agg ds) := .inr h
theorem wkA_refl (x : AV) : wkA x x := .inl rfl
theorem wkA_nil (s : Nat) : wkA (.sc (.slice none 0 0)) (.fz s []) := .inr (wkD_nil s)
theorem wkS_nil : wkS [] [] := trivial
theorem wkS_cons {x y : AO} {r s : List AO} (h1 : wkO x y) (h2 : wkS r s) : wkS (x :: r) (y :: s) := ⟨h1, h2⟩
theorem wkO_refl (x : AO) : wkO x x := .inl rfl
theorem wkO_rc {cs ds : List AV} (h : wkM cs ds) : wkO (.rc cs) (.rc ds) := .inr h
theorem wkO_arr {b : Bool} {z : Nat} {xs ys : List (List AV)} (h : wkR xs ys) : wkO (.arr b z xs) (.arr b z ys) := .inr ⟨rfl, rfl, h⟩
theorem wkR_nil : wkR [] [] := trivial
theorem wkR_cons {x y : List AV} {r s : List (List AV)} (h1 : wkL x y) (h2 : wkR r s) : wkR (x :: r) (y :: s) := ⟨h1, h2⟩
theorem wkE_nil : wkE [] [] := trivial
theorem wkE_cons {i : Nat} {x y : AV} {r s : Env} (h1 : wkV x y) (h2 : wkE r s) : wkE ((i, x) :: r) ((i, y) :: s) := ⟨rfl, h1, h2⟩
theorem wkSt_mk {e e' : Env} {os os' : List AO} (h1 : wkE e e') (h2 : wkS os os') : wkSt ⟨e, os⟩ ⟨e', os'⟩ := ⟨h1, h2⟩
theorem wkC_refl (x : AV) : wkC x x := .inl rfl
theorem wkC_nil (s : Nat) : wkC (.sc (.slice none 0 0)) (.fz s []) := .inr (.inl ⟨rfl, s, rfl⟩)
theorem wkL0_nil : wkL0 [] [] := trivial
theorem wkC0_refl (x : AV) : wkC0 x x := .inl rfl
theorem wkC0_nil (s : Nat) : wkC0 (.sc (.slice none 0 0)) (.fz s []) := .inr ⟨rfl, s, rfl⟩
theorem wkL0_cons {x y : AV} {r s : List AV} (h1 : wkC0 x y) (h2 : wkL0 r s) : wkL0 (x :: r) (y :: s) := ⟨h1, h2⟩
theorem wkR0_cons {x y : List AV} {r s : List (List AV)} (h1 : wkL0 x y) (h2 : wkR0 r s) : wkR0 (x :: r) (y :: s) := ⟨h1, h2⟩
theorem wkC_fz {s : Nat} {xs ys : List (List AV)} (h : wkR0 xs ys) : wkC (.fz s xs) (.fz s ys) := .inr (.inr ⟨s, xs, ys, rfl, rfl, h⟩)
theorem wkA_fz {s : Nat} {xs ys : List (List AV)} (h : wkR0 xs ys) : wkA (.fz s xs) (.fz s ys) := .inr (.inl (wkC_fz h))
theorem wkD_fz {s : Nat} {xs ys : List (List AV)} (h : wkR0 xs ys) : wkD (.fz s xs) (.fz s ys) := .inl (wkC_fz h)
theorem wkV_fz {s : Nat} {xs ys : List (List AV)} (h : wkR0 xs ys) : wkV (.fz s xs) (.fz s ys) := .inr (.inr (.inl (wkC_fz h)))
theorem wkV_nil (s : Nat) : wkV (.sc (.slice none 0 0)) (.fz s []) := .inr (.inr (wkD_nil s))

/-- A condition's fact, told plainly. -/
theorem bif_or (a b : Bool) : (bif a then true else b) = (a || b) := by cases a <;> rfl
theorem bif_and (a b : Bool) : (bif a then b else false) = (a && b) := by cases a <;> rfl

section
variable {c : Cx} {CT : CTab} {nl : Nat} {lv : List Nat} {Q : Ex → St → Prop} {k : List It} {s : St}
/-- What holds behind a round. -/
def backB {α : Type} (nl : Nat) (ts : List Nat) (F : α → St) (φ : α → Prop) (μ : α → Nat) (a : α) (s' : St) : Prop := ∃ ks a', keepP nl ks s'.os ∧ wkSt (viewSt ts ks s') (F a') ∧ φ a' ∧ μ a' < μ a
/-- A loop: by a family of states. -/
theorem sem_loop' {α : Type} {b : Code} (ts : List Nat) (F : α → St) (φ : α → Prop) (μ : α → Nat) (ks : List Nat) (a0 : α) (hk : keepOk nl ks = true) (hb : Nat.ble s.os.length 1000000 = true) (h0 : wkSt (viewSt ts ks s) (F a0) ∧ φ a0)
    (hr : ∀ a, φ a → sem c CT nl lv Q (.code b :: .back (backB nl ts F φ μ a) :: k) .normal (F a)) : sem c CT nl lv Q (.code (.loop b) :: k) .normal s :=
  sem_loop c CT nl lv Q k s b ts ks F φ μ a0 ⟨hk, Nat.le_of_ble_eq_true hb⟩ h0.1 h0.2 hr
theorem back_use {α : Type} {ts : List Nat} {F : α → St} {φ : α → Prop} {μ : α → Nat} {a : α} (ks : List Nat) (a' : α) (hk : keepOk nl ks = true) (hb : Nat.ble s.os.length 1000000 = true) (h : wkSt (viewSt ts ks s) (F a') ∧ φ a' ∧ μ a' < μ a) :
    sem c CT nl lv Q (.back (backB nl ts F φ μ a) :: k) .normal s := ⟨ks, a', ⟨hk, Nat.le_of_ble_eq_true hb⟩, h⟩
end

theorem wkSt_same {s t : St} (h : s = t) : wkSt s t := by subst h; exact wkSt_refl _

section
variable (os : List AO)
theorem litOk_nil (ti : TI) (n : Nat) : litOk os ti n [] = True := rfl
theorem litElems_zero (ti : TI) (ps : List (Nat × AV)) : litElems ti 0 ps = [] := rfl
theorem seqT_some (c : Cx) (u : Nat) : seqT c (some u) = (0 < (c.T u).sz ∧ (match (c.T u).kind with | .slice _ | .str => True | _ => False)) := rfl
theorem appBase_nil : appBase os (.sc (.slice none 0 0)) = True := rfl
theorem appBase_sl (L o n : Nat) : appBase os (.sl L o n) = (o = 0 ∧ (match os[L]? with
    | some (.arr true _ _) => True
    | _ => False)) := rfl
theorem appNew_str (s : ByteArray) : appNew os (.sc (.string s)) = strElems s := rfl
theorem appNew_nil : appNew os (.sc (.slice none 0 0)) = [] := rfl
theorem appNew_fz (z : Nat) (xs : List (List AV)) : appNew os (.fz z xs) = xs := rfl
theorem appNew_sl (L o n : Nat) : appNew os (.sl L o n) = elems os (.sl L o n) := rfl
theorem appNewOk_str (sz : Nat) (s : ByteArray) : appNewOk os sz (.sc (.string s)) = (sz = 1) := rfl
theorem appNewOk_nil (sz : Nat) : appNewOk os sz (.sc (.slice none 0 0)) = True := rfl
theorem appNewOk_fz (sz z : Nat) (xs : List (List AV)) : appNewOk os sz (.fz z xs) = (z = sz ∨ xs = []) := rfl
theorem appNewOk_sl (sz L o n : Nat) : appNewOk os sz (.sl L o n) = (match os[L]? with
    | some (.arr _ s _) => s = sz
    | _ => False) := rfl
theorem isNil_nil : isNil (.sc (.slice none 0 0)) = true := rfl
theorem isNil_sl (L o n : Nat) : isNil (.sl L o n) = false := rfl
theorem isNil_fz (z : Nat) (xs : List (List AV)) : isNil (.fz z xs) = false := rfl
theorem kill_nil : kill os (.sc (.slice none 0 0)) = os := rfl
theorem kill_sl (L o n : Nat) : kill os (.sl L o n) = os.set L .dead := rfl
theorem appBound_eq : appBound = 140737488355328 := rfl
end
attribute [go_sem] litOk_nil litElems_zero seqT_some appBase_nil appBase_sl appNew_str appNew_nil appNew_fz appNew_sl appNewOk_str appNewOk_nil appNewOk_fz appNewOk_sl isNil_nil isNil_sl isNil_fz kill_nil kill_sl appBound_eq false_imp_iff true_or or_true
section
variable (c : Cx) (CT : CTab) (nl : Nat) (lv : List Nat) (Q : Ex → St → Prop) (k : List It) (e : Env) (os : List AO) (all : Array Oper) (H : List Nat)
def planL (p : Plan) : Option Oper → Prop
  | some o => sem c CT nl lv Q (.op [] all o :: .plan all H p :: k) .normal ⟨e, os⟩
  | none => False
theorem sem_plan_twoE (i j : Nat) (p q : Plan) : sem c CT nl lv Q (.plan all H (.two i j p q) :: k) .normal ⟨e, os⟩ = (planR c CT nl lv Q k all e os H false p all[i]? ∧ planR c CT nl lv Q k all e os H false q all[j]?) := by
  cases h : all[i]? with
  | none => simp only [sem, planA, h, planR, false_and]
  | some o =>
    cases h' : all[j]? with
    | none => simp only [sem, planA, h, h', planR, and_false]
    | some u => simp only [sem, planA, h, h', planR, Bool.false_eq_true, false_imp_iff, true_and]
theorem planL_eq (i : Nat) (p : Plan) : sem c CT nl lv Q (.plan all H (.last i p) :: k) .normal ⟨e, os⟩ = planL c CT nl lv Q k e os all H p all[i]? := by
  cases h : all[i]? with
  | none => simp only [sem, planA, h, planL]
  | some o => simp only [sem, planA, h, planL]
theorem planL_some (p : Plan) (o : Oper) : planL c CT nl lv Q k e os all H p (some o) = sem c CT nl lv Q (.op [] all o :: .plan all H p :: k) .normal ⟨e, os⟩ := rfl
end
theorem pw_1 (k : IntKind) : pw k 1 = 2 := by cases k <;> rfl
theorem pw_2 (k : IntKind) : pw k 2 = 4 := by cases k <;> rfl
theorem pw_3 (k : IntKind) : pw k 3 = 8 := by cases k <;> rfl
theorem pw_4 (k : IntKind) : pw k 4 = 16 := by cases k <;> rfl
theorem pw_5 (k : IntKind) : pw k 5 = 32 := by cases k <;> rfl
theorem pw_6 (k : IntKind) : pw k 6 = 64 := by cases k <;> rfl
theorem pw_7 (k : IntKind) : pw k 7 = 128 := by cases k <;> rfl
theorem pw_8 (k : IntKind) : pw k 8 = 256 := by cases k <;> rfl
theorem pw_i64_12 : pw .i64 12 = 4096 := rfl
theorem pw_i64_15 : pw .i64 15 = 32768 := rfl
theorem pw_i64_16 : pw .i64 16 = 65536 := rfl
theorem pw_i64_24 : pw .i64 24 = 16777216 := rfl
theorem pw_i64_31 : pw .i64 31 = 2147483648 := rfl
theorem pw_i64_32 : pw .i64 32 = 4294967296 := rfl
theorem pw_i64_40 : pw .i64 40 = 1099511627776 := rfl
theorem pw_i64_48 : pw .i64 48 = 281474976710656 := rfl
theorem pw_i64_52 : pw .i64 52 = 4503599627370496 := rfl
theorem pw_i64_56 : pw .i64 56 = 72057594037927936 := rfl
theorem pw_i64_63 : pw .i64 63 = 9223372036854775808 := rfl
theorem pw_u64_12 : pw .u64 12 = 4096 := rfl
theorem pw_u64_15 : pw .u64 15 = 32768 := rfl
theorem pw_u64_16 : pw .u64 16 = 65536 := rfl
theorem pw_u64_24 : pw .u64 24 = 16777216 := rfl
theorem pw_u64_31 : pw .u64 31 = 2147483648 := rfl
theorem pw_u64_32 : pw .u64 32 = 4294967296 := rfl
theorem pw_u64_40 : pw .u64 40 = 1099511627776 := rfl
theorem pw_u64_48 : pw .u64 48 = 281474976710656 := rfl
theorem pw_u64_52 : pw .u64 52 = 4503599627370496 := rfl
theorem pw_u64_56 : pw .u64 56 = 72057594037927936 := rfl
theorem pw_u64_63 : pw .u64 63 = 9223372036854775808 := rfl
theorem pw_u32_12 : pw .u32 12 = 4096 := rfl
theorem pw_u32_15 : pw .u32 15 = 32768 := rfl
theorem pw_u32_16 : pw .u32 16 = 65536 := rfl
theorem pw_u32_24 : pw .u32 24 = 16777216 := rfl
theorem pw_u32_31 : pw .u32 31 = 2147483648 := rfl
theorem pw_u32_32 : pw .u32 32 = 4294967296 := rfl
theorem pw_u16_12 : pw .u16 12 = 4096 := rfl
theorem pw_u16_15 : pw .u16 15 = 32768 := rfl
theorem pw_u16_16 : pw .u16 16 = 65536 := rfl
attribute [go_sem high] pw_1 pw_2 pw_3 pw_4 pw_5 pw_6 pw_7 pw_8 pw_i64_12 pw_i64_15 pw_i64_16 pw_i64_24 pw_i64_31 pw_i64_32 pw_i64_40 pw_i64_48 pw_i64_52 pw_i64_56 pw_i64_63 pw_u64_12 pw_u64_15 pw_u64_16 pw_u64_24 pw_u64_31 pw_u64_32 pw_u64_40 pw_u64_48 pw_u64_52 pw_u64_56 pw_u64_63 pw_u32_12 pw_u32_15 pw_u32_16 pw_u32_24 pw_u32_31 pw_u32_32 pw_u16_12 pw_u16_15 pw_u16_16
attribute [go_sem] List.size_toArray Int.cast_ofNat_Int
/-- A byte of a text. -/
def bat (s : ByteArray) (i : Int) : Int := ((s.data.toList.getD i.toNat 0).toNat : Int)
def idxOk (c : Cx) (t : Nat) (v i : AV) : Prop := match v with
  | .sc (.string s) => 0 < (c.T t).sz ∧ (c.T t).kind = .str ∧ isNum i ∧ 0 ≤ numA i ∧ numA i < s.size
  | _ => False
def idxV (v i : AV) : AV := match v with
  | .sc (.string s) => .sc (.int .u8 (bat s (numA i)))
  | _ => .junk
section
variable (c : Cx) (CT : CTab) (nl : Nat) (lv : List Nat) (Q : Ex → St → Prop) (k : List It) (e : Env) (os : List AO) (all : Array Oper) (H : List Nat) (dst : Option Nat) (ty : Nat) (pos : String) (af : Array Edge)
theorem sem_indexE (t : Nat) (x i : Operand) : sem c CT nl lv Q (.op H all ⟨dst, .index t x i, ty, pos, af, none⟩ :: k) .normal ⟨e, os⟩ = (idxOk c t (ev c e x) (ev c e i) ∧ sem c CT nl lv Q k .normal ⟨put e dst (idxV (ev c e x) (ev c e i)), os⟩) := by
  rw [sem_index]
  have h1 : pureOk c os (ev c e) (.index t x i) = idxOk c t (ev c e x) (ev c e i) := rfl
  have h2 : pureA c os (ev c e) (.index t x i) = idxV (ev c e x) (ev c e i) := rfl
  rw [h1, h2]
theorem semg_index (g : Bool) (t : Nat) (x i : Operand) : guardR c CT nl lv Q k os e H dst (.index t x i) (some g) = ((g = true → (stripOk true (ev c e x) ∧ stripOk true (ev c e i)) ∧ idxOk c t (strip (ev c e x)) (strip (ev c e i)) ∧ plain (idxV (strip (ev c e x)) (strip (ev c e i)))) ∧
    sem c CT nl lv Q k .normal ⟨put e dst (.opt g (idxV (strip (ev c e x)) (strip (ev c e i)))), os⟩) := by
  have h1 : ∀ r, pureOk c os r (.index t x i) = idxOk c t (r x) (r i) := fun r => rfl
  have h2 : ∀ r, pureA c os r (.index t x i) = idxV (r x) (r i) := fun r => rfl
  cases g <;> simp [guardR, isPure, operOk, gev, h1, h2, Op.operands, allP]
end
theorem idxOk_str (c : Cx) (t : Nat) (s : ByteArray) (i : AV) : idxOk c t (.sc (.string s)) i = (0 < (c.T t).sz ∧ (c.T t).kind = .str ∧ isNum i ∧ 0 ≤ numA i ∧ numA i < s.size) := rfl
theorem idxV_str (s : ByteArray) (i : AV) : idxV (.sc (.string s)) i = .sc (.int .u8 (bat s (numA i))) := rfl
theorem isIntK_int (k : IntKind) : isIntK (.int k) = true := rfl
theorem isIntK_slice (e : Nat) : isIntK (.slice e) = false := rfl
theorem isIntK_str : isIntK .str = false := rfl
attribute [go_sem] isIntK_int isIntK_slice isIntK_str Bool.false_eq_true
attribute [go_sem] sem_cap cutA_nil cutTy_nil selA_ot selA_of selOk_ot selOk_of sem_indexE semg_index idxOk_str idxV_str convA_sl convA_fz convA_nil convOk_sl convOk_fz convOk_nil strOp_add strOk_add strOp_eql strOp_neq strOk_eql strOk_neq heldOk_conv quietC_int quietC_str quietC_oint quietC_ostr cutA_str cutTy_str
attribute [go_sem] sem_plan_twoE planL_eq planL_some
attribute [go_sem] sem_skip sem_region sem_exit sem_ret condR_true condR_false sem_blk_n sem_blk_e sem_blk_r sem_code_e sem_code_r sem_back_e sem_back_r sem_ops_nil sem_ops_cons sem_plan_done planR_take planR_one sem_plan_take sem_plan_one sem_tak_nil sem_tak_cons sem_move sem_assign sem_pick sem_load sem_nilCheck sem_unOp sem_convert sem_slice sem_fieldAddr sem_indexAddr sem_len sem_alloc sem_box sem_store sem_buildSlice sem_makeSlice sem_append sem_call ev_tmp ev_const ev_func ev_glob lk_cons lk_nil put_some put_none keep_nil keep_cons memN_nil memN_cons binA_int binA_str binA_beq binA_bne binA_aeq binA_ane binOk_int binOk_str binOk_bool binOk_agg eqOk_nil eqOk_int eqOk_bool eqCells_nil eqCells_int eqCells_bool int_add int_sub int_mul int_quo int_rem int_and int_or int_xor int_andn iok_andn int_shl int_shr int_eql int_neq int_lss int_leq int_gtr int_geq iok_add iok_sub iok_mul iok_quo iok_rem iok_and iok_or iok_xor iok_shl iok_shr iok_eql iok_neq iok_lss iok_leq iok_gtr iok_geq unA_neg unA_not unOk_neg unOk_not convA_int convA_str convOk_int convOk_str selA_t selA_f selOk_t selOk_f selA_000 selOk_000 selA_001 selOk_001 selA_010 selOk_010 selA_011 selOk_011 selA_100 selOk_100 selA_101 selOk_101 selA_110 selOk_110 selA_111 selOk_111 strip_opt strip_sc strip_pt strip_pa strip_sl strip_fz strip_fp strip_agg sok_opt sok_sc sok_pt sok_pa sok_sl sok_fz sok_fp sok_agg plain_sc plain_pt plain_pa plain_sl plain_fz plain_fp plain_agg lenA_fz lenA_sl lenA_str lenA_nil lenOk_fz lenOk_sl lenOk_str lenOk_nil elems_fz elems_sl elems_nil esz_fz esz_sl idxA_fz idxA_sl cutA_fz cutA_sl cutA_str numA_int boolA_b strA_s isNum_int numOk_none numOk_some loOf_none loOf_some hiOf_none hiOf_some cutTy_str cutTy_fz cutTy_sl lenTy_str lenTy_fz lenTy_sl lenTy_nil elemOf_eq isSliceT_eq row_pt row_pa row_fp addr_pt addr_pa addr_fp off_pt off_pa off_fp fieldOff_eq loadV_one loadV_agg eta_nil eta_cons asLike_int asLike_bool asLike_str asLike_slice asLike_ptr like_int like_bool like_str like_slice like_ptr likeAll_nil likeAll_cons cells_agg cells_sc cells_pt cells_sl cells_fz allP_nil allP_cons recOk_sc recOk_fz recOk_sl recOk_pt frzOk_sc frzOk_fz frzOk_sl one_int one_bool one_str one_slice one_ptr frz_sc frz_fz frz_sl unown_sc unown_fz unown_sl unownAll_nil unownAll_cons storeOk_pt storeOk_pa storeA_pt storeA_pa setCells_zero setCells_nil setCells_cons0 setCells_succ notSl_sc notSl_fz notSl_sl names_pt names_pa names_sl names_sc names_fz names_fp heldOk_load heldOk_move heldOk_assign heldOk_nil heldOk_bin heldOk_un heldOk_conv heldOk_pick heldOk_field heldOk_idx heldOk_index heldOk_slice heldOk_build heldOk_extract heldOk_call heldA_opt heldA_pt heldA_pa heldA_fp pk_move pk_assign pk_load pk_nil pk_bin pk_un pk_conv pk_pick pk_field pk_idx pk_len pa_move pa_assign pa_load pa_nil pa_bin pa_un pa_conv pa_pick pa_field pa_idx pa_len ok_move ok_assign ok_load ok_nil ok_un ok_conv ok_field ok_bin ok_idx ok_pick ok_len ip_move ip_assign ip_load ip_nil ip_bin_t ip_bin_i ip_bin_b ip_bin_s ip_un ip_conv ip_pick ip_field ip_idx ip_len ip_call guardV_b guardV_o guardL_s guardD_s semg semg_move semg_load semg_nil semg_un semg_conv semg_pick semg_field semg_idx semg_len semg_call end_ret end_normal resA_nil resA_cons resV_tmp resV_cell resOk_tmp resOk_cell oneA_one oneA_two oneA_nil viewC_sc viewC_fz viewC_fp viewC_junk viewC_sl viewC_pt viewA_agg viewA_sc viewA_fz viewA_sl viewA_pt viewA_junk viewV_tup viewV_agg viewV_sc viewV_fz viewV_sl viewV_pt viewV_junk viewO_rc viewO_arr viewO_dead viewS_nil viewS_cons viewSt_eq pos_nil pos_cons enter_nil enter_cons renC_sc renC_fz renC_sl renC_pt renA_agg renA_sc renA_fz renA_sl renA_pt renV_tup renV_agg renV_sc renV_fz renV_sl renV_pt renV_junk renO_rc renO_arr renO_dead merge_eq putAll_nil putAll_cons backN_eq unownN_nil unownN_cons shownAll_eq shownC_sc shownC_fz shownC_pt shownC_sl shownV_sc shownV_fz shownV_pt shownV_sl shownV_agg shownO_rc shownO_arr shownO_dead noFzV_sc noFzO_rc noFzC_sc own_eq isOwn_rc isOwn_arr partsOf_eq partK_struct partK_array fillA_nil fillA_cons fillO_some optAgg_some isBuilt_struct isBuilt_array semb_build tupGet_tup tupOk_tup semb_extract litElems_ord litOk_iff ordN_nil ordN_cons List.getElem?_cons_zero List.getElem?_cons_succ List.getD_cons_zero List.getD_cons_succ List.drop_zero List.drop_succ_cons List.headD_cons List.tail_cons List.take_zero List.take_succ_cons List.length_cons List.length_nil List.set_cons_zero List.set_cons_succ List.nil_append List.cons_append if_true true_and and_true ne_eq not_false_eq_true Nat.lt_add_one Nat.zero_lt_succ Nat.add_zero Nat.zero_add Nat.succ_ne_zero Bool.false_eq_true Option.bind_some Option.bind_none List.getElem?_toArray cond_true cond_false List.flatMap_cons List.flatMap_nil List.append_nil Option.map_none Option.map_some Option.isNone_none Option.isNone_some Option.isSome_some Option.isSome_none and_self Bool.and_self Bool.true_and Bool.and_true beq_self_eq_true List.map_cons List.map_nil implies_true imp_self eq_self Bool.not_eq_true' true_imp_iff beq_iff_eq
attribute [go_sem] List.getElem?_nil List.getD_nil lendOf_nil lendOf_cons lendAt_nil lendAt_cons cellAt_pt nameOf1_sl nameOf1_pt nameOf1_sc nameOf1_fz nodupN_nil nodupN_cons Option.isNone_none Option.isNone_some bif_or bif_and Nat.sub_zero
/-- Which names are kept, by themselves: what is lent, what is in it, and what is asked for. -/
def isDeadO : Option AO → Bool
  | some .dead => true
  | none => true
  | _ => false
def lentK : Nat → List AO → List Nat → List Nat
  | 0, _, _ => []
  | n + 1, os, ks => (bif isDeadO os[ks.length]? then 1000000 + ks.length else ks.length) :: lentK n os (0 :: ks)
def nmO : Option AO → List Nat
  | some (.rc cs) => cs.flatMap nameOf1
  | _ => []
def autoS : Nat → List AO → List Nat → List Nat → List Nat
  | 0, _, _, acc => acc
  | _ + 1, _, [], acc => acc
  | f + 1, os, L :: r, acc => bif memN acc L then autoS f os r acc else autoS f os (nmO os[L]? ++ r) (acc ++ [L])
def autoK (nl : Nat) (os : List AO) (todo : List Nat) : List Nat := autoS 100 os ((lentK nl os []).flatMap (fun L => nmO os[L]?) ++ todo) (lentK nl os [])
def nameV : AV → List Nat
  | .agg cs => cs.flatMap nameOf1
  | .tup vs => vs.flatMap fun v => match v with | .agg cs => cs.flatMap nameOf1 | x => nameOf1 x
  | .opt _ x => nameOf1 x
  | x => nameOf1 x
def autoE (nl : Nat) (ts : List Nat) (st : St) : List Nat := autoK nl st.os (ts.flatMap fun t => nameV (lk st.env t))

section
variable (nl : Nat) (os : List AO)
theorem isDeadO_dead : isDeadO (some .dead) = true := rfl
theorem isDeadO_none : isDeadO none = true := rfl
theorem isDeadO_arr (b : Bool) (s : Nat) (xs : List (List AV)) : isDeadO (some (.arr b s xs)) = false := rfl
theorem isDeadO_rc (cs : List AV) : isDeadO (some (.rc cs)) = false := rfl
theorem lentK_zero (ks : List Nat) : lentK 0 os ks = [] := rfl
theorem lentK_succ (n : Nat) (ks : List Nat) : lentK (n + 1) os ks = (bif isDeadO os[ks.length]? then 1000000 + ks.length else ks.length) :: lentK n os (0 :: ks) := rfl
theorem nmO_rc (cs : List AV) : nmO (some (.rc cs)) = cs.flatMap nameOf1 := rfl
theorem nmO_arr (b : Bool) (s : Nat) (xs : List (List AV)) : nmO (some (.arr b s xs)) = [] := rfl
theorem nmO_dead : nmO (some .dead) = [] := rfl
theorem nmO_none : nmO none = [] := rfl
theorem autoS_nil (f : Nat) (acc : List Nat) : autoS (f + 1) os [] acc = acc := rfl
theorem autoS_cons (f : Nat) (L : Nat) (r acc : List Nat) : autoS (f + 1) os (L :: r) acc = bif memN acc L then autoS f os r acc else autoS f os (nmO os[L]? ++ r) (acc ++ [L]) := rfl
theorem autoK_eq (todo : List Nat) : autoK nl os todo = autoS 100 os ((lentK nl os []).flatMap (fun L => nmO os[L]?) ++ todo) (lentK nl os []) := rfl
theorem nameV_agg (cs : List AV) : nameV (.agg cs) = cs.flatMap nameOf1 := rfl
theorem nameV_tupN : nameV (.tup []) = [] := rfl
theorem nameV_tupA (cs : List AV) (vs : List AV) : nameV (.tup (.agg cs :: vs)) = cs.flatMap nameOf1 ++ nameV (.tup vs) := rfl
theorem nameV_tupS (v : Value) (vs : List AV) : nameV (.tup (.sc v :: vs)) = nameV (.tup vs) := rfl
theorem nameV_tupF (z : Nat) (xs : List (List AV)) (vs : List AV) : nameV (.tup (.fz z xs :: vs)) = nameV (.tup vs) := rfl
theorem nameV_tupL (L o n : Nat) (vs : List AV) : nameV (.tup (.sl L o n :: vs)) = L :: nameV (.tup vs) := rfl
theorem nameV_tupP (L o : Nat) (vs : List AV) : nameV (.tup (.pt L o :: vs)) = L :: nameV (.tup vs) := rfl
theorem nameV_sc (v : Value) : nameV (.sc v) = [] := rfl
theorem nameV_fz (z : Nat) (xs : List (List AV)) : nameV (.fz z xs) = [] := rfl
theorem nameV_fp (z : Nat) (xs : List (List AV)) (i k : Nat) : nameV (.fp z xs i k) = [] := rfl
theorem nameV_sl (L o n : Nat) : nameV (.sl L o n) = [L] := rfl
theorem nameV_pt (L k : Nat) : nameV (.pt L k) = [L] := rfl
theorem nameV_pa (L i k : Nat) : nameV (.pa L i k) = [L] := rfl
theorem nameV_junk : nameV .junk = [] := rfl
theorem nameOf1_fp (z : Nat) (xs : List (List AV)) (i k : Nat) : nameOf1 (.fp z xs i k) = [] := rfl
theorem nameOf1_junk : nameOf1 .junk = [] := rfl
theorem nameOf1_pa (L i k : Nat) : nameOf1 (.pa L i k) = [L] := rfl
theorem autoE_eq (ts : List Nat) (e : Env) : autoE nl ts ⟨e, os⟩ = autoK nl os (ts.flatMap fun t => nameV (lk e t)) := rfl
end
attribute [go_sem] isDeadO_dead isDeadO_none isDeadO_arr isDeadO_rc lentK_zero lentK_succ nmO_rc nmO_arr nmO_dead nmO_none autoS_nil autoS_cons autoK_eq nameV_agg nameV_tupN nameV_tupA nameV_tupS nameV_tupF nameV_tupL nameV_tupP nameV_sc nameV_fz nameV_fp nameV_sl nameV_pt nameV_pa nameV_junk nameOf1_fp nameOf1_junk nameOf1_pa autoE_eq
section
variable {c : Cx} {CT : CTab} {nl : Nat} {lv : List Nat} {Q : Ex → St → Prop} {k : List It} {s : St}
theorem sem_loopA {α : Type} {b : Code} (ts : List Nat) (F : α → St) (φ : α → Prop) (μ : α → Nat) (a0 : α) (hk : keepOk nl (autoE nl ts s) = true) (hb : Nat.ble s.os.length 1000000 = true) (h0 : wkSt (viewSt ts (autoE nl ts s) s) (F a0) ∧ φ a0)
    (hr : ∀ a, φ a → sem c CT nl lv Q (.code b :: .back (backB nl ts F φ μ a) :: k) .normal (F a)) : sem c CT nl lv Q (.code (.loop b) :: k) .normal s :=
  sem_loop c CT nl lv Q k s b ts (autoE nl ts s) F φ μ a0 ⟨hk, Nat.le_of_ble_eq_true hb⟩ h0.1 h0.2 hr
theorem back_useA {α : Type} {ts : List Nat} {F : α → St} {φ : α → Prop} {μ : α → Nat} {a : α} (a' : α) (hk : keepOk nl (autoE nl ts s) = true) (hb : Nat.ble s.os.length 1000000 = true) (h : wkSt (viewSt ts (autoE nl ts s) s) (F a') ∧ φ a' ∧ μ a' < μ a) :
    sem c CT nl lv Q (.back (backB nl ts F φ μ a) :: k) .normal s := ⟨autoE nl ts s, a', ⟨hk, Nat.le_of_ble_eq_true hb⟩, h⟩
end
section
variable {c : Cx} {nl : Nat} {rs : List ResultVar} {post : AV → List AO → Prop} {e : Env} {os : List AO}
theorem endA_ret (todo : List Nat) (hk : keepOk nl (autoK nl os todo) = true) (hb : Nat.ble os.length 1000000 = true) (h : allP (resOk c os e) rs ∧ wkEnd (oneA (resA c (autoK nl os todo) os e rs)) (viewS (autoK nl os todo) os) post) : endQ c nl rs post .ret ⟨e, os⟩ :=
  end_use_ret _ hk hb h
theorem endA_nrm (todo : List Nat) (hk : keepOk nl (autoK nl os todo) = true) (hb : Nat.ble os.length 1000000 = true) (h : allP (resOk c os e) rs ∧ wkEnd (oneA (resA c (autoK nl os todo) os e rs)) (viewS (autoK nl os todo) os) post) : endQ c nl rs post .normal ⟨e, os⟩ :=
  end_use_nrm _ hk hb h
/-- The names of the results. -/
def resN (c : Cx) (os : List AO) (e : Env) (rs : List ResultVar) : List Nat := rs.flatMap fun r => nameV (resV c os e r)
theorem resN_nil : resN c os e [] = [] := rfl
theorem resN_cons (r : ResultVar) (rs : List ResultVar) : resN c os e (r :: rs) = nameV (resV c os e r) ++ resN c os e rs := rfl
end
attribute [go_sem] resN_nil resN_cons
section
variable {c : Cx} {nl : Nat} {rs : List ResultVar} {post : AV → List AO → Prop} {e : Env} {os : List AO}
theorem endO_ret (hk : keepOk nl (autoK nl os (resN c os e rs)) = true) (hb : Nat.ble os.length 1000000 = true) (h : allP (resOk c os e) rs ∧ wkEnd (oneA (resA c (autoK nl os (resN c os e rs)) os e rs)) (viewS (autoK nl os (resN c os e rs)) os) post) : endQ c nl rs post .ret ⟨e, os⟩ :=
  end_use_ret _ hk hb h
theorem endO_nrm (hk : keepOk nl (autoK nl os (resN c os e rs)) = true) (hb : Nat.ble os.length 1000000 = true) (h : allP (resOk c os e) rs ∧ wkEnd (oneA (resA c (autoK nl os (resN c os e rs)) os e rs)) (viewS (autoK nl os (resN c os e rs)) os) post) : endQ c nl rs post .normal ⟨e, os⟩ :=
  end_use_nrm _ hk hb h
end
/-- The records that a region leaves alone, by themselves: all but those that are lent, and readers. -/
def skipR : List AV → Bool
  | .fz z _ :: _ => z == 1
  | _ => false
def recN : Nat → List AO → List Nat
  | _, [] => []
  | i, .rc cs :: r => bif skipR cs then recN (i + 1) r else i :: recN (i + 1) r
  | i, .arr .. :: r => recN (i + 1) r
  | i, .nst .. :: r => i :: recN (i + 1) r
  | i, .dead :: r => recN (i + 1) r
theorem skipR_fz (z : Nat) (xs : List (List AV)) (r : List AV) : skipR (.fz z xs :: r) = (z == 1) := rfl
theorem skipR_sc (v : Value) (r : List AV) : skipR (.sc v :: r) = false := rfl
theorem skipR_sl (L o n : Nat) (r : List AV) : skipR (.sl L o n :: r) = false := rfl
theorem skipR_pt (L k : Nat) (r : List AV) : skipR (.pt L k :: r) = false := rfl
theorem skipR_nil : skipR [] = false := rfl
theorem recN_nil (i : Nat) : recN i [] = [] := rfl
theorem recN_rc (i : Nat) (cs : List AV) (r : List AO) : recN i (.rc cs :: r) = bif skipR cs then recN (i + 1) r else i :: recN (i + 1) r := rfl
theorem recN_arr (i : Nat) (b : Bool) (s : Nat) (xs : List (List AV)) (r : List AO) : recN i (.arr b s xs :: r) = recN (i + 1) r := rfl
theorem recN_nst (i z : Nat) (xs : List (List AV)) (op : Option (Nat × List AV)) (r : List AO) : recN i (.nst z xs op :: r) = i :: recN (i + 1) r := rfl
theorem recN_dead (i : Nat) (r : List AO) : recN i (.dead :: r) = recN (i + 1) r := rfl
theorem sem_planA {c : Cx} {CT : CTab} {nl : Nat} {lv : List Nat} {Q : Ex → St → Prop} {k : List It} {e : Env} {os : List AO} {id : Nat} {ops : Array Oper} (p : Plan) (hp : planOk ops p = true) (h : sem c CT nl lv Q (.plan ops (recN nl (os.drop nl)) p :: k) .normal ⟨e, os⟩) : sem c CT nl lv Q (.code (.region id ops true) :: k) .normal ⟨e, os⟩ := sem_plan p _ hp h
attribute [go_sem] skipR_fz skipR_sc skipR_sl skipR_pt skipR_nil recN_nil recN_rc recN_arr recN_dead
theorem noFzV_tup (vs : List AV) : noFzV (.tup vs) = allP noFzA vs := rfl
theorem noFzV_agg (cs : List AV) : noFzV (.agg cs) = allP noFzC cs := rfl
theorem noFzA_sc (v : Value) : noFzA (.sc v) = True := rfl
theorem noFzA_agg (cs : List AV) : noFzA (.agg cs) = allP noFzC cs := rfl
theorem noFzV_sl (L o n : Nat) : noFzV (.sl L o n) = True := rfl
theorem noFzV_pt (L k : Nat) : noFzV (.pt L k) = True := rfl
theorem noFzA_sl (L o n : Nat) : noFzA (.sl L o n) = True := rfl
theorem noFzA_pt (L k : Nat) : noFzA (.pt L k) = True := rfl
theorem noFzC_sl (L o n : Nat) : noFzC (.sl L o n) = True := rfl
theorem noFzC_pt (L k : Nat) : noFzC (.pt L k) = True := rfl
theorem noFzO_arr (s : Nat) (xs : List (List AV)) : noFzO (.arr true s xs) = allP (allP noFzC) xs := rfl
theorem noFzO_dead : noFzO .dead = True := rfl
attribute [go_sem] noFzV_tup noFzV_agg noFzA_sc noFzA_agg noFzV_sl noFzV_pt noFzA_sl noFzA_pt noFzC_sl noFzC_pt noFzO_arr noFzO_dead
def wkVs : List AV → List AV → Prop
  | [], [] => True
  | x :: r, y :: s => wkV x y ∧ wkVs r s
  | _, _ => False
theorem wkVs_get : ∀ {vs ws : List AV}, wkVs vs ws → ws.length = vs.length ∧ ∀ (i : Nat) y, ws[i]? = some y → ∃ x, vs[i]? = some x ∧ wkV x y
  | [], [], _ => ⟨rfl, fun i y h => by simp at h⟩
  | x :: r, y :: s, h => by
    obtain ⟨h1, h2⟩ := h
    obtain ⟨h3, h4⟩ := wkVs_get h2
    refine ⟨by simp [h3], fun i z hz => ?_⟩
    cases i with
    | zero => simp at hz; subst hz; exact ⟨x, by simp, h1⟩
    | succ i => simp at hz; obtain ⟨u, hu, hw⟩ := h4 i z hz; exact ⟨u, by simpa using hu, hw⟩
  | [], _ :: _, h => h.elim
  | _ :: _, [], h => h.elim
/-- A contract serves arguments that are told less weakly. -/
theorem Con.wk {P : Program} {c : Cx} {f : Nat} {vs ws : List AV} {σ : List AO} {post : AV → List AO → Prop} (h : Con P c f ws σ post) (hw : wkVs vs ws) : Con P c f vs σ post := by
  obtain ⟨h1, h2⟩ := h
  obtain ⟨h3, h4⟩ := wkVs_get hw
  refine ⟨h1, fun X vals hX e1 e2 hS hg hlen hv => h2 X vals hX e1 e2 hS hg (by omega) fun i y hy => ?_⟩
  obtain ⟨x, hx, hxy⟩ := h4 i y hy
  obtain ⟨u, hu, hr⟩ := hv i x hx
  exact ⟨u, hu, hr.wk hxy⟩
theorem offA_eq : offA = .opt false (.sc (.bool false)) := rfl
attribute [go_sem] offA_eq
section
variable (c : Cx) (CT : CTab) (nl : Nat) (lv : List Nat) (Q : Ex → St → Prop) (k : List It) (all : Array Oper) (dst : Option Nat) (ty : TypeId) (pos : String) (af : Array Edge) (e : Env) (os : List AO) (H : List Nat)
theorem sem_max (x y : Operand) (tys : Array Nat) : sem c CT nl lv Q (.op H all ⟨dst, .call ⟨.builtin .max, #[x, y], tys⟩, ty, pos, af, none⟩ :: k) .normal ⟨e, os⟩ =
    ((isNum (ev c e x) ∧ isNum (ev c e y)) ∧ sem c CT nl lv Q k .normal ⟨put e dst (.sc (.int (kN (ev c e x)) (mxI (numA (ev c e x)) (numA (ev c e y))))), os⟩) := by
  rw [sem_pure c CT nl lv Q k all dst ty pos af e os H _ rfl, pk_max, pa_max]
theorem sem_min (x y : Operand) (tys : Array Nat) : sem c CT nl lv Q (.op H all ⟨dst, .call ⟨.builtin .min, #[x, y], tys⟩, ty, pos, af, none⟩ :: k) .normal ⟨e, os⟩ =
    ((isNum (ev c e x) ∧ isNum (ev c e y)) ∧ sem c CT nl lv Q k .normal ⟨put e dst (.sc (.int (kN (ev c e x)) (mnI (numA (ev c e x)) (numA (ev c e y))))), os⟩) := by
  rw [sem_pure c CT nl lv Q k all dst ty pos af e os H _ rfl, pk_min, pa_min]
theorem sem_max3 (x y z : Operand) (tys : Array Nat) : sem c CT nl lv Q (.op H all ⟨dst, .call ⟨.builtin .max, #[x, y, z], tys⟩, ty, pos, af, none⟩ :: k) .normal ⟨e, os⟩ =
    ((isNum (ev c e x) ∧ isNum (ev c e y) ∧ isNum (ev c e z)) ∧ sem c CT nl lv Q k .normal ⟨put e dst (.sc (.int (kN (ev c e x)) (mxI (mxI (numA (ev c e x)) (numA (ev c e y))) (numA (ev c e z))))), os⟩) := by
  rw [sem_pure c CT nl lv Q k all dst ty pos af e os H _ rfl, pk_max3, pa_max3]
end
attribute [go_sem] sem_max sem_min sem_max3 kN_int
attribute [go_sem] pw_eq bits_i8 bits_i16 bits_i32 bits_i64 bits_u8 bits_u16 bits_u32 bits_u64
/-- A contract, told with fewer names and more weakly. -/
theorem Con.view {P : Program} {c : Cx} {f : Nat} {vs : List AV} {σ : List AO} {post post' : AV → List AO → Prop} (h : Con P c f vs σ post)
    (hp : ∀ x σ', post x σ' → ∃ ks y τ, keepP σ.length ks σ' ∧ wkV (viewA ks σ' x) y ∧ wkS (viewS ks σ') τ ∧ post' y τ) : Con P c f vs σ post' := by
  refine ⟨h.1, fun X vals a1 a2 a3 a4 a5 a6 a7 => (h.2 X vals a1 a2 a3 a4 a5 a6 a7).mono ?_⟩
  rintro e w' ⟨v, x, σ', g', he, hpx, hS, hK, hR⟩
  obtain ⟨ks, y, τ, hk, hwx, hws, hp'⟩ := hp x σ' hpx
  have hnd : ks.Nodup := nodupN_spec (by have := hk.1; simp only [keepOk, Bool.and_eq_true] at this; exact this.2)
  obtain ⟨h1, h2, h3⟩ := hS.view hnd
  have hal := hws.alike
  have hrd : rdF X τ (viewG ks σ' g') w' = rdF X (viewS ks σ') (viewG ks σ' g') w' := by funext b o; exact hal.rd b o
  refine ⟨v, y, τ, viewG ks σ' g', he, hp', h1.wk hws, (hK.view hk).wk hws, ?_⟩
  rw [hrd]
  exact hal.repV (RepV.wk (viewA_V (g := g') h2 (fun j L o => viewG_get) (fun L hL => h3 L (shownV_not hL)) hR).toV hwx)
section
variable (c : Cx) (CT : CTab) (nl : Nat) (lv : List Nat) (Q : Ex → St → Prop) (k : List It) (all : Array Oper) (dst : Option Nat) (ty : TypeId) (pos : String) (af : Array Edge) (e : Env) (os : List AO) (H : List Nat)
theorem sem_field (t : Nat) (x : Operand) (f : Nat) : sem c CT nl lv Q (.op H all ⟨dst, .field t x f, ty, pos, af, none⟩ :: k) .normal ⟨e, os⟩ =
    (fldOk c t f (ev c e x) ∧ sem c CT nl lv Q k .normal ⟨put e dst (fldA c t f (ev c e x)), os⟩) := sem_pure c CT nl lv Q k all dst ty pos af e os H _ rfl
theorem semg_fld (g : Bool) (t : Nat) (x : Operand) (f : Nat) : guardR c CT nl lv Q k os e H dst (.field t x f) (some g) = ((g = true → stripOk true (ev c e x) ∧ fldOk c t f (strip (ev c e x)) ∧ plain (fldA c t f (strip (ev c e x)))) ∧ sem c CT nl lv Q k .normal ⟨put e dst (.opt g (fldA c t f (strip (ev c e x)))), os⟩) := by
  cases g <;> simp [guardR, isPure, operOk, gev, pureOk, pureA, Op.operands, allP]
theorem heldOk_fld (t : Nat) (x : Operand) (f : Nat) : heldOk H c e (.field t x f) = True := rfl
theorem fldA_agg (t f : Nat) (cs : List AV) : fldA c t f (.agg cs) = partA (c.T ((c.T t).ftys.getD f 0)) cs (fieldOff (c.T t) f).1 := rfl
theorem fldOk_agg (t f : Nat) (cs : List AV) : fldOk c t f (.agg cs) = (0 < (c.T t).sz ∧ f < (c.T t).ftys.length ∧ isStructK (c.T t).kind ∧ 0 < (c.T ((c.T t).ftys.getD f 0)).sz ∧ (fieldOff (c.T t) f).1 + (c.T ((c.T t).ftys.getD f 0)).sz ≤ cs.length) := rfl
theorem partA_eq (ti : TI) (cs : List AV) (off : Nat) : partA ti cs off = if ti.agg = true then .agg ((cs.drop off).take ti.sz) else cs.getD off .junk := rfl
theorem isStructK_s (fs : List (Nat × Nat)) : isStructK (.struct fs) = True := rfl
end
attribute [go_sem] sem_field semg_fld heldOk_fld fldA_agg fldOk_agg partA_eq isStructK_s
/-- Function values that have captured variables. -/
def callV (c : Cx) (CT : CTab) (nl : Nat) (lv : List Nat) (Q : Ex → St → Prop) (H : List Nat) (x : AV) (vs : List AV) (e : Env) (os : List AO) (dst : Option Nat) (k : List It) : Prop := match fnC x with
  | some (n, cs) => callR c CT nl lv Q H n (vs ++ cs) e os dst k
  | none => False
section
variable (c : Cx) (CT : CTab) (nl : Nat) (lv : List Nat) (Q : Ex → St → Prop) (k : List It) (all : Array Oper) (dst : Option Nat) (ty : TypeId) (po : String) (af : Array Edge) (e : Env) (os : List AO) (H ks : List Nat)
theorem sem_callV (t : Nat) (args : Array Operand) (tys : Array Nat) : sem c CT nl lv Q (.op H all ⟨dst, .call ⟨.value (.tmp t), args, tys⟩, ty, po, af, none⟩ :: k) .normal ⟨e, os⟩ =
    callV c CT nl lv Q H (lk e t) (args.toList.map (ev c e)) e os dst k := by
  simp only [sem, stepA, isPure, effA, callV, callR, ev, Bool.false_eq_true, if_false]
  cases fnC (lk e t) with
  | none => rfl
  | some q => rfl
theorem semg_callV (t : Nat) (args : Array Operand) (tys : Array Nat) (g : Bool) : guardR c CT nl lv Q k os e H dst (.call ⟨.value (.tmp t), args, tys⟩) (some g) = ((g = true → (stripOk true (lk e t) ∧ allP (fun x => stripOk true (ev c e x)) args.toList) ∧ callV c CT nl lv Q H (strip (lk e t)) (args.toList.map fun x => strip (ev c e x)) e os dst k) ∧
    (g = false → sem c CT nl lv Q k .normal ⟨put e dst offA, os⟩)) := by
  cases g
  · simp [guardR, isPure]
  · simp only [guardR, isPure, operOk, gev, effA, callV, callR, Op.operands, Call.operands, Bool.false_eq_true, if_false, Array.toList_append, List.cons_append, List.nil_append, allP, ev]
    cases fnC (strip (lk e t)) with
    | none => rfl
    | some q => rfl
theorem callV_func (n : Nat) (vs : List AV) : callV c CT nl lv Q H (.sc (.func (.func n) #[] #[])) vs e os dst k = callR c CT nl lv Q H n vs e os dst k := by
  unfold callV; rw [fnC_func]; simp only [List.append_nil]
theorem callV_clo (n : Nat) (ps : List (Nat × Nat)) (vs : List AV) : callV c CT nl lv Q H (.clo n ps) vs e os dst k = callR c CT nl lv Q H n (vs ++ ps.map fun p => .pt p.1 p.2) e os dst k := rfl
theorem sem_makeFunc (n : Nat) (fi cs : Array Operand) : sem c CT nl lv Q (.op H all ⟨dst, .makeFunc (.func n) fi cs, ty, po, af, none⟩ :: k) .normal ⟨e, os⟩ =
    ((fi.toList = [] ∧ cloOk os (cs.toList.map (ev c e))) ∧ sem c CT nl lv Q k .normal ⟨put e dst (cloA n (cs.toList.map (ev c e))), os⟩) := sem_pure c CT nl lv Q k all dst ty po af e os H _ rfl
theorem heldOk_mf (n : Fn) (fi cs : Array Operand) : heldOk H c e (.makeFunc n fi cs) = True := rfl
theorem ptsOf_nil : ptsOf [] = some [] := rfl
theorem ptsOf_pt (L j : Nat) (r : List AV) : ptsOf (.pt L j :: r) = match ptsOf r with
    | some q => some ((L, j) :: q)
    | none => none := rfl
theorem cloA_eq (n : Nat) (xs : List AV) : cloA n xs = match ptsOf xs with
    | some ps => .clo n ps
    | none => .junk := rfl
theorem cloOk_eq (xs : List AV) : cloOk os xs = ((ptsOf xs).isSome = true ∧ allP (fun x => isAddr os x = true) xs) := rfl
theorem posAll_nil : posAll ks [] = some [] := rfl
theorem posAll_cons (p : Nat × Nat) (r : List (Nat × Nat)) : posAll ks (p :: r) = match pos ks p.1, posAll ks r with
    | some j, some q => some ((j, p.2) :: q)
    | _, _ => none := rfl
theorem viewC_clo (n : Nat) (ps : List (Nat × Nat)) : viewC ks os (.clo n ps) = match posAll ks ps with
    | some q => .clo n q
    | none => .junk := rfl
theorem viewA_clo (n : Nat) (ps : List (Nat × Nat)) : viewA ks os (.clo n ps) = viewC ks os (.clo n ps) := rfl
theorem viewV_clo (n : Nat) (ps : List (Nat × Nat)) : viewV ks os (.clo n ps) = viewC ks os (.clo n ps) := rfl
theorem renC_clo (f : Nat → Nat) (n : Nat) (ps : List (Nat × Nat)) : renC f (.clo n ps) = .clo n (ps.map fun p => (f p.1, p.2)) := rfl
theorem renA_clo (f : Nat → Nat) (n : Nat) (ps : List (Nat × Nat)) : renA f (.clo n ps) = .clo n (ps.map fun p => (f p.1, p.2)) := rfl
theorem renV_clo (f : Nat → Nat) (n : Nat) (ps : List (Nat × Nat)) : renV f (.clo n ps) = .clo n (ps.map fun p => (f p.1, p.2)) := rfl
theorem shownC_clo (n : Nat) (ps : List (Nat × Nat)) : shownC ks (.clo n ps) = [] := rfl
theorem shownV_clo (n : Nat) (ps : List (Nat × Nat)) : shownV ks (.clo n ps) = [] := rfl
theorem nameOf1_clo (n : Nat) (ps : List (Nat × Nat)) : nameOf1 (.clo n ps) = ps.map fun p => p.1 := rfl
theorem nameV_clo (n : Nat) (ps : List (Nat × Nat)) : nameV (.clo n ps) = ps.map fun p => p.1 := rfl
theorem strip_clo (n : Nat) (ps : List (Nat × Nat)) : strip (.clo n ps) = .clo n ps := rfl
theorem sok_clo (b : Bool) (n : Nat) (ps : List (Nat × Nat)) : stripOk b (.clo n ps) = True := rfl
theorem plain_clo (n : Nat) (ps : List (Nat × Nat)) : plain (.clo n ps) = True := rfl
theorem noFzC_clo (n : Nat) (ps : List (Nat × Nat)) : noFzC (.clo n ps) = True := rfl
theorem one_func (n : Nat) : (Value.func (.func n) #[] #[]).oneCell' = true := rfl
end
attribute [go_sem] sem_callV semg_callV callV_func callV_clo sem_makeFunc heldOk_mf ptsOf_nil ptsOf_pt cloA_eq cloOk_eq posAll_nil posAll_cons viewC_clo viewA_clo viewV_clo renC_clo renA_clo renV_clo shownC_clo shownV_clo nameOf1_clo nameV_clo strip_clo sok_clo plain_clo noFzC_clo one_func
theorem asLike_nf (x : AV) : asLike (.sc .nilFunc) x = x := rfl
theorem like_nf (x : AV) : like (.sc .nilFunc) x = True := rfl
attribute [go_sem] asLike_nf like_nf
section
variable (c : Cx) (CT : CTab) (nl : Nat) (lv : List Nat) (Q : Ex → St → Prop) (k : List It) (dst : Option Nat) (e : Env) (os : List AO) (H : List Nat)
theorem semg_bs (t n : Nat) (ps : Array (Nat × Operand)) (g : Bool) : guardR c CT nl lv Q k os e H dst (.buildSlice t n ps) (some g) = ((g = true → allP (fun x => stripOk true (ev c e x)) (ps.toList.map (·.2)) ∧
    (0 < (c.T t).sz ∧ isSliceT c t ∧ 0 < (c.T (elemOf c t)).sz ∧ n * (c.T (elemOf c t)).sz ≤ 16777216 ∧ litOk os (c.T (elemOf c t)) n (ps.toList.map fun p => (p.1, strip (ev c e p.2))) ∧
      sem c CT nl lv Q k .normal ⟨put e dst (.sl os.length 0 n), unownAll os ((ps.toList.map fun p => (p.1, strip (ev c e p.2))).flatMap fun p => cellsOf p.2) ++
      [.arr true (c.T (elemOf c t)).sz ((litElems (c.T (elemOf c t)) n (ps.toList.map fun p => (p.1, strip (ev c e p.2)))).map fun x => x.map (frz os))]⟩)) ∧
    (g = false → sem c CT nl lv Q k .normal ⟨put e dst offA, os⟩)) := by
  cases g
  · simp [guardR, isPure]
  · simp [guardR, isPure, operOk, gev, effA, Op.operands]
end
attribute [go_sem] semg_bs
section
variable (c : Cx) (CT : CTab) (nl : Nat) (lv : List Nat) (Q : Ex → St → Prop) (k : List It) (dst : Option Nat) (e : Env) (os : List AO) (H : List Nat)
theorem semg_build (t : Nat) (ps : Array (Nat × Operand)) (g : Bool) : guardR c CT nl lv Q k os e H dst (.build t ps) (some g) = ((g = true → allP (fun x => stripOk true (ev c e x)) (ps.toList.map (·.2)) ∧
    (0 < (c.T t).sz ∧ isBuilt (c.T t).kind ∧ allP (fun p => allP (recOk os) (cellsOf (strip (ev c e p.2)))) ps.toList ∧ (fillA (partsOf c t) (c.T t).zero (ps.toList.map fun p => (p.1, strip (ev c e p.2)))).isSome = true) ∧
    plain (optAgg (fillA (partsOf c t) (c.T t).zero (ps.toList.map fun p => (p.1, strip (ev c e p.2)))))) ∧
    sem c CT nl lv Q k .normal ⟨put e dst (.opt g (optAgg (fillA (partsOf c t) (c.T t).zero (ps.toList.map fun p => (p.1, strip (ev c e p.2)))))), os⟩) := by
  simp only [guardR, isPure, operOk, gev, pureOk, pureA, Op.operands, if_true]
  cases fillA (partsOf c t) (c.T t).zero (ps.toList.map fun p => (p.1, strip (ev c e p.2))) <;> cases g <;> simp [optAgg]
theorem strip_num (x : Operand) (r : Operand → AV) : (some (r x) : Option AV) = some (r x) := rfl
theorem semg_cut (t : Nat) (x : Operand) (lo hi : Option Operand) (g : Bool) : guardR c CT nl lv Q k os e H dst (.slice t x lo hi none) (some g) = ((g = true → allP (fun y => stripOk true (ev c e y)) (x :: lo.toList ++ hi.toList) ∧
    (0 < (c.T t).sz ∧ cutTy c os t (strip (ev c e x)) ∧ numOk (lo.map fun y => strip (ev c e y)) ∧ numOk (hi.map fun y => strip (ev c e y)) ∧ True ∧
      0 ≤ loOf (fun y => strip (ev c e y)) lo ∧ loOf (fun y => strip (ev c e y)) lo ≤ hiOf (fun y => strip (ev c e y)) (strip (ev c e x)) hi ∧ hiOf (fun y => strip (ev c e y)) (strip (ev c e x)) hi ≤ lenA (strip (ev c e x))) ∧
    plain (cutA (strip (ev c e x)) (loOf (fun y => strip (ev c e y)) lo) (hiOf (fun y => strip (ev c e y)) (strip (ev c e x)) hi))) ∧
    sem c CT nl lv Q k .normal ⟨put e dst (.opt g (cutA (strip (ev c e x)) (loOf (fun y => strip (ev c e y)) lo) (hiOf (fun y => strip (ev c e y)) (strip (ev c e x)) hi))), os⟩) := by
  cases g <;> simp [guardR, isPure, operOk, gev, pureOk, pureA, Op.operands, allP, mxOk]
end
attribute [go_sem] guardV_x semg_build semg_cut Option.toList_some Option.toList_none
section
variable (c : Cx) (CT : CTab) (nl : Nat) (lv : List Nat) (Q : Ex → St → Prop) (k : List It) (all : Array Oper) (dst : Option Nat) (ty : Nat) (pos : String) (af : Array Edge) (e : Env) (os : List AO) (H : List Nat) (op : BinOp) (t t' : Nat) (x : Operand) (g : Bool)
theorem sem_bin_t (u : Nat) : sem c CT nl lv Q (.op H all ⟨dst, .binOp op t x (.tmp u) t', ty, pos, af, none⟩ :: k) .normal ⟨e, os⟩ = (binOk (c.T t) op (ev c e x) (ev c e (.tmp u)) ∧ sem c CT nl lv Q k .normal ⟨put e dst (binA op (ev c e x) (ev c e (.tmp u))), os⟩) := sem_binOp c CT nl lv Q k all dst ty pos af e os H op t t' x _ rfl
theorem semg_bin_t (u : Nat) : guardR c CT nl lv Q k os e H dst (.binOp op t x (.tmp u) t') (some g) = ((g = true → (stripOk true (ev c e x) ∧ stripOk true (ev c e (.tmp u))) ∧ binOk (c.T t) op (strip (ev c e x)) (strip (ev c e (.tmp u))) ∧ plain (binA op (strip (ev c e x)) (strip (ev c e (.tmp u))))) ∧ sem c CT nl lv Q k .normal ⟨put e dst (.opt g (binA op (strip (ev c e x)) (strip (ev c e (.tmp u))))), os⟩) := semg_bin c CT nl lv Q k os e H dst g op t t' x _ rfl
theorem sem_bin_i (k2 : IntKind) (n : Int) : sem c CT nl lv Q (.op H all ⟨dst, .binOp op t x (.const (.int k2 n)) t', ty, pos, af, none⟩ :: k) .normal ⟨e, os⟩ = (binOk (c.T t) op (ev c e x) (ev c e (.const (.int k2 n))) ∧ sem c CT nl lv Q k .normal ⟨put e dst (binA op (ev c e x) (ev c e (.const (.int k2 n)))), os⟩) := sem_binOp c CT nl lv Q k all dst ty pos af e os H op t t' x _ rfl
theorem semg_bin_i (k2 : IntKind) (n : Int) : guardR c CT nl lv Q k os e H dst (.binOp op t x (.const (.int k2 n)) t') (some g) = ((g = true → (stripOk true (ev c e x) ∧ stripOk true (ev c e (.const (.int k2 n)))) ∧ binOk (c.T t) op (strip (ev c e x)) (strip (ev c e (.const (.int k2 n)))) ∧ plain (binA op (strip (ev c e x)) (strip (ev c e (.const (.int k2 n)))))) ∧ sem c CT nl lv Q k .normal ⟨put e dst (.opt g (binA op (strip (ev c e x)) (strip (ev c e (.const (.int k2 n)))))), os⟩) := semg_bin c CT nl lv Q k os e H dst g op t t' x _ rfl
theorem sem_bin_b (b : Bool) : sem c CT nl lv Q (.op H all ⟨dst, .binOp op t x (.const (.bool b)) t', ty, pos, af, none⟩ :: k) .normal ⟨e, os⟩ = (binOk (c.T t) op (ev c e x) (ev c e (.const (.bool b))) ∧ sem c CT nl lv Q k .normal ⟨put e dst (binA op (ev c e x) (ev c e (.const (.bool b)))), os⟩) := sem_binOp c CT nl lv Q k all dst ty pos af e os H op t t' x _ rfl
theorem semg_bin_b (b : Bool) : guardR c CT nl lv Q k os e H dst (.binOp op t x (.const (.bool b)) t') (some g) = ((g = true → (stripOk true (ev c e x) ∧ stripOk true (ev c e (.const (.bool b)))) ∧ binOk (c.T t) op (strip (ev c e x)) (strip (ev c e (.const (.bool b)))) ∧ plain (binA op (strip (ev c e x)) (strip (ev c e (.const (.bool b)))))) ∧ sem c CT nl lv Q k .normal ⟨put e dst (.opt g (binA op (strip (ev c e x)) (strip (ev c e (.const (.bool b)))))), os⟩) := semg_bin c CT nl lv Q k os e H dst g op t t' x _ rfl
theorem sem_bin_s (b : ByteArray) : sem c CT nl lv Q (.op H all ⟨dst, .binOp op t x (.const (.string b)) t', ty, pos, af, none⟩ :: k) .normal ⟨e, os⟩ = (binOk (c.T t) op (ev c e x) (ev c e (.const (.string b))) ∧ sem c CT nl lv Q k .normal ⟨put e dst (binA op (ev c e x) (ev c e (.const (.string b)))), os⟩) := sem_binOp c CT nl lv Q k all dst ty pos af e os H op t t' x _ rfl
theorem semg_bin_s (b : ByteArray) : guardR c CT nl lv Q k os e H dst (.binOp op t x (.const (.string b)) t') (some g) = ((g = true → (stripOk true (ev c e x) ∧ stripOk true (ev c e (.const (.string b)))) ∧ binOk (c.T t) op (strip (ev c e x)) (strip (ev c e (.const (.string b)))) ∧ plain (binA op (strip (ev c e x)) (strip (ev c e (.const (.string b)))))) ∧ sem c CT nl lv Q k .normal ⟨put e dst (.opt g (binA op (strip (ev c e x)) (strip (ev c e (.const (.string b)))))), os⟩) := semg_bin c CT nl lv Q k os e H dst g op t t' x _ rfl
end
attribute [go_sem] sem_bin_t semg_bin_t sem_bin_i semg_bin_i sem_bin_b semg_bin_b sem_bin_s semg_bin_s
section
variable (r : Operand → AV)
theorem mxOk_none (x : AV) (lo hi : Option Operand) : mxOk r x lo hi none = True := rfl
theorem mxOk_fz (z : Nat) (xs : List (List AV)) (h m : Operand) : mxOk r (.fz z xs) none (some h) (some m) = (isNum (r m) ∧ isNum (r h) ∧ numA (r m) = numA (r h)) := by simp [mxOk]
theorem mxOk_sl (L o n : Nat) (h m : Operand) : mxOk r (.sl L o n) none (some h) (some m) = (isNum (r m) ∧ isNum (r h) ∧ numA (r m) = numA (r h)) := by simp [mxOk]
end
attribute [go_sem] mxOk_none mxOk_fz mxOk_sl
attribute [irreducible] callW
attribute [go_sem] virt_eq
end Go.AM
