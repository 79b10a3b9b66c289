/- What the exact laws do beside the functions: copies, comparisons, marks. Conditions: none. -/
import Derived.Test.YtcnlhdaeeeolbaaAmPuKc
set_option linter.unusedSimpArgs false
set_option linter.unusedVariables false
namespace Go.AM
open Go
theorem toB_ok (l : List Int) (h : l.length ≤ 1048576) : laws_toByteS l = some l := by
  refine OK.eq ?_
  unfold laws_toByteS
  refine OK.gd (mkOk_of (by omega) (Int.le_refl _) (by omega) (by omega)) ?_
  refine OK.loop (Q := fun b : List Int => b = l) (fun z : List Int × Int => 0 ≤ z.2 ∧ z.2 ≤ l.length ∧ z.1.length = l.length ∧ z.1.take z.2.toNat = l.take z.2.toNat) (fun z => (l.length - z.2).toNat) ?_ ?_ ?_
  · exact ⟨Int.le_refl _, by dsimp only; omega, by simp, by simp⟩
  · rintro ⟨o, i⟩ ⟨i0, i1, ho, he⟩
    dsimp only at i0 i1 ho he
    simp only [laws_toByteS_s9]
    refine OK.cond (fun hi => ?_) (fun hi => ?_)
    · simp only [decide_eq_true_eq] at hi
      rw [idx_eq (l := l) i0 hi, Option.bind_some, idx_eq (l := o) i0 (by omega), Option.bind_some]
      have e : IntKind.i64.wrap (i + 1) = i + 1 := w64 (by omega) (by omega)
      rw [e]
      refine OK.mk ⟨⟨by dsimp only; omega, by dsimp only; omega, by simpa using ho, ?_⟩, by dsimp only; omega⟩
      dsimp only
      rw [show (i + 1).toNat = i.toNat + 1 by omega]
      exact take_set (by omega) (by omega) he
    · simp only [decide_eq_false_iff_not] at hi
      have : i = l.length := by omega
      subst this
      refine OK.mk ?_
      show o = l
      simp at he
      rw [← he, List.take_of_length_le (by omega)]
  · rintro b rfl; exact OK.mk rfl
theorem eqB_ok (l : List Int) (hl : l.length ≤ 1048576) : laws_eqByteS l l = some true := by
  unfold laws_eqByteS
  simp only [bne_self_eq_false, cond_false]
  refine same_loop' (n := l.length) hl ?_ ?_
  · intro i i0 i1
    simp [laws_eqByteS_s15, i1, idx_eq i0 i1]
  · simp [laws_eqByteS_s15]
theorem eqD_ok (x : DevArg) : laws_eqDevArg x x = some true := by simp [laws_eqDevArg]
theorem eqDs_ok (l : List DevArg) (hl : l.length ≤ 1000) : laws_eqDevArgS l l = some true := by
  unfold laws_eqDevArgS
  simp only [bne_self_eq_false, cond_false]
  refine same_loop' (n := l.length) (by omega) ?_ ?_
  · intro i i0 i1
    simp [laws_eqDevArgS_s15, i1, idx_eq i0 i1, eqD_ok]
  · simp [laws_eqDevArgS_s15]
theorem eqI_ok (x : Inst) (h : x.One_Args.length ≤ 1000) : laws_eqInst x x = some true := by
  simp [laws_eqInst, laws_eqElem, eqDs_ok _ h]
theorem eqIs_ok (l : List Inst) (hl : l.length ≤ 1048576) (ha : okArgs l) : laws_eqInstS l l = some true := by
  unfold laws_eqInstS
  simp only [bne_self_eq_false, cond_false]
  refine same_loop' (n := l.length) hl ?_ ?_
  · intro i i0 i1
    have hm := getD_mem (l := l) (n := i.toNat) (by omega)
    simp only [laws_eqInstS_s15, i1, decide_true, cond_true, idx_eq i0 i1, Option.bind_some, eqI_ok _ (ha _ hm), Bool.not_true, cond_false]
  · simp [laws_eqInstS_s15]
theorem markB_ok (l : List Int) (k : Int) (hl : l.length ≤ 1048576) (h0 : 0 ≤ k) (h1 : k ≤ 1048576) : OK (laws_markByteS l k) (fun r => 0 ≤ r.1 ∧ r.1 = k + l.length) := by
  unfold laws_markByteS
  refine OK.loop (Q := fun b : List Int × Int => 0 ≤ b.2 ∧ b.2 = k + l.length) (fun z : List Int × Int × Int => 0 ≤ z.2.2 ∧ z.2.2 ≤ l.length ∧ z.1.length = l.length ∧ z.2.1 = k + z.2.2) (fun z => (l.length - z.2.2).toNat) ?_ ?_ ?_
  · exact ⟨Int.le_refl _, by dsimp only; omega, rfl, by simp⟩
  · rintro ⟨o, m, i⟩ ⟨i0, i1, ho, he⟩
    dsimp only at i0 i1 ho he
    simp only [laws_markByteS_s7]
    refine OK.cond (fun hi => ?_) (fun hi => ?_)
    · simp only [decide_eq_true_eq] at hi
      rw [idx_eq (l := o) i0 (by omega), Option.bind_some, w64 (n := m + 1) (by omega) (by omega), w64 (n := i + 1) (by omega) (by omega)]
      exact OK.mk ⟨⟨by dsimp only; omega, by dsimp only; omega, by simpa using ho, by dsimp only; omega⟩, by dsimp only; omega⟩
    · simp only [decide_eq_false_iff_not] at hi
      exact OK.mk ⟨by dsimp only; omega, by dsimp only; omega⟩
  · rintro ⟨o, m⟩ ⟨h2, h3⟩; exact OK.mk ⟨h2, h3⟩
/-! ### The marks of operands -/
def mD : Nat → Int → List DevArg
  | 0, _ => []
  | n + 1, k => mD n k ++ [⟨k + 3 * (n : Int), k + 3 * (n : Int) + 1, k + 3 * (n : Int) + 2⟩]
theorem mD_len (n : Nat) (k : Int) : (mD n k).length = n := by
  induction n with
  | zero => rfl
  | succ n ih => simp [mD, ih]
theorem mD_get (n : Nat) (k : Int) : ∀ i : Nat, i < n → (mD n k).getD i default = ⟨k + 3 * (i : Int), k + 3 * (i : Int) + 1, k + 3 * (i : Int) + 2⟩ := by
  induction n with
  | zero => intro i hi; omega
  | succ n ih =>
    intro i hi
    simp only [mD]
    by_cases h : i < n
    · have := ih i h
      simp only [List.getD] at this ⊢
      rw [List.getElem?_append_left (by rw [mD_len]; exact h)]; exact this
    · have : i = n := by omega
      subst this
      simp [List.getD, List.getElem?_append_right, mD_len]
theorem set3 {α : Type} {l : List α} {i : Nat} {a b : List α} {x y : α} (h : l = a ++ x :: b) (hi : a.length = i) : l.set i y = a ++ y :: b := by
  subst h; subst hi; simp
theorem get3 {α : Type} [Inhabited α] {l : List α} {i : Nat} {a b : List α} {x : α} (h : l = a ++ x :: b) (hi : a.length = i) : l.getD i default = x := by
  subst h; subst hi; simp [List.getD]
theorem split3 {α : Type} [Inhabited α] {l : List α} {i : Nat} (h : i < l.length) : l.drop i = l.getD i default :: l.drop (i + 1) := by
  rw [List.drop_eq_getElem_cons h]; simp [List.getD, h]
theorem markD_ok (l : List DevArg) (k : Int) (hl : l.length ≤ 1000) (h0 : 0 ≤ k) (h1 : k ≤ 1000000000) : laws_markDevArgS l k = some (k + 3 * (l.length : Int), mD l.length k) := by
  refine OK.eq ?_
  unfold laws_markDevArgS
  refine OK.loop (Q := fun b : List DevArg × Int => b = (mD l.length k, k + 3 * (l.length : Int))) (fun z : List DevArg × Int × Int => 0 ≤ z.2.2 ∧ z.2.2 ≤ l.length ∧ z.2.1 = k + 3 * z.2.2 ∧ z.1 = mD z.2.2.toNat k ++ l.drop z.2.2.toNat) (fun z => (l.length - z.2.2).toNat) ?_ ?_ ?_
  · exact ⟨Int.le_refl _, by dsimp only; omega, by simp, by simp [mD]⟩
  · rintro ⟨o, m, i⟩ ⟨i0, i1, hm, ho⟩
    dsimp only at i0 i1 hm ho
    have hlen : o.length = l.length := by rw [ho, List.length_append, mD_len, List.length_drop]; omega
    simp only [laws_markDevArgS_s7]
    refine OK.cond (fun hi => ?_) (fun hi => ?_)
    · simp only [decide_eq_true_eq] at hi
      have hil : i.toNat < l.length := by omega
      rw [split3 hil] at ho
      have ha : (mD i.toNat k).length = i.toNat := mD_len _ _
      rw [idx_eq (l := o) i0 (by omega), Option.bind_some, get3 ho ha]
      have o1 := set3 (y := (⟨m, (l.getD i.toNat default).N, (l.getD i.toNat default).P⟩ : DevArg)) ho ha
      rw [o1]
      have w1 : IntKind.i64.wrap (m + 1) = m + 1 := w64 (by omega) (by omega)
      have w2 : IntKind.i64.wrap (m + 1 + 1) = m + 1 + 1 := w64 (by omega) (by omega)
      have w3 : IntKind.i64.wrap (m + 1 + 1 + 1) = m + 1 + 1 + 1 := w64 (by omega) (by omega)
      rw [idx_eq i0 (by simp [ha]; omega), Option.bind_some, get3 rfl ha, set3 rfl ha, w1]
      rw [idx_eq i0 (by simp [ha]; omega), Option.bind_some, get3 rfl ha, set3 rfl ha, w2, w3, w64 (n := i + 1) (by omega) (by omega)]
      refine OK.mk ⟨⟨by dsimp only; omega, by dsimp only; omega, by dsimp only; omega, ?_⟩, by dsimp only; omega⟩
      dsimp only
      rw [show (i + 1).toNat = i.toNat + 1 by omega, mD, List.append_assoc]
      simp only [List.cons_append, List.nil_append]
      congr 2
      rw [hm]
      have : ((i.toNat : Nat) : Int) = i := by omega
      rw [this]
      congr 1
      omega
    · simp only [decide_eq_false_iff_not] at hi
      have : i = l.length := by omega
      subst this
      refine OK.mk ?_
      show (o, m) = _
      rw [ho, hm]; simp
  · rintro b rfl
    refine OK.mk ?_
    rfl
theorem heldD_ok (n : Nat) (k : Int) (hl : n ≤ 1000) (h0 : 0 ≤ k) (h1 : k ≤ 1000000000) : laws_heldDevArgS (mD n k) k = some (k + 3 * (n : Int)) := by
  refine OK.eq ?_
  unfold laws_heldDevArgS
  refine OK.loop (Q := fun b : Unit ⊕ Int => b = .inr (k + 3 * (n : Int))) (fun z : Int × Int => 0 ≤ z.2 ∧ z.2 ≤ n ∧ z.1 = k + 3 * z.2) (fun z => (n - z.2).toNat) ?_ ?_ ?_
  · exact ⟨Int.le_refl _, by dsimp only; omega, by simp⟩
  · rintro ⟨m, i⟩ ⟨i0, i1, hm⟩
    dsimp only at i0 i1 hm
    simp only [laws_heldDevArgS_s7, mD_len]
    refine OK.cond (fun hi => ?_) (fun hi => ?_)
    · simp only [decide_eq_true_eq] at hi
      have hg := mD_get n k i.toNat (by omega)
      rw [show ((i.toNat : Nat) : Int) = i by omega, ← hm] at hg
      rw [idx_eq (l := mD n k) i0 (by rw [mD_len]; omega), Option.bind_some, hg]
      simp only [Option.bind_some]
      rw [w64 (n := m + 1) (by omega) (by omega), w64 (n := m + 1 + 1) (by omega) (by omega), w64 (n := m + 1 + 1 + 1) (by omega) (by omega), w64 (n := i + 1) (by omega) (by omega)]
      rw [show m + 1 + 1 = m + 2 by omega]
      simp only [bne_self_eq_false, cond_false]
      exact OK.mk ⟨⟨by dsimp only; omega, by dsimp only; omega, by dsimp only; omega⟩, by dsimp only; omega⟩
    · simp only [decide_eq_false_iff_not] at hi
      have : i = n := by omega
      subst this
      refine OK.mk ?_
      show Sum.inr m = _
      rw [hm]
  · rintro b rfl; exact OK.mk rfl
/-! ### The marks of instructions -/
def mI : List Inst → Int → List Inst
  | [], _ => []
  | x :: r, k => ⟨k, k + 1, mD x.One_Args.length (k + 2)⟩ :: mI r (k + 2 + 3 * (x.One_Args.length : Int))
def sI : List Inst → Int
  | [] => 0
  | x :: r => 2 + 3 * (x.One_Args.length : Int) + sI r
theorem mI_app (a b : List Inst) (k : Int) : mI (a ++ b) k = mI a k ++ mI b (k + sI a) := by
  induction a generalizing k with
  | nil => simp [mI, sI]
  | cons x r ih =>
    simp only [List.cons_append, mI, sI, ih]
    congr 3
    omega
theorem sI_app (a b : List Inst) : sI (a ++ b) = sI a + sI b := by
  induction a with
  | nil => simp [sI]
  | cons x r ih => simp only [List.cons_append, sI, ih]; omega
theorem mI_len (l : List Inst) (k : Int) : (mI l k).length = l.length := by
  induction l generalizing k with
  | nil => rfl
  | cons x r ih => simp [mI, ih]
theorem sI_bd (l : List Inst) (h : okArgs l) : 0 ≤ sI l ∧ sI l ≤ 3002 * (l.length : Int) := by
  induction l with
  | nil => simp [sI]
  | cons x r ih =>
    have h1 := h x (.head _)
    have h2 := ih fun i hi => h i (.tail _ hi)
    simp only [sI, List.length_cons]
    omega
theorem okArgs.take {l : List Inst} (h : okArgs l) (n : Nat) : okArgs (l.take n) := fun i hi => h i (List.mem_of_mem_take hi)
theorem take_one {l : List Inst} {i : Nat} (h : i < l.length) : l.take (i + 1) = l.take i ++ [l.getD i default] := by
  rw [List.take_succ_eq_append_getElem h]; simp [List.getD, h]
theorem mI_split {l : List Inst} {i : Nat} (h : i < l.length) (k : Int) : mI l k = mI (l.take i) k ++ ⟨k + sI (l.take i), k + sI (l.take i) + 1, mD (l.getD i default).One_Args.length (k + sI (l.take i) + 2)⟩ :: mI (l.drop (i + 1)) (k + sI (l.take (i + 1))) := by
  have e : l = l.take i ++ l.getD i default :: l.drop (i + 1) := by rw [← split3 h, List.take_append_drop]
  conv => lhs; rw [e]
  rw [mI_app]
  simp only [mI]
  rw [take_one h, sI_app]
  simp only [sI]
  congr 3
  omega
theorem markI_ok (l : List Inst) (k : Int) (hl : l.length ≤ 1000) (ha : okArgs l) (h0 : 0 ≤ k) (h1 : k ≤ 100000000) : laws_markInstS l k = some (k + sI l, mI l k) := by
  refine OK.eq ?_
  unfold laws_markInstS
  refine OK.loop (Q := fun b : List Inst × Int => b = (mI l k, k + sI l)) (fun z : List Inst × Int × Int => 0 ≤ z.2.2 ∧ z.2.2 ≤ l.length ∧ z.2.1 = k + sI (l.take z.2.2.toNat) ∧ z.1 = mI (l.take z.2.2.toNat) k ++ l.drop z.2.2.toNat) (fun z => (l.length - z.2.2).toNat) ?_ ?_ ?_
  · exact ⟨Int.le_refl _, by dsimp only; omega, by simp [sI], by simp [mI]⟩
  · rintro ⟨o, m, i⟩ ⟨i0, i1, hm, ho⟩
    dsimp only at i0 i1 hm ho
    have hlen : o.length = l.length := by rw [ho, List.length_append, mI_len, List.length_take, List.length_drop]; omega
    have hb := sI_bd _ (ha.take i.toNat)
    have hb2 : ((l.take i.toNat).length : Int) ≤ 1000 := by rw [List.length_take]; omega
    simp only [laws_markInstS_s7]
    refine OK.cond (fun hi => ?_) (fun hi => ?_)
    · simp only [decide_eq_true_eq] at hi
      have hil : i.toNat < l.length := by omega
      have hx := ha _ (getD_mem (l := l) hil)
      rw [split3 hil] at ho
      have hal : (mI (l.take i.toNat) k).length = i.toNat := by rw [mI_len, List.length_take]; omega
      rw [idx_eq (l := o) i0 (by omega), get3 ho hal]
      simp only [Option.bind_some]
      rw [w64 (n := m + 1) (by omega) (by omega), w64 (n := m + 1 + 1) (by omega) (by omega), markD_ok _ _ hx (by omega) (by omega)]
      simp only [Option.bind_some]
      refine OK.gd (by simp [mD_len]) ?_
      rw [set3 ho hal, w64 (n := i + 1) (by omega) (by omega)]
      have ht : (i + 1).toNat = i.toNat + 1 := by omega
      refine OK.mk ⟨⟨by dsimp only; omega, by dsimp only; omega, ?_, ?_⟩, by dsimp only; omega⟩
      · dsimp only
        rw [ht, take_one hil, sI_app, hm]
        simp only [sI]; omega
      · dsimp only
        rw [ht, take_one hil, mI_app]
        simp only [mI]
        rw [List.append_assoc, hm]
        simp only [List.cons_append, List.nil_append]
        congr 3
        rw [show k + sI (List.take i.toNat l) + 1 + 1 = k + sI (List.take i.toNat l) + 2 by omega]
    · simp only [decide_eq_false_iff_not] at hi
      have : i = l.length := by omega
      subst this
      refine OK.mk ?_
      show (o, m) = _
      rw [ho, hm]; simp
  · rintro b rfl
    exact OK.mk rfl
theorem heldI_ok (l : List Inst) (k : Int) (hl : l.length ≤ 1000) (ha : okArgs l) (h0 : 0 ≤ k) (h1 : k ≤ 100000000) : laws_heldInstS (mI l k) k = some (k + sI l) := by
  refine OK.eq ?_
  unfold laws_heldInstS
  refine OK.loop (Q := fun b : Unit ⊕ Int => b = .inr (k + sI l)) (fun z : Int × Int => 0 ≤ z.2 ∧ z.2 ≤ l.length ∧ z.1 = k + sI (l.take z.2.toNat)) (fun z => (l.length - z.2).toNat) ?_ ?_ ?_
  · exact ⟨Int.le_refl _, by dsimp only; omega, by simp [sI]⟩
  · rintro ⟨m, i⟩ ⟨i0, i1, hm⟩
    dsimp only at i0 i1 hm
    have hb := sI_bd _ (ha.take i.toNat)
    have hb2 : ((l.take i.toNat).length : Int) ≤ 1000 := by rw [List.length_take]; omega
    simp only [laws_heldInstS_s7, mI_len]
    refine OK.cond (fun hi => ?_) (fun hi => ?_)
    · simp only [decide_eq_true_eq] at hi
      have hil : i.toNat < l.length := by omega
      have hx := ha _ (getD_mem (l := l) hil)
      have hal : (mI (l.take i.toNat) k).length = i.toNat := by rw [mI_len, List.length_take]; omega
      have hg := get3 (mI_split hil k) hal
      rw [← hm] at hg
      rw [idx_eq (l := mI l k) i0 (by rw [mI_len]; omega), hg]
      simp only [Option.bind_some]
      rw [w64 (n := m + 1) (by omega) (by omega), w64 (n := m + 1 + 1) (by omega) (by omega), show m + 1 + 1 = m + 2 by omega, heldD_ok _ _ hx (by omega) (by omega)]
      simp only [bne_self_eq_false, cond_false, Option.bind_some]
      refine OK.cond (fun hc => by simp only [decide_eq_true_eq] at hc; omega) (fun _ => ?_)
      rw [w64 (n := i + 1) (by omega) (by omega)]
      have ht : (i + 1).toNat = i.toNat + 1 := by omega
      refine OK.mk ⟨⟨by dsimp only; omega, by dsimp only; omega, ?_⟩, by dsimp only; omega⟩
      dsimp only
      rw [ht, take_one hil, sI_app, hm]
      simp only [sI]; omega
    · simp only [decide_eq_false_iff_not] at hi
      have : i = l.length := by omega
      subst this
      refine OK.mk ?_
      show Sum.inr m = _
      rw [hm]; simp
  · rintro b rfl; exact OK.mk rfl
end Go.AM
