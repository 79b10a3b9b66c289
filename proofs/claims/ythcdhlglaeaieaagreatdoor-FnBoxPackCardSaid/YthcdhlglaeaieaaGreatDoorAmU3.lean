/- Several texts in one. Conditions: none. -/
import Derived.Test.YthcdhlglaeaieaaGreatDoorAmU2
import Derived.Test.YthcdhlglaeaieaaGreatDoorAmU1
import Derived.Test.YthcdhlglaeaieaaGreatDoorAmU0
import Derived.Test.YthcdhlglaeaieaaGreatDoorAmB4
set_option linter.unusedSimpArgs false
set_option linter.unusedVariables false
section
/- Ladders: normal forms are made. Conditions: none. -/
namespace Go.AM
open Go
mutual
def cN : Net → Prop
 | ⟨k, _, a, ks⟩ => a.length ≤ 1000 ∧ (k = 1 ∨ (2 ≤ k ∧ k ≤ 4 ∧ ks ≠ [])) ∧ cNL ks
def cNL : List Net → Prop
 | [] => True
 | x :: r => cN x ∧ cNL r
end
theorem cN_eq (n : Net) : cN n ↔ (n.One_Args.length ≤ 1000 ∧ (n.Kind = 1 ∨ (2 ≤ n.Kind ∧ n.Kind ≤ 4 ∧ n.Kids ≠ [])) ∧ ∀ k ∈ n.Kids, cN k) := by
 have h : ∀ l : List Net, cNL l ↔ ∀ k ∈ l, cN k := by
  intro l
  induction l with
  | nil => simp [cNL]
  | cons x r ih => rw [cNL]; simp [ih]
 cases n; rw [cN, h]
theorem arity_le (n : Int) : arity n ≤ 3 := by
 unfold arity
 repeat' split
 all_goals omega
theorem idxZ {α : Type} [Inhabited α] {l : List α} (h : 0 < l.length) : idx l (0 : Int) = some (l.getD 0 default) := idxN (k := 0) h
theorem cN_of_wr : ∀ n : Net, nwr n = 0 → cN n := by
 have key : ∀ f : Nat, ∀ n : Net, nsz n ≤ f → nwr n = 0 → cN n := by
  intro f
  induction f with
  | zero => intro n h; have := nsz_pos n; omega
  | succ f ih =>
   intro n hf hw
   have e := eT n
   rw [nwr_eq] at hw
   rw [cN_eq]
   have hkids : nwrL n.Kids = 0 → ∀ k ∈ n.Kids, cN k := by
    intro h0 k hk
    refine ih k (by have := nszL_mem hk; omega) ?_
    clear hw
    have : ∀ l : List Net, nwrL l = 0 → ∀ k ∈ l, nwr k = 0 := by
     intro l
     induction l with
     | nil => intro _ k hk; cases hk
     | cons x r ih2 =>
      intro h k hk
      rw [nwrL_cons] at h
      split at h
      ·omega
      ·rcases List.mem_cons.1 hk with rfl | hk
       ·have := nwr_nn k; omega
       ·exact ih2 h k hk
    exact this _ h0 k hk
   split at hw
   ·rename_i h1
    split at hw
    ·omega
    ·rename_i h2
     have hk0 : n.Kids = [] := List.eq_nil_of_length_eq_zero (by omega)
     refine ⟨?_, .inl h1, by rw [hk0]; intro k hk; cases hk⟩
     split at hw
     ·omega
     ·rename_i h3
      simp only [Bool.not_eq_false] at h3
      unfold iA at h3
      simp only [Bool.and_eq_true, beq_iff_eq] at h3
      have := arity_le n.One_Op
      omega
   ·rename_i h1
    split at hw
    ·omega
    ·rename_i h2
     exact ⟨by omega, .inr ⟨by omega, by omega, fun e => by rw [e] at h2; simp at h2⟩, hkids hw⟩
 exact fun n => key _ n (Nat.le_refl _)
theorem l9Net_all : ∀ f : Nat, (∀ n : Net, 2 * nsz n ≤ f → nsz n ≤ 1000000 → cN n → OK ((bg f).1 n) (fun r => cN r ∧ nsz r ≤ nsz n)) ∧
  (∀ (kd : Int) (ks : List Net), 2 * nszL ks + 1 ≤ f → nszL ks ≤ 1000000 → 2 ≤ kd → kd ≤ 4 → ks ≠ [] → (∀ k ∈ ks, cN k) → OK ((bg f).2 kd ks) (fun r => cN r ∧ nsz r ≤ 1 + nszL ks)) := by
 intro f
 induction f with
 | zero => exact ⟨fun n h => by have := nsz_pos n; omega, fun kd ks h => by omega⟩
 | succ f ih =>
  obtain ⟨ih1, ih2⟩ := ih
  refine ⟨fun n hf hb hc => ?_, fun kd ks hf hb hk1 hk2 hne hc => ?_⟩
  ·have e := eT n
   rw [cN_eq] at hc
   obtain ⟨c1, c2, c3⟩ := hc
   show OK (gh (bg f).1 (bg f).2 n) _
   unfold gh
   have j7 : OK (gq n (bg f).1 (bg f).2 (n.Kind == 2 || n.Kind == 3)) (fun r => cN r ∧ nsz r ≤ nsz n) := by
    simp only [gq]
    by_cases h1 : n.Kind = 2 ∨ n.Kind = 3
    ·rw [show (n.Kind == 2 || n.Kind == 3) = true by simpa using h1, cond_true]
     refine OK.bind (ih2 n.Kind n.Kids (by omega) (by omega) (by omega) (by omega) ?_ c3) fun r hr => ⟨_, rfl, hr.1, by omega⟩
     rcases c2 with h | h
     ·omega
     ·exact h.2.2
    ·rw [show (n.Kind == 2 || n.Kind == 3) = false by rw [← Bool.not_eq_true]; simpa using h1, cond_false]
     by_cases h2 : n.Kind = 4
     ·rw [show (n.Kind == 4) = true by simpa using h2, cond_true]
      have hne : 0 < n.Kids.length := List.length_pos_iff.2 (by rcases c2 with h | h; (omega); (exact h.2.2))
      rw [idxZ hne, Option.bind_some]
      have h3 := nszL_at (l := n.Kids) (k := 0) hne
      refine OK.bind (ih1 _ (by omega) (by omega) (c3 _ (bA hne))) fun r hr => ⟨_, rfl, ?_, ?_⟩
      ·rw [cN_eq]; exact ⟨by simp, .inr ⟨by simp only; omega, by simp only; omega, by simp⟩, by simpa using hr.1⟩
      ·rw [eT]; simp only [fL, cF]; omega
     ·rw [show (n.Kind == 4) = false by simpa using h2, cond_false]
      refine OK.gd (apOk_of (by omega) (by omega)) ⟨_, rfl, ?_, ?_⟩
      ·rw [cN_eq]
       refine ⟨c1, ?_, by simp⟩
       rcases c2 with h | h
       ·exact .inl h
       ·omega
      ·rw [eT]; simp only [cF]; omega
   cases h2 : n.Kind == 2 with
   | true => rw [h2] at j7; simp only [Bool.true_or] at j7; simp only [cond_true]; exact j7
   | false => rw [h2] at j7; simp only [Bool.false_or] at j7; simp only [cond_false]; exact j7
  ·show OK (fe (bg f).1 kd ks) _
   unfold fe
   have hl := nszL_len ks
   refine OK.bind (Q := fun l => l ≠ [] ∧ nszL l ≤ nszL ks ∧ ∀ k ∈ l, cN k) ?_ (fun l hl => ?_)
   ·refine for_ok (l := ks) (fun k a => (0 < k → a ≠ []) ∧ nszL a ≤ nszL (ks.take k) ∧ ∀ x ∈ a, cN x) 0 [] (Nat.zero_le _) ⟨by omega, by simp [cF], by simp⟩ (fun k a hk ha => ?_) (fun a ha => ?_)
    ·simp only [gf, idxN hk, Option.bind_some, dltT hk, cond_true]
     have hk2 := nszL_at hk
     have hk3 := nszL_take hk
     have hk4 := nszL_le ks (k + 1)
     obtain ⟨a1, a2, a3⟩ := ha
     refine OK.bind (ih1 _ (by omega) (by omega) (hc _ (bA hk))) fun r hr => ?_
     have hr2 := eT r
     have hcr := (cN_eq r).1 hr.1
     have hal := nszL_len a
     by_cases h1 : r.Kind = kd
     ·rw [show (r.Kind == kd) = true by simpa using h1, cond_true]
      have hrk := nszL_len r.Kids
      refine OK.gd (apOk_of (by simp only [List.length_append]; omega) (by simp only [List.length_append]; omega)) ⟨_, rfl, w1 hk (by omega), fun _ => ?_, ?_, ?_⟩
      ·rcases hcr.2.1 with h | h
       ·omega
       ·intro e; exact h.2.2 (List.append_eq_nil_iff.1 e).2
      ·rw [nszL_app]; omega
      ·intro x hx; rcases List.mem_append.1 hx with h | h
       ·exact a3 x h
       ·exact hcr.2.2 x h
     ·rw [show (r.Kind == kd) = false by simpa using h1, cond_false]
      refine OK.gd (apOk_of (by simp only [List.length_append, List.length_cons, List.length_nil]; omega) (by simp only [List.length_append, List.length_cons, List.length_nil]; omega)) ⟨_, rfl, w1 hk (by omega), fun _ => by simp, ?_, ?_⟩
      ·rw [nszL_app, fL, cF]; omega
      ·intro x hx; rcases List.mem_append.1 hx with h | h
       ·exact a3 x h
       ·simp at h; subst h; exact hr.1
    ·simp only [gf, dltF, cond_false]
     refine ⟨_, rfl, ha.1 (List.length_pos_iff.2 hne), by have := ha.2.1; rw [List.take_length] at this; exact this, ha.2.2⟩
   ·obtain ⟨l1, l2, l3⟩ := hl
    simp only [s_l9Flat_j5]
    have hp : 0 < l.length := List.length_pos_iff.2 l1
    by_cases h1 : l.length = 1
    ·rw [show ((((l).length : Nat) : Int) == 1) = true by simp [h1], cond_true, idxZ hp, Option.bind_some]
     exact ⟨_, rfl, l3 _ (bA hp), by have := nszL_at (l := l) (k := 0) hp; omega⟩
    ·rw [show ((((l).length : Nat) : Int) == 1) = false by rw [← Bool.not_eq_true]; simp only [beq_iff_eq]; omega, cond_false]
     refine ⟨_, rfl, ?_, ?_⟩
     ·rw [cN_eq]; exact ⟨by simp, .inr ⟨hk1, hk2, l1⟩, l3⟩
     ·rw [eT]; simp only; omega
theorem l9Net_ok {n : Net} (h : nsz n ≤ 1000000) (hc : cN n) : OK (s_l9Net n) (fun r => cN r ∧ nsz r ≤ nsz n) := by
 obtain ⟨r, e, hr⟩ := (l9Net_all _).1 n (Nat.le_refl _) h hc
 exact ⟨r, s_l9Net_up n e, hr⟩
theorem l9Flat_ok {kd : Int} {ks : List Net} (h : nszL ks ≤ 1000000) (h1 : 2 ≤ kd) (h2 : kd ≤ 4) (hne : ks ≠ []) (hc : ∀ k ∈ ks, cN k) : OK (s_l9Flat kd ks) (fun r => cN r ∧ nsz r ≤ 1 + nszL ks) := by
 obtain ⟨r, e, hr⟩ := (l9Net_all _).2 kd ks (Nat.le_refl _) h h1 h2 hne hc
 exact ⟨r, s_l9Flat_up kd ks e, hr⟩
def nz (n : Net) : Nat := if noneB n = true then 0 else nsz n
def cZ (n : Net) : Prop := noneB n = true ∨ cN n
theorem cN_none {n : Net} (h : cN n) : noneB n = false := by
 rw [cN_eq] at h
 rw [← Bool.not_eq_true, noneB_iff]
 rintro rfl
 rcases h.2.1 with q | q
 ·cases q
 ·simp at q
theorem l9Join_ok {a b : Net} (ha : cZ a) (hb : cZ b) (h : nz a + nz b ≤ 900000) : OK (s_l9Join a b) (fun r => cZ r ∧ nz r ≤ 1 + nz a + nz b ∧ (nz r ≤ nz a + nz b ∨ (0 < nz a ∧ 0 < nz b)) ∧ (cN a → cN r)) := by
 unfold s_l9Join
 rw [sNone, Option.bind_some]
 cases h1 : noneB a with
 | true => exact ⟨_, rfl, hb, by omega, by omega, fun q => by rw [cN_none q] at h1; cases h1⟩
 | false =>
  simp only [cond_false]
  rw [sNone, Option.bind_some]
  have ca : cN a := by rcases ha with q | q; (rw [q] at h1; cases h1); (exact q)
  cases h2 : noneB b with
  | true => exact ⟨_, rfl, ha, by omega, by omega, fun q => q⟩
  | false =>
   simp only [cond_false]
   have cb : cN b := by rcases hb with q | q; (rw [q] at h2; cases h2); (exact q)
   have e1 : nz a = nsz a := by simp [nz, h1]
   have e2 : nz b = nsz b := by simp [nz, h2]
   have p1 := nsz_pos a
   have p2 := nsz_pos b
   refine OK.bind (l9Flat_ok (kd := 2) (ks := [a, b]) (by simp only [fL, cF]; omega) (by omega) (by omega) (by simp) (by simp [ca, cb])) fun r hr => ⟨_, rfl, .inr hr.1, ?_, .inr (by omega), fun _ => hr.1⟩
   have := hr.2
   simp only [fL, cF] at this
   have e3 : nz r = nsz r := by simp [nz, cN_none hr.1]
   omega
theorem l9Coils_ok {l : List Elem} (hl : l.length ≤ 1000000) (h : ∀ e ∈ l, e.Args.length ≤ 1000) : s_l9Coils l = some l := by
 refine OK.eq (?_ : OK _ (fun x => x = l))
 unfold s_l9Coils
 refine OK.bind (Q := fun x => x = l) ?_ (fun x hx => ⟨_, rfl, hx⟩)
 refine for_ok (l := l) (fun k a => a = l.take k) 0 [] (Nat.zero_le _) (by simp) (fun k a hk ha => ?_) (fun a ha => ?_)
 ·simp only [s_l9Coils_s9, idxN hk, Option.bind_some, dltT hk, cond_true]
  have := h _ (bA hk)
  subst ha
  refine OK.gd (apOk_of (by omega) (by omega)) (OK.gd (apOk_of ?_ ?_) ⟨_, rfl, w1 hk (by omega), (takeS hk).symm⟩)
  ·simp only [List.length_append, List.length_take, List.length_cons, List.length_nil]; omega
  ·simp only [List.length_append, List.length_take, List.length_cons, List.length_nil]; omega
 ·simp only [s_l9Coils_s9, dltF, cond_false]
  refine ⟨_, rfl, ?_⟩
  simp only [Sum.elim_inr]
  rw [ha, List.take_length]
mutual
def cA : Arm → Prop
 | ⟨k, o, a, ks, cs, ms⟩ => cZ ⟨k, o, a, ks⟩ ∧ (∀ e ∈ cs, e.Args.length ≤ 1000) ∧ cAL ms
def cAL : List Arm → Prop
 | [] => True
 | x :: r => cA x ∧ cAL r
end
theorem cA_eq (a : Arm) : cA a ↔ (cZ (aY a) ∧ (∀ e ∈ a.Coils, e.Args.length ≤ 1000) ∧ ∀ k ∈ a.Kids, cA k) := by
 have h : ∀ l : List Arm, cAL l ↔ ∀ k ∈ l, cA k := by
  intro l
  induction l with
  | nil => simp [cAL]
  | cons x r ih => rw [cAL]; simp [ih]
 cases a; rw [cA, h]; rfl
theorem er (a : Arm) : asz a = 1 + a.Coils.length + nz (aY a) + aszL a.Kids := asz_eq a
def armOf (n : Net) (cs : List Elem) (ms : List Arm) : Arm := ⟨n.Kind, n.One_Op, n.One_Args, n.Kids, cs, ms⟩
theorem netOf_armOf (n : Net) (cs : List Elem) (ms : List Arm) : aY (armOf n cs ms) = n := by cases n; rfl
theorem l9Loop_ok {a0 : Arm} (hc : cA a0) (hs : asz a0 ≤ 500000) : OK (loop s_l9Arm_s28 (a0.Net_Kind, a0.Net_One_Op, a0.Net_One_Args, a0.Net_Kids, a0.Coils, a0.Kids))
  (fun t => cA ⟨t.1, t.2.1, t.2.2.1, t.2.2.2.1, t.2.2.2.2.1, t.2.2.2.2.2⟩ ∧ asz ⟨t.1, t.2.1, t.2.2.1, t.2.2.2.1, t.2.2.2.2.1, t.2.2.2.2.2⟩ ≤ asz a0 ∧ (cN (aY a0) → cN ⟨t.1, t.2.1, t.2.2.1, t.2.2.2.1⟩)) := by
 obtain ⟨k0, o0, gs0, ns0, cs0, ms0⟩ := a0
 let I : Int × Int × List DevArg × List Net × List Elem × List Arm → Prop := fun t => cA ⟨t.1, t.2.1, t.2.2.1, t.2.2.2.1, t.2.2.2.2.1, t.2.2.2.2.2⟩ ∧ asz ⟨t.1, t.2.1, t.2.2.1, t.2.2.2.1, t.2.2.2.2.1, t.2.2.2.2.2⟩ ≤ asz ⟨k0, o0, gs0, ns0, cs0, ms0⟩ ∧ (cN (aY ⟨k0, o0, gs0, ns0, cs0, ms0⟩) → cN ⟨t.1, t.2.1, t.2.2.1, t.2.2.2.1⟩)
 refine loop_inv I (fun t => aszL t.2.2.2.2.2) I (fun t hI => ?_) _ ⟨hc, Nat.le_refl _, fun h => h⟩
 obtain ⟨k, o, gs, ks, cs, ms⟩ := t
 obtain ⟨i1, i2, i3⟩ := hI
 simp only at i1 i2 i3
 have e := er ⟨k, o, gs, ks, cs, ms⟩
 simp only [aY] at e
 obtain ⟨c1, c2, c3⟩ := (cA_eq _).1 i1
 simp only [aY] at c1
 have merge : ms.length = 1 → OK ((idx ms (0)).bind fun v71 => (Option.bind (s_l9Join (⟨k, o, gs, ks⟩ : Net) (⟨v71.Net_Kind, v71.Net_One_Op, v71.Net_One_Args, v71.Net_Kids⟩ : Net)) fun v72 => (gd (apOk ((cs ++ v71.Coils)).length 32) (some (.inl (v72.Kind, v72.One_Op, v72.One_Args, v72.Kids, (cs ++ v71.Coils), v71.Kids) : (Int × Int × List DevArg × List Net × List Elem × List Arm) ⊕ (Int × Int × List DevArg × List Net × List Elem × List Arm))))))
   (Sum.elim (fun a' => I a' ∧ aszL a'.2.2.2.2.2 < aszL ms) I) := by
  intro h1
  obtain ⟨m, rfl⟩ := List.length_eq_one_iff.1 h1
  have hm := (cA_eq _).1 (c3 m (by simp))
  have em := er m
  rw [eP, b7] at e
  have e0 : idx [m] (0 : Int) = some m := rfl
  rw [e0, Option.bind_some]
  have hnm : (⟨m.Net_Kind, m.Net_One_Op, m.Net_One_Args, m.Net_Kids⟩ : Net) = aY m := rfl
  rw [hnm]
  refine OK.bind (l9Join_ok c1 hm.1 (by omega)) fun r hr => ?_
  obtain ⟨r1, r2, r3, r4⟩ := hr
  obtain ⟨rk, ro, ra, rks⟩ := r
  refine OK.gd (apOk_of (by simp only [List.length_append]; omega) (by simp only [List.length_append]; omega)) ⟨_, rfl, ⟨?_, ?_, fun h => r4 (i3 h)⟩, ?_⟩
  ·rw [cA_eq]
   refine ⟨r1, fun x hx => ?_, hm.2.2⟩
   rcases List.mem_append.1 hx with h | h
   ·exact c2 x h
   ·exact hm.2.1 x h
  ·rw [er]
   simp only [aY, List.length_append] at *
   omega
  ·simp only [eP, b7]
   omega
 have fin : ∀ {p : Option ((Int × Int × List DevArg × List Net × List Elem × List Arm) ⊕ (Int × Int × List DevArg × List Net × List Elem × List Arm))}, OK p (Sum.elim (fun a' => I a' ∧ aszL a'.2.2.2.2.2 < aszL ms) I) →
   (∃ a', p = some (.inl a') ∧ I a' ∧ aszL a'.2.2.2.2.2 < aszL ms) ∨ ∃ b, p = some (.inr b) ∧ I b := by
  rintro p ⟨x, hx, hp⟩
  cases x with
  | inl a' => exact .inl ⟨a', hx, hp⟩
  | inr b => exact .inr ⟨b, hx, hp⟩
 refine fin ?_
 simp only [s_l9Arm_s28]
 by_cases h1 : ms.length = 1
 ·rw [show ((ms.length : Int) == 1) = true by simp [h1], cond_true]
  by_cases h2 : cs.length = 0
  ·rw [show ((((cs).length : Nat) : Int) == 0) = true by simp [h2], cond_true]
   exact merge h1
  ·rw [show ((((cs).length : Nat) : Int) == 0) = false by rw [← Bool.not_eq_true]; simp only [beq_iff_eq]; omega, cond_false]
   have h0 : 0 < ms.length := by omega
   rw [idxZ h0, Option.bind_some, sNone, Option.bind_some]
   cases noneB ⟨(ms.getD 0 default).Net_Kind, (ms.getD 0 default).Net_One_Op, (ms.getD 0 default).Net_One_Args, (ms.getD 0 default).Net_Kids⟩ with
   | true =>
    have := merge h1
    rw [idxZ h0] at this
    exact this
   | false => exact ⟨_, rfl, i1, i2, i3⟩
 ·rw [show ((ms.length : Int) == 1) = false by rw [← Bool.not_eq_true]; simp only [beq_iff_eq]; omega, cond_false]
  exact ⟨_, rfl, i1, i2, i3⟩
theorem l9Arm_ok {a : Arm} (h : asz a ≤ 400000) (hc : cA a) : OK (s_l9Arm a) (fun r => cA r ∧ asz r ≤ asz a ∧ (cN (aY a) → cN (aY r))) := by
 have key : ∀ f : Nat, ∀ a : Arm, asz a ≤ f → asz a ≤ 400000 → cA a → OK (eH f a) (fun r => cA r ∧ asz r ≤ asz a ∧ (cN (aY a) → cN (aY r))) := by
  intro f
  induction f with
  | zero => intro n h; have := asz_pos n; omega
  | succ f ih =>
   intro a hf hb hc
   have e := er a
   have hl := fT a.Kids
   obtain ⟨c1, c2, c3⟩ := (cA_eq a).1 hc
   show OK (gj (eH f) a) _
   unfold gj
   rw [l9Coils_ok (by omega) c2, Option.bind_some, sNone, Option.bind_some]
   have hnm : (⟨a.Net_Kind, a.Net_One_Op, a.Net_One_Args, a.Net_Kids⟩ : Net) = aY a := rfl
   rw [hnm]
   have j5 : ∀ n : Net, cZ n → nz n ≤ nz (aY a) → (cN (aY a) → cN n) → OK (gm a a.Coils (eH f) (n.Kind, n.One_Op, n.One_Args, n.Kids)) (fun r => cA r ∧ asz r ≤ asz a ∧ (cN (aY a) → cN (aY r))) := by
    intro n n1 n2 n3
    simp only [gm]
    refine OK.bind (Q := fun l => aszL l ≤ aszL a.Kids ∧ ∀ k ∈ l, cA k) ?_ (fun l hl => ?_)
    ·refine for_ok (l := a.Kids) (fun k q => aszL q ≤ aszL (a.Kids.take k) ∧ ∀ k ∈ q, cA k) 0 [] (Nat.zero_le _) ⟨by simp [b7], by simp⟩ (fun k q hk hq => ?_) (fun q hq => ?_)
     ·simp only [fY, idxN hk, Option.bind_some, dltT hk, cond_true]
      have hk2 := aszL_at hk
      have hk3 := aszL_take hk
      have hk4 := aszL_le a.Kids (k + 1)
      obtain ⟨q1, q2⟩ := hq
      have hql := fT q
      refine OK.bind (ih _ (by omega) (by omega) (c3 _ (bA hk))) fun r hr => ?_
      refine OK.gd (apOk_of (by simp only [List.length_append, List.length_cons, List.length_nil]; omega) (by simp only [List.length_append, List.length_cons, List.length_nil]; omega)) ⟨_, rfl, w1 hk (by omega), ?_, ?_⟩
      ·rw [aszL_app, eP, b7]; have := hr.2.1; omega
      ·intro x hx
       rcases List.mem_append.1 hx with h | h
       ·exact q2 x h
       ·simp at h; subst h; exact hr.1
     ·simp only [fY, dltF, cond_false]
      rw [List.take_length] at hq
      exact ⟨_, rfl, hq⟩
    ·simp only [s_l9Arm_j11]
     have ea := er (armOf n a.Coils l)
     rw [netOf_armOf] at ea
     have ea2 : asz (armOf n a.Coils l) ≤ asz a := by
      rw [ea, e]
      have h1 : (armOf n a.Coils l).Coils.length = a.Coils.length := rfl
      have h2 : aszL (armOf n a.Coils l).Kids = aszL l := rfl
      rw [h1, h2]
      have := hl.1
      omega
     refine OK.bind (l9Loop_ok (a0 := armOf n a.Coils l) ((cA_eq _).2 ⟨by rw [netOf_armOf]; exact n1, c2, hl.2⟩) (by omega)) fun t ht => ?_
     obtain ⟨t1, t2, t3⟩ := ht
     refine ⟨_, rfl, t1, by omega, fun q => ?_⟩
     exact t3 (by rw [netOf_armOf]; exact n3 q)
   cases hn : noneB (aY a) with
   | true =>
    simp only [Bool.not_true, cond_false]
    have e0 : aY a = ⟨0, 0, [], []⟩ := (noneB_iff _).1 hn
    exact j5 ⟨0, 0, [], []⟩ (.inl rfl) (by simp [nz, noneB]) (fun q => by rw [cN_none q] at hn; cases hn)
   | false =>
    simp only [Bool.not_false, cond_true]
    have ca : cN (aY a) := by rcases c1 with q | q; (rw [q] at hn; cases hn); (exact q)
    have e1 : nz (aY a) = nsz (aY a) := by simp [nz, hn]
    refine OK.bind (l9Net_ok (by omega) ca) fun r hr => ?_
    refine j5 r (.inr hr.1) ?_ (fun _ => hr.1)
    rw [e1]; simp only [nz, cN_none hr.1, Bool.false_eq_true, if_false]; exact hr.2
 obtain ⟨r, e, hr⟩ := key _ a (Nat.le_refl _) h hc
 exact ⟨r, s_l9Arm_up a e, hr⟩
theorem cA_of_wr : ∀ (a : Arm) (t : Bool), awr t a = 0 → aB a → cA a ∧ (t = true → cN (aY a)) := by
 have key : ∀ f : Nat, ∀ (a : Arm) (t : Bool), asz a ≤ f → awr t a = 0 → aB a → cA a ∧ (t = true → cN (aY a)) := by
  intro f
  induction f with
  | zero => intro n t h; have := asz_pos n; omega
  | succ f ih =>
   intro a t hf hw hB
   have e := asz_eq a
   rw [awr_eq] at hw
   rw [aB_eq, aBL_iff] at hB
   rw [cA_eq]
   split at hw
   ·omega
   rename_i h1
   split at hw
   ·rename_i h2; omega
   rename_i h2
   split at hw
   ·omega
   split at hw
   ·omega
   have hz : noneB (aY a) = true ∨ cN (aY a) := by
    cases hn : noneB (aY a) with
    | true => exact .inl rfl
    | false => exact .inr (cN_of_wr _ (by have := nwr_nn (aY a); have : ¬ 0 < nwr (aY a) := fun q => h2 ⟨hn, q⟩; omega))
   refine ⟨⟨hz, hB.2.1, fun k hk => ?_⟩, fun ht => ?_⟩
   ·refine (ih k false (by have := aszL_mem hk; omega) ?_ (hB.2.2 k hk)).1
    have : ∀ l : List Arm, awrL l = 0 → ∀ k ∈ l, awr false k = 0 := by
     intro l
     induction l with
     | nil => intro _ k hk; cases hk
     | cons x r ih2 =>
      intro h k hk
      rw [awrL_cons] at h
      split at h
      ·omega
      ·rcases List.mem_cons.1 hk with rfl | hk
       ·have := awr_nn false k; omega
       ·exact ih2 h k hk
    exact this _ hw k hk
   ·rcases hz with q | q
    ·exact absurd ⟨ht, q⟩ h1
    ·exact q
 exact fun a t => key _ a t (Nat.le_refl _)
theorem treeFrom_zero : ∀ {l : List Arm} {k : Int}, (fl k l).Code = 0 → ∀ a ∈ l, awr true a = 0
 | [], _, _, a, ha => by cases ha
 | x :: r, k, h, a, ha => by
  rw [fl] at h
  split at h
  ·rename_i h0; simp only at h; omega
  ·rcases List.mem_cons.1 ha with rfl | ha
   ·have := awr_nn true a; omega
   ·exact treeFrom_zero h a ha
theorem treeFrom_nn : ∀ (l : List Arm) (k : Int), 0 ≤ (fl k l).Code
 | [], _ => by simp [fl]
 | x :: r, k => by
  rw [fl]
  split
  ·simp only; omega
  ·exact treeFrom_nn r _
theorem treeCk_nn (l : List Arm) : 0 ≤ (treeCk l).Code := by
 unfold treeCk; split
 ·decide
 ·exact treeFrom_nn l 0
theorem treeCk_zero {l : List Arm} (h : (treeCk l).Code = 0) : l.length ≤ 40 ∧ aszL l ≤ 400 ∧ ∀ a ∈ l, awr true a = 0 := by
 unfold treeCk at h
 split at h
 ·cases h
 ·exact ⟨by omega, by omega, treeFrom_zero h⟩
theorem NormMake_ok {l : List Arm} (h : aszL l ≤ 400000) (hB : aBL l) (hN : ∀ a ∈ l, nsz (aY a) ≤ 400000) : OK (s_NormMake l) (fun r => aszL r ≤ 400 ∧ ∀ a ∈ r, cA a ∧ cN (aY a)) := by
 unfold s_NormMake
 rw [sTreeCheck l (by omega) hB (fun a ha => by have := hN a ha; omega), Option.bind_some]
 by_cases h1 : (treeCk l).Code = 0
 ·rw [show decide ((treeCk l).Code > 0) = false from decide_eq_false (by omega), cond_false]
  obtain ⟨t1, t2, t3⟩ := treeCk_zero h1
  refine OK.bind (Q := fun r => aszL r ≤ 400 ∧ ∀ a ∈ r, cA a ∧ cN (aY a)) ?_ (fun r hr => ⟨_, rfl, hr⟩)
  refine for_ok (l := l) (fun k q => aszL q ≤ aszL (l.take k) ∧ ∀ a ∈ q, cA a ∧ cN (aY a)) 0 [] (Nat.zero_le _) ⟨by simp [b7], by simp⟩ (fun k q hk hq => ?_) (fun q hq => ?_)
  ·simp only [hY, idxN hk, Option.bind_some, dltT hk, cond_true]
   have hk2 := aszL_at hk
   have hk3 := aszL_take hk
   have hk4 := aszL_le l (k + 1)
   obtain ⟨q1, q2⟩ := hq
   have hql := fT q
   have hm := bA hk
   have hw := cA_of_wr _ true (t3 _ hm) ((aBL_iff _).1 hB _ hm)
   refine OK.bind (l9Arm_ok (by omega) hw.1) fun r hr => ?_
   refine OK.gd (apOk_of (by simp only [List.length_append, List.length_cons, List.length_nil]; omega) (by simp only [List.length_append, List.length_cons, List.length_nil]; omega)) ⟨_, rfl, w1 hk (by omega), ?_, ?_⟩
   ·rw [aszL_app, eP, b7]; have := hr.2.1; omega
   ·intro x hx
    rcases List.mem_append.1 hx with h | h
    ·exact q2 x h
    ·simp at h; subst h; exact ⟨hr.1, hr.2.2 (hw.2 rfl)⟩
  ·simp only [hY, dltF, cond_false]
   rw [List.take_length] at hq
   exact ⟨_, rfl, by omega, hq.2⟩
 ·have := treeCk_nn l
  rw [show decide ((treeCk l).Code > 0) = true from decide_eq_true (by omega), cond_true]
  exact ⟨_, rfl, by simp [b7], by simp⟩
end Go.AM
end
section
/- Ladders: their lists are made. Conditions: none. -/
namespace Go.AM
open Go
theorem sGreater (a b : Int) : cI a b = some (if a > b then a else b) := by
 unfold cI
 by_cases h : a > b
 ·rw [if_pos h, decide_eq_true h]; rfl
 ·rw [if_neg h, decide_eq_false h]; rfl
theorem l14Bits_all : ∀ f : Nat, (∀ n : Net, 2 * nsz n ≤ f → nsz n ≤ 1000000 → cN n → OK ((aG f).1 n) (fun r => 0 ≤ r ∧ r ≤ (nsz n : Int))) ∧
  (∀ n : Net, 2 * nsz n + 1 ≤ f → nsz n ≤ 1000000 → cN n → OK ((aG f).2 n) (fun r => 0 ≤ r ∧ r ≤ (nsz n : Int) + 1)) := by
 intro f
 induction f with
 | zero => exact ⟨fun n h => by have := nsz_pos n; omega, fun n h => by omega⟩
 | succ f ih =>
  obtain ⟨ih1, ih2⟩ := ih
  refine ⟨fun n hf hb hc => ?_, fun n hf hb hc => ?_⟩
  ·have e := eT n
   have hl := nszL_len n.Kids
   rw [cN_eq] at hc
   obtain ⟨c1, c2, c3⟩ := hc
   show OK (cU (aG f).1 (aG f).2 n) _
   unfold cU
   by_cases h1 : n.Kind = 1
   ·rw [show (n.Kind == 1) = true by simpa using h1, cond_true]; exact ⟨_, rfl, by omega, by omega⟩
   ·rw [show (n.Kind == 1) = false by simpa using h1, cond_false]
    have hne : 0 < n.Kids.length := by
     rcases c2 with h | h
     ·omega
     ·exact List.length_pos_iff.2 h.2.2
    have h3 := nszL_at (l := n.Kids) (k := 0) hne
    rw [idxZ hne]
    simp only [Option.bind_some]
    by_cases h2 : n.Kind = 4
    ·rw [show (n.Kind == 4) = true by simpa using h2, cond_true]
     exact OK.bind (ih1 _ (by omega) (by omega) (c3 _ (bA hne))) fun r hr => ⟨_, rfl, hr.1, by omega⟩
    ·rw [show (n.Kind == 4) = false by simpa using h2, cond_false]
     refine OK.bind (ih1 _ (by omega) (by omega) (c3 _ (bA hne))) fun r hr => ?_
     refine OK.bind (Q := fun r => 0 ≤ r ∧ r ≤ (nsz n : Int)) ?_ (fun r hr => ⟨_, rfl, hr⟩)
     refine for_ok (l := n.Kids) (fun k a => 0 ≤ a ∧ a ≤ (nsz n : Int)) 1 r (by omega) ⟨hr.1, by omega⟩ (fun k a hk ha => ?_) (fun a ha => ?_)
     ·simp only [cS, idxN hk, Option.bind_some, dltT hk, cond_true]
      have hk2 := nszL_at hk
      refine OK.bind (ih2 _ (by omega) (by omega) (c3 _ (bA hk))) fun q hq => ?_
      rw [sGreater, Option.bind_some]
      exact ⟨_, rfl, w1 hk (by omega), by split <;> omega, by split <;> omega⟩
     ·simp only [cS, dltF, cond_false]
      exact ⟨_, rfl, ha⟩
  ·show OK (cz (aG f).1 n) _
   unfold cz
   cases n.Kind == 1 with
   | true => exact ⟨_, rfl, by omega, by omega⟩
   | false =>
    rw [cond_false]
    refine OK.bind (ih1 n (by omega) hb hc) fun r hr => ⟨_, rfl, ?_, ?_⟩
    ·rw [w64 (by omega) (by omega)]; omega
    ·rw [w64 (by omega) (by omega)]; omega
theorem NetBits_ok {n : Net} (h : nsz n ≤ 1000000) (hc : cN n) : OK (s_l14NetBits n) (fun r => 0 ≤ r ∧ r ≤ (nsz n : Int)) := by
 obtain ⟨r, e, hr⟩ := (l14Bits_all _).1 n (Nat.le_refl _) h hc
 exact ⟨r, s_l14NetBits_up n e, hr⟩
theorem MoreBits_ok {n : Net} (h : nsz n ≤ 1000000) (hc : cN n) : OK (iE n) (fun r => 0 ≤ r ∧ r ≤ (nsz n : Int) + 1) := by
 obtain ⟨r, e, hr⟩ := (l14Bits_all _).2 n (Nat.le_refl _) h hc
 exact ⟨r, s_l14MoreBits_up n e, hr⟩
theorem nz_pos {n : Net} (h : noneB n = false) : nz n = nsz n := by simp [nz, h]
theorem cZ_kind {n : Net} (h : cZ n) (hk : n.Kind ≠ 0) : cN n ∧ nz n = nsz n := by
 rcases h with h | h
 ·rw [(noneB_iff n).1 h] at hk; exact absurd rfl hk
 ·exact ⟨h, nz_pos (cN_none h)⟩
theorem KidsBits_ok {a : Arm} (h : asz a ≤ 400000) (hc : cA a) : OK (s_l14KidsBits a) (fun r => 0 ≤ r ∧ r ≤ (asz a : Int) + 1) := by
 have key : ∀ f : Nat, ∀ a : Arm, asz a ≤ f → asz a ≤ 400000 → cA a → OK (bK f a) (fun r => 0 ≤ r ∧ r ≤ (asz a : Int) + 1) := by
  intro f
  induction f with
  | zero => intro n h; have := asz_pos n; omega
  | succ f ih =>
   intro a hf hb hc
   have e := er a
   have hl := fT a.Kids
   obtain ⟨c1, c2, c3⟩ := (cA_eq a).1 hc
   show OK (cC (bK f) a) _
   unfold cC
   refine OK.bind (Q := fun r => 0 ≤ r ∧ r ≤ (asz a : Int) + 1) ?_ (fun r hr => ⟨_, rfl, hr⟩)
   refine for_ok (l := a.Kids) (fun k q => 0 ≤ q ∧ q ≤ (asz a : Int) + 1) 0 1 (Nat.zero_le _) ⟨by omega, by omega⟩ (fun k q hk hq => ?_) (fun q hq => ?_)
   ·simp only [c0, idxN hk, Option.bind_some, dltT hk, cond_true]
    have hk2 := aszL_at hk
    have hm := c3 _ (bA hk)
    have em := er (a.Kids.getD k default)
    obtain ⟨m1, m2, m3⟩ := (cA_eq _).1 hm
    have j20 : ∀ q : Int, 0 ≤ q → q ≤ (asz a : Int) + 1 → OK (bL a (k : Int) (bK f) q) (Sum.elim (fun p => p.2 = (k : Int) + 1 ∧ 0 ≤ p.1 ∧ p.1 ≤ (asz a : Int) + 1) (fun r => 0 ≤ r ∧ r ≤ (asz a : Int) + 1)) := by
     intro q q1 q2
     simp only [bL, idxN hk, Option.bind_some]
     refine OK.bind (ih _ (by omega) (by omega) hm) fun r hr => ?_
     rw [sGreater, Option.bind_some]
     simp only [gQ]
     exact ⟨_, rfl, w1 hk (by omega), by split <;> omega, by split <;> omega⟩
    have hnm : (⟨(a.Kids.getD k default).Net_Kind, (a.Kids.getD k default).Net_One_Op, (a.Kids.getD k default).Net_One_Args, (a.Kids.getD k default).Net_Kids⟩ : Net) = aY (a.Kids.getD k default) := rfl
    have hkd : (a.Kids.getD k default).Net_Kind = (aY (a.Kids.getD k default)).Kind := rfl
    have hks : (a.Kids.getD k default).Net_Kids = (aY (a.Kids.getD k default)).Kids := rfl
    by_cases h0 : (a.Kids.getD k default).Net_Kind = 0
    ·rw [show ((a.Kids.getD k default).Net_Kind == 0) = true by simpa using h0, cond_true]
     exact j20 q hq.1 hq.2
    ·rw [show ((a.Kids.getD k default).Net_Kind == 0) = false by simpa using h0, cond_false]
     obtain ⟨z1, z2⟩ := cZ_kind m1 (by rw [← hkd]; exact h0)
     have z3 := eT (aY (a.Kids.getD k default))
     by_cases h2 : (a.Kids.getD k default).Net_Kind = 2
     ·rw [show ((a.Kids.getD k default).Net_Kind == 2) = true by simpa using h2, cond_true]
      refine OK.bind (Q := fun q => 0 ≤ q ∧ q ≤ (asz a : Int) + 1) ?_ (fun q hq => j20 q hq.1 hq.2)
      have hl2 : (a.Kids.getD k default).Net_Kids.length ≤ nszL (aY (a.Kids.getD k default)).Kids := nszL_len _
      refine for_ok (l := (a.Kids.getD k default).Net_Kids) (fun j q => 0 ≤ q ∧ q ≤ (asz a : Int) + 1) 0 q (Nat.zero_le _) hq (fun j q hj hq => ?_) (fun q hq => ?_)
      ·simp only [fo, idxN hj, Option.bind_some, dltT hj, cond_true]
       have hj2 : nsz ((a.Kids.getD k default).Net_Kids.getD j default) ≤ nszL (aY (a.Kids.getD k default)).Kids := nszL_at hj
       refine OK.bind (MoreBits_ok (by omega) (((cN_eq _).1 z1).2.2 _ (bA hj))) fun r hr => ?_
       rw [sGreater, Option.bind_some]
       exact ⟨_, rfl, w1 hj (by omega), by split <;> omega, by split <;> omega⟩
      ·simp only [fo, dltF, cond_false]
       exact ⟨_, rfl, hq⟩
     ·rw [show ((a.Kids.getD k default).Net_Kind == 2) = false by simpa using h2, cond_false, hnm]
      refine OK.bind (MoreBits_ok (by omega) z1) fun r hr => ?_
      rw [sGreater, Option.bind_some]
      exact j20 _ (by split <;> omega) (by split <;> omega)
   ·simp only [c0, dltF, cond_false]
    exact ⟨_, rfl, hq⟩
 obtain ⟨r, e, hr⟩ := key _ a (Nat.le_refl _) h hc
 exact ⟨r, s_l14KidsBits_up a e, hr⟩
theorem Forks_ok {a : Arm} (h : asz a ≤ 400000) : OK (s_l14Forks a) (fun r => 0 ≤ r ∧ r ≤ (asz a : Int)) := by
 have key : ∀ f : Nat, ∀ a : Arm, asz a ≤ f → asz a ≤ 400000 → OK (dw f a) (fun r => 0 ≤ r ∧ r ≤ (asz a : Int)) := by
  intro f
  induction f with
  | zero => intro n h; have := asz_pos n; omega
  | succ f ih =>
   intro a hf hb
   have e := er a
   have hl := fT a.Kids
   show OK (dT (dw f) a) _
   unfold dT
   refine OK.bind (Q := fun r => 0 ≤ r ∧ r ≤ (asz a : Int)) ?_ (fun r hr => ⟨_, rfl, hr⟩)
   refine for_ok (l := a.Kids) (fun k q => 0 ≤ q ∧ q ≤ (asz a : Int)) 0 0 (Nat.zero_le _) ⟨by omega, by omega⟩ (fun k q hk hq => ?_) (fun q hq => ?_)
   ·simp only [eb, idxN hk, Option.bind_some, dltT hk, cond_true]
    have hk2 := aszL_at hk
    refine OK.bind (ih _ (by omega) (by omega)) fun r hr => ?_
    have j : ∀ r : Int, 0 ≤ r → r ≤ (asz a : Int) → OK (fP q (k : Int) r) (Sum.elim (fun p => p.2 = (k : Int) + 1 ∧ 0 ≤ p.1 ∧ p.1 ≤ (asz a : Int)) (fun r => 0 ≤ r ∧ r ≤ (asz a : Int))) := by
     intro r r1 r2
     simp only [fP]
     rw [sGreater, Option.bind_some]
     exact ⟨_, rfl, w1 hk (by omega), by split <;> omega, by split <;> omega⟩
    refine OK.cond (fun _ => ?_) (fun _ => ?_)
    ·refine j _ ?_ ?_
     ·rw [w64 (by omega) (by omega)]; omega
     ·rw [w64 (by omega) (by omega)]; omega
    ·exact j _ hr.1 (by omega)
   ·simp only [eb, dltF, cond_false]
    exact ⟨_, rfl, hq⟩
 obtain ⟨r, e, hr⟩ := key _ a (Nat.le_refl _) h
 exact ⟨r, s_l14Forks_up a e, hr⟩
theorem aX.app {l m : List Inst} (h : aX l) (k : aX m) : aX (l ++ m) := fun i hi => by
 rcases List.mem_append.1 hi with q | q
 ·exact h i q
 ·exact k i q
theorem aX.one {c o : Int} {g : List DevArg} (h : g.length ≤ 1000) : aX [⟨c, o, g⟩] := fun i hi => by simp at hi; subst hi; exact h
theorem aX.nil : aX [] := fun i hi => by cases hi
theorem sCopyE {e : Elem} (h : e.Args.length ≤ 1000) : s_l14Copy e = some e := by unfold s_l14Copy; rw [apOk_of (by omega) (by omega)]; rfl
theorem ap40 {l : List Inst} {n : Nat} (h : l.length ≤ n) (hn : n ≤ 3000000) : apOk l.length 40 = true := apOk_of (by omega) (by omega)
theorem l14Net_all : ∀ f : Nat, (∀ n : Net, 2 * nsz n ≤ f → nsz n ≤ 1000000 → cN n → OK ((bf f).1 n) (fun r => r.length + 1 ≤ 2 * nsz n ∧ aX r)) ∧
  (∀ (kd : Int) (n : Net), 2 * nsz n + 1 ≤ f → nsz n ≤ 1000000 → cN n → OK ((bf f).2 kd n) (fun r => r.length ≤ 2 * nsz n ∧ aX r)) := by
 intro f
 induction f with
 | zero => exact ⟨fun n h => by have := nsz_pos n; omega, fun kd n h => by omega⟩
 | succ f ih =>
  obtain ⟨ih1, ih2⟩ := ih
  refine ⟨fun n hf hb hc => ?_, fun kd n hf hb hc => ?_⟩
  ·have e := eT n
   have hl := nszL_len n.Kids
   rw [cN_eq] at hc
   obtain ⟨c1, c2, c3⟩ := hc
   show OK (fy (bf f).1 (bf f).2 n) _
   unfold fy
   by_cases h1 : n.Kind = 1
   ·rw [show (n.Kind == 1) = true by simpa using h1, cond_true, sCopyE (e := ⟨n.One_Op, n.One_Args⟩) c1, Option.bind_some]
    exact ⟨_, rfl, by simp; omega, aX.one c1⟩
   ·rw [show (n.Kind == 1) = false by simpa using h1, cond_false]
    have hne : 0 < n.Kids.length := by
     rcases c2 with h | h
     ·omega
     ·exact List.length_pos_iff.2 h.2.2
    have h3 := nszL_at (l := n.Kids) (k := 0) hne
    rw [idxZ hne]
    simp only [Option.bind_some]
    by_cases h2 : n.Kind = 4
    ·rw [show (n.Kind == 4) = true by simpa using h2, cond_true]
     refine OK.bind (ih1 _ (by omega) (by omega) (c3 _ (bA hne))) fun r hr => ?_
     refine OK.gd (ap40 (n := 2 * nsz n) (by simp; omega) (by omega)) ⟨_, rfl, by simp; omega, hr.2.app (aX.one (by simp))⟩
    ·rw [show (n.Kind == 4) = false by simpa using h2, cond_false]
     refine OK.bind (ih1 _ (by omega) (by omega) (c3 _ (bA hne))) fun r hr => ?_
     refine OK.bind (Q := fun r => r.length + 1 ≤ 2 * nsz n ∧ aX r) ?_ (fun r hr => ⟨_, rfl, hr⟩)
     have t1 := nszL_take (l := n.Kids) (k := 0) hne
     simp only [List.take_zero, cF, Nat.zero_add] at t1
     refine for_ok (l := n.Kids) (fun k a => a.length + 1 ≤ 2 * nszL (n.Kids.take k) ∧ aX a) 1 r (by omega) ⟨by omega, hr.2⟩ (fun k a hk ha => ?_) (fun a ha => ?_)
     ·simp only [fB, idxN hk, Option.bind_some, dltT hk, cond_true]
      have hk2 := nszL_at hk
      have hk3 := nszL_take hk
      have hk4 := nszL_le n.Kids (k + 1)
      refine OK.bind (ih2 _ _ (by omega) (by omega) (c3 _ (bA hk))) fun q hq => ?_
      refine OK.gd (ap40 (n := 2 * nsz n) (by simp only [List.length_append]; omega) (by omega)) ⟨_, rfl, w1 hk (by omega), by simp only [List.length_append]; omega, ha.2.app hq.2⟩
     ·simp only [fB, dltF, cond_false]
      rw [List.take_length] at ha
      exact ⟨_, rfl, by omega, ha.2⟩
  ·show OK (eC (bf f).1 kd n) _
   unfold eC
   have hp := nsz_pos n
   have c1 := ((cN_eq n).1 hc).1
   by_cases h1 : n.Kind = 1
   ·rw [show (n.Kind == 1) = true by simpa using h1, cond_true, sCopyE (e := ⟨n.One_Op, n.One_Args⟩) c1, Option.bind_some]
    exact ⟨_, rfl, by simp; omega, aX.one c1⟩
   ·rw [show (n.Kind == 1) = false by simpa using h1, cond_false]
    refine OK.bind (ih1 n (by omega) hb hc) fun r hr => ?_
    exact OK.gd (ap40 (n := 2 * nsz n) (by simp; omega) (by omega)) ⟨_, rfl, by simp; omega, hr.2.app (aX.one (by simp))⟩
theorem l14Net_ok {n : Net} (h : nsz n ≤ 1000000) (hc : cN n) : OK (s_l14Net n) (fun r => r.length + 1 ≤ 2 * nsz n ∧ aX r) := by
 obtain ⟨r, e, hr⟩ := (l14Net_all _).1 n (Nat.le_refl _) h hc
 exact ⟨r, s_l14Net_up n e, hr⟩
theorem l14More_ok {kd : Int} {n : Net} (h : nsz n ≤ 1000000) (hc : cN n) : OK (s_l14More kd n) (fun r => r.length ≤ 2 * nsz n ∧ aX r) := by
 obtain ⟨r, e, hr⟩ := (l14Net_all _).2 kd n (Nat.le_refl _) h hc
 exact ⟨r, s_l14More_up kd n e, hr⟩
theorem l14Behind_ok {n : Net} (h : nz n ≤ 1000000) (hc : cZ n) : OK (s_l14Behind n) (fun r => r.length ≤ 2 * nz n ∧ aX r) := by
 unfold s_l14Behind
 rw [sNone, Option.bind_some]
 cases hn : noneB n with
 | true => exact ⟨_, rfl, by simp, aX.nil⟩
 | false =>
  rw [cond_false]
  have cn : cN n := by rcases hc with q | q; (rw [q] at hn; cases hn); (exact q)
  have e1 := nz_pos hn
  have e2 := eT n
  have hl := nszL_len n.Kids
  by_cases h1 : n.Kind = 2
  ·rw [show (n.Kind != 2) = false by simp [h1], cond_false]
   refine OK.bind (Q := fun r => r.length ≤ 2 * nz n ∧ aX r) ?_ (fun r hr => ⟨_, rfl, hr⟩)
   refine for_ok (l := n.Kids) (fun k a => a.length ≤ 2 * nszL (n.Kids.take k) ∧ aX a) 0 [] (Nat.zero_le _) ⟨by simp, aX.nil⟩ (fun k a hk ha => ?_) (fun a ha => ?_)
   ·simp only [gE, idxN hk, Option.bind_some, dltT hk, cond_true]
    have hk2 := nszL_at hk
    have hk3 := nszL_take hk
    have hk4 := nszL_le n.Kids (k + 1)
    refine OK.bind (l14More_ok (by omega) (((cN_eq n).1 cn).2.2 _ (bA hk))) fun q hq => ?_
    refine OK.gd (ap40 (n := 2 * nsz n) (by simp only [List.length_append]; omega) (by omega)) ⟨_, rfl, w1 hk (by omega), by simp only [List.length_append]; omega, ha.2.app hq.2⟩
   ·simp only [gE, dltF, cond_false]
    rw [List.take_length] at ha
    exact ⟨_, rfl, by omega, ha.2⟩
  ·rw [show (n.Kind != 2) = true by simp [h1], cond_true]
   exact OK.bind (l14More_ok (by omega) cn) fun r hr => ⟨_, rfl, by omega, hr.2⟩
theorem l14Tail_ok {a : Arm} (h : asz a ≤ 400000) (hc : cA a) : OK (s_l14Tail a) (fun r => r.length + 2 * nz (aY a) + 1 ≤ 3 * asz a ∧ aX r) := by
 have key : ∀ f : Nat, ∀ a : Arm, asz a ≤ f → asz a ≤ 400000 → cA a → OK (cG f a) (fun r => r.length + 2 * nz (aY a) + 1 ≤ 3 * asz a ∧ aX r) := by
  intro f
  induction f with
  | zero => intro n h; have := asz_pos n; omega
  | succ f ih =>
   intro a hf hb hc
   have e := er a
   have hl := fT a.Kids
   obtain ⟨c1, c2, c3⟩ := (cA_eq a).1 hc
   show OK (eA (cG f) a) _
   unfold eA
   refine OK.bind (Q := fun l => l.length = a.Coils.length ∧ aX l) ?_ (fun l0 hl0 => ?_)
   ·refine for_ok (l := a.Coils) (fun k q => q.length = k ∧ aX q) 0 [] (Nat.zero_le _) ⟨rfl, aX.nil⟩ (fun k q hk hq => ?_) (fun q hq => ?_)
    ·have hm := c2 _ (bA hk)
     simp only [s_l14Tail_s9, idxN hk, Option.bind_some, dltT hk, cond_true, sCopyE hm]
     exact OK.gd (ap40 (n := 2000000) (by simp; omega) (by omega)) ⟨_, rfl, w1 hk (by omega), by simp; omega, hq.2.app (aX.one hm)⟩
    ·simp only [s_l14Tail_s9, dltF, cond_false]
     exact ⟨_, rfl, hq⟩
   ·simp only [gu]
    refine OK.bind (Q := fun l => l.length ≤ a.Coils.length + 3 * aszL a.Kids ∧ aX l) ?_ (fun l hl => ⟨_, rfl, by omega, hl.2⟩)
    refine for_ok (l := a.Kids) (fun k q => q.length ≤ a.Coils.length + 3 * aszL (a.Kids.take k) ∧ aX q) 0 l0 (Nat.zero_le _) ⟨by omega, hl0.2⟩ (fun k q hk hq => ?_) (fun q hq => ?_)
    ·have hk2 := aszL_at hk
     have hk3 := aszL_take hk
     have hk4 := aszL_le a.Kids (k + 1)
     have hm := c3 _ (bA hk)
     obtain ⟨m1, m2, m3⟩ := (cA_eq _).1 hm
     have em := er (a.Kids.getD k default)
     have j35 : ∀ q2 : List Inst, q2.length ≤ q.length + 1 → aX q2 → OK (cm a (k : Int) (cG f) q2) (Sum.elim (fun p => p.2 = (k : Int) + 1 ∧ p.1.length ≤ a.Coils.length + 3 * aszL (a.Kids.take (k + 1)) ∧ aX p.1) (fun l => l.length ≤ a.Coils.length + 3 * aszL a.Kids ∧ aX l)) := by
      intro q2 g1 g2
      simp only [cm, idxN hk, Option.bind_some]
      have hnm : (⟨(a.Kids.getD k default).Net_Kind, (a.Kids.getD k default).Net_One_Op, (a.Kids.getD k default).Net_One_Args, (a.Kids.getD k default).Net_Kids⟩ : Net) = aY (a.Kids.getD k default) := rfl
      rw [hnm]
      refine OK.bind (l14Behind_ok (by omega) m1) fun r hr => ?_
      refine OK.gd (ap40 (n := 3000000) (by simp only [List.length_append]; omega) (by omega)) ?_
      refine OK.bind (ih _ (by omega) (by omega) hm) fun s hs => ?_
      exact OK.gd (ap40 (n := 3000000) (by simp only [List.length_append]; omega) (by omega)) ⟨_, rfl, w1 hk (by omega), by simp only [List.length_append]; omega, (g2.app hr.2).app hs.2⟩
     simp only [eD, dltT hk, cond_true]
     have one : ∀ c : Int, OK (gd (apOk ((q ++ [(⟨c, 0, []⟩ : Inst)])).length 40) (cm a (k : Int) (cG f) (q ++ [(⟨c, 0, []⟩ : Inst)]))) (Sum.elim (fun p => p.2 = (k : Int) + 1 ∧ p.1.length ≤ a.Coils.length + 3 * aszL (a.Kids.take (k + 1)) ∧ aX p.1) (fun l => l.length ≤ a.Coils.length + 3 * aszL a.Kids ∧ aX l)) := fun c =>
      OK.gd (ap40 (n := 3000000) (by simp; omega) (by omega)) (j35 _ (by simp) (hq.2.app (aX.one (by simp))))
     refine OK.cond (fun _ => j35 q (by omega) hq.2) (fun _ => OK.cond (fun _ => one 7) (fun _ => OK.cond (fun _ => one 9) (fun _ => one 8)))
    ·simp only [eD, dltF, cond_false]
     rw [List.take_length] at hq
     exact ⟨_, rfl, hq⟩
 obtain ⟨r, e, hr⟩ := key _ a (Nat.le_refl _) h hc
 exact ⟨r, s_l14Tail_up a e, hr⟩
theorem WayDown_ok {l : List Arm} (h : aszL l ≤ 400000) (hB : aBL l) (hN : ∀ a ∈ l, nsz (aY a) ≤ 400000) : OK (s_WayDown l) (fun r => aX r.1 ∧ r.1.length ≤ 1200 ∧ 0 ≤ r.2) := by
 unfold s_WayDown
 rw [sTreeCheck l (by omega) hB (fun a ha => by have := hN a ha; omega), Option.bind_some]
 refine OK.cond (fun _ => ⟨_, rfl, aX.nil, by simp, by simp⟩) (fun _ => ?_)
 refine OK.bind (Q := fun _ => True) ?_ (fun b _ => OK.cond (fun _ => ⟨_, rfl, aX.nil, by simp, by simp⟩) (fun _ => ?_))
 ·unfold s_WayBits
  refine OK.bind (NormMake_ok h hB hN) fun m hm => ?_
  have hml := fT m
  refine OK.bind (Q := fun _ => True) ?_ (fun r hr => ⟨_, rfl, trivial⟩)
  refine for_ok (l := m) (fun k q => True) 0 0 (Nat.zero_le _) trivial (fun k q hk hq => ?_) (fun q hq => ?_)
  ·simp only [iG, idxN hk, Option.bind_some, dltT hk, cond_true]
   have hk2 := aszL_at hk
   have em := er (m.getD k default)
   obtain ⟨m1, m2⟩ := hm.2 _ (bA hk)
   have hnm : (⟨(m.getD k default).Net_Kind, (m.getD k default).Net_One_Op, (m.getD k default).Net_One_Args, (m.getD k default).Net_Kids⟩ : Net) = aY (m.getD k default) := rfl
   have e1 := nz_pos (cN_none m2)
   rw [hnm]
   refine OK.bind (NetBits_ok (by omega) m2) fun x hx => OK.bind (KidsBits_ok (by omega) m1) fun y hy => ?_
   rw [sGreater, Option.bind_some, sGreater, Option.bind_some]
   exact ⟨_, rfl, w1 hk (by omega), trivial⟩
  ·simp only [iG, dltF, cond_false]
   exact ⟨_, rfl, trivial⟩
 ·refine OK.bind (Q := fun _ => True) ?_ (fun b _ => OK.cond (fun _ => ⟨_, rfl, aX.nil, by simp, by simp⟩) (fun _ => ?_))
  ·unfold s_WayForks
   refine OK.bind (NormMake_ok h hB hN) fun m hm => ?_
   have hml := fT m
   refine OK.bind (Q := fun _ => True) ?_ (fun r hr => ⟨_, rfl, trivial⟩)
   refine for_ok (l := m) (fun k q => True) 0 0 (Nat.zero_le _) trivial (fun k q hk hq => ?_) (fun q hq => ?_)
   ·simp only [gS, idxN hk, Option.bind_some, dltT hk, cond_true]
    have hk2 := aszL_at hk
    refine OK.bind (Forks_ok (by omega)) fun x hx => ?_
    rw [sGreater, Option.bind_some]
    exact ⟨_, rfl, w1 hk (by omega), trivial⟩
   ·simp only [gS, dltF, cond_false]
    exact ⟨_, rfl, trivial⟩
  ·refine OK.bind (Q := fun r => aX r ∧ r.length ≤ 1200) ?_ (fun r hr => ⟨_, rfl, hr.1, hr.2, by simp⟩)
   unfold s_WayPlain
   refine OK.bind (NormMake_ok h hB hN) fun m hm => ?_
   have hml := fT m
   refine OK.bind (Q := fun r => aX r ∧ r.length ≤ 1200) ?_ (fun r hr => ⟨_, rfl, hr⟩)
   refine for_ok (l := m) (fun k q => aX q ∧ q.length ≤ 3 * aszL (m.take k)) 0 [] (Nat.zero_le _) ⟨aX.nil, by simp⟩ (fun k q hk hq => ?_) (fun q hq => ?_)
   ·simp only [gX, idxN hk, Option.bind_some, dltT hk, cond_true]
    have hk2 := aszL_at hk
    have hk3 := aszL_take hk
    have hk4 := aszL_le m (k + 1)
    have em := er (m.getD k default)
    obtain ⟨m1, m2⟩ := hm.2 _ (bA hk)
    have hnm : (⟨(m.getD k default).Net_Kind, (m.getD k default).Net_One_Op, (m.getD k default).Net_One_Args, (m.getD k default).Net_Kids⟩ : Net) = aY (m.getD k default) := rfl
    have e1 := nz_pos (cN_none m2)
    rw [hnm]
    refine OK.bind (l14Net_ok (by omega) m2) fun x hx => ?_
    refine OK.gd (ap40 (n := 3000000) (by simp only [List.length_append]; omega) (by omega)) ?_
    refine OK.bind (l14Tail_ok (by omega) m1) fun y hy => ?_
    refine OK.gd (ap40 (n := 3000000) (by simp only [List.length_append]; omega) (by omega)) ?_
    refine OK.gd (ap40 (n := 3000000) (by simp only [List.length_append, List.length_cons, List.length_nil]; omega) (by omega)) ⟨_, rfl, w1 hk (by omega), ((hq.1.app hx.2).app hy.2).app (aX.one (by simp)), ?_⟩
    simp only [List.length_append, List.length_cons, List.length_nil]; omega
   ·simp only [gX, dltF, cond_false]
    rw [List.take_length] at hq
    exact ⟨_, rfl, hq.1, by omega⟩
end Go.AM
end
section
/- Ladders that are drawn. Conditions: none. -/
namespace Go.AM
open Go
theorem eta26 (r : l26Rd) : (⟨r.b, r.p⟩ : l26Rd) = r := rfl
theorem l7Net_step {v : l26Rd → Int → Option (Net × l26Rd)} {d : Int} {T S : Nat} {M : Int} (hT : T ≤ 1000000) (hS : 1 ≤ S)
  (hv : ∀ (N : Int) (r : l26Rd), G N r → N ≤ M → d ≤ 0 ∨ OK (v r (IntKind.i64.wrap (d - 1))) (fun x => G (N + T) x.2 ∧ nsz x.1 ≤ S)) {N : Int} {r : l26Rd} (h : G N r) (hN : N + 3 * T + 100 ≤ M) (hM : M ≤ 40000000000) :
  OK (gg v r d) (fun x => G (N + (3 * T + 100)) x.2 ∧ nsz x.1 ≤ 3 * S + 1) := by
 unfold gg
 refine OK.bind (aU h (by omega)) fun x hx => ?_
 obtain ⟨x1, x2, x3⟩ := hx
 have x4 := x3 (by omega)
 refine OK.cond (fun _ => ?_) (fun hd => ?_)
 ·refine OK.bind (cK x1 (by omega)) fun y hy => ⟨_, rfl, hy.1.up (by omega), ?_⟩
  rw [eT]; simp only [cF]; omega
 ·have hd0 : ¬ d ≤ 0 := by
   intro h0
   rw [decide_eq_true h0] at hd; cases hd
  refine OK.cond (fun _ => ?_) (fun _ => ?_)
  ·rcases hv _ _ x1 (by omega) with h0 | h1
   ·exact absurd h0 hd0
   ·refine OK.bind h1 fun y hy => ⟨_, rfl, hy.1.up (by omega), ?_⟩
    rw [eT]; simp only [fL, cF]; have := hy.2; omega
  ·refine OK.bind (aU x1 (by omega)) fun y hy => ?_
   obtain ⟨y1, y2, y3⟩ := hy
   have y4 := y3 (by omega)
   refine OK.bind (aU y1 (by omega)) fun z hz => ?_
   obtain ⟨z1, z2, z3⟩ := hz
   have j : ∀ m : Int, m ≤ 3 → OK (fv d x v (z.2.b, z.2.p, m)) (fun q => G (N + (3 * T + 100)) q.2 ∧ nsz q.1 ≤ 3 * S + 1) := by
    intro m hm
    simp only [fv]
    refine OK.loop (Q := fun q => G (N + (3 * T + 100)) ⟨q.1, q.2.1⟩ ∧ nszL q.2.2 ≤ 3 * S) (fun q => 0 ≤ q.2.2.2 ∧ (q.2.2.2 ≤ 3) ∧ G (N + 3 + q.2.2.2 * T) ⟨q.1, q.2.1⟩ ∧ (nszL q.2.2.1 : Int) ≤ q.2.2.2 * S ∧ (q.2.2.1.length : Int) ≤ q.2.2.2) (fun q => (4 - q.2.2.2).toNat) ⟨by simp, by simp, by simpa using z1.up (by omega), by simp [cF], by simp⟩ (fun q hq => ?_) (fun q hq => ?_)
    ·obtain ⟨b, p, l, i⟩ := q
     obtain ⟨q1, q2, q3, q4, q5⟩ := hq
     simp only at q1 q2 q3 q4 q5
     simp only [gR]
     refine OK.cond (fun hi => ?_) (fun hi => ?_)
     ·have hi : i < m := by simpa using hi
      have e0 : i = 0 ∨ i = 1 ∨ i = 2 := by omega
      rcases hv _ _ q3 (by rcases e0 with rfl | rfl | rfl <;> omega) with h0 | h1
      ·exact absurd h0 hd0
      ·refine OK.bind h1 fun y hy => ?_
       refine OK.gd (apOk_of (by simp; omega) (by simp; omega)) ⟨_, rfl, ⟨?_, ?_, ?_, ?_, ?_⟩, ?_⟩
       ·simp only; rw [w64 (by omega) (by omega)]; omega
       ·simp only; rw [w64 (by omega) (by omega)]; omega
       ·simp only; rw [w64 (by omega) (by omega), eta26]
        refine hy.1.up ?_
        rcases e0 with rfl | rfl | rfl <;> omega
       ·simp only; rw [w64 (by omega) (by omega), nszL_app, fL, cF]
        have := hy.2
        rcases e0 with rfl | rfl | rfl <;> omega
       ·simp only; rw [w64 (by omega) (by omega)]; simp; omega
       ·simp only; rw [w64 (by omega) (by omega)]; omega
     ·refine ⟨_, rfl, ?_, ?_⟩
      ·simp only
       refine q3.up ?_
       have e0 : i = 0 ∨ i = 1 ∨ i = 2 ∨ i = 3 := by omega
       rcases e0 with rfl | rfl | rfl | rfl <;> omega
      ·simp only
       have e0 : i = 0 ∨ i = 1 ∨ i = 2 ∨ i = 3 := by omega
       rcases e0 with rfl | rfl | rfl | rfl <;> omega
    ·simp only [s_l7Net_j31]
     refine ⟨_, rfl, hq.1, ?_⟩
     rw [eT]; simp only; have := hq.2; omega
   refine OK.cond (fun _ => j 1 (by omega)) (fun _ => j _ ?_)
   rw [w64 (by omega) (by omega)]; omega
theorem l7Net_ok {N : Int} {r : l26Rd} (h : G N r) (hN : N ≤ 30000000000) : OK (s_l7Net r 2) (fun x => G (N + 10000) x.2 ∧ nsz x.1 ≤ 60) := by
 have s0 : ∀ (N : Int) (r : l26Rd), G N r → N ≤ 30000010000 → OK (eJ 1 r 0) (fun x => G (N + 103) x.2 ∧ nsz x.1 ≤ 4) := fun N r h hN =>
  l7Net_step (T := 1) (S := 1) (M := 40000000000) (by omega) (by omega) (fun _ _ _ _ => .inl (by omega)) h (by omega) (by omega)
 have s1 : ∀ (N : Int) (r : l26Rd), G N r → N ≤ 30000005000 → OK (eJ 2 r 1) (fun x => G (N + 409) x.2 ∧ nsz x.1 ≤ 13) := fun N r h hN =>
  l7Net_step (T := 103) (S := 4) (M := 30000010000) (by omega) (by omega) (fun N r h hN => .inr (s0 N r h hN)) h (by omega) (by omega)
 have s2 : OK (eJ 3 r 2) (fun x => G (N + 1327) x.2 ∧ nsz x.1 ≤ 40) :=
  l7Net_step (T := 409) (S := 13) (M := 30000005000) (by omega) (by omega) (fun N r h hN => .inr (s1 N r h hN)) h (by omega) (by omega)
 obtain ⟨x, e, hx⟩ := s2
 exact ⟨x, s_l7Net_up _ _ e, hx.1.up (by omega), by omega⟩
def aP (N : Int) (S : Nat) (x : Arm × l26Rd) : Prop := G N x.2 ∧ asz x.1 ≤ S ∧ aB x.1 ∧ nsz (aY x.1) ≤ 100
theorem aB_mk {k o : Int} {g : List DevArg} {ks : List Net} {cs : List Elem} {ms : List Arm} (h1 : cs.length ≤ 1000000) (h2 : ∀ e ∈ cs, e.Args.length ≤ 1000) (h3 : ∀ a ∈ ms, aB a) : aB ⟨k, o, g, ks, cs, ms⟩ := by
 rw [aB_eq]; exact ⟨h1, h2, (aBL_iff _).2 h3⟩
theorem nz_le (n : Net) : nz n ≤ nsz n := by unfold nz; split <;> omega
theorem l7Arm_step {v : l26Rd → Int → Bool → Option (Arm × l26Rd)} {d : Int} {T S : Nat} {M : Int} (hT : T ≤ 10000000) (hd2 : d ≤ 100)
  (hv : ∀ (N : Int) (r : l26Rd), G N r → N ≤ M → d ≤ 0 ∨ OK (v r (IntKind.i64.wrap (d - 1)) false) (aP (N + T) S)) {N : Int} {r : l26Rd} {t : Bool} (h : G N r) (hN : N + 3 * T + 20000 ≤ M) (hM : M ≤ 20000000000) :
  OK (gi v r d t) (aP (N + (3 * T + 20000)) (3 * S + 110)) := by
 unfold gi
 have j5 : ∀ (n : Net) (N1 : Int) (q : l26Rd), nsz n ≤ 100 → G N1 q → N1 ≤ N + 12000 → OK (fE d v (q.b, q.p, n.Kind, n.One_Op, n.One_Args, n.Kids)) (aP (N + (3 * T + 20000)) (3 * S + 110)) := by
  intro n N1 q hn hq hN1
  simp only [fE]
  refine OK.bind (aU hq (by omega)) fun x hx => ?_
  obtain ⟨x1, x2, x3⟩ := hx
  have x4 := x3 (by omega)
  refine OK.loop (Q := fun q => G (N + 13000) ⟨q.1, q.2.1⟩ ∧ q.2.2.length ≤ 2 ∧ ∀ e ∈ q.2.2, e.Args.length ≤ 1000) (fun q => 0 ≤ q.2.2.2 ∧ q.2.2.2 ≤ 2 ∧ G (N + 12001 + (2 - q.2.2.2) * 30) ⟨q.1, q.2.1⟩ ∧ (q.2.2.1.length : Int) ≤ 2 - q.2.2.2 ∧ ∀ e ∈ q.2.2.1, e.Args.length ≤ 1000) (fun q => q.2.2.2.toNat) ⟨by simp only; omega, by simp only; omega, by simp only; exact x1.up (by omega), by simp; omega, by simp⟩ (fun q hq => ?_) (fun q hq => ?_)
  ·obtain ⟨b, p, l, i⟩ := q
   obtain ⟨q0, q1, q2, q3, q5⟩ := hq
   simp only at q0 q1 q2 q3 q5
   simp only [s_l7Arm_s15]
   refine OK.cond (fun hi => ?_) (fun hi => ?_)
   ·have hi : 0 < i := by simpa using hi
    refine OK.bind (ix q2 (by omega)) fun y hy => ?_
    refine OK.gd (apOk_of (by simp; omega) (by simp; omega)) ⟨_, rfl, ⟨?_, ?_, ?_, ?_, ?_⟩, ?_⟩
    ·simp only; rw [w64 (by omega) (by omega)]; omega
    ·simp only; rw [w64 (by omega) (by omega)]; omega
    ·simp only; rw [w64 (by omega) (by omega), eta26]; exact hy.1.up (by omega)
    ·simp only; rw [w64 (by omega) (by omega)]; simp; omega
    ·intro e he
     rcases List.mem_append.1 he with g | g
     ·exact q5 e g
     ·simp at g; subst g; have := hy.2.1; omega
    ·simp only; rw [w64 (by omega) (by omega)]; omega
   ·have hi : ¬ 0 < i := by simpa using hi
    exact ⟨_, rfl, by simp only; exact q2.up (by omega), by simp only; omega, q5⟩
  ·obtain ⟨b, p, cs⟩ := q
   obtain ⟨c1, c2, c3⟩ := hq
   simp only at c1 c2 c3
   have j45 : ∀ (r : l26Rd) (cs : List Elem) (ms : List Arm), G (N + (3 * T + 20000)) r → cs.length ≤ 3 → (∀ e ∈ cs, e.Args.length ≤ 1000) → aszL ms ≤ 3 * S → (∀ a ∈ ms, aB a) →
     OK (s_l7Arm_j45 n.Kind n.One_Op n.One_Args n.Kids ms (r.b, r.p, cs)) (aP (N + (3 * T + 20000)) (3 * S + 110)) := by
    intro r cs ms g1 g2 g3 g4 g5
    simp only [s_l7Arm_j45]
    obtain ⟨k, o, ga, ks⟩ := n
    refine ⟨_, rfl, g1, ?_, aB_mk (by omega) g3 g5, hn⟩
    rw [er]
    have := nz_le (⟨k, o, ga, ks⟩ : Net)
    simp only [aY]; omega
   have j26 : ∀ (r : l26Rd) (ms : List Arm), G (N + 14000 + 3 * T) r → aszL ms ≤ 3 * S → (∀ a ∈ ms, aB a) → OK (gZ n.Kind n.One_Op n.One_Args n.Kids cs (r.b, r.p, ms)) (aP (N + (3 * T + 20000)) (3 * S + 110)) := by
    intro r ms g1 g4 g5
    simp only [gZ]
    refine OK.cond (fun _ => ?_) (fun _ => j45 r cs ms (g1.up (by omega)) (by omega) c3 g4 g5)
    refine OK.bind (ix g1 (by omega)) fun y hy => ?_
    refine OK.gd (apOk_of (by simp; omega) (by simp; omega)) (j45 y.2 _ ms (hy.1.up (by omega)) (by simp; omega) ?_ g4 g5)
    intro e he
    rcases List.mem_append.1 he with g | g
    ·exact c3 e g
    ·simp at g; subst g; have := hy.2.1; omega
   simp only [gY]
   refine OK.cond (fun hd => ?_) (fun _ => j26 ⟨b, p⟩ [] (c1.up (by omega)) (by simp [b7]) (by simp))
   have hd0 : ¬ d ≤ 0 := by
    have : 0 < d := by simpa using hd
    omega
   refine OK.bind (aU c1 (by omega)) fun y hy => ?_
   obtain ⟨y1, y2, y3⟩ := hy
   refine OK.cond (fun _ => ?_) (fun _ => j26 y.2 [] (y1.up (by omega)) (by simp [b7]) (by simp))
   refine OK.bind (aU y1 (by omega)) fun z hz => ?_
   obtain ⟨z1, z2, z3⟩ := hz
   have z4 := z3 (by omega)
   refine OK.loop (Q := fun q => G (N + 14000 + 3 * T) ⟨q.1, q.2.1⟩ ∧ aszL q.2.2 ≤ 3 * S ∧ ∀ a ∈ q.2.2, aB a) (fun q => 0 ≤ q.2.2.2 ∧ q.2.2.2 ≤ 3 ∧ G (N + 13002 + (3 - q.2.2.2) * T) ⟨q.1, q.2.1⟩ ∧ (aszL q.2.2.1 : Int) ≤ (3 - q.2.2.2) * S ∧ (q.2.2.1.length : Int) ≤ 3 - q.2.2.2 ∧ ∀ a ∈ q.2.2.1, aB a) (fun q => q.2.2.2.toNat) ⟨?_, ?_, ?_, ?_, ?_, by simp⟩ (fun q hq => ?_) (fun q hq => ?_)
   ·simp only; rw [w64 (by omega) (by omega)]; omega
   ·simp only; rw [w64 (by omega) (by omega)]; omega
   ·simp only; rw [w64 (by omega) (by omega)]
    refine z1.up ?_
    have e0 : z.1 = 0 ∨ z.1 = 1 ∨ z.1 = 2 := by omega
    rcases e0 with e | e | e <;> rw [e] <;> omega
   ·simp only; rw [w64 (by omega) (by omega), b7]
    have e0 : z.1 = 0 ∨ z.1 = 1 ∨ z.1 = 2 := by omega
    rcases e0 with e | e | e <;> rw [e] <;> omega
   ·simp only; rw [w64 (by omega) (by omega)]; simp; omega
   ·obtain ⟨b, p, l, i⟩ := q
    obtain ⟨q0, q1, q2, q3, q4, q5⟩ := hq
    simp only at q0 q1 q2 q3 q4 q5
    simp only [gV]
    have e0 : i = 0 ∨ i = 1 ∨ i = 2 ∨ i = 3 := by omega
    refine OK.cond (fun hi => ?_) (fun hi => ?_)
    ·have hi : 0 < i := by simpa using hi
     rcases hv _ _ q2 (by rcases e0 with rfl | rfl | rfl | rfl <;> omega) with h0 | h1
     ·exact absurd h0 hd0
     ·refine OK.bind h1 fun y hy => ?_
      obtain ⟨y1, y2, y3, y4⟩ := hy
      refine OK.gd (apOk_of (by simp; omega) (by simp; omega)) ⟨_, rfl, ⟨?_, ?_, ?_, ?_, ?_, ?_⟩, ?_⟩
      ·simp only; rw [w64 (by omega) (by omega)]; omega
      ·simp only; rw [w64 (by omega) (by omega)]; omega
      ·simp only; rw [w64 (by omega) (by omega), eta26]
       refine y1.up ?_
       rcases e0 with rfl | rfl | rfl | rfl <;> omega
      ·simp only; rw [w64 (by omega) (by omega), aszL_app, eP, b7]
       rcases e0 with rfl | rfl | rfl | rfl <;> omega
      ·simp only; rw [w64 (by omega) (by omega)]; simp; omega
      ·intro e he
       rcases List.mem_append.1 he with g | g
       ·exact q5 e g
       ·simp at g; subst g; exact y3
      ·simp only; rw [w64 (by omega) (by omega)]; omega
    ·have hi : ¬ 0 < i := by simpa using hi
     refine ⟨_, rfl, ?_, ?_, q5⟩
     ·simp only
      refine q2.up ?_
      rcases e0 with rfl | rfl | rfl | rfl <;> omega
     ·simp only
      rcases e0 with rfl | rfl | rfl | rfl <;> omega
   ·obtain ⟨b, p, ms⟩ := q
    exact j26 ⟨b, p⟩ ms hq.1 hq.2.1 hq.2.2
 refine OK.cond (fun _ => ?_) (fun _ => ?_)
 ·refine OK.bind (l7Net_ok h (by omega)) fun x hx => ?_
  exact j5 x.1 _ x.2 (by have := hx.2; omega) hx.1 (by omega)
 ·refine OK.bind (aU h (by omega)) fun y hy => ?_
  refine OK.cond (fun _ => ?_) (fun _ => ?_)
  ·refine OK.bind (l7Net_ok hy.1 (by omega)) fun x hx => ?_
   exact j5 x.1 _ x.2 (by have := hx.2; omega) hx.1 (by omega)
  ·exact j5 ⟨0, 0, [], []⟩ _ y.2 (by rw [eT]; simp [cF]) hy.1 (by omega)
theorem l7Arm_ok {N : Int} {r : l26Rd} (h : G N r) (hN : N ≤ 10000000000) : OK (s_l7Arm r 2 true) (aP (N + 300000) 2000) := by
 have s0 : ∀ (N : Int) (r : l26Rd), G N r → N ≤ 10001000000 → OK (eI 1 r 0 false) (aP (N + 20003) 113) := fun N r h hN =>
  l7Arm_step (T := 1) (S := 1) (M := 20000000000) (by omega) (by omega) (fun _ _ _ _ => .inl (by omega)) h (by omega) (by omega)
 have s1 : ∀ (N : Int) (r : l26Rd), G N r → N ≤ 10000500000 → OK (eI 2 r 1 false) (aP (N + 80009) 449) := fun N r h hN =>
  l7Arm_step (T := 20003) (S := 113) (M := 10001000000) (by omega) (by omega) (fun N r h hN => .inr (s0 N r h hN)) h (by omega) (by omega)
 have s2 : OK (eI 3 r 2 true) (aP (N + 260027) 1457) :=
  l7Arm_step (T := 80009) (S := 449) (M := 10000500000) (by omega) (by omega) (fun N r h hN => .inr (s1 N r h hN)) h (by omega) (by omega)
 obtain ⟨x, e, hx⟩ := s2
 exact ⟨x, s_l7Arm_up _ _ _ e, hx.1.up (by omega), by have := hx.2.1; omega, hx.2.2⟩
end Go.AM
end
section
/- Ladders and images that are drawn. Conditions: none. -/
namespace Go.AM
open Go
theorem l7Stair_ok {N n : Int} {r : l26Rd} (h : G N r) (hN : N ≤ 10000000000) (hn : 1 ≤ n) (hn2 : n ≤ 30) : OK (s_l7Stair r n) (fun x => G (N + 2000) x.2 ∧ nsz x.1 ≤ 62) := by
 unfold s_l7Stair
 refine OK.bind (cK h (by omega)) fun y hy => ?_
 refine OK.loop (Q := fun q => G (N + 2000) ⟨q.1, q.2.1⟩ ∧ nsz ⟨q.2.2.1, q.2.2.2.1, q.2.2.2.2.1, q.2.2.2.2.2⟩ ≤ 62)
  (fun q => 1 ≤ q.2.2.2.2.2.2 ∧ q.2.2.2.2.2.2 ≤ 30 ∧ G (N + 30 * q.2.2.2.2.2.2) ⟨q.1, q.2.1⟩ ∧ (nsz ⟨q.2.2.1, q.2.2.2.1, q.2.2.2.2.1, q.2.2.2.2.2.1⟩ : Int) ≤ 2 * q.2.2.2.2.2.2) (fun q => (31 - q.2.2.2.2.2.2).toNat) ⟨by simp, by simp, by simpa using hy.1, ?_⟩ (fun q hq => ?_) (fun q hq => ?_)
 ·simp only; rw [eT]; simp [cF]
 ·obtain ⟨b, p, k, o, g, ks, i⟩ := q
  obtain ⟨q1, q2, q3, q4⟩ := hq
  simp only at q1 q2 q3 q4
  simp only [s_l7Stair_s9]
  refine OK.cond (fun hi => ?_) (fun hi => ?_)
  ·have hi : i < n := by simpa using hi
   refine OK.bind (cK q3 (by omega)) fun z hz => ⟨_, rfl, ⟨?_, ?_, ?_, ?_⟩, ?_⟩
   ·simp only; rw [w64 (by omega) (by omega)]; omega
   ·simp only; rw [w64 (by omega) (by omega)]; omega
   ·simp only; rw [w64 (by omega) (by omega), eta26]; exact hz.1.up (by omega)
   ·simp only; rw [w64 (n := i + 1) (by omega) (by omega), eT]; simp only [fL, cF]; rw [eT ⟨1, z.1.Op, z.1.Args, []⟩]; simp only [cF]; omega
   ·simp only; rw [w64 (by omega) (by omega)]; omega
  ·refine ⟨_, rfl, ?_, ?_⟩
   ·simp only; exact q3.up (by omega)
   ·simp only; omega
 ·simp only [s_l7Stair_j5]
  exact ⟨_, rfl, hq.1, hq.2⟩
theorem nz1 (o : Int) (g : List DevArg) (k : Int) : nz ⟨k, o, g, []⟩ ≤ 1 := by
 have := nz_le ⟨k, o, g, []⟩
 rw [eT] at this; simpa [cF] using this
theorem l7Forks_ok {N n : Int} {r : l26Rd} (h : G N r) (hN : N ≤ 10000000000) (hn : 0 ≤ n) (hn2 : n ≤ 12) : OK (s_l7Forks r n) (aP (N + 3000) 200) := by
 unfold s_l7Forks
 refine OK.bind (cK h (by omega)) fun y hy => OK.bind (ix hy.1 (by omega)) fun z hz => ?_
 refine OK.loop (Q := fun q => G (N + 2000) ⟨q.1, q.2.1⟩ ∧ asz ⟨q.2.2.1, q.2.2.2.1, q.2.2.2.2.1, [], q.2.2.2.2.2.1, q.2.2.2.2.2.2⟩ ≤ 150 ∧ aB ⟨q.2.2.1, q.2.2.2.1, q.2.2.2.2.1, [], q.2.2.2.2.2.1, q.2.2.2.2.2.2⟩)
  (fun q => 0 ≤ q.2.2.2.2.2.2.2 ∧ q.2.2.2.2.2.2.2 ≤ 12 ∧ G (N + 60 + 100 * q.2.2.2.2.2.2.2) ⟨q.1, q.2.1⟩ ∧ (asz ⟨q.2.2.1, q.2.2.2.1, q.2.2.2.2.1, [], q.2.2.2.2.2.1, q.2.2.2.2.2.2.1⟩ : Int) ≤ 4 + 5 * q.2.2.2.2.2.2.2 ∧ aB ⟨q.2.2.1, q.2.2.2.1, q.2.2.2.2.1, [], q.2.2.2.2.2.1, q.2.2.2.2.2.2.1⟩) (fun q => (13 - q.2.2.2.2.2.2.2).toNat) ⟨by simp, by simp, by simp only; exact hz.1.up (by omega), ?_, ?_⟩ (fun q hq => ?_) (fun q hq => ?_)
 ·simp only; rw [er]; have := nz1 y.1.Op y.1.Args 1; simp only [aY, b7, List.length_cons, List.length_nil]; omega
 ·refine aB_mk (by simp) ?_ (by simp)
  intro e he; simp at he; subst he; have := hz.2.1; omega
 ·obtain ⟨b, p, k, o, g, cs, ms, i⟩ := q
  obtain ⟨q1, q2, q3, q4, q5⟩ := hq
  simp only at q1 q2 q3 q4 q5
  simp only [s_l7Forks_s9]
  refine OK.cond (fun hi => ?_) (fun hi => ?_)
  ·have hi : i < n := by simpa using hi
   refine OK.bind (cK q3 (by omega)) fun u hu => OK.bind (ix hu.1 (by omega)) fun v hv => OK.bind (aU hv.1 (by omega)) fun w hw => ?_
   have hB : ∀ a ∈ [(⟨k, o, g, [], cs, ms⟩ : Arm), (⟨1, u.1.Op, u.1.Args, [], [v.1], []⟩ : Arm)], aB a := by
    intro a ha
    simp at ha
    rcases ha with rfl | rfl
    ·exact q5
    ·refine aB_mk (by simp) ?_ (by simp)
     intro e he; simp at he; subst he; have := hv.2.1; omega
   have hS : aszL [(⟨k, o, g, [], cs, ms⟩ : Arm), (⟨1, u.1.Op, u.1.Args, [], [v.1], []⟩ : Arm)] ≤ asz ⟨k, o, g, [], cs, ms⟩ + 3 := by
    simp only [eP, b7]
    rw [er ⟨1, u.1.Op, u.1.Args, [], [v.1], []⟩]
    have := nz1 u.1.Op u.1.Args 1
    simp only [aY, b7, List.length_cons, List.length_nil]; omega
   have j : ∀ (r : l26Rd) (k2 o2 : Int) (g2 : List DevArg), G (N + 60 + 100 * i + 99) r → OK (gK i (r.b, r.p, k2, o2, g2, [(⟨k, o, g, [], cs, ms⟩ : Arm), (⟨1, u.1.Op, u.1.Args, [], [v.1], []⟩ : Arm)]))
     (Sum.elim (fun q => (0 ≤ q.2.2.2.2.2.2.2 ∧ q.2.2.2.2.2.2.2 ≤ 12 ∧ G (N + 60 + 100 * q.2.2.2.2.2.2.2) ⟨q.1, q.2.1⟩ ∧ (asz ⟨q.2.2.1, q.2.2.2.1, q.2.2.2.2.1, [], q.2.2.2.2.2.1, q.2.2.2.2.2.2.1⟩ : Int) ≤ 4 + 5 * q.2.2.2.2.2.2.2 ∧ aB ⟨q.2.2.1, q.2.2.2.1, q.2.2.2.2.1, [], q.2.2.2.2.2.1, q.2.2.2.2.2.2.1⟩) ∧ (13 - q.2.2.2.2.2.2.2).toNat < (13 - i).toNat)
      (fun q => G (N + 2000) ⟨q.1, q.2.1⟩ ∧ asz ⟨q.2.2.1, q.2.2.2.1, q.2.2.2.2.1, [], q.2.2.2.2.2.1, q.2.2.2.2.2.2⟩ ≤ 150 ∧ aB ⟨q.2.2.1, q.2.2.2.1, q.2.2.2.2.1, [], q.2.2.2.2.2.1, q.2.2.2.2.2.2⟩)) := by
    intro r k2 o2 g2 hr
    simp only [gK]
    refine ⟨_, rfl, ⟨?_, ?_, ?_, ?_, aB_mk (by simp) (by simp) hB⟩, ?_⟩
    ·simp only; rw [w64 (by omega) (by omega)]; omega
    ·simp only; rw [w64 (by omega) (by omega)]; omega
    ·simp only; rw [w64 (by omega) (by omega), eta26]; exact hr.up (by omega)
    ·simp only; rw [w64 (by omega) (by omega), er]
     have := nz1 o2 g2 k2
     simp only [aY, List.length_nil]; omega
    ·simp only; rw [w64 (by omega) (by omega)]; omega
   refine OK.cond (fun _ => ?_) (fun _ => j w.2 0 0 [] (hw.1.up (by omega)))
   exact OK.bind (cK hw.1 (by omega)) fun x hx => j x.2 1 _ _ (hx.1.up (by omega))
  ·refine ⟨_, rfl, ?_, ?_, q5⟩
   ·simp only; exact q3.up (by omega)
   ·simp only; omega
 ·obtain ⟨b, p, k, o, g, cs, ms⟩ := q
  obtain ⟨q1, q2, q3⟩ := hq
  simp only [s_l7Forks_j5]
  refine OK.bind (cK q1 (by omega)) fun x hx => ⟨_, rfl, hx.1.up (by omega), ?_, ?_, ?_⟩
  ·simp only at q2 ⊢
   rw [er] at q2 ⊢
   have := nz1 x.1.Op x.1.Args 1
   simp only [aY] at *; omega
  ·rw [aB_eq] at q3 ⊢; exact q3
  ·simp only [aY]; rw [eT]; simp [cF]
def lP (N : Int) (x : List Arm × l26Rd) : Prop := G N x.2 ∧ aszL x.1 ≤ 10000 ∧ aBL x.1 ∧ ∀ a ∈ x.1, nsz (aY a) ≤ 100
theorem l7Ladder_ok {N : Int} {r : l26Rd} (h : G N r) (hN : N ≤ 5000000000) : OK (s_l7Ladder r) (lP (N + 2000000)) := by
 unfold s_l7Ladder
 refine OK.bind (aU h (by omega)) fun x hx => ?_
 refine OK.cond (fun _ => ?_) (fun _ => OK.cond (fun _ => ?_) (fun _ => OK.cond (fun _ => ⟨_, rfl, hx.1.up (by omega), by simp [b7], (aBL_iff _).2 (by simp), by simp⟩) (fun _ => ?_)))
 ·refine OK.bind (num_ok hx.1 (by omega) (by simp)) fun y hy => ?_
  have hy2 : 1 ≤ y.1 ∧ y.1 ≤ 30 := by have := hy.2; simp at this; omega
  refine OK.bind (l7Stair_ok hy.1 (by omega) hy2.1 hy2.2) fun z hz => OK.bind (ix hz.1 (by omega)) fun w hw => ?_
  refine OK.gd (apOk_of (by simp) (by simp)) ⟨_, rfl, hw.1.up (by omega), ?_, ?_, ?_⟩
  ·obtain ⟨⟨k, o, g, ks⟩, zr⟩ := z
   simp only [eP, b7]; rw [er]
   have := nz_le (⟨k, o, g, ks⟩ : Net)
   have := hz.2
   simp only [aY, b7, List.length_cons, List.length_nil] at *; omega
  ·rw [aBL_iff]; intro a ha; simp at ha; subst ha
   refine aB_mk (by simp) ?_ (by simp)
   intro e he; simp at he; subst he; have := hw.2.1; omega
  ·obtain ⟨⟨k, o, g, ks⟩, zr⟩ := z
   intro a ha; simp at ha; subst ha; have := hz.2; simp only [aY] at *; omega
 ·refine OK.bind (num_ok hx.1 (by omega) (by simp)) fun y hy => ?_
  have hy2 : 0 ≤ y.1 ∧ y.1 ≤ 12 := by have := hy.2; simp at this; omega
  refine OK.bind (l7Forks_ok hy.1 (by omega) hy2.1 hy2.2) fun z hz => ?_
  obtain ⟨⟨k, o, g, ks, cs, ms⟩, zr⟩ := z
  obtain ⟨z1, z2, z3, z4⟩ := hz
  refine OK.gd (apOk_of (by simp) (by simp)) ⟨_, rfl, z1.up (by omega), ?_, ?_, ?_⟩
  ·simp only [eP, b7] at *
   rw [er] at z2 ⊢
   have := nz1 o g k
   simp only [aY] at *; omega
  ·rw [aBL_iff]; intro a ha; simp at ha; subst ha
   rw [aB_eq] at z3 ⊢; exact z3
  ·intro a ha; simp at ha; subst ha; simp only [aY]; rw [eT]; simp [cF]
 ·refine OK.bind (aU hx.1 (by omega)) fun y hy => ?_
  obtain ⟨y1, y2, y3⟩ := hy
  have y4 := y3 (by omega)
  refine OK.loop (Q := lP (N + 2000000) ∘ fun q => (q.2.2, ⟨q.1, q.2.1⟩)) (fun q => 0 ≤ q.2.2.2 ∧ q.2.2.2 ≤ 4 ∧ G (N + 2 + (4 - q.2.2.2) * 300000) ⟨q.1, q.2.1⟩ ∧ (aszL q.2.2.1 : Int) ≤ (4 - q.2.2.2) * 2000 ∧ (q.2.2.1.length : Int) ≤ 4 - q.2.2.2 ∧ (∀ a ∈ q.2.2.1, aB a) ∧ ∀ a ∈ q.2.2.1, nsz (aY a) ≤ 100) (fun q => q.2.2.2.toNat) ⟨?_, ?_, ?_, ?_, ?_, by simp, by simp⟩ (fun q hq => ?_) (fun q hq => ?_)
  ·simp only; rw [w64 (by omega) (by omega)]; omega
  ·simp only; rw [w64 (by omega) (by omega)]; omega
  ·simp only; rw [w64 (by omega) (by omega)]; exact y1.up (by omega)
  ·simp only; rw [w64 (by omega) (by omega), b7]; omega
  ·simp only; rw [w64 (by omega) (by omega)]; simp; omega
  ·obtain ⟨b, p, l, i⟩ := q
   obtain ⟨q0, q1, q2, q3, q4, q5, q6⟩ := hq
   simp only at q0 q1 q2 q3 q4 q5 q6
   simp only [s_l7Ladder_s32]
   refine OK.cond (fun hi => ?_) (fun hi => ?_)
   ·have hi : 0 < i := by simpa using hi
    refine OK.bind (l7Arm_ok q2 (by omega)) fun z hz => ?_
    obtain ⟨z1, z2, z3, z4⟩ := hz
    refine OK.gd (apOk_of (by simp; omega) (by simp; omega)) ⟨_, rfl, ⟨?_, ?_, ?_, ?_, ?_, ?_, ?_⟩, ?_⟩
    ·simp only; rw [w64 (by omega) (by omega)]; omega
    ·simp only; rw [w64 (by omega) (by omega)]; omega
    ·simp only; rw [w64 (by omega) (by omega), eta26]; exact z1.up (by omega)
    ·simp only; rw [w64 (by omega) (by omega), aszL_app, eP, b7]; omega
    ·simp only; rw [w64 (by omega) (by omega)]; simp; omega
    ·intro e he
     rcases List.mem_append.1 he with g | g
     ·exact q5 e g
     ·simp at g; subst g; exact z3
    ·intro e he
     rcases List.mem_append.1 he with g | g
     ·exact q6 e g
     ·simp at g; subst g; exact z4
    ·simp only; rw [w64 (by omega) (by omega)]; omega
   ·have hi : ¬ 0 < i := by simpa using hi
    exact ⟨_, rfl, by simp only; exact q2.up (by omega), by simp only; omega, (aBL_iff _).2 q5, q6⟩
  ·obtain ⟨b, p, l⟩ := q
   obtain ⟨q1, q2, q3, q4⟩ := hq
   simp only at q1 q2 q3 q4
   have hll := fT l
   simp only [s_l7Ladder_j28]
   refine OK.loop (Q := fun n => True) (fun n => n ≤ l.length) (fun n => n) (Nat.le_refl _) (fun n hn => ?_) (fun n hn => ?_)
   ·simp only [s_l7Ladder_s45]
    refine OK.cond (fun hi => ?_) (fun _ => ⟨_, rfl, trivial⟩)
    have hi : 0 < n := by simpa using hi
    have h1 := aszL_le l n
    rw [sTreeSize _ (by omega), Option.bind_some]
    refine OK.cond (fun _ => ?_) (fun _ => ⟨_, rfl, trivial⟩)
    rw [w64 (by omega) (by omega)]
    refine OK.gd (by simp; omega) ⟨_, rfl, ?_, ?_⟩
    ·show ((n : Int) - 1).toNat ≤ l.length; omega
    ·show ((n : Int) - 1).toNat < n; omega
   ·simp only [s_l7Ladder_j43]
    refine ⟨_, rfl, q1, by have := aszL_le l n; simp only; omega, (aBL_iff _).2 fun a ha => (aBL_iff _).1 q3 a (List.mem_of_mem_take ha), fun a ha => q4 a (List.mem_of_mem_take ha)⟩
theorem l21Image_ok {N : Int} {r : l26Rd} (h : G N r) (hN : N ≤ 2000000000) : OK (s_l21Image r) (fun x => (by8 x.1 ∧ x.1.length ≤ 2000) ∧ G (N + 3000000) x.2) := by
 unfold s_l21Image
 refine OK.bind (l7Ladder_ok h (by omega)) fun x hx => ?_
 obtain ⟨x1, x2, x3, x4⟩ := hx
 refine OK.bind (WayDown_ok (by omega) x3 (fun a ha => by have := x4 a ha; omega)) fun y hy => ?_
 obtain ⟨y1, y2, y3⟩ := hy
 have j11 : ∀ (r : l26Rd) (l : List Inst), G (N + 2000200) r → aX l → l.length ≤ 60 → OK (fK (r.b, r.p, l)) (fun x => (by8 x.1 ∧ x.1.length ≤ 2000) ∧ G (N + 3000000) x.2) := by
  intro r l hr h1 h2
  simp only [fK]
  rw [sMake_ok h1 (by omega), Option.bind_some]
  refine ⟨_, rfl, ?_, hr.up (by omega)⟩
  by_cases hc : (mkP l).2.Code = 0
  ·obtain ⟨m1, m2, m3⟩ := mkP_read hc
   rw [m3]
   refine ⟨img_by8 l, ?_⟩
   simp only; rw [img_len]; have := encL_len m2; omega
  ·rw [(mkP_bad hc).1]; exact ⟨fun y hy => (by cases hy), by simp⟩
 have j5 : ∀ (r : l26Rd) (l : List Inst), G (N + 2000100) r → aX l → l.length ≤ 60 → OK (eG (r.b, r.p, l)) (fun x => (by8 x.1 ∧ x.1.length ≤ 2000) ∧ G (N + 3000000) x.2) := by
  intro r l hr h1 h2
  simp only [eG]
  refine OK.bind (aU hr (by omega)) fun z hz => ?_
  refine OK.cond (fun _ => ?_) (fun _ => j11 z.2 l (hz.1.up (by omega)) h1 h2)
  refine OK.bind (aU hz.1 (by omega)) fun w hw => OK.bind (cK hw.1 (by omega)) fun u hu => ?_
  exact j11 u.2 _ (hu.1.up (by omega)) (aX.one (by have := hu.2.1; omega)) (by simp)
 refine OK.cond (fun _ => j5 x.2 [] (x1.up (by omega)) aX.nil (by simp)) (fun _ => OK.cond (fun _ => j5 x.2 [] (x1.up (by omega)) aX.nil (by simp)) (fun hl => ?_))
 have hl : y.1.length ≤ 60 := by
  have : ¬ ((((y.1).length : Nat) : Int) > 60) := by simpa using hl
  omega
 refine OK.bind (aU x1 (by omega)) fun z hz => ?_
 exact OK.cond (fun _ => j5 z.2 [] (hz.1.up (by omega)) aX.nil (by simp)) (fun _ => j5 z.2 y.1 (hz.1.up (by omega)) y1 hl)
def packV (n : Int) (im : List Int) : List Int × Bool := if 1 ≤ n ∧ n ≤ 1000000 ∧ im.length ≤ 20008 then (be4 n ++ im, true) else ([], false)
theorem be4_len (v : Int) : (be4 v).length = 4 := rfl
theorem sPack {n : Int} {im : List Int} (h1 : -10 ≤ n) (h2 : n ≤ 2000000) (hl : im.length ≤ 100000) : s_BoxPack n im = some (packV n im) := by
 unfold s_BoxPack packV
 by_cases h : 1 ≤ n ∧ n ≤ 1000000 ∧ im.length ≤ 20008
 ·rw [if_pos h, show (((decide (n < 1)) || (decide (n > 1000000))) || (decide (((im).length : Int) > 20008))) = false by simp; omega, cond_false, num4 (by omega) (by omega), Option.bind_some,
   apOk_of (by simp only [List.length_append, be4_len]; omega) (by simp only [List.length_append, be4_len]; omega)]; rfl
 ·rw [if_neg h, show (((decide (n < 1)) || (decide (n > 1000000))) || (decide (((im).length : Int) > 20008))) = true by simp; omega, cond_true]
theorem iPack {n : Int} {im : List Int} (hl : im.length ≤ 100000) : iz n im = some (packV n im) := by
 unfold iz packV m_isNumber
 rw [in_eq]
 simp only [Option.bind_some]
 by_cases h : 1 ≤ n ∧ n ≤ 1000000 ∧ im.length ≤ 20008
 ·rw [if_pos h, show ((!(decide (1 ≤ n ∧ n ≤ 1000000))) || (decide (((im).length : Int) > 20008))) = false by simp; omega, cond_false, big4, Option.bind_some,
   apOk_of (by simp only [List.length_append, be4_len]; omega) (by simp only [List.length_append, be4_len]; omega), gd_t, iCloneB (by simp only [List.length_append, be4_len]; omega)]; rfl
 ·rw [if_neg h, show ((!(decide (1 ≤ n ∧ n ≤ 1000000))) || (decide (((im).length : Int) > 20008))) = true by simp; omega, cond_true]
theorem by8.rep (n : Nat) : by8 (List.replicate n 0) := fun y hy => by rw [List.eq_of_mem_replicate hy]; omega
theorem be4_by8 (v : Int) : by8 (be4 v) := by
 intro y hy
 simp [be4] at hy; omega
theorem l20Number_ok {N : Int} {r : l26Rd} (h : G N r) (hN : N ≤ 1000000000) : OK (s_l20Number r) (fun x => G (N + 1) x.2 ∧ 1 ≤ x.1 ∧ x.1 ≤ 1000000) := by
 unfold s_l20Number
 refine OK.bind (num_ok h (by omega) (by simp)) fun y hy => ⟨_, rfl, hy.1, ?_⟩
 have := hy.2
 simp at this
 simp only; omega
theorem DrawPack_ok {bs : List Int} (h : ∀ y ∈ bs, 0 ≤ y ∧ y < 256) : OK (iI bs) (fun x => -1 ≤ x.1 ∧ x.1 ≤ 1000001 ∧ by8 x.2 ∧ x.2.length ≤ 20010) := by
 unfold iI
 refine OK.bind (l26Open_ok h) fun r hr => OK.bind (l20Number_ok hr (by omega)) fun x hx => OK.bind (aU hx.1 (by omega)) fun y hy => ?_
 have j : ∀ (r : l26Rd) (n : Int), G 100 r → -1 ≤ n → n ≤ 1000001 → OK (eM (r.b, r.p, n)) (fun x => -1 ≤ x.1 ∧ x.1 ≤ 1000001 ∧ by8 x.2 ∧ x.2.length ≤ 20010) := by
  intro r n hr h1 h2
  simp only [eM]
  refine OK.bind (aU hr (by omega)) fun z hz => ?_
  refine OK.cond (fun _ => ?_) (fun _ => OK.bind (l21Image_ok hz.1 (by omega)) fun w hw => ⟨_, rfl, h1, h2, hw.1.1, by have := hw.1.2; simp only; omega⟩)
  refine OK.bind (aU hz.1 (by omega)) fun w hw => ?_
  obtain ⟨w1, w2, w3⟩ := hw
  have w4 := w3 (by omega)
  rw [w64 (by omega) (by omega)]
  exact OK.gd (mkOk_of (by omega) (by omega) (by omega) (by omega)) ⟨_, rfl, h1, h2, by8.rep _, by simp; omega⟩
 refine OK.cond (fun _ => ?_) (fun _ => j y.2 x.1 (hy.1.up (by omega)) (by omega) (by omega))
 refine OK.bind (num_ok hy.1 (by omega) (by simp)) fun z hz => ?_
 have := hz.2
 simp at this
 exact j z.2 z.1 (hz.1.up (by omega)) (by omega) (by omega)
theorem DrawUnpack_ok {bs : List Int} (h : ∀ y ∈ bs, 0 ≤ y ∧ y < 256) : OK (dE bs) (fun x => by8 x ∧ x.length ≤ 80000) := by
 unfold dE
 refine OK.bind (l26Open_ok h) fun r hr => OK.bind (l20Number_ok hr (by omega)) fun x hx => OK.bind (l21Image_ok hx.1 (by omega)) fun y hy => ?_
 obtain ⟨⟨y1, y2⟩, y3⟩ := hy
 rw [sPack (by omega) (by omega) (by omega), Option.bind_some]
 have e : packV x.1 y.1 = (be4 x.1 ++ y.1, true) := by unfold packV; rw [if_pos ⟨hx.2.1, hx.2.2, by omega⟩]
 rw [e]
 have hd : by8 (be4 x.1 ++ y.1) := (be4_by8 _).app y1
 have hl : (be4 x.1 ++ y.1).length = 4 + y.1.length := by rw [List.length_append, be4_len]
 simp only
 generalize be4 x.1 ++ y.1 = d at hd hl ⊢
 refine OK.bind (aU y3 (by omega)) fun z hz => ?_
 refine OK.cond (fun _ => ?_) (fun _ => OK.cond (fun _ => ?_) (fun _ => OK.cond (fun _ => ?_) (fun _ => OK.cond (fun _ => ?_) (fun _ => ⟨_, rfl, hd, by omega⟩))))
 ·refine OK.bind (aU hz.1 (by omega)) fun w hw => ?_
  obtain ⟨w1, w2, w3⟩ := hw
  have w4 := w3 (by omega)
  exact OK.gd (by simp; omega) ⟨_, rfl, hd.take _, by simp; omega⟩
 ·refine OK.bind (aU hz.1 (by omega)) fun w hw => OK.bind (aU hw.1 (by omega)) fun u hu => ?_
  obtain ⟨w1, w2, w3⟩ := hw
  have w4 := w3 (by omega)
  rw [idx_eq w2 w4, Option.bind_some]
  exact ⟨_, rfl, hd.set _ _, by simp; omega⟩
 ·refine OK.bind (aU hz.1 (by omega)) fun w hw => OK.bind (aU hw.1 (by omega)) fun u hu => ?_
  obtain ⟨w1, w2, w3⟩ := hw
  have w4 := w3 (by omega)
  rw [idx_eq w2 (by omega), Option.bind_some]
  exact ⟨_, rfl, hd.set _ _, by simp; omega⟩
 ·rw [num4 (by omega) (by omega), Option.bind_some]
  refine OK.bind (l17Image_ok hz.1 (by omega)) fun w hw => ?_
  have hl2 : (be4 1 ++ w.1).length = 4 + w.1.length := by rw [List.length_append, be4_len]
  have := hw.1.2
  exact OK.gd (apOk_of (by omega) (by omega)) ⟨_, rfl, (be4_by8 _).app hw.1.1, by omega⟩
end Go.AM
end
section
/- What a box packs is read back. Conditions: none. -/
namespace Go.AM
open Go
structure RdP (d : List Int) (p : List Inst × PicFault) : Prop where
 i : ig d = some p
 s : iw d = some p
 nn : 0 ≤ p.2.Code
 bad : p.2.Code ≠ 0 → p.1 = []
 good : p.2.Code = 0 → p.2.At = 0 ∧ p.1.length ≤ 1000 ∧ (∀ i ∈ p.1, wro i = 0) ∧ img p.1 = d
theorem read_all {d : List Int} (h8 : by8 d) : ∃ p, RdP d p := by
 by_cases hl : d.length < 8 ∨ d.length > 20008
 ·exact ⟨_, iRead_bad hl, sRead_bad hl, by simp, fun _ => rfl, fun h => by cases h⟩
 ·obtain ⟨a0, a1, a2, a3, a4, a5, body, x, y, rfl⟩ := img_split (d := d) (by omega)
  have hb : body.length ≤ 20000 := by simp at hl; omega
  refine ⟨_, iRead_ok h8 hb, sRead_ok h8 hb, rF_nn, rF_bad, fun hc => ?_⟩
  obtain ⟨g1, g2, g3⟩ := rF_good h8 hc
  refine ⟨?_, g2, g1, g3⟩
  have e := rF_img g2 g1 (img_parts g2 g1)
  rw [g3, iRead_ok h8 hb] at e
  have e2 := Option.some.inj e
  have e3 : (rF a0 a1 a2 a3 a4 a5 body x y).2 = ⟨0, 0⟩ := congrArg (·.2) e2
  rw [e3]
def unpF (n : Int) (p : List Inst × PicFault) : Int × List Inst × Bool := if p.2.Code = 0 ∧ (bt p.1).Code = 0 ∧ 1 ≤ n ∧ n ≤ 1000000 then (n, p.1, true) else (0, [], false)
theorem iRun {d : List Int} {p : List Inst × PicFault} (h : RdP d p) : OK (m_runnable d) (fun r => r.2 = decide (p.2.Code = 0 ∧ (bt p.1).Code = 0) ∧ (r.2 = true → r.1 = p.1)) := by
 unfold m_runnable
 rw [h.i, Option.bind_some]
 by_cases h1 : p.2.Code = 0
 ·obtain ⟨g1, g2, g3, g4⟩ := h.good h1
  rw [show (p.2.Code == 0) = true by simpa using h1, cond_true, show (p.2.At == 0) = true by simpa using g1, cond_true, iVerified _ (okArgs_of g3) (by omega), Option.bind_some]
  refine ⟨_, rfl, ?_, fun _ => rfl⟩
  by_cases h2 : (bt p.1).Code = 0
  ·rw [(ver_iff _).2 h2, decide_eq_true ⟨h1, h2⟩]
  ·have : verified p.1 = false := by rw [← Bool.not_eq_true, ver_iff]; exact h2
   rw [this, decide_eq_false (fun q => h2 q.2)]
 ·rw [show (p.2.Code == 0) = false by simpa using h1, cond_false]
  exact ⟨_, rfl, (decide_eq_false fun q => h1 q.1).symm, fun q => by cases q⟩
theorem sList {d : List Int} {p : List Inst × PicFault} (h : RdP d p) : s_l21List d = some (if p.2.Code = 0 ∧ (bt p.1).Code = 0 then (p.1, true) else ([], false)) := by
 unfold s_l21List
 rw [h.s, Option.bind_some]
 have hn := h.nn
 by_cases h1 : p.2.Code = 0
 ·obtain ⟨g1, g2, g3, g4⟩ := h.good h1
  rw [decide_eq_false (by omega), cond_false, sSure _ (okArgs_of g3) (by omega), Option.bind_some]
  have hn2 := sure_nn p.1
  by_cases h2 : (bt p.1).Code = 0
  ·rw [decide_eq_false (by omega), cond_false, if_pos ⟨h1, h2⟩]
  ·rw [decide_eq_true (by omega), cond_true, if_neg (fun q => h2 q.2)]
 ·rw [decide_eq_true (by omega), cond_true, if_neg (fun q => h1 q.1)]
theorem unp {a b c e : Int} {r : List Int} (h8 : by8 (a :: b :: c :: e :: r)) {p : List Inst × PicFault} (h : RdP r p) :
  m_BoxUnpack (a :: b :: c :: e :: r) = some (unpF (a * 16777216 + b * 65536 + c * 256 + e) p) ∧ eB (a :: b :: c :: e :: r) = some (unpF (a * 16777216 + b * 65536 + c * 256 + e) p) := by
 have hm : ∀ z, z ∈ a :: b :: c :: e :: r → 0 ≤ z ∧ z < 256 := fun z hz => h8 z hz
 have ha := hm a (by simp)
 have hb := hm b (by simp)
 have hc := hm c (by simp)
 have he := hm e (by simp)
 have h4 : by8 [a, b, c, e] := fun z hz => by simp at hz; exact hm z (by simp; omega)
 have hlen : decide ((((a :: b :: c :: e :: r).length : Nat) : Int) < 4) = false := decide_eq_false (by simp; omega)
 have hH : prtH (a :: b :: c :: e :: r) (4) = some [a, b, c, e] := by
  unfold prtH
  rw [show (decide ((0 : Int) ≤ 4) && decide ((4 : Int) ≤ ((a :: b :: c :: e :: r).length : Int))) = true by simp; omega]; rfl
 have hL : prtL (a :: b :: c :: e :: r) (4) = some r := by
  unfold prtL
  rw [show (decide ((0 : Int) ≤ 4) && decide ((4 : Int) ≤ ((a :: b :: c :: e :: r).length : Int))) = true by simp; omega]; rfl
 constructor
 ·unfold m_BoxUnpack
  rw [hlen, cond_false, hH, Option.bind_some, fb4 h4, Option.bind_some, hL, Option.bind_some]
  refine OK.eq (?_ : OK _ (fun x => x = unpF (a * 16777216 + b * 65536 + c * 256 + e) p))
  refine OK.bind (iRun h) fun x hx => ?_
  obtain ⟨x1, x2⟩ := hx
  by_cases h1 : p.2.Code = 0 ∧ (bt p.1).Code = 0
  ·rw [decide_eq_true h1] at x1
   rw [x1, cond_true]
   unfold m_isNumber
   rw [in_eq]
   simp only [Option.bind_some]
   rw [x2 x1]
   by_cases h2 : 1 ≤ a * 16777216 + b * 65536 + c * 256 + e ∧ a * 16777216 + b * 65536 + c * 256 + e ≤ 1000000
   ·rw [decide_eq_true h2]; exact ⟨_, rfl, by unfold unpF; rw [if_pos ⟨h1.1, h1.2, h2⟩]⟩
   ·rw [decide_eq_false h2]; exact ⟨_, rfl, by unfold unpF; rw [if_neg (fun q => h2 q.2.2)]⟩
  ·rw [decide_eq_false h1] at x1
   rw [x1, cond_false]
   exact ⟨_, rfl, by unfold unpF; rw [if_neg (fun q => h1 ⟨q.1, q.2.1⟩)]⟩
 ·unfold eB
  rw [hlen, cond_false, hH, Option.bind_some, sv4 h4, Option.bind_some, hL, Option.bind_some, sList h, Option.bind_some]
  have hs : s4 a b c e = a * 16777216 + b * 65536 + c * 256 + e ∨ (s4 a b c e < 0 ∧ 1000000 < a * 16777216 + b * 65536 + c * 256 + e) := by
   unfold s4
   split <;> omega
  by_cases h1 : p.2.Code = 0 ∧ (bt p.1).Code = 0
  ·rw [if_pos h1]
   by_cases h2 : 1 ≤ a * 16777216 + b * 65536 + c * 256 + e ∧ a * 16777216 + b * 65536 + c * 256 + e ≤ 1000000
   ·have e1 : s4 a b c e = a * 16777216 + b * 65536 + c * 256 + e := by omega
    rw [e1, show (((!true) || (decide (a * 16777216 + b * 65536 + c * 256 + e < 1))) || (decide (a * 16777216 + b * 65536 + c * 256 + e > 1000000))) = false by simp; omega, cond_false]
    unfold unpF; rw [if_pos ⟨h1.1, h1.2, h2⟩]
   ·rw [show (((!true) || (decide (s4 a b c e < 1))) || (decide (s4 a b c e > 1000000))) = true by simp; omega, cond_true]
    unfold unpF; rw [if_neg (fun q => h2 q.2.2)]
  ·rw [if_neg h1]
   unfold unpF; rw [if_neg (fun q => h1 ⟨q.1, q.2.1⟩)]; rfl
theorem unp_short {d : List Int} (h : d.length < 4) : m_BoxUnpack d = some (0, [], false) ∧ eB d = some (0, [], false) := by
 unfold m_BoxUnpack eB
 rw [decide_eq_true (by omega : (d.length : Int) < 4)]
 exact ⟨rfl, rfl⟩
theorem be4_val {n : Int} (h1 : 0 ≤ n) (h2 : n < 4294967296) : n / 16777216 % 256 * 16777216 + n / 65536 % 256 * 65536 + n / 256 % 256 * 256 + n % 256 = n := by omega
theorem be4_of {a b c e : Int} (h : by8 [a, b, c, e]) : be4 (a * 16777216 + b * 65536 + c * 256 + e) = [a, b, c, e] := by
 have ha := h a (by simp)
 have hb := h b (by simp)
 have hc := h c (by simp)
 have he := h e (by simp)
 unfold be4
 rw [show (a * 16777216 + b * 65536 + c * 256 + e) / 16777216 % 256 = a by omega, show (a * 16777216 + b * 65536 + c * 256 + e) / 65536 % 256 = b by omega,
  show (a * 16777216 + b * 65536 + c * 256 + e) / 256 % 256 = c by omega, show (a * 16777216 + b * 65536 + c * 256 + e) % 256 = e by omega]
noncomputable def restE (v2 : List Int) : Option Bool :=
 (Option.bind (dE v2) fun v10 => (Option.bind (m_BoxUnpack v10) fun v11 => (Option.bind (eB v10) fun v12 => (cond (!(v11.2.2 == v12.2.2)) (some false) (cond (!v11.2.2) (some ((v11.1 == 0) && ((((v11.2.1).length : Nat) : Int) == 0))) (Option.bind (m_PicMake v11.2.1) fun v13 => (Option.bind (iz v11.1 v13.1) fun v14 => (cond (v13.2.Code == 0) (Option.bind (fq v11.2.1) fun v15 => (some (((v15.Code == 0) && v14.2) && ((bstr v14.1).toList == (bstr v10).toList)))) (some false)))))))))
theorem rest_ok {ys : List Int} (h : ∀ y ∈ ys, 0 ≤ y ∧ y < 256) : OK (restE ys) (fun x => x = true) := by
 unfold restE
 refine OK.bind (DrawUnpack_ok h) fun d hd => ?_
 obtain ⟨hd, hdl⟩ := hd
 by_cases hl : d.length < 4
 ·rw [(unp_short hl).1, (unp_short hl).2]; exact ⟨_, rfl, rfl⟩
 ·match d, hl with
  | a :: b :: c :: e :: r, hl =>
   have h8r : by8 r := fun z hz => hd z (by simp [hz])
   have h4 : by8 [a, b, c, e] := fun z hz => hd z (by simp at hz ⊢; omega)
   obtain ⟨p, hp⟩ := read_all h8r
   rw [(unp hd hp).1, (unp hd hp).2]
   simp only [Option.bind_some]
   by_cases hc : p.2.Code = 0 ∧ (bt p.1).Code = 0 ∧ 1 ≤ a * 16777216 + b * 65536 + c * 256 + e ∧ a * 16777216 + b * 65536 + c * 256 + e ≤ 1000000
   ·have eu : unpF (a * 16777216 + b * 65536 + c * 256 + e) p = (a * 16777216 + b * 65536 + c * 256 + e, p.1, true) := by unfold unpF; rw [if_pos hc]
    rw [eu]
    obtain ⟨g1, g2, g3, g4⟩ := hp.good hc.1
    have hr : r.length ≤ 20008 := by
     rw [← g4, img_len]; have := encL_len g3; omega
    have ok := okArgs_of g3
    simp only
    rw [iMake_ok ok (by omega), Option.bind_some, mkP_good g2 g3, iPack (by simp only; rw [g4]; omega), Option.bind_some, iSure _ ok (by omega), Option.bind_some]
    have ep : packV (a * 16777216 + b * 65536 + c * 256 + e) (img p.1) = ([a, b, c, e] ++ r, true) := by
     unfold packV; rw [g4, if_pos ⟨hc.2.2.1, hc.2.2.2, hr⟩, be4_of h4]
    simp only
    rw [ep, show ((bt p.1).Code == 0) = true by simpa using hc.2.1]
    refine ⟨_, rfl, ?_⟩
    simp
   ·have eu : unpF (a * 16777216 + b * 65536 + c * 256 + e) p = (0, [], false) := by unfold unpF; rw [if_neg hc]
    rw [eu]; exact ⟨_, rfl, rfl⟩
  | [], hl => simp at hl
  | [_], hl => simp at hl
  | [_, _], hl => simp at hl
  | [_, _, _], hl => simp at hl
theorem law_BoxPack {xs ys : List Int} (hx : ∀ n ∈ xs, 0 ≤ n ∧ n < 256) (hy : ∀ n ∈ ys, 0 ≤ n ∧ n < 256) : laws_FnBoxPack xs ys = some true := by
 refine OK.eq ?_
 unfold laws_FnBoxPack
 refine OK.cond (fun _ => OK.mk rfl) (fun _ => ?_)
 refine OK.bind (DrawPack_ok hx) fun z hz => ?_
 obtain ⟨n, im⟩ := z
 obtain ⟨z1, z2, z3, z4⟩ := hz
 simp only at z1 z2 z3 z4
 obtain ⟨p, hp⟩ := read_all z3
 simp only
 rw [iPack (by omega), sPack (by omega) (by omega) (by omega)]
 simp only [Option.bind_some]
 have key : ∃ u, m_BoxUnpack (packV n im).1 = some u ∧ u.2.2 = ((packV n im).2 && decide (p.2.Code = 0 ∧ (bt p.1).Code = 0)) ∧ (u.2.2 = true → u.1 = n ∧ u.2.1 = p.1) := by
  unfold packV
  by_cases h : 1 ≤ n ∧ n ≤ 1000000 ∧ im.length ≤ 20008
  ·rw [if_pos h]
   have h8 : by8 (n / 16777216 % 256 :: n / 65536 % 256 :: n / 256 % 256 :: n % 256 :: im) := fun y hy => ((be4_by8 n).app z3) y hy
   refine ⟨_, (unp h8 hp).1, ?_, ?_⟩
   ·rw [be4_val (by omega) (by omega)]
    unfold unpF
    by_cases h1 : p.2.Code = 0 ∧ (bt p.1).Code = 0
    ·rw [if_pos ⟨h1.1, h1.2, h.1, h.2.1⟩, decide_eq_true h1]; rfl
    ·rw [if_neg (fun q => h1 ⟨q.1, q.2.1⟩), decide_eq_false h1]; rfl
   ·rw [be4_val (by omega) (by omega)]
    unfold unpF
    split
    ·exact fun _ => ⟨rfl, rfl⟩
    ·intro q; cases q
  ·rw [if_neg h]
   exact ⟨_, (unp_short (by simp)).1, rfl, fun q => by cases q⟩
 obtain ⟨u, u1, u2, u3⟩ := key
 rw [u1, hp.s]
 simp only [Option.bind_some]
 rw [show ((packV n im).2 == (packV n im).2) = true by simp]
 by_cases h1 : p.2.Code = 0
 ·obtain ⟨g1, g2, g3, g4⟩ := hp.good h1
  rw [show (p.2.Code == 0) = true by simpa using h1, cond_true, sSure _ (okArgs_of g3) (by omega), Option.bind_some, cond_true]
  have e1 : (u.2.2 == ((packV n im).2 && ((bt p.1).Code == 0))) = true := by
   rw [u2]
   by_cases h2 : (bt p.1).Code = 0
   ·rw [decide_eq_true ⟨h1, h2⟩, show ((bt p.1).Code == 0) = true by simpa using h2]; simp
   ·rw [decide_eq_false (fun q => h2 q.2), show ((bt p.1).Code == 0) = false by simpa using h2]; simp
  rw [e1, cond_true]
  cases hu : u.2.2 with
  | true =>
   obtain ⟨u4, u5⟩ := u3 hu
   rw [cond_true, u4, u5, show (n != n) = false by simp, cond_false, iListSame _ (okArgs_of g3) (by omega), Option.bind_some]
   exact rest_ok hy
  | false => rw [cond_false]; exact rest_ok hy
 ·rw [show (p.2.Code == 0) = false by simpa using h1, cond_false, cond_true]
  have hu : u.2.2 = false := by rw [u2, decide_eq_false (fun q => h1 q.1)]; simp
  rw [hu, cond_false]
  exact rest_ok hy
end Go.AM
end
section
/- FnBoxPack returns true on all bytes. Conditions: none. -/
namespace Go.AM
open Go Go.Proofs
theorem con_FnBoxPack (xs ys : List Int) (hx : ∀ n ∈ xs, 0 ≤ n ∧ n < 256) (hy : ∀ n ∈ ys, 0 ≤ n ∧ n < 256) : Con Tryz.prog C0 3 [.fz 1 (u8s xs), .fz 1 (u8s ys)] [] (fun x σ' => x = .sc (.bool true) ∧ σ' = []) :=
 con_laws_FnBoxPack xs ys true (law_BoxPack hx hy)
end Go.AM
end
