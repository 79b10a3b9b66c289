/- What is read of an image. Conditions: none. -/
import Derived.Test.YtkafcijfljjlaabAmPuX
set_option linter.unusedSimpArgs false
set_option linter.unusedVariables false
namespace Go.AM
open Go
theorem be2_of {a b v : Int} (ha : 0 ≤ a ∧ a < 256) (hb : 0 ≤ b ∧ b < 256) (h : a * 256 + b = v) : be2 v = [a, b] := by
  unfold be2; subst h
  rw [show (a * 256 + b) / 256 % 256 = a by omega, show (a * 256 + b) % 256 = b by omega]
theorem rL_err : ∀ {n : Nat} {t : Int} {b : List Int} {e : Int × Int}, rL n t b = .inl e → 0 < e.1
  | 0, _, _, _, h => by cases h
  | n + 1, t, b, e, h => by
    simp only [rL] at h
    split at h
    · rename_i h1; cases h; exact (rI_err h1).1
    · split at h
      · rename_i h2; cases h; exact rL_err h2
      · cases h
theorem finP_nn {m : Int} {n : Nat} {t : Int} {b : List Int} : 0 ≤ (finP m (rL n t b)).2.Code := by
  cases h : rL n t b with
  | inl e => obtain ⟨c, u⟩ := e; exact Int.le_of_lt (rL_err h)
  | inr e =>
    obtain ⟨l, r⟩ := e
    cases r with
    | nil => exact Int.le_refl _
    | cons _ _ => show (0 : Int) ≤ 7; omega
theorem rF_nn {a0 a1 a2 a3 a4 a5 x y : Int} {body : List Int} : 0 ≤ (rF a0 a1 a2 a3 a4 a5 body x y).2.Code := by
  unfold rF
  repeat' split
  all_goals first | exact finP_nn | (show (0 : Int) ≤ _; simp)
theorem finP_bad {m : Int} {z : (Int × Int) ⊕ (List Inst × List Int)} (h : (finP m z).2.Code ≠ 0) : (finP m z).1 = [] := by
  unfold finP at h ⊢
  split
  · rfl
  · exact absurd rfl h
  · rfl
theorem rF_bad {a0 a1 a2 a3 a4 a5 x y : Int} {body : List Int} (h : (rF a0 a1 a2 a3 a4 a5 body x y).2.Code ≠ 0) : (rF a0 a1 a2 a3 a4 a5 body x y).1 = [] := by
  unfold rF at h ⊢
  repeat' split
  all_goals first | rfl | skip
  simp only [*, not_true_eq_false, if_false] at h
  exact finP_bad h
theorem rF_good {a0 a1 a2 a3 a4 a5 x y : Int} {body : List Int} (h8 : by8 ([a0, a1, a2, a3, a4, a5] ++ body ++ [x, y])) (hc : (rF a0 a1 a2 a3 a4 a5 body x y).2.Code = 0) :
    (∀ i ∈ (rF a0 a1 a2 a3 a4 a5 body x y).1, wro i = 0) ∧ (rF a0 a1 a2 a3 a4 a5 body x y).1.length ≤ 1000 ∧ img (rF a0 a1 a2 a3 a4 a5 body x y).1 = [a0, a1, a2, a3, a4, a5] ++ body ++ [x, y] := by
  have hm : ∀ z, z ∈ [a0, a1, a2, a3, a4, a5] ++ body ++ [x, y] → 0 ≤ z ∧ z < 256 := fun z hz => h8 z hz
  have b2 := hm a2 (by simp)
  have b3 := hm a3 (by simp)
  have b4 := hm a4 (by simp)
  have b5 := hm a5 (by simp)
  have bx := hm x (by simp)
  have hyb := hm y (by simp)
  have f5 : by8 body := fun z hz => hm z (by simp [hz])
  revert hc
  unfold rF
  split
  · intro hc; cases hc
  split
  · intro hc; cases hc
  split
  · intro hc; cases hc
  split
  · intro hc; cases hc
  split
  · intro hc; cases hc
  rename_i g0 g1 g2 g3 g4
  intro hc
  cases hr : rL (a4 * 256 + a5).toNat 0 body with
  | inl e =>
    obtain ⟨c, t⟩ := e
    exfalso
    rw [hr] at hc
    have hc : c = 0 := hc
    have := rL_err hr
    dsimp only at this; omega
  | inr e =>
    obtain ⟨l, r⟩ := e
    rw [hr] at hc
    cases r with
    | cons u r => cases hc
    | nil =>
      obtain ⟨e1, e2, e3⟩ := rL_enc f5 hr
      show (∀ i ∈ l, wro i = 0) ∧ l.length ≤ 1000 ∧ img l = _
      have hb : encL l = body := by rw [e1]; simp [encL]
      have g0 : a0 = 83 := by simpa using g0
      have g1 : a1 = 116 := by simpa using g1
      have g2 : a2 * 256 + a3 = body.length + 8 := by simpa using g2
      have g3 : x * 256 + y = sumL 65535 ([a0, a1, a2, a3, a4, a5] ++ body) := by simpa using g3
      refine ⟨e3, by omega, ?_⟩
      have hH : imgH l = [a0, a1, a2, a3, a4, a5] ++ body := by
        unfold imgH
        rw [hb, be2_of b2 b3 (by omega), be2_of b4 b5 (v := (l.length : Int)) (by omega), g0, g1]; rfl
      unfold img
      rw [hH, be2_of bx hyb g3]
end Go.AM
