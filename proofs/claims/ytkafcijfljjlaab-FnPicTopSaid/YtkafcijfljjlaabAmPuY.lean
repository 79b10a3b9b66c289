/- The law of images. Conditions: none. -/
import Derived.Test.YtkafcijfljjlaabAmPuX
set_option linter.unusedSimpArgs false
set_option linter.unusedVariables false
namespace Go.AM
open Go
theorem be2_of {a b v : Int} (ha : 0 ≤ a ∧ a < 256) (hb : 0 ≤ b ∧ b < 256) (h : a * 256 + b = v) : be2 v = [a, b] := by
  unfold be2; subst h
  rw [show (a * 256 + b) / 256 % 256 = a by omega, show (a * 256 + b) % 256 = b by omega]
theorem rL_err : ∀ {n : Nat} {t : Int} {b : List Int} {e : Int × Int}, rL n t b = .inl e → 0 < e.1
  | 0, _, _, _, h => by cases h
  | n + 1, t, b, e, h => by
    simp only [rL] at h
    split at h
    · rename_i h1; cases h; exact (rI_err h1).1
    · split at h
      · rename_i h2; cases h; exact rL_err h2
      · cases h
theorem finP_nn {m : Int} {n : Nat} {t : Int} {b : List Int} : 0 ≤ (finP m (rL n t b)).2.Code := by
  cases h : rL n t b with
  | inl e => obtain ⟨c, u⟩ := e; exact Int.le_of_lt (rL_err h)
  | inr e =>
    obtain ⟨l, r⟩ := e
    cases r with
    | nil => exact Int.le_refl _
    | cons _ _ => show (0 : Int) ≤ 7; omega
theorem rF_nn {a0 a1 a2 a3 a4 a5 x y : Int} {body : List Int} : 0 ≤ (rF a0 a1 a2 a3 a4 a5 body x y).2.Code := by
  unfold rF
  repeat' split
  all_goals first | exact finP_nn | (show (0 : Int) ≤ _; simp)
theorem finP_bad {m : Int} {z : (Int × Int) ⊕ (List Inst × List Int)} (h : (finP m z).2.Code ≠ 0) : (finP m z).1 = [] := by
  unfold finP at h ⊢
  split
  · rfl
  · exact absurd rfl h
  · rfl
theorem rF_bad {a0 a1 a2 a3 a4 a5 x y : Int} {body : List Int} (h : (rF a0 a1 a2 a3 a4 a5 body x y).2.Code ≠ 0) : (rF a0 a1 a2 a3 a4 a5 body x y).1 = [] := by
  unfold rF at h ⊢
  repeat' split
  all_goals first | rfl | skip
  simp only [*, not_true_eq_false, if_false] at h
  exact finP_bad h
theorem rF_good {a0 a1 a2 a3 a4 a5 x y : Int} {body : List Int} (h8 : by8 ([a0, a1, a2, a3, a4, a5] ++ body ++ [x, y])) (hc : (rF a0 a1 a2 a3 a4 a5 body x y).2.Code = 0) :
    (∀ i ∈ (rF a0 a1 a2 a3 a4 a5 body x y).1, wro i = 0) ∧ (rF a0 a1 a2 a3 a4 a5 body x y).1.length ≤ 1000 ∧ img (rF a0 a1 a2 a3 a4 a5 body x y).1 = [a0, a1, a2, a3, a4, a5] ++ body ++ [x, y] := by
  have hm : ∀ z, z ∈ [a0, a1, a2, a3, a4, a5] ++ body ++ [x, y] → 0 ≤ z ∧ z < 256 := fun z hz => h8 z hz
  have b2 := hm a2 (by simp)
  have b3 := hm a3 (by simp)
  have b4 := hm a4 (by simp)
  have b5 := hm a5 (by simp)
  have bx := hm x (by simp)
  have hyb := hm y (by simp)
  have f5 : by8 body := fun z hz => hm z (by simp [hz])
  revert hc
  unfold rF
  split
  · intro hc; cases hc
  split
  · intro hc; cases hc
  split
  · intro hc; cases hc
  split
  · intro hc; cases hc
  split
  · intro hc; cases hc
  rename_i g0 g1 g2 g3 g4
  intro hc
  cases hr : rL (a4 * 256 + a5).toNat 0 body with
  | inl e =>
    obtain ⟨c, t⟩ := e
    exfalso
    rw [hr] at hc
    have hc : c = 0 := hc
    have := rL_err hr
    dsimp only at this; omega
  | inr e =>
    obtain ⟨l, r⟩ := e
    rw [hr] at hc
    cases r with
    | cons u r => cases hc
    | nil =>
      obtain ⟨e1, e2, e3⟩ := rL_enc f5 hr
      show (∀ i ∈ l, wro i = 0) ∧ l.length ≤ 1000 ∧ img l = _
      have hb : encL l = body := by rw [e1]; simp [encL]
      have g0 : a0 = 83 := by simpa using g0
      have g1 : a1 = 116 := by simpa using g1
      have g2 : a2 * 256 + a3 = body.length + 8 := by simpa using g2
      have g3 : x * 256 + y = sumL 65535 ([a0, a1, a2, a3, a4, a5] ++ body) := by simpa using g3
      refine ⟨e3, by omega, ?_⟩
      have hH : imgH l = [a0, a1, a2, a3, a4, a5] ++ body := by
        unfold imgH
        rw [hb, be2_of b2 b3 (by omega), be2_of b4 b5 (v := (l.length : Int)) (by omega), g0, g1]; rfl
      unfold img
      rw [hH, be2_of bx hyb g3]
theorem rF_img {l : List Inst} (hl : l.length ≤ 1000) (hw : ∀ i ∈ l, wro i = 0) (h : ∃ a0 a1 a2 a3 a4 a5 body x y, img l = [a0, a1, a2, a3, a4, a5] ++ body ++ [x, y] ∧ body.length ≤ 20000 ∧ rF a0 a1 a2 a3 a4 a5 body x y = (l, ⟨0, 0⟩)) : impl_PicRead (img l) = some (l, ⟨0, 0⟩) := by
  obtain ⟨a0, a1, a2, a3, a4, a5, body, x, y, h1, h2, h3⟩ := h
  have h8 := img_by8 l
  rw [h1] at h8 ⊢
  rw [iRead_ok h8 h2, h3]
theorem img_parts {l : List Inst} (hl : l.length ≤ 1000) (hw : ∀ i ∈ l, wro i = 0) : ∃ a0 a1 a2 a3 a4 a5 body x y, img l = [a0, a1, a2, a3, a4, a5] ++ body ++ [x, y] ∧ body.length ≤ 20000 ∧ rF a0 a1 a2 a3 a4 a5 body x y = (l, ⟨0, 0⟩) := by
  have hb := encL_len hw
  have hs := sumL_bd (imgH_by8 l) (s := 65535) (by omega) (by omega)
  refine ⟨83, 116, ((encL l).length + 8 : Int) / 256 % 256, ((encL l).length + 8 : Int) % 256, (l.length : Int) / 256 % 256, (l.length : Int) % 256, encL l, sumL 65535 (imgH l) / 256 % 256, sumL 65535 (imgH l) % 256, rfl, by omega, ?_⟩
  unfold rF
  rw [if_neg (by simp), if_neg (by simp), if_neg (by omega), if_neg ?_, if_neg (by omega)]
  · rw [show ((l.length : Int) / 256 % 256 * 256 + (l.length : Int) % 256) = l.length by omega, Int.toNat_natCast]
    have := rL_dec 0 [] hw
    rw [List.append_nil] at this
    show finP _ (rL l.length 0 (encL l)) = _
    rw [show encL l = l.flatMap encI from rfl, this]; rfl
  · simp only [ne_eq, Decidable.not_not]
    have : [83, 116, ((encL l).length + 8 : Int) / 256 % 256, ((encL l).length + 8 : Int) % 256, (l.length : Int) / 256 % 256, (l.length : Int) % 256] ++ encL l = imgH l := rfl
    rw [this]; omega
theorem mkP_read {l : List Inst} (h : (mkP l).2.Code = 0) : l.length ≤ 1000 ∧ (∀ i ∈ l, wro i = 0) ∧ mkP l = (img l, ⟨0, 0⟩) := by
  unfold mkP at h ⊢
  split at h
  · cases h
  · rename_i h1
    rw [if_neg h1]
    split at h
    · rename_i c t hb
      exact absurd h (badI_some hb).1
    · rename_i hb
      exact ⟨by omega, badI_none hb, rfl⟩
theorem mkP_bad {l : List Inst} (h : (mkP l).2.Code ≠ 0) : (mkP l).1 = [] ∧ 0 ≤ (mkP l).2.At ∧ (mkP l).2.At < l.length := by
  unfold mkP at h ⊢
  split
  · exact ⟨rfl, Int.le_refl _, by dsimp only; omega⟩
  · rename_i h1
    rw [if_neg h1] at h
    cases hb : badI 0 l with
    | some y =>
      obtain ⟨c, t⟩ := y
      have := badI_some hb
      exact ⟨rfl, by dsimp only; omega, by dsimp only; omega⟩
    | none => rw [hb] at h; exact absurd rfl h
theorem mkP_good {l : List Inst} (h1 : l.length ≤ 1000) (h2 : ∀ i ∈ l, wro i = 0) : mkP l = (img l, ⟨0, 0⟩) := by
  unfold mkP
  rw [if_neg (by omega), badI_of 0 h2]
theorem top_read {ys : List Int} (hy : ∀ n ∈ ys, 0 ≤ n ∧ n < 256) : laws_FnPicTop_j25 ys () = some true := by
  refine OK.eq ?_
  simp only [laws_FnPicTop_j25]
  refine OK.bind (DrawPicRead_ok hy) ?_
  rintro d ⟨d1, d2⟩
  by_cases hd : d.length < 8 ∨ d.length > 20008
  · rw [iRead_bad hd, sRead_bad hd]
    exact OK.mk rfl
  · obtain ⟨a0, a1, a2, a3, a4, a5, body, x, y, rfl⟩ := img_split (d := d) (by omega)
    have hl : body.length ≤ 20000 := by simp at hd; omega
    rw [iRead_ok d1 hl, sRead_ok d1 hl, Option.bind_some, Option.bind_some]
    refine OK.cond (fun hc => by simp at hc) (fun _ => ?_)
    refine OK.cond (fun hc => OK.mk ?_) (fun hc => ?_)
    · simp only [decide_eq_true_eq] at hc
      rw [rF_bad (by omega)]; rfl
    · simp only [decide_eq_false_iff_not] at hc
      by_cases hz : (rF a0 a1 a2 a3 a4 a5 body x y).2.Code = 0
      · obtain ⟨g1, g2, g3⟩ := rF_good d1 hz
        rw [iMake_ok (okArgs_of g1) (by omega), mkP_good g2 g1, g3]
        exact OK.mk (by simp)
      · exfalso
        have := @rF_nn a0 a1 a2 a3 a4 a5 x y body
        omega
theorem law_PicTop {xs ys : List Int} (hx : ∀ n ∈ xs, 0 ≤ n ∧ n < 256) (hy : ∀ n ∈ ys, 0 ≤ n ∧ n < 256) : laws_FnPicTop xs ys = some true := by
  refine OK.eq ?_
  unfold laws_FnPicTop
  refine OK.cond (fun _ => OK.mk rfl) (fun _ => ?_)
  refine OK.bind (DrawPicMake_ok hx) ?_
  rintro l ⟨l1, l2⟩
  rw [iMake_ok l1 l2, sMake_ok l1 l2, Option.bind_some, Option.bind_some, top_read hy]
  refine OK.cond (fun hc => by simp at hc) (fun _ => ?_)
  refine OK.cond (fun hc => ?_) (fun hc => ?_)
  · simp only [beq_iff_eq] at hc
    obtain ⟨g1, g2, g3⟩ := mkP_read hc
    rw [g3]
    dsimp only
    rw [rF_img g1 g2 (img_parts g1 g2), Option.bind_some]
    refine OK.cond (fun _ => ?_) (fun h => by simp at h)
    refine OK.cond (fun _ => ?_) (fun h => by simp at h)
    rw [iListSame l l1 l2, Option.bind_some]
    have := encL_len g2
    refine OK.cond (fun h => ?_) (fun _ => OK.mk rfl)
    simp only [Bool.not_true, Bool.false_or, decide_eq_true_eq] at h
    rw [img_len] at h; omega
  · simp only [beq_eq_false_iff_ne] at hc
    obtain ⟨g1, g2, g3⟩ := mkP_bad hc
    refine OK.cond (fun h => ?_) (fun _ => OK.mk rfl)
    rw [g1] at h
    simp at h; omega
end Go.AM
