/- Images: how both packages make them. Conditions: none. -/
import Derived.Test.YtkafcijfljjlaabAmPuU
set_option linter.unusedSimpArgs false
set_option linter.unusedVariables false
namespace Go.AM
open Go
def encL (l : List Inst) : List Int := l.flatMap encI
/-- The first instruction that has no image. -/
def badI : Int → List Inst → Option (Int × Int)
  | _, [] => none
  | t, i :: l => if wro i = 0 then badI (t + 1) l else some (wro i, t)
def imgH (l : List Inst) : List Int := [83, 116] ++ be2 ((encL l).length + 8) ++ be2 l.length ++ encL l
def img (l : List Inst) : List Int := imgH l ++ be2 (sumL 65535 (imgH l))
def mkP (l : List Inst) : List Int × PicFault := if (l.length : Int) > 1000 then ([], ⟨1, 0⟩) else match badI 0 l with
  | some (c, t) => ([], ⟨c, t⟩)
  | none => (img l, ⟨0, 0⟩)
theorem be2_by8 (v : Int) : by8 (be2 v) := by
  intro y hy
  simp [be2] at hy; omega
theorem encL_by8 (l : List Inst) : by8 (encL l) := fun y hy => by
  obtain ⟨i, _, hi⟩ := List.mem_flatMap.1 hy
  exact encI_by8 i y hi
theorem imgH_by8 (l : List Inst) : by8 (imgH l) := by
  unfold imgH
  refine by8.app (by8.app (by8.app ?_ (be2_by8 _)) (be2_by8 _)) (encL_by8 l)
  intro y hy; simp at hy; omega
theorem badI_none : ∀ {l : List Inst} {t : Int}, badI t l = none → ∀ i ∈ l, wro i = 0
  | [], _, _, i, hi => by cases hi
  | j :: l, t, h, i, hi => by
    simp only [badI] at h
    split at h
    · rename_i h1
      rcases List.mem_cons.1 hi with rfl | hi
      · exact h1
      · exact badI_none h i hi
    · cases h
theorem badI_some : ∀ {l : List Inst} {t c u : Int}, badI t l = some (c, u) → c ≠ 0 ∧ 0 ≤ c ∧ t ≤ u ∧ u < t + l.length
  | [], _, _, _, h => by cases h
  | j :: l, t, c, u, h => by
    simp only [badI] at h
    split at h
    · have := badI_some h
      simp only [List.length_cons]; omega
    · rename_i h1
      cases h
      refine ⟨h1, ?_, Int.le_refl _, by simp only [List.length_cons]; omega⟩
      unfold wro; repeat' split <;> omega
theorem wro_nn (i : Inst) : 0 ≤ wro i := by unfold wro; repeat' split <;> omega
theorem badI_snoc {l : List Inst} {i : Inst} {t : Int} (h : badI t l = none) : badI t (l ++ [i]) = if wro i = 0 then none else some (wro i, t + l.length) := by
  induction l generalizing t with
  | nil => simp [badI]
  | cons j l ih =>
    simp only [badI] at h
    split at h
    · rename_i h1
      rw [List.cons_append, badI, if_pos h1, ih h]
      simp only [List.length_cons]
      rw [show t + 1 + (l.length : Int) = t + ((l.length + 1 : Nat) : Int) by omega]
    · cases h
theorem badI_app {l m : List Inst} {t : Int} {x : Int × Int} (h : badI t l = some x) : badI t (l ++ m) = some x := by
  induction l generalizing t with
  | nil => cases h
  | cons j l ih =>
    simp only [badI] at h
    rw [List.cons_append, badI]
    split at h
    · rename_i h1
      rw [if_pos h1]; exact ih h
    · rename_i h1
      rw [if_neg h1]; exact h
theorem encL_len : ∀ {l : List Inst}, (∀ i ∈ l, wro i = 0) → (encL l).length ≤ 20 * l.length
  | [], _ => Nat.le_refl _
  | i :: l, h => by
    have h1 := encI_len (h i (.head _))
    have h2 := encL_len fun j hj => h j (.tail _ hj)
    unfold encL at h2 ⊢
    rw [List.flatMap_cons, List.length_append, List.length_cons]
    omega
theorem take_bad {l : List Inst} {k : Nat} (hk : k < l.length) (h : badI 0 (l.take k) = none) (hw : ¬ wro (l.getD k default) = 0) : badI 0 l = some (wro (l.getD k default), (k : Int)) := by
  have e : l.take (k + 1) = l.take k ++ [l.getD k default] := by
    rw [List.take_succ_eq_append_getElem hk]; simp [List.getD, hk]
  have h1 := badI_snoc (i := l.getD k default) h
  rw [← e, if_neg hw] at h1
  have h2 := badI_app (m := l.drop (k + 1)) h1
  rw [List.take_append_drop] at h2
  rw [h2]
  simp [Nat.min_eq_left (Nat.le_of_lt hk)]
/-! the document's -/
theorem num2' {v : Int} (h0 : 0 ≤ v) (h1 : v ≤ 1000000) : spec_l17Num v 2 = some (be2 v) := num2 (by omega) (by omega)
theorem sMake_ok {l : List Inst} (hl : okArgs l) (hl2 : l.length ≤ 1000000) : spec_PicMake l = some (mkP l) := by
  refine OK.eq ?_
  unfold spec_PicMake mkP
  refine OK.cond (fun hc => ?_) (fun hc => ?_)
  · simp only [decide_eq_true_eq] at hc
    rw [if_pos hc]; exact OK.mk rfl
  simp only [decide_eq_false_iff_not] at hc
  rw [if_neg hc]
  refine OK.loop (Q := fun x => match badI 0 l with | some (c, t) => x = .inl (c, t) | none => x = .inr (encL l)) (fun z : List Int × Int => 0 ≤ z.2 ∧ z.2 ≤ l.length ∧ badI 0 (l.take z.2.toNat) = none ∧ z.1 = encL (l.take z.2.toNat)) (fun z => (l.length - z.2).toNat) ⟨Int.le_refl _, by dsimp only; omega, rfl, rfl⟩ ?_ ?_
  · rintro ⟨b, k⟩ ⟨h1, h2, h3, h4⟩
    dsimp only at h1 h2 h3 h4
    simp only [spec_PicMake_s17]
    refine OK.cond (fun hd => ?_) (fun hd => ?_)
    · simp only [decide_eq_true_eq] at hd
      refine OK.idx h1 hd fun i hi hid => ?_
      refine OK.bind (sWrong_ok (hl i hi)) ?_
      rintro _ rfl
      refine OK.cond (fun he => ?_) (fun he => ?_)
      · simp only [decide_eq_true_eq] at he
        have hb := take_bad (l := l) (k := k.toNat) (by omega) h3 (by rw [hid]; omega)
        refine OK.mk ?_
        show match badI 0 l with | some (c, t) => _ | none => _
        rw [hb, hid, show ((k.toNat : Nat) : Int) = k by omega]
      · simp only [decide_eq_false_iff_not] at he
        have hw : wro i = 0 := by have := wro_nn i; omega
        have hn : badI 0 (l.take (k + 1).toNat) = none := by rw [take1G h1 hd hid, badI_snoc h3, if_pos hw]
        refine OK.idx h1 hd fun i2 hi2 hid2 => ?_
        obtain rfl : i2 = i := by rw [← hid, ← hid2]
        refine OK.bind (sInst_ok hw) ?_
        rintro _ rfl
        have hbl := encL_len (badI_none hn)
        have he2 : encL (l.take (k + 1).toNat) = b ++ encI i2 := by rw [take1G h1 hd hid, h4]; simp [encL]
        have hle : (l.take (k + 1).toNat).length ≤ 1000 := by rw [List.length_take]; omega
        rw [he2] at hbl
        refine OK.gd (apOk_of (by omega) (by omega)) ?_
        rw [w64 (n := k + 1) (by omega) (by omega)]
        exact OK.mk ⟨⟨by dsimp only; omega, by dsimp only; omega, hn, he2.symm⟩, by dsimp only; omega⟩
    · simp only [decide_eq_false_iff_not] at hd
      rw [List.take_of_length_le (by omega)] at h3 h4
      refine OK.mk ?_
      show match badI 0 l with | some (c, t) => _ | none => _
      rw [h3, h4]
  · intro x hx
    cases hb : badI 0 l with
    | some y =>
      obtain ⟨c, t⟩ := y
      rw [hb] at hx
      have hx : x = .inl (c, t) := hx
      subst hx
      exact OK.mk rfl
    | none =>
      rw [hb] at hx
      have hx : x = .inr (encL l) := hx
      subst hx
      simp only [Sum.elim_inr, spec_PicMake_j13]
      have hbl := encL_len (badI_none hb)
      have hI : imgH l = [83, 116] ++ be2 ((encL l).length + 8) ++ be2 l.length ++ encL l := rfl
      have hIl : (imgH l).length = (encL l).length + 6 := by rw [hI]; simp [be2]
      rw [w64 (n := ((encL l).length : Int) + 8) (by omega) (by omega), num2' (by omega) (by omega), Option.bind_some]
      refine OK.gd (apOk_of (by simp [be2]) (by simp [be2])) ?_
      rw [num2' (by omega) (by omega), Option.bind_some]
      refine OK.gd (apOk_of (by simp [be2]) (by simp [be2])) ?_
      rw [← hI]
      refine OK.gd (apOk_of (by omega) (by omega)) ?_
      refine OK.bind (sSum_ok (imgH_by8 l) (by omega)) ?_
      rintro _ rfl
      have hs := sumL_bd (imgH_by8 l) (s := 65535) (by omega) (by omega)
      rw [w64 (by omega) (by omega), num2' (by omega) (by omega), Option.bind_some]
      refine OK.gd (apOk_of (by simp [be2]; omega) (by simp [be2]; omega)) (OK.mk rfl)
/-! the program's -/
end Go.AM
