/- Images: how both packages make them. Conditions: none. -/
import Derived.Test.YtkafcijfljjlaabAmPuU
set_option linter.unusedSimpArgs false
set_option linter.unusedVariables false
namespace Go.AM
open Go
def encL (l : List Inst) : List Int := l.flatMap encI
/-- The first instruction that has no image. -/
def badI : Int → List Inst → Option (Int × Int)
  | _, [] => none
  | t, i :: l => if wro i = 0 then badI (t + 1) l else some (wro i, t)
def imgH (l : List Inst) : List Int := [83, 116] ++ be2 ((encL l).length + 8) ++ be2 l.length ++ encL l
def img (l : List Inst) : List Int := imgH l ++ be2 (sumL 65535 (imgH l))
def mkP (l : List Inst) : List Int × PicFault := if (l.length : Int) > 1000 then ([], ⟨1, 0⟩) else match badI 0 l with
  | some (c, t) => ([], ⟨c, t⟩)
  | none => (img l, ⟨0, 0⟩)
theorem be2_by8 (v : Int) : by8 (be2 v) := by
  intro y hy
  simp [be2] at hy; omega
theorem encL_by8 (l : List Inst) : by8 (encL l) := fun y hy => by
  obtain ⟨i, _, hi⟩ := List.mem_flatMap.1 hy
  exact encI_by8 i y hi
theorem imgH_by8 (l : List Inst) : by8 (imgH l) := by
  unfold imgH
  refine by8.app (by8.app (by8.app ?_ (be2_by8 _)) (be2_by8 _)) (encL_by8 l)
  intro y hy; simp at hy; omega
theorem badI_none : ∀ {l : List Inst} {t : Int}, badI t l = none → ∀ i ∈ l, wro i = 0
  | [], _, _, i, hi => by cases hi
  | j :: l, t, h, i, hi => by
    simp only [badI] at h
    split at h
    · rename_i h1
      rcases List.mem_cons.1 hi with rfl | hi
      · exact h1
      · exact badI_none h i hi
    · cases h
theorem badI_some : ∀ {l : List Inst} {t c u : Int}, badI t l = some (c, u) → c ≠ 0 ∧ 0 ≤ c ∧ t ≤ u ∧ u < t + l.length
  | [], _, _, _, h => by cases h
  | j :: l, t, c, u, h => by
    simp only [badI] at h
    split at h
    · have := badI_some h
      simp only [List.length_cons]; omega
    · rename_i h1
      cases h
      refine ⟨h1, ?_, Int.le_refl _, by simp only [List.length_cons]; omega⟩
      unfold wro; repeat' split <;> omega
theorem badI_of : ∀ {l : List Inst} (t : Int), (∀ i ∈ l, wro i = 0) → badI t l = none
  | [], _, _ => rfl
  | j :: l, t, h => by
    rw [badI, if_pos (h j (.head _))]; exact badI_of (t + 1) fun i hi => h i (.tail _ hi)
theorem wro_nn (i : Inst) : 0 ≤ wro i := by unfold wro; repeat' split <;> omega
theorem badI_snoc {l : List Inst} {i : Inst} {t : Int} (h : badI t l = none) : badI t (l ++ [i]) = if wro i = 0 then none else some (wro i, t + l.length) := by
  induction l generalizing t with
  | nil => simp [badI]
  | cons j l ih =>
    simp only [badI] at h
    split at h
    · rename_i h1
      rw [List.cons_append, badI, if_pos h1, ih h]
      simp only [List.length_cons]
      rw [show t + 1 + (l.length : Int) = t + ((l.length + 1 : Nat) : Int) by omega]
    · cases h
theorem badI_app {l m : List Inst} {t : Int} {x : Int × Int} (h : badI t l = some x) : badI t (l ++ m) = some x := by
  induction l generalizing t with
  | nil => cases h
  | cons j l ih =>
    simp only [badI] at h
    rw [List.cons_append, badI]
    split at h
    · rename_i h1
      rw [if_pos h1]; exact ih h
    · rename_i h1
      rw [if_neg h1]; exact h
theorem encL_len : ∀ {l : List Inst}, (∀ i ∈ l, wro i = 0) → (encL l).length ≤ 20 * l.length
  | [], _ => Nat.le_refl _
  | i :: l, h => by
    have h1 := encI_len (h i (.head _))
    have h2 := encL_len fun j hj => h j (.tail _ hj)
    unfold encL at h2 ⊢
    rw [List.flatMap_cons, List.length_append, List.length_cons]
    omega
theorem take_bad {l : List Inst} {k : Nat} (hk : k < l.length) (h : badI 0 (l.take k) = none) (hw : ¬ wro (l.getD k default) = 0) : badI 0 l = some (wro (l.getD k default), (k : Int)) := by
  have e : l.take (k + 1) = l.take k ++ [l.getD k default] := by
    rw [List.take_succ_eq_append_getElem hk]; simp [List.getD, hk]
  have h1 := badI_snoc (i := l.getD k default) h
  rw [← e, if_neg hw] at h1
  have h2 := badI_app (m := l.drop (k + 1)) h1
  rw [List.take_append_drop] at h2
  rw [h2]
  simp [Nat.min_eq_left (Nat.le_of_lt hk)]
/-! the document's -/
theorem num2' {v : Int} (h0 : 0 ≤ v) (h1 : v ≤ 1000000) : spec_l17Num v 2 = some (be2 v) := num2 (by omega) (by omega)
theorem sMake_ok {l : List Inst} (hl : okArgs l) (hl2 : l.length ≤ 1000000) : spec_PicMake l = some (mkP l) := by
  refine OK.eq ?_
  unfold spec_PicMake mkP
  refine OK.cond (fun hc => ?_) (fun hc => ?_)
  · simp only [decide_eq_true_eq] at hc
    rw [if_pos hc]; exact OK.mk rfl
  simp only [decide_eq_false_iff_not] at hc
  rw [if_neg hc]
  refine OK.loop (Q := fun x => match badI 0 l with | some (c, t) => x = .inl (c, t) | none => x = .inr (encL l)) (fun z : List Int × Int => 0 ≤ z.2 ∧ z.2 ≤ l.length ∧ badI 0 (l.take z.2.toNat) = none ∧ z.1 = encL (l.take z.2.toNat)) (fun z => (l.length - z.2).toNat) ⟨Int.le_refl _, by dsimp only; omega, rfl, rfl⟩ ?_ ?_
  · rintro ⟨b, k⟩ ⟨h1, h2, h3, h4⟩
    dsimp only at h1 h2 h3 h4
    simp only [spec_PicMake_s17]
    refine OK.cond (fun hd => ?_) (fun hd => ?_)
    · simp only [decide_eq_true_eq] at hd
      refine OK.idx h1 hd fun i hi hid => ?_
      refine OK.bind (sWrong_ok (hl i hi)) ?_
      rintro _ rfl
      refine OK.cond (fun he => ?_) (fun he => ?_)
      · simp only [decide_eq_true_eq] at he
        have hb := take_bad (l := l) (k := k.toNat) (by omega) h3 (by rw [hid]; omega)
        refine OK.mk ?_
        show match badI 0 l with | some (c, t) => _ | none => _
        rw [hb, hid, show ((k.toNat : Nat) : Int) = k by omega]
      · simp only [decide_eq_false_iff_not] at he
        have hw : wro i = 0 := by have := wro_nn i; omega
        have hn : badI 0 (l.take (k + 1).toNat) = none := by rw [take1G h1 hd hid, badI_snoc h3, if_pos hw]
        refine OK.idx h1 hd fun i2 hi2 hid2 => ?_
        obtain rfl : i2 = i := by rw [← hid, ← hid2]
        refine OK.bind (sInst_ok hw) ?_
        rintro _ rfl
        have hbl := encL_len (badI_none hn)
        have he2 : encL (l.take (k + 1).toNat) = b ++ encI i2 := by rw [take1G h1 hd hid, h4]; simp [encL]
        have hle : (l.take (k + 1).toNat).length ≤ 1000 := by rw [List.length_take]; omega
        rw [he2] at hbl
        refine OK.gd (apOk_of (by omega) (by omega)) ?_
        rw [w64 (n := k + 1) (by omega) (by omega)]
        exact OK.mk ⟨⟨by dsimp only; omega, by dsimp only; omega, hn, he2.symm⟩, by dsimp only; omega⟩
    · simp only [decide_eq_false_iff_not] at hd
      rw [List.take_of_length_le (by omega)] at h3 h4
      refine OK.mk ?_
      show match badI 0 l with | some (c, t) => _ | none => _
      rw [h3, h4]
  · intro x hx
    cases hb : badI 0 l with
    | some y =>
      obtain ⟨c, t⟩ := y
      rw [hb] at hx
      have hx : x = .inl (c, t) := hx
      subst hx
      exact OK.mk rfl
    | none =>
      rw [hb] at hx
      have hx : x = .inr (encL l) := hx
      subst hx
      simp only [Sum.elim_inr, spec_PicMake_j13]
      have hbl := encL_len (badI_none hb)
      have hI : imgH l = [83, 116] ++ be2 ((encL l).length + 8) ++ be2 l.length ++ encL l := rfl
      have hIl : (imgH l).length = (encL l).length + 6 := by rw [hI]; simp [be2]
      rw [w64 (n := ((encL l).length : Int) + 8) (by omega) (by omega), num2' (by omega) (by omega), Option.bind_some]
      refine OK.gd (apOk_of (by simp [be2]) (by simp [be2])) ?_
      rw [num2' (by omega) (by omega), Option.bind_some]
      refine OK.gd (apOk_of (by simp [be2]) (by simp [be2])) ?_
      rw [← hI]
      refine OK.gd (apOk_of (by omega) (by omega)) ?_
      refine OK.bind (sSum_ok (imgH_by8 l) (by omega)) ?_
      rintro _ rfl
      have hs := sumL_bd (imgH_by8 l) (s := 65535) (by omega) (by omega)
      rw [w64 (by omega) (by omega), num2' (by omega) (by omega), Option.bind_some]
      refine OK.gd (apOk_of (by simp [be2]; omega) (by simp [be2]; omega)) (OK.mk rfl)
/-! the program's -/
theorem iConcat {ls : List (List Int)} {n : Nat} (hn : ls.length ≤ 1000) (hL : ls.flatten.length = n) (h0 : 0 < n) (h1 : n ≤ 1000000) : slices_Concat_byte_byte ls = some ls.flatten := by
  have hpre : ∀ k, (ls.take k).flatten.length ≤ n := fun k => by
    rw [← hL]
    conv => rhs; rw [← List.take_append_drop k ls, List.flatten_append, List.length_append]
    omega
  have hsn : ∀ {k : Int}, 0 ≤ k → k < ls.length → ∀ {y}, ls.getD k.toNat default = y → (ls.take (k + 1).toNat).flatten = (ls.take k.toNat).flatten ++ y := by
    intro k k0 k1 y hy
    rw [take1G k0 k1 hy, List.flatten_append]; simp
  refine OK.eq ?_
  unfold slices_Concat_byte_byte
  refine OK.loop (Q := fun x => x = (n : Int)) (fun z : Int × Int => 0 ≤ z.2 ∧ z.2 ≤ ls.length ∧ z.1 = ((ls.take z.2.toNat).flatten.length : Int)) (fun z => (ls.length - z.2).toNat) ⟨Int.le_refl _, by dsimp only; omega, rfl⟩ ?_ ?_
  · rintro ⟨s, k⟩ ⟨k0, k1, k2⟩
    dsimp only at k0 k1 k2
    subst k2
    simp only [slices_Concat_byte_byte_s9]
    refine OK.cond (fun hd => ?_) (fun hd => ?_)
    · simp only [decide_eq_true_eq] at hd
      refine OK.idx k0 hd fun y _ hy => ?_
      have h2 := hpre (k + 1).toNat
      have e := hsn k0 hd hy
      rw [e, List.length_append] at h2
      rw [w64 (n := ((ls.take k.toNat).flatten.length : Int) + y.length) (by omega) (by omega), w64 (n := k + 1) (by omega) (by omega)]
      refine OK.cond (fun hc => by simp only [decide_eq_true_eq] at hc; omega) (fun _ => ?_)
      refine OK.mk ⟨⟨by dsimp only; omega, by dsimp only; omega, ?_⟩, by dsimp only; omega⟩
      dsimp only
      rw [e, List.length_append]; omega
    · simp only [decide_eq_false_iff_not] at hd
      refine OK.mk (show _ = (n : Int) from ?_)
      rw [List.take_of_length_le (by omega), hL]
  · rintro _ rfl
    simp only [slices_Concat_byte_byte_j5]
    have hg : slices_Grow_byte_byte_nil_w n = some [] := by
      unfold slices_Grow_byte_byte_nil_w
      have : slices_Grow_byte_byte_nil n = some (List.replicate n 0, 0) := by
        refine OK.eq ?_
        unfold slices_Grow_byte_byte_nil
        have e : IntKind.i64.wrap ((n : Int) - IntKind.i64.wrap (0 - 0)) = n := by
          rw [show IntKind.i64.wrap (0 - 0) = 0 from rfl, w64 (by omega) (by omega)]; omega
        rw [e]
        refine OK.cond (fun hc => by simp only [decide_eq_true_eq] at hc; omega) (fun _ => ?_)
        refine OK.cond (fun _ => ?_) (fun hc => by simp only [decide_eq_false_iff_not] at hc; omega)
        refine OK.cond (fun hc => by simp only [zq, beq_iff_eq] at hc; omega) (fun _ => ?_)
        refine OK.gd (by simp [zaOk]; omega) (OK.gd (by simp) ?_)
        simp only [slices_Grow_byte_byte_nil_j9, e]
        exact OK.mk (by simp)
      rw [this]; simp
    rw [hg, Option.bind_some]
    refine OK.loop (Q := fun x => x = ls.flatten) (fun z : List Int × Int => 0 ≤ z.2 ∧ z.2 ≤ ls.length ∧ z.1 = (ls.take z.2.toNat).flatten) (fun z => (ls.length - z.2).toNat) ⟨Int.le_refl _, by dsimp only; omega, rfl⟩ ?_ ?_
    · rintro ⟨b, k⟩ ⟨k0, k1, k2⟩
      dsimp only at k0 k1 k2
      subst k2
      simp only [slices_Concat_byte_byte_s34]
      refine OK.cond (fun hd => ?_) (fun hd => ?_)
      · simp only [decide_eq_true_eq] at hd
        refine OK.idx k0 hd fun y _ hy => ?_
        have h2 := hpre (k + 1).toNat
        have e := hsn k0 hd hy
        rw [e] at h2
        refine OK.gd (apOk_of (by omega) (by omega)) ?_
        rw [w64 (n := k + 1) (by omega) (by omega)]
        exact OK.mk ⟨⟨by dsimp only; omega, by dsimp only; omega, e.symm⟩, by dsimp only; omega⟩
      · simp only [decide_eq_false_iff_not] at hd
        refine OK.mk (show _ = ls.flatten from ?_)
        rw [List.take_of_length_le (by omega)]
    · rintro _ rfl
      simp only [slices_Concat_byte_byte_j30]
      exact OK.mk rfl
theorem iCloneB {l : List Int} (h : l.length ≤ 1000000) : impl_clone_byte l = some l := by
  unfold impl_clone_byte slices_Clone_byte_byte slices_Clip_byte_byte
  have e1 : nilq l (fun v2 => cond v2 (some []) (gd (apOk l.length 1) (some l))) = some l := by
    refine nilq_eq ?_ ?_
    · rw [apOk_of (by omega) (by omega)]; rfl
    · rintro rfl; rfl
  have e2 : prtH l l.length = some l := by unfold prtH; simp
  rw [e1, Option.bind_some, e2]; rfl
theorem iMake_ok {l : List Inst} (hl : okArgs l) (hl2 : l.length ≤ 1000000) : impl_PicMake l = some (mkP l) := by
  refine OK.eq ?_
  unfold impl_PicMake mkP
  refine OK.cond (fun hc => ?_) (fun hc => ?_)
  · simp only [decide_eq_true_eq] at hc
    rw [if_pos hc]; exact OK.mk rfl
  simp only [decide_eq_false_iff_not] at hc
  rw [if_neg hc]
  refine OK.loop (Q := fun x => match badI 0 l with | some (c, t) => x = .inl (c, t) | none => x = .inr (encL l)) (fun z : List Int × Int => 0 ≤ z.2 ∧ z.2 ≤ l.length ∧ badI 0 (l.take z.2.toNat) = none ∧ z.1 = encL (l.take z.2.toNat)) (fun z => (l.length - z.2).toNat) ⟨Int.le_refl _, by dsimp only; omega, rfl, rfl⟩ ?_ ?_
  · rintro ⟨b, k⟩ ⟨h1, h2, h3, h4⟩
    dsimp only at h1 h2 h3 h4
    simp only [impl_PicMake_s17]
    refine OK.cond (fun hd => ?_) (fun hd => ?_)
    · simp only [decide_eq_true_eq] at hd
      refine OK.idx h1 hd fun i hi hid => ?_
      refine OK.bind (iInst_ok (hl i hi)) ?_
      rintro ⟨e, w⟩ ⟨q1, q2, q3⟩
      dsimp only at q1 q2 q3
      subst q1
      refine OK.cond (fun he => ?_) (fun he => ?_)
      · simp only [bne_iff_ne, ne_eq] at he
        have hb := take_bad (l := l) (k := k.toNat) (by omega) h3 (by rw [hid]; exact he)
        refine OK.mk ?_
        show match badI 0 l with | some (c, t) => _ | none => _
        rw [hb, hid, show ((k.toNat : Nat) : Int) = k by omega]
      · have hw : wro i = 0 := by simpa using he
        obtain rfl := q2 hw
        have hn : badI 0 (l.take (k + 1).toNat) = none := by rw [take1G h1 hd hid, badI_snoc h3, if_pos hw]
        have hbl := encL_len (badI_none hn)
        have he2 : encL (l.take (k + 1).toNat) = b ++ encI i := by rw [take1G h1 hd hid, h4]; simp [encL]
        have hle : (l.take (k + 1).toNat).length ≤ 1000 := by rw [List.length_take]; omega
        rw [he2] at hbl
        dsimp only
        refine OK.gd (apOk_of (by omega) (by omega)) ?_
        rw [w64 (n := k + 1) (by omega) (by omega)]
        exact OK.mk ⟨⟨by dsimp only; omega, by dsimp only; omega, hn, he2.symm⟩, by dsimp only; omega⟩
    · simp only [decide_eq_false_iff_not] at hd
      rw [List.take_of_length_le (by omega)] at h3 h4
      refine OK.mk ?_
      show match badI 0 l with | some (c, t) => _ | none => _
      rw [h3, h4]
  · intro x hx
    cases hb : badI 0 l with
    | some y =>
      obtain ⟨c, t⟩ := y
      rw [hb] at hx
      have hx : x = .inl (c, t) := hx
      subst hx
      exact OK.mk rfl
    | none =>
      rw [hb] at hx
      have hx : x = .inr (encL l) := hx
      subst hx
      simp only [Sum.elim_inr, impl_PicMake_j13]
      have hbl := encL_len (badI_none hb)
      have hI : imgH l = [83, 116] ++ be2 ((encL l).length + 8) ++ be2 l.length ++ encL l := rfl
      have hIl : (imgH l).length = (encL l).length + 6 := by rw [hI]; simp [be2]
      rw [w64 (n := (((encL l).length : Nat) : Int) + 8) (by omega) (by omega), big2, Option.bind_some, big2, Option.bind_some]
      have hF : [[83, 116], be2 (((encL l).length : Nat) + 8), be2 l.length, encL l].flatten = imgH l := by rw [hI]; simp
      rw [iConcat (n := (imgH l).length) (by simp) (by rw [hF]) (by omega) (by omega), hF, Option.bind_some]
      refine OK.bind (iSum_ok (imgH_by8 l) (by omega)) ?_
      rintro _ rfl
      have hs := sumL_bd (imgH_by8 l) (s := 65535) (by omega) (by omega)
      rw [w64 (by omega) (by omega), big2, Option.bind_some]
      have hlen : (imgH l ++ be2 (sumL 65535 (imgH l))).length = (encL l).length + 8 := by simp [be2]; omega
      refine OK.gd (apOk_of (by omega) (by omega)) ?_
      rw [iCloneB (by omega)]
      exact OK.mk rfl
end Go.AM
