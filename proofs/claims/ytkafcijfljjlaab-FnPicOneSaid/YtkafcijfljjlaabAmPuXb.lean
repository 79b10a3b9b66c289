/- Images that are drawn, spoilt ones too, with the array they stand in. Conditions: none. -/
import Derived.Test.YtkafcijfljjlaabAmPuX
set_option linter.unusedSimpArgs false
set_option linter.unusedVariables false
namespace Go.AM
open Go
theorem l17Mend_ok {b : List Int} (h : by8 b) (hl : b.length ≤ 100000) : OK (spec_l17Mend b) (fun x => by8 x ∧ x.length ≤ b.length) := by
  unfold spec_l17Mend
  refine OK.cond (fun _ => OK.mk ⟨h, Nat.le_refl _⟩) (fun hc => ?_)
  simp only [decide_eq_false_iff_not] at hc
  rw [num2' (by omega) (by omega), Option.bind_some]
  refine OK.gd (apOk_of (by simp [be2]) (by simp [be2])) ?_
  have w := w64 (n := (b.length : Int) - 2) (by omega) (by omega)
  rw [w]
  refine OK.gd (by simp; omega) ?_
  have e4 : (4 : Int).toNat = 4 := rfl
  have hm : ((b.drop 4).take (((b.length : Int) - 2).toNat - 4)).length = b.length - 6 := by
    rw [List.length_take, List.length_drop]; omega
  have hmb : by8 ((b.drop 4).take (((b.length : Int) - 2).toNat - 4)) := fun y hy => h y (List.mem_of_mem_drop (List.mem_of_mem_take hy))
  generalize (b.drop 4).take (((b.length : Int) - 2).toNat - 4) = m at hm hmb
  have hh : by8 ([83, 116] ++ be2 b.length ++ m) := by
    refine by8.app (by8.app ?_ (be2_by8 _)) hmb
    intro y hy; simp at hy; omega
  have hhl : ([83, 116] ++ be2 b.length ++ m).length = b.length - 2 := by simp [be2]; omega
  refine OK.gd (apOk_of (by omega) (by omega)) ?_
  refine OK.bind (sSum_ok hh (by omega)) ?_
  rintro _ rfl
  have hs := sumL_bd hh (s := 65535) (by omega) (by omega)
  rw [w64 (by omega) (by omega), num2' (by omega) (by omega), Option.bind_some]
  have hz : ([83, 116] ++ be2 b.length ++ m ++ be2 (sumL 65535 ([83, 116] ++ be2 b.length ++ m))).length = b.length := by
    rw [List.length_append, hhl]; simp [be2]; omega
  refine OK.gd (apOk_of (by omega) (by omega)) (OK.mk ⟨hh.app (be2_by8 _), by omega⟩)
theorem l17Spoil_okO {N : Int} {r : l26Rd} {b : List Int} (h : G N r) (hN : N ≤ 1000000000) (h8 : by8 b) (hb : 8 ≤ b.length) (hl : b.length ≤ 50000) : OK (spec_l17Spoil r b) (fun x => by8 x.1 ∧ x.1.length ≤ 50001 ∧ x.2.2 ≤ x.1.length ∧ G (N + 10) x.2.1) := by
  have fin : ∀ (m : List Int) (r : l26Rd), by8 m → m.length ≤ 50001 → G (N + 10) r → OK (spec_l17Spoil_j7 (r.b, r.p, m)) (fun x => by8 x.1 ∧ x.1.length ≤ 50001 ∧ x.2.2 ≤ x.1.length ∧ G (N + 10) x.2.1) := by
    intro m r h1 h2 h3
    simp only [spec_l17Spoil_j7]
    refine OK.bind (l17Mend_ok h1 (by omega)) ?_
    rintro x ⟨x1, x2⟩
    exact OK.mk ⟨x1, by dsimp only; omega, Nat.le_refl _, h3⟩
  unfold spec_l17Spoil
  refine OK.gd (apOk_of (by omega) (by omega)) ?_
  refine OK.bind (pick_ok h (by omega)) ?_
  rintro ⟨k, r⟩ ⟨g1, k0, k1⟩
  dsimp only at g1 k0 k1
  have k1 : k < b.length := k1 (by omega)
  refine OK.bind (pick_ok g1 (by omega)) ?_
  rintro ⟨c, r⟩ ⟨g2, _, _⟩
  dsimp only at g2 ⊢
  refine OK.cond (fun _ => ?_) (fun _ => ?_)
  · refine OK.bind (pick_ok g2 (by omega)) ?_
    rintro ⟨d, r⟩ ⟨g3, _, _⟩
    refine OK.idx k0 k1 fun _ _ _ => OK.mk ⟨h8.set _ _, by simp; omega, Nat.le_refl _, g3.up (by omega)⟩
  refine OK.cond (fun _ => ?_) (fun _ => ?_)
  · refine OK.gd (by simp; omega) (OK.mk ⟨h8, by dsimp only; omega, by dsimp only; omega, g2.up (by omega)⟩)
  refine OK.cond (fun _ => ?_) (fun _ => ?_)
  · refine OK.bind (pick_ok g2 (by omega)) ?_
    rintro ⟨d, r⟩ ⟨g3, _, _⟩
    refine OK.idx k0 k1 fun _ _ _ => fin _ _ (h8.set _ _) (by simp; omega) (g3.up (by omega))
  have w1 := w64 (n := k + 1) (by omega) (by omega)
  refine OK.cond (fun _ => ?_) (fun _ => ?_)
  · rw [w1]
    have hm : (b.take k.toNat ++ (b.drop (k + 1).toNat).take (b.length - (k + 1).toNat)).length ≤ 50000 := by
      simp only [List.length_append, List.length_take, List.length_drop]; omega
    refine OK.gd (by simp; omega) (OK.gd (by simp; omega) (OK.gd (apOk_of (by omega) (by omega)) ?_))
    exact fin _ _ ((h8.take _).app ((h8.drop _).take _)) (by omega) (g2.up (by omega))
  refine OK.cond (fun _ => ?_) (fun _ => ?_)
  · have hm : (b.take k.toNat ++ (b.drop k.toNat).take (b.length - k.toNat)).length ≤ 50000 := by
      simp only [List.length_append, List.length_take, List.length_drop]; omega
    simp only [List.length_append] at hm
    refine OK.gd (by simp; omega) (OK.gd (by simp; omega) (OK.gd (apOk_of (by omega) (by omega)) ?_))
    refine OK.bind (pick_ok g2 (by omega)) ?_
    rintro ⟨d, r⟩ ⟨g3, _, _⟩
    refine OK.gd (apOk_of (by simp only [List.length_append, List.length_singleton]; omega) (by simp only [List.length_append, List.length_singleton]; omega)) (OK.gd (apOk_of (by simp only [List.length_append, List.length_singleton]; omega) (by simp only [List.length_append, List.length_singleton]; omega)) ?_)
    exact fin _ _ (((h8.take _).app (by8.one _)).app ((h8.drop _).take _)) (by simp only [List.length_append, List.length_singleton]; omega) (g3.up (by omega))
  refine OK.idx (by omega) (by omega) fun y _ _ => ?_
  refine OK.bind (pick_ok g2 (by omega)) ?_
  rintro ⟨d, r⟩ ⟨g3, _, _⟩
  dsimp only at g3
  refine OK.bind (pick_ok g3 (by omega)) ?_
  rintro ⟨e, r⟩ ⟨g4, _, _⟩
  dsimp only at g4
  refine OK.cond (fun _ => ?_) (fun _ => ?_)
  · refine OK.bind (pick_ok g4 (by omega)) ?_
    rintro ⟨f, r⟩ ⟨g5, _, _⟩
    dsimp only at g5
    refine OK.idx (by omega) (by simp; omega) fun _ _ _ => fin _ _ ((h8.set _ _).set _ _) (by simp; omega) (g5.up (by omega))
  · exact fin _ _ (h8.set _ _) (by simp; omega) (g4.up (by omega))
theorem DrawPicRead_okO {bs : List Int} (h : ∀ y ∈ bs, 0 ≤ y ∧ y < 256) : OK (spec_DrawPicRead bs) (fun x => by8 x.1 ∧ x.1.length ≤ 50001 ∧ x.2 ≤ x.1.length) := by
  unfold spec_DrawPicRead
  refine OK.bind (l26Open_ok h) fun r hr => ?_
  refine OK.bind (l17Image_ok2 hr (by omega)) ?_
  rintro ⟨b, r⟩ ⟨⟨b1, b2, b3⟩, hg⟩
  dsimp only at b1 b2 b3 hg
  refine OK.bind (pick_ok hg (by omega)) ?_
  rintro ⟨c, r⟩ ⟨g2, _, _⟩
  dsimp only at g2
  refine OK.cond (fun _ => ?_) (fun _ => OK.mk ⟨b1, (by omega : b.length ≤ 50001), Nat.le_refl _⟩)
  refine OK.bind (l17Spoil_okO (b := b) g2 (by omega) b1 b2 (by omega)) ?_
  rintro ⟨x, r, n⟩ ⟨h1, h2, h3, _⟩
  exact OK.mk ⟨h1, h2, h3⟩
end Go.AM
