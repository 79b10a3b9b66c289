/- Images that are drawn, spoilt ones too. Conditions: none. -/
import Derived.Test.YtkafcijfljjlaabAmPuW
set_option linter.unusedSimpArgs false
set_option linter.unusedVariables false
namespace Go.AM
open Go
theorem img_len (l : List Inst) : (img l).length = (encL l).length + 8 := by
  unfold img imgH; simp [be2]
theorem img_by8 (l : List Inst) : by8 (img l) := (imgH_by8 l).app (be2_by8 _)
theorem sMake_img {L : Nat} {l : List Inst} (h : okW L l) (hL : L ≤ 1000000) : OK (spec_PicMake l) (fun x => x.2.Code = 0 → by8 x.1 ∧ 8 ≤ x.1.length ∧ x.1.length ≤ 20008) := by
  refine OK.of_eq (sMake_ok (fun i hi => by have := h.2 i hi; omega) (by have := h.1; omega)) ?_
  unfold mkP
  split
  · intro e; cases e
  · split
    · rename_i c t hb
      intro e
      have := badI_some hb
      exact absurd e this.1
    · rename_i hb
      intro _
      have := encL_len (badI_none hb)
      rw [img_len]
      exact ⟨img_by8 l, by omega, by omega⟩
theorem l17Image_ok2 {N : Int} {r : l26Rd} (h : G N r) (hN : N ≤ 700000000) : OK (spec_l17Image r) (fun x => (by8 x.1 ∧ 8 ≤ x.1.length ∧ x.1.length ≤ 20008) ∧ G (N + 100000000) x.2) := by
  unfold spec_l17Image
  refine OK.loop (Q := Sum.elim (fun z : List Int × Int × List Int => (by8 z.2.2 ∧ 8 ≤ z.2.2.length ∧ z.2.2.length ≤ 20008) ∧ G (N + 100000000) ⟨z.1, z.2.1⟩) (fun z : List Int × Int => G (N + 100000000) ⟨z.1, z.2⟩)) (fun z : List Int × Int × Int => 0 ≤ z.2.2 ∧ z.2.2 ≤ 4 ∧ G (N + 22000000 * z.2.2) ⟨z.1, z.2.1⟩) (fun z => (4 - z.2.2).toNat) ?_ ?_ ?_
  · exact ⟨Int.le_refl _, by dsimp only; omega, h.up (by dsimp only; omega)⟩
  · rintro ⟨b, p, k⟩ ⟨h1, h2, h3⟩
    dsimp only at h1 h2 h3
    simp only [spec_l17Image_s7]
    refine OK.cond (fun hc => ?_) (fun _ => OK.mk (h3.up (by omega)))
    simp only [decide_eq_true_eq] at hc
    refine OK.bind (l17List_ok h3 (by omega)) ?_
    rintro ⟨l, r⟩ ⟨hl, hr⟩
    dsimp only at hl hr
    refine OK.bind (sMake_img hl (by omega)) ?_
    rintro ⟨m, f⟩ hm
    refine OK.cond (fun hf => OK.mk ⟨hm (by simpa using hf), hr.up (by omega)⟩) (fun _ => ?_)
    have e : IntKind.i64.wrap (k + 1) = k + 1 := w64 (by omega) (by omega)
    rw [e]
    exact OK.mk ⟨⟨by dsimp only; omega, by dsimp only; omega, hr.up (by dsimp only; omega)⟩, by dsimp only; omega⟩
  · rintro (z | z) hz
    · exact OK.mk hz
    · simp only [Sum.elim_inr, spec_l17Image_j3]
      rw [sMake_ok (fun i hi => by cases hi) (by simp), Option.bind_some]
      exact OK.mk ⟨⟨img_by8 [], by rw [show (mkP []).1 = img [] from rfl, img_len]; simp [encL], by rw [show (mkP []).1 = img [] from rfl, img_len]; simp [encL]⟩, hz⟩
theorem by8.take {l : List Int} (h : by8 l) (n : Nat) : by8 (l.take n) := fun y hy => h y (List.mem_of_mem_take hy)
theorem by8.drop {l : List Int} (h : by8 l) (n : Nat) : by8 (l.drop n) := fun y hy => h y (List.mem_of_mem_drop hy)
def okN (A L : Nat) (l : List Inst) : Prop := l.length ≤ L ∧ ∀ i ∈ l, i.One_Args.length ≤ A
theorem okN.set {A L : Nat} {l : List Inst} (h : okN A L l) (n : Nat) {i : Inst} (hi : i.One_Args.length ≤ A) : okN A L (l.set n i) := ⟨by have := h.1; simp; omega, fun j hj => by
  rcases List.mem_or_eq_of_mem_set hj with q | rfl
  · exact h.2 j q
  · exact hi⟩
theorem okN.one {A : Nat} {i : Inst} (hi : i.One_Args.length ≤ A) : okN A 1 [i] := ⟨by simp, fun j hj => by simp at hj; subst hj; exact hi⟩
theorem okN.app {A L M : Nat} {l m : List Inst} (h : okN A L l) (k : okN A M m) : okN A (L + M) (l ++ m) := ⟨by have := h.1; have := k.1; simp; omega, fun j hj => by
  rcases List.mem_append.1 hj with q | q
  · exact h.2 j q
  · exact k.2 j q⟩
theorem okN.take {A L : Nat} {l : List Inst} (h : okN A L l) (n : Nat) : okN A L (l.take n) := ⟨by have := h.1; simp; omega, fun j hj => h.2 j (List.mem_of_mem_take hj)⟩
theorem okN.drop {A L : Nat} {l : List Inst} (h : okN A L l) (n : Nat) : okN A L (l.drop n) := ⟨by have := h.1; simp; omega, fun j hj => h.2 j (List.mem_of_mem_drop hj)⟩
theorem okN.ap {A L : Nat} {l : List Inst} (h : okN A L l) (hL : L ≤ 1000000) : apOk l.length 40 = true := by
  have := h.1
  exact apOk_of (by omega) (by omega)
end Go.AM
