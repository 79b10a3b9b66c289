/- The program's PicRead returns what the reference's returns. Conditions: none. -/
import Derived.Test.YtcnlhdaeeeolbaaAmPuOne
import Derived.Test.YtcnlhdaeeeolbaaAmPuEx
set_option linter.unusedSimpArgs false
set_option linter.unusedVariables false
namespace Go.AM
open Go
theorem finP_args {m : Int} {n : Nat} {t : Int} {b : List Int} (hb : by8 b) : okArgs (finP m (rL n t b)).1 ∧ (finP m (rL n t b)).1.length ≤ n := by
  cases h : rL n t b with
  | inl c => exact ⟨fun i hi => (by cases hi), Nat.zero_le _⟩
  | inr e =>
    obtain ⟨l, r⟩ := e
    have := rL_ok hb h
    cases r with
    | nil => exact ⟨this.1, Nat.le_of_eq this.2⟩
    | cons u r => exact ⟨fun i hi => (by cases hi), Nat.zero_le _⟩
theorem rF_args {a0 a1 a2 a3 a4 a5 x y : Int} {body : List Int} (hb : by8 body) : okArgs (rF a0 a1 a2 a3 a4 a5 body x y).1 ∧ (rF a0 a1 a2 a3 a4 a5 body x y).1.length ≤ 1000 := by
  unfold rF
  have hz : ∀ f : PicFault, okArgs (([], f) : List Inst × PicFault).1 ∧ (([], f) : List Inst × PicFault).1.length ≤ 1000 := fun f => ⟨fun i hi => (by cases hi), Nat.zero_le _⟩
  repeat' split
  all_goals first | exact hz _ | skip
  have := finP_args (m := a4 * 256 + a5) (n := (a4 * 256 + a5).toNat) (t := 0) hb
  exact ⟨this.1, by omega⟩
theorem read_any2 {d : List Int} (h8 : by8 d) : ∃ l f, impl_PicRead d = some (l, f) ∧ spec_PicRead d = some (l, f) ∧ okArgs l ∧ l.length ≤ 1000 := by
  by_cases hd : d.length < 8 ∨ d.length > 20008
  · exact ⟨[], ⟨4, 0⟩, iRead_bad hd, sRead_bad hd, fun i hi => (by cases hi), Nat.zero_le _⟩
  · obtain ⟨a0, a1, a2, a3, a4, a5, body, x, y, rfl⟩ := img_split (d := d) (by omega)
    have hl : body.length ≤ 20000 := by simp at hd; omega
    have hb : by8 body := by8_sub h8 (by intro z hz; exact List.mem_append_left _ (List.mem_append_right _ hz))
    exact ⟨_, _, iRead_ok h8 hl, sRead_ok h8 hl, rF_args hb⟩
theorem eqPF_ok (f : PicFault) : laws_eqPicFault f f = some true := by simp [laws_eqPicFault]
theorem law_ExactPicRead {xs : List Int} (hx : ∀ n ∈ xs, 0 ≤ n ∧ n < 256) : laws_FnExactPicRead xs = some true := by
  refine OK.eq ?_
  unfold laws_FnExactPicRead
  refine OK.cond (fun _ => OK.mk rfl) (fun hc => ?_)
  simp only [decide_eq_false_iff_not] at hc
  obtain ⟨l, f, r1, r2, r3, r4⟩ := read_any2 (d := xs) hx
  have hs := sI_bd l r3
  obtain ⟨⟨mk, mb⟩, hmk, hm0, _⟩ := markB_ok xs 1 (by omega) (by omega) (by omega)
  dsimp only at hm0
  rw [toB_ok xs (by omega), Option.bind_some, r2, Option.bind_some, Option.bind_some, r1]
  simp only [Option.bind_some, eqIs_ok l (by omega) r3, eqPF_ok, eqB_ok xs (by omega), hmk, Bool.not_true, cond_true, cond_false, markI_ok l 1 (by omega) r3 (by omega) (by omega)]
  rw [List.take_of_length_le (by rw [mI_len]; omega), heldI_ok l 1 (by omega) r3 (by omega) (by omega)]
  simp only [Option.bind_some, bne_self_eq_false, cond_false]
  refine OK.cond (fun hc => by simp only [decide_eq_true_eq] at hc; omega) (fun _ => ?_)
  refine OK.cond (fun hc => by simp only [decide_eq_true_eq] at hc; omega) (fun _ => ?_)
  rw [r1]
  simp only [Option.bind_some, eqIs_ok l (by omega) r3, eqPF_ok, Bool.not_true, cond_true, cond_false]
  refine OK.cond (fun hc => by simp only [decide_eq_true_eq] at hc; omega) (fun _ => ?_)
  exact OK.mk rfl
end Go.AM
