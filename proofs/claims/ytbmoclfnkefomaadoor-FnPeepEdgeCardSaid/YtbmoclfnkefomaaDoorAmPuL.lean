/- Verified lists can be joined and cut: the law. Conditions: none. -/
import Derived.Test.YtbmoclfnkefomaaDoorAmPuK
set_option linter.unusedSimpArgs false
set_option linter.unusedVariables false
namespace Go.AM
open Go
def okRun : l12At → List Inst → Option l12At
  | s, [] => some s
  | s, i :: l => if 0 < wrongAt s i then none else okRun (nextV s i.Code) l
def okZ (s : l12At) : Prop := okS s ∧ (s = s0 ∨ 1 ≤ s.bits)
theorem okZ_next {s : l12At} {i : Inst} (hs : okZ s) (h : ¬ 0 < wrongAt s i) : okZ (nextV s i.Code) ∧ (i.Code = 11 → nextV s i.Code = s0) ∧ (i.Code ≠ 11 → 1 ≤ (nextV s i.Code).bits) := by
  have h' : wrongAt s i ≤ 0 := by omega
  have h1 := okS_next hs.1 h'
  obtain ⟨q1, q2, q3, q4⟩ := right_facts h'
  have h3 : i.Code ≠ 11 → 1 ≤ (nextV s i.Code).bits := by
    intro hc
    obtain ⟨⟨a, b, c, d⟩, e⟩ := hs
    unfold nextV behB
    unfold needs at q1
    rcases e with rfl | e
    · unfold s0 at *; grind
    · grind
  refine ⟨⟨h1, ?_⟩, fun hc => by unfold nextV; rw [if_pos hc]; rfl, h3⟩
  by_cases hc : i.Code = 11
  · left; unfold nextV; rw [if_pos hc]; rfl
  · exact .inr (h3 hc)
theorem s0_Z : okZ s0 := ⟨s0_ok, .inl rfl⟩
theorem check_run : ∀ (l : List Inst) (s : l12At) (k : Int), okZ s → ((checkFrom s k l).Code = 0 ↔ okRun s l = some s0)
  | [], s, k, hs => by
    rw [checkFrom, okRun]
    rcases hs.2 with rfl | h
    · simp [s0]
    · rw [if_pos (by omega)]
      constructor
      · intro h; cases h
      · intro e; injection e with e; rw [e] at h; unfold s0 at h; simp at h
  | i :: l, s, k, hs => by
    rw [checkFrom, okRun]
    split
    · rename_i h
      constructor
      · intro e; dsimp only at e; omega
      · intro e; cases e
    · rename_i h
      exact check_run l _ _ (okZ_next hs h).1
theorem check_zero : ∀ (l : List Inst) (s : l12At) (k : Int), (checkFrom s k l).Code = 0 → (checkFrom s k l).At = 0
  | [], s, k => by rw [checkFrom]; split <;> simp
  | i :: l, s, k => by
    rw [checkFrom]; split
    · intro e; dsimp only at e; omega
    · exact check_zero l _ _
theorem check_nn : ∀ (l : List Inst) (s : l12At) (k : Int), 0 ≤ (checkFrom s k l).Code
  | [], s, k => by rw [checkFrom]; split <;> simp
  | i :: l, s, k => by
    rw [checkFrom]; split
    · dsimp only; omega
    · exact check_nn l _ _
theorem sure_nn (l : List Inst) : 0 ≤ (sureCheck l).Code := by
  unfold sureCheck; split
  · simp
  · exact check_nn _ _ _
theorem ver_iff (l : List Inst) : verified l = true ↔ (sureCheck l).Code = 0 := by
  unfold verified
  constructor
  · intro h; simp at h; exact h.1
  · intro h
    have : (sureCheck l).At = 0 := by
      unfold sureCheck at h ⊢; split
      · rfl
      · rename_i q; rw [if_neg q] at h; exact check_zero _ _ _ h
    simp [h, this]
theorem sure_iff (l : List Inst) : (sureCheck l).Code = 0 ↔ l.length ≤ 1000 ∧ okRun s0 l = some s0 := by
  unfold sureCheck; split
  · simp; omega
  · rw [check_run _ _ _ s0_Z]; constructor
    · intro h; exact ⟨by omega, h⟩
    · intro h; exact h.2
end Go.AM
