/- The draws end well: drawn lists. Conditions: none. -/
import Derived.Test.YtcnlhdaeeeolbaaAmPuE
set_option linter.unusedSimpArgs false
set_option linter.unusedVariables false
namespace Go.AM
open Go
def okM (L : Nat) (l : List Inst) : Prop := l.length ≤ L ∧ ∀ i ∈ l, okI i
theorem okM.take {L : Nat} {l : List Inst} (h : okM L l) (n : Nat) : okM L (l.take n) := ⟨by have := h.1; simp; omega, fun j hj => h.2 j (List.mem_of_mem_take hj)⟩
theorem okM.drop {L : Nat} {l : List Inst} (h : okM L l) (n : Nat) : okM L (l.drop n) := ⟨by have := h.1; simp; omega, fun j hj => h.2 j (List.mem_of_mem_drop hj)⟩
theorem okM.set {L : Nat} {l : List Inst} (h : okM L l) (n : Nat) {i : Inst} (hi : okI i) : okM L (l.set n i) := ⟨by have := h.1; simp; omega, fun j hj => by
  rcases List.mem_or_eq_of_mem_set hj with q | rfl
  · exact h.2 j q
  · exact hi⟩
end Go.AM
