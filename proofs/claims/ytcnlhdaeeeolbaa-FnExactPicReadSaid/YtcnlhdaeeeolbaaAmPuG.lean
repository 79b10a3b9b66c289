/- The draws end well: spoilt lists. Conditions: none. -/
import Derived.Test.YtcnlhdaeeeolbaaAmPuF
set_option linter.unusedSimpArgs false
set_option linter.unusedVariables false
namespace Go.AM
open Go
def okW (L : Nat) (l : List Inst) : Prop := l.length ≤ L ∧ ∀ i ∈ l, i.One_Args.length ≤ 10
theorem okW.set {L : Nat} {l : List Inst} (h : okW L l) (n : Nat) {i : Inst} (hi : i.One_Args.length ≤ 10) : okW L (l.set n i) := ⟨by have := h.1; simp; omega, fun j hj => by
  rcases List.mem_or_eq_of_mem_set hj with q | rfl
  · exact h.2 j q
  · exact hi⟩
end Go.AM
