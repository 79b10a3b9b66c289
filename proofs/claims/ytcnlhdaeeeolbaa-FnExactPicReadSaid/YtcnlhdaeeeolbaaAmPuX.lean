/- Images that are drawn, spoilt ones too. Conditions: none. -/
import Derived.Test.YtcnlhdaeeeolbaaAmPuW
set_option linter.unusedSimpArgs false
set_option linter.unusedVariables false
namespace Go.AM
open Go
theorem by8.take {l : List Int} (h : by8 l) (n : Nat) : by8 (l.take n) := fun y hy => h y (List.mem_of_mem_take hy)
theorem by8.drop {l : List Int} (h : by8 l) (n : Nat) : by8 (l.drop n) := fun y hy => h y (List.mem_of_mem_drop hy)
def okN (A L : Nat) (l : List Inst) : Prop := l.length ≤ L ∧ ∀ i ∈ l, i.One_Args.length ≤ A
theorem okN.set {A L : Nat} {l : List Inst} (h : okN A L l) (n : Nat) {i : Inst} (hi : i.One_Args.length ≤ A) : okN A L (l.set n i) := ⟨by have := h.1; simp; omega, fun j hj => by
  rcases List.mem_or_eq_of_mem_set hj with q | rfl
  · exact h.2 j q
  · exact hi⟩
theorem okN.take {A L : Nat} {l : List Inst} (h : okN A L l) (n : Nat) : okN A L (l.take n) := ⟨by have := h.1; simp; omega, fun j hj => h.2 j (List.mem_of_mem_take hj)⟩
theorem okN.drop {A L : Nat} {l : List Inst} (h : okN A L l) (n : Nat) : okN A L (l.drop n) := ⟨by have := h.1; simp; omega, fun j hj => h.2 j (List.mem_of_mem_drop hj)⟩
end Go.AM
