/- The draws end well: images. Conditions: none. -/
import Derived.Test.YtcnlhdaeeeolbaaAmPuG
set_option linter.unusedSimpArgs false
set_option linter.unusedVariables false
namespace Go.AM
open Go
def by8 (l : List Int) : Prop := ∀ y ∈ l, 0 ≤ y ∧ y < 256
theorem u8w_eq (n : Int) : IntKind.u8.wrap n = n % 256 := by simp [IntKind.wrap, IntKind.bits, IntKind.signed]
theorem u8w (n : Int) : 0 ≤ IntKind.u8.wrap n ∧ IntKind.u8.wrap n < 256 := by rw [u8w_eq]; omega
theorem by8.set {l : List Int} (h : by8 l) (k : Nat) (n : Int) : by8 (l.set k (IntKind.u8.wrap n)) := fun y hy => by
  rcases List.mem_or_eq_of_mem_set hy with q | rfl
  · exact h y q
  · exact u8w n
end Go.AM
