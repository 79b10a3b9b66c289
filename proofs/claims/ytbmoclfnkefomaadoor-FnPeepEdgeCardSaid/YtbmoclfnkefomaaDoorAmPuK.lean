/- Rungs of a list: the program's functions, and what holds of verified lists. Conditions: none. -/
import Derived.Test.YtbmoclfnkefomaaDoorAmPuJ
set_option linter.unusedSimpArgs false
set_option linter.unusedVariables false
namespace Go.AM
open Go
def verified (l : List Inst) : Bool := (sureCheck l).Code == 0 && (sureCheck l).At == 0
theorem iVerified (l : List Inst) (hl : okArgs l) (hl2 : l.length ≤ 1000000) : impl_verified l = some (verified l) := by
  unfold impl_verified; rw [iSure l hl hl2]; rfl
end Go.AM
