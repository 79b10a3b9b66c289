/- The draws end well: elements. Conditions: none. -/
import Derived.Test.YtcnlhdaeeeolbaaAmPuB
set_option linter.unusedSimpArgs false
set_option linter.unusedVariables false
namespace Go.AM
open Go
def okI (i : Inst) : Prop := i.One_Args.length ≤ 5
end Go.AM
