/- The draws end well: lists. Conditions: none. -/
import Derived.Test.YtcnlhdaeeeolbaaAmPuC
set_option linter.unusedSimpArgs false
set_option linter.unusedVariables false
namespace Go.AM
open Go
end Go.AM
