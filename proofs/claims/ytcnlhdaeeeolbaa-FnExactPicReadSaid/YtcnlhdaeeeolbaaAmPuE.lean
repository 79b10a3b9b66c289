/- The draws end well: rungs and lists. Conditions: none. -/
import Derived.Test.YtcnlhdaeeeolbaaAmPuD
set_option linter.unusedSimpArgs false
set_option linter.unusedVariables false
namespace Go.AM
open Go
end Go.AM
