/- The draws end well. Conditions: none. -/
import Derived.Test.YtcnlhdaeeeolbaaAmPuA
import Derived.Test.YtcnlhdaeeeolbaaAmQa1
set_option linter.unusedSimpArgs false
set_option linter.unusedVariables false
namespace Go.AM
open Go
end Go.AM
