/- An image with one byte changed is never accepted. Conditions: none. -/
import Derived.Test.YtcnlhdaeeeolbaaAmPuXb
import Derived.Test.YtcnlhdaeeeolbaaAmPuY0
set_option linter.unusedSimpArgs false
set_option linter.unusedVariables false
namespace Go.AM
open Go
end Go.AM
