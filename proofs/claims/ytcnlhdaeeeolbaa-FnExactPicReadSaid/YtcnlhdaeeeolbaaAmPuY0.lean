/- What is read of an image. Conditions: none. -/
import Derived.Test.YtcnlhdaeeeolbaaAmPuX
set_option linter.unusedSimpArgs false
set_option linter.unusedVariables false
namespace Go.AM
open Go
end Go.AM
