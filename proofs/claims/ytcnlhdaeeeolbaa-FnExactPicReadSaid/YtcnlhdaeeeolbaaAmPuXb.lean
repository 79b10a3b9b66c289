/- Images that are drawn, spoilt ones too, with the array they stand in. Conditions: none. -/
import Derived.Test.YtcnlhdaeeeolbaaAmPuX
set_option linter.unusedSimpArgs false
set_option linter.unusedVariables false
namespace Go.AM
open Go
end Go.AM
