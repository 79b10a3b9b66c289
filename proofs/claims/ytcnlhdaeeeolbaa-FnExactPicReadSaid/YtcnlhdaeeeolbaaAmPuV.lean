/- Images: how both packages make them. Conditions: none. -/
import Derived.Test.YtcnlhdaeeeolbaaAmPuU
set_option linter.unusedSimpArgs false
set_option linter.unusedVariables false
namespace Go.AM
open Go
/-! the document's -/
/-! the program's -/
end Go.AM
