/- FnPeepEdge returns true on all bytes. Conditions: none. -/
import Derived.Test.YtbmoclfnkefomaaDoorAmPuPg
import Derived.Test.YtbmoclfnkefomaaDoorAmW
set_option linter.unusedSimpArgs false
set_option linter.unusedVariables false
namespace Go.AM
open Go Go.Proofs
theorem con_FnPeepEdge (xs : List Int) (hx : ∀ n ∈ xs, 0 ≤ n ∧ n < 256) : Con Tryd.prog C0 3 [.fz 1 (u8s xs)] [] (fun x σ' => x = .sc (.bool true) ∧ σ' = []) :=
  con_laws_FnPeepEdge xs true (law_PeepEdge hx)
end Go.AM
