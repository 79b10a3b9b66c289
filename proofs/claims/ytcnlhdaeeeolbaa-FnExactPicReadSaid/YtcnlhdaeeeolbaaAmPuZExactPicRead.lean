/- FnExactPicRead returns true on all bytes. Conditions: none. -/
import Derived.Test.YtcnlhdaeeeolbaaAmPuEp
import Derived.Test.YtcnlhdaeeeolbaaAmW
set_option linter.unusedSimpArgs false
set_option linter.unusedVariables false
namespace Go.AM
open Go Go.Proofs
theorem con_FnExactPicRead (xs : List Int) (hx : ∀ n ∈ xs, 0 ≤ n ∧ n < 256) : Con Try.prog C0 3 [.fz 1 (u8s xs)] [] (fun x σ' => x = .sc (.bool true) ∧ σ' = []) :=
  con_laws_FnExactPicRead xs true (law_ExactPicRead hx)
end Go.AM
