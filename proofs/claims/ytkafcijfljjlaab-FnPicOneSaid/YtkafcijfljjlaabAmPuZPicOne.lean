/- FnPicOne returns true on all bytes. Conditions: none. -/
import Derived.Test.YtkafcijfljjlaabAmPuOne
import Derived.Test.YtkafcijfljjlaabAmW
set_option linter.unusedSimpArgs false
set_option linter.unusedVariables false
namespace Go.AM
open Go Go.Proofs
theorem con_FnPicOne (xs ys : List Int) (hx : ∀ n ∈ xs, 0 ≤ n ∧ n < 256) (hy : ∀ n ∈ ys, 0 ≤ n ∧ n < 256) : Con Try.prog C0 3 [.fz 1 (u8s xs), .fz 1 (u8s ys)] [] (fun x σ' => x = .sc (.bool true) ∧ σ' = []) :=
  con_laws_FnPicOne xs ys true (law_PicOne hx hy)
end Go.AM
