/- FnPicTop returns true on all bytes. Conditions: none. -/
import Derived.Test.YtkafcijfljjlaabAmPuY
import Derived.Test.YtkafcijfljjlaabAmW
set_option linter.unusedSimpArgs false
set_option linter.unusedVariables false
namespace Go.AM
open Go Go.Proofs
theorem con_FnPicTop (xs ys : List Int) (hx : ∀ n ∈ xs, 0 ≤ n ∧ n < 256) (hy : ∀ n ∈ ys, 0 ≤ n ∧ n < 256) : Con Try.prog C0 4 [.fz 1 (u8s xs), .fz 1 (u8s ys)] [] (fun x σ' => x = .sc (.bool true) ∧ σ' = []) :=
  con_laws_FnPicTop xs ys true (law_PicTop hx hy)
end Go.AM
