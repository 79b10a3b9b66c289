/- FnPicHex returns true on all bytes. Conditions: none. -/
import Derived.Test.YtkafcijfljjlaaaAmPuN
import Derived.Test.YtkafcijfljjlaaaAmW
set_option linter.unusedSimpArgs false
set_option linter.unusedVariables false
namespace Go.AM
open Go Go.Proofs
theorem con_FnPicHex (xs ys : List Int) (hx : ∀ n ∈ xs, 0 ≤ n ∧ n < 256) (hy : ∀ n ∈ ys, 0 ≤ n ∧ n < 256) : Con Try.prog C0 6 [.fz 1 (u8s xs), .fz 1 (u8s ys)] [] (fun x σ' => x = .sc (.bool true) ∧ σ' = []) :=
  con_laws_FnPicHex xs ys true (law_PicHex hx hy)
end Go.AM
