/- FnSureJoin returns true on all bytes. Conditions: none. -/
import Derived.Test.YtkafcijfljjlaabDoorAmPuL
import Derived.Test.YtkafcijfljjlaabDoorAmW
set_option linter.unusedSimpArgs false
set_option linter.unusedVariables false
namespace Go.AM
open Go Go.Proofs
theorem con_FnSureJoin (xs ys : List Int) (hx : ∀ n ∈ xs, 0 ≤ n ∧ n < 256) (hy : ∀ n ∈ ys, 0 ≤ n ∧ n < 256) : Con Tryd.prog C0 3 [.fz 1 (u8s xs), .fz 1 (u8s ys)] [] (fun x σ' => x = .sc (.bool true) ∧ σ' = []) :=
  con_laws_FnSureJoin xs ys true (law_SureJoin xs ys hx hy)
end Go.AM
