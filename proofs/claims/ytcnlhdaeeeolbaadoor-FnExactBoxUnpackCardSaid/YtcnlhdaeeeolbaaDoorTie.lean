/-
  DERIVED. GIVEN WITH THE SEED: THE PROGRAM's TIES (one call each: nine closed facts by the kernel) AND EACH ROW's TIE, after the 31st guide's Derived/Test/Toyas{Tie, Card}.lean. No idea stands in it: it is a product of the set-up. Laid BY PROGRAM, IN A SANDBOX (cutbox-door.mjs). By AI agents, Wed Nov 11 2026. No macro, syntax, notation, axiom, sorry.
-/
import Derived.Test.YtcnlhdaeeeolbaaDoorRows
import Derived.LaidByTextLater
import Derived.SevenTiedAt
import Derived.LaidSub
import Derived.LaidOnce
namespace Go.Proofs.YtcnlhdaeeeolbaaDoor
open Go
set_option maxRecDepth 100000
theorem seatTie1 : Tryd.prog.laidByTextLater [("loop.example/stile/impl.devSizes", Rows.laid_loop_example_stile_impl_devSizes), ("loop.example/stile/impl.devWords", Rows.laid_loop_example_stile_impl_devWords)] [.data, .widerDeep] true :=
  Program.laidByTextLater_by_one 19 8 12 (by kernel_rfl) (by kernel_rfl) (by kernel_rfl) (by kernel_rfl) (by kernel_rfl) (by kernel_rfl) (fun _ _ => by kernel_rfl)
theorem noOwnUnsafe : Tryd.pinned.checked.prog.headLifts.contains "ownunsafe" = false := by kernel_rfl
theorem tie : Tryd.prog.laidByTextLater [("loop.example/stile/impl.devSizes", Rows.laid_loop_example_stile_impl_devSizes), ("loop.example/stile/impl.devWords", Rows.laid_loop_example_stile_impl_devWords)] [.data, .widerDeep] true :=
  Program.laidByTextLater.sub seatTie1 ["loop.example/stile/impl.devSizes", "loop.example/stile/impl.devWords"] (by kernel_rfl) (by kernel_rfl)
theorem fnExactBoxUnpack_row_tie : Rows.fnExactBoxUnpackRow.laidByTextAt .later Tryd.pinned [.data, .widerDeep] true :=
  OpenClaim.laidByTextAt_later rfl rfl tie noOwnUnsafe
theorem fnExactBoxUnpackUpto_row_tie : Rows.fnExactBoxUnpackUptoRow.laidByTextAt .later Tryd.pinned [.data, .widerDeep] true :=
  OpenClaim.laidByTextAt_later rfl rfl tie noOwnUnsafe
end Go.Proofs.YtcnlhdaeeeolbaaDoor
