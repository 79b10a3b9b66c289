/-
  DERIVED. GIVEN WITH THE SEED: THE PROGRAM's TIES (one call each: nine closed facts by the kernel) AND EACH ROW's TIE, after the 31st guide's Derived/Test/Toyas{Tie, Card}.lean. No idea stands in it: it is a product of the set-up. Laid BY PROGRAM, IN A SANDBOX (cutbox-door.mjs). By AI agents, Wed Nov 11 2026. No macro, syntax, notation, axiom, sorry.
-/
import Derived.Test.YtbmoclfnkefomaaDoorRows
import Derived.LaidByTextLater
import Derived.SevenTiedAt
import Derived.LaidSub
import Derived.LaidOnce
namespace Go.Proofs.YtbmoclfnkefomaaDoor
open Go
set_option maxRecDepth 100000
theorem seatTie1 : Tryd.prog.laidByTextLater [("loop.example/stile/impl.once", Rows.laid_loop_example_stile_impl_once), ("loop.example/stile/impl.devSizes", Rows.laid_loop_example_stile_impl_devSizes), ("loop.example/stile/impl.devWords", Rows.laid_loop_example_stile_impl_devWords), ("loop.example/stile/impl.cmpFlips", Rows.laid_loop_example_stile_impl_cmpFlips)] [.widerDeep, .data, .widerDeep, .data] true :=
  Program.laidByTextLater_by_one 29 8 12 (by kernel_rfl) (by kernel_rfl) (by kernel_rfl) (by kernel_rfl) (by kernel_rfl) (by kernel_rfl) (fun _ _ => by kernel_rfl)
theorem noOwnUnsafe : Tryd.pinned.checked.prog.headLifts.contains "ownunsafe" = false := by kernel_rfl
theorem tie : Tryd.prog.laidByTextLater [("loop.example/stile/impl.once", Rows.laid_loop_example_stile_impl_once), ("loop.example/stile/impl.devSizes", Rows.laid_loop_example_stile_impl_devSizes), ("loop.example/stile/impl.devWords", Rows.laid_loop_example_stile_impl_devWords), ("loop.example/stile/impl.cmpFlips", Rows.laid_loop_example_stile_impl_cmpFlips)] [.widerDeep, .data, .widerDeep, .data] true :=
  Program.laidByTextLater.sub seatTie1 ["loop.example/stile/impl.once", "loop.example/stile/impl.devSizes", "loop.example/stile/impl.devWords", "loop.example/stile/impl.cmpFlips"] (by kernel_rfl) (by kernel_rfl)
theorem fnPeepEdge_row_tie : Rows.fnPeepEdgeRow.laidByTextAt .later Tryd.pinned [.widerDeep, .data, .widerDeep, .data] true :=
  OpenClaim.laidByTextAt_later rfl rfl tie noOwnUnsafe
theorem fnPeepEdgeUpto_row_tie : Rows.fnPeepEdgeUptoRow.laidByTextAt .later Tryd.pinned [.widerDeep, .data, .widerDeep, .data] true :=
  OpenClaim.laidByTextAt_later rfl rfl tie noOwnUnsafe
end Go.Proofs.YtbmoclfnkefomaaDoor
