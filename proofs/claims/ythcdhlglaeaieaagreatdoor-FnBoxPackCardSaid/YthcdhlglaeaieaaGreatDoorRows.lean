/-
  NARROWER THAN 'FOR EVERY INPUT', by the rows' own cells (each row's printed sentence says how): FnBoxPack: laid · FnBackTwice: loops, laid · FnBackList: loops, laid · FnMachHeights: laid.
  DERIVED. THE GIVEN ROWS OF THIS SEAT. 4 by the template 'for every input the law returns true; each argument reads behind the call as it read before'; 0 by the template 'total and deterministic' (their statements: YthcdhlglaeaieaaGreatDoorTotals.lean).
  GIVEN WITH THE SEED: the statements are not yours to turn. If you find one false, say at which input.
  Laid BY PROGRAM, IN A SANDBOX (cutbox-rows.mjs): the forced cells as the released guide's own fill.sh prints them over the translation 73c797929aa7701c… (all of the seat's roots in one cut). By AI agents, Wed Nov 11 2026. No macro, syntax, notation, axiom, sorry.
-/
import Derived.Test.YthcdhlglaeaieaaGreatDoorChecked
import GoSem.Claim
import GoSem.ClaimJoined
import GoSem.ClaimMapViews
import Derived.JoinedTies
import Derived.KernelRfl
namespace Go.Proofs.YthcdhlglaeaieaaGreatDoor
/- THE CELL 'sum', in the pinned program and in every row, IS THE sha256 OF THE DUMP (.gsa) THAT YthcdhlglaeaieaaGreatDoorProg.lean LOADS. Nothing in Lean hashes anything: it is a label: what it is worth is what the hold of that sum in a sandbox is worth. -/
noncomputable def Tryz.pinned : Pinned := { name := "ythcdhlglaeaieaagreatdoor", sum := "73c797929aa7701c60a572668c7aaab4eea7a287c5da600bf5f520e8ba9b9ddc", checked := Tryz.checked }
namespace Rows
def none {H : Type} : Left H := { results := [], args := [] }

/- WHAT THE LISTED PACKAGE-LEVEL VARIABLES READ AS WHEN THE CALL BEGINS. Each datum BY PROGRAM (the guide's laid-datum.mjs) off the statement by which the dump's own 'gosem.cut.vars' lays the variable. In a bare row this is a premise. The card (YthcdhlglaeaieaaGreatDoorCards.lean) ties it to the program's text. -/
def laid_loop_example_stile_impl_devSizes {H : Type} : DataW H := .slice [.lit (.int .i64 0), .lit (.int .i64 32), .lit (.int .i64 32), .lit (.int .i64 64), .lit (.int .i64 16), .lit (.int .i64 32), .lit (.int .i64 5), .lit (.int .i64 16), .lit (.int .i64 16), .lit (.int .i64 32), .lit (.int .i64 16)] []
def laid_loop_example_stile_impl_devWords {H : Type} : DataW H := .slice [.lit (.string [110, 97, 110]), .lit (.string [105, 110, 102]), .lit (.string [45, 105, 110, 102]), .lit (.string [45, 48, 46, 48])] []
def laid_loop_example_stile_impl_and {H : Type} : DataW H := .agg [.lit (.int .i64 2), .agg [.lit (.int .i64 0), .nil], .nil]

/-- 'laws.FnBoxPack': WHATEVER THE INPUT: true; the input reads as it did. -/
def fnBoxPackSpec : ChangeSpec := { name := "fnBoxPack", vars := ["loop.example/stile/impl.devWords", "loop.example/stile/impl.devSizes"], fn := fun _ => fun
  | [d1, d2, g1, g2] => { results := [.lit (.bool true)], args := [d1, d2], vars := [g1, g2] }
  | _ => none }
def fnBoxPackRow : OpenClaim := { program := "ythcdhlglaeaieaagreatdoor", sum := "73c797929aa7701c60a572668c7aaab4eea7a287c5da600bf5f520e8ba9b9ddc", func := "loop.example/stile/laws.FnBoxPack", spec := "fnBoxPack", unfollowed := true, recurses := true, named := ["loop.example/stile/impl.devWords", "loop.example/stile/impl.devSizes"], apart := false, laid := [("loop.example/stile/impl.devSizes", laid_loop_example_stile_impl_devSizes), ("loop.example/stile/impl.devWords", laid_loop_example_stile_impl_devWords)] }
def FnBoxPackSaid : Prop := fnBoxPackRow.holds Tryz.pinned (OpenSpec.ofChange fnBoxPackSpec)

/-- ITS FALSE NEIGHBOUR: 'it returns false'. Refute it at one input. -/
def fnBoxPackWrong : ChangeSpec := { name := "fnBoxPack", vars := ["loop.example/stile/impl.devWords", "loop.example/stile/impl.devSizes"], fn := fun _ => fun
  | [d1, d2, g1, g2] => { results := [.lit (.bool false)], args := [d1, d2], vars := [g1, g2] }
  | _ => none }
def FnBoxPackWrongFalsely : Prop := fnBoxPackRow.holds Tryz.pinned (OpenSpec.ofChange fnBoxPackWrong)

/-- 'laws.FnBackTwice': WHATEVER THE INPUT: true; the input reads as it did. -/
def fnBackTwiceSpec : ChangeSpec := { name := "fnBackTwice", vars := ["loop.example/stile/impl.devWords", "loop.example/stile/impl.devSizes", "loop.example/stile/impl.and"], fn := fun _ => fun
  | [d, g1, g2, g3] => { results := [.lit (.bool true)], args := [d], vars := [g1, g2, g3] }
  | _ => none }
def fnBackTwiceRow : OpenClaim := { program := "ythcdhlglaeaieaagreatdoor", sum := "73c797929aa7701c60a572668c7aaab4eea7a287c5da600bf5f520e8ba9b9ddc", func := "loop.example/stile/laws.FnBackTwice", spec := "fnBackTwice", unfollowed := true, recurses := true, named := ["loop.example/stile/impl.devWords", "loop.example/stile/impl.devSizes", "loop.example/stile/impl.and"], loops := true, apart := false, laid := [("loop.example/stile/impl.and", laid_loop_example_stile_impl_and), ("loop.example/stile/impl.devSizes", laid_loop_example_stile_impl_devSizes), ("loop.example/stile/impl.devWords", laid_loop_example_stile_impl_devWords)] }
def FnBackTwiceSaid : Prop := fnBackTwiceRow.holds Tryz.pinned (OpenSpec.ofChange fnBackTwiceSpec)

/-- ITS FALSE NEIGHBOUR: 'it returns false'. Refute it at one input. -/
def fnBackTwiceWrong : ChangeSpec := { name := "fnBackTwice", vars := ["loop.example/stile/impl.devWords", "loop.example/stile/impl.devSizes", "loop.example/stile/impl.and"], fn := fun _ => fun
  | [d, g1, g2, g3] => { results := [.lit (.bool false)], args := [d], vars := [g1, g2, g3] }
  | _ => none }
def FnBackTwiceWrongFalsely : Prop := fnBackTwiceRow.holds Tryz.pinned (OpenSpec.ofChange fnBackTwiceWrong)

/-- 'laws.FnBackList': WHATEVER THE INPUT: true; the input reads as it did. -/
def fnBackListSpec : ChangeSpec := { name := "fnBackList", vars := ["loop.example/stile/impl.devWords", "loop.example/stile/impl.devSizes", "loop.example/stile/impl.and"], fn := fun _ => fun
  | [d, g1, g2, g3] => { results := [.lit (.bool true)], args := [d], vars := [g1, g2, g3] }
  | _ => none }
def fnBackListRow : OpenClaim := { program := "ythcdhlglaeaieaagreatdoor", sum := "73c797929aa7701c60a572668c7aaab4eea7a287c5da600bf5f520e8ba9b9ddc", func := "loop.example/stile/laws.FnBackList", spec := "fnBackList", unfollowed := true, recurses := true, named := ["loop.example/stile/impl.devWords", "loop.example/stile/impl.devSizes", "loop.example/stile/impl.and"], loops := true, apart := false, laid := [("loop.example/stile/impl.and", laid_loop_example_stile_impl_and), ("loop.example/stile/impl.devSizes", laid_loop_example_stile_impl_devSizes), ("loop.example/stile/impl.devWords", laid_loop_example_stile_impl_devWords)] }
def FnBackListSaid : Prop := fnBackListRow.holds Tryz.pinned (OpenSpec.ofChange fnBackListSpec)

/-- ITS FALSE NEIGHBOUR: 'it returns false'. Refute it at one input. -/
def fnBackListWrong : ChangeSpec := { name := "fnBackList", vars := ["loop.example/stile/impl.devWords", "loop.example/stile/impl.devSizes", "loop.example/stile/impl.and"], fn := fun _ => fun
  | [d, g1, g2, g3] => { results := [.lit (.bool false)], args := [d], vars := [g1, g2, g3] }
  | _ => none }
def FnBackListWrongFalsely : Prop := fnBackListRow.holds Tryz.pinned (OpenSpec.ofChange fnBackListWrong)

/-- 'laws.FnMachHeights': WHATEVER THE INPUT: true; the input reads as it did. -/
def fnMachHeightsSpec : ChangeSpec := { name := "fnMachHeights", vars := ["loop.example/stile/impl.devWords", "loop.example/stile/impl.devSizes"], fn := fun _ => fun
  | [d, g1, g2] => { results := [.lit (.bool true)], args := [d], vars := [g1, g2] }
  | _ => none }
def fnMachHeightsRow : OpenClaim := { program := "ythcdhlglaeaieaagreatdoor", sum := "73c797929aa7701c60a572668c7aaab4eea7a287c5da600bf5f520e8ba9b9ddc", func := "loop.example/stile/laws.FnMachHeights", spec := "fnMachHeights", inPlace := ["math.Float64frombits", "math.Float64bits", "math.archTrunc"], unfollowed := true, recurses := true, named := ["loop.example/stile/impl.devWords", "loop.example/stile/impl.devSizes"], apart := false, laid := [("loop.example/stile/impl.devSizes", laid_loop_example_stile_impl_devSizes), ("loop.example/stile/impl.devWords", laid_loop_example_stile_impl_devWords)] }
def FnMachHeightsSaid : Prop := fnMachHeightsRow.holds Tryz.pinned (OpenSpec.ofChange fnMachHeightsSpec)

/-- ITS FALSE NEIGHBOUR: 'it returns false'. Refute it at one input. -/
def fnMachHeightsWrong : ChangeSpec := { name := "fnMachHeights", vars := ["loop.example/stile/impl.devWords", "loop.example/stile/impl.devSizes"], fn := fun _ => fun
  | [d, g1, g2] => { results := [.lit (.bool false)], args := [d], vars := [g1, g2] }
  | _ => none }
def FnMachHeightsWrongFalsely : Prop := fnMachHeightsRow.holds Tryz.pinned (OpenSpec.ofChange fnMachHeightsWrong)

/- THE SECOND FORM. 'bulk': how many values and letters a reading holds, each counted each time it is reached (what is shared counts as often as it is met; a slice's spare places count too). A statement '..UptoSaid' is the law's where the arguments, and the package variables that the reading takes, are together of bulk at most 1048576: NARROWER than '..Said'. Prove '..Said' where nothing that the law and all that it calls make is longer than what came in: it says more and counts as full. Else prove '..UptoSaid'. A law counts once. -/
mutual
def uptoBulk {H : Type} : DataW H → Nat
  | .lit (.string bytes) => bytes.length + 1
  | .lit _ => 1
  | .nil => 1
  | .ptr d => uptoBulk d + 1
  | .slice elems spare => uptoBulkAll elems + uptoBulkAll spare + 1
  | .agg parts => uptoBulkAll parts + 1
  | .iface _ d => uptoBulk d + 1
  | .map entries => uptoBulkEntries entries + 1
  | .held _ => 1
def uptoBulkAll {H : Type} : List (DataW H) → Nat
  | [] => 0
  | d :: r => uptoBulk d + uptoBulkAll r
def uptoBulkEntries {H : Type} : List (Lit × DataW H) → Nat
  | [] => 0
  | x :: r => uptoBulkEntry x + uptoBulkEntries r
def uptoBulkEntry {H : Type} : Lit × DataW H → Nat
  | (.string bytes, d) => bytes.length + uptoBulk d + 1
  | (_, d) => uptoBulk d + 1
 end
def uptoSmall : (H : Type) → List (DataW H) → Bool := fun _ ds => decide (uptoBulkAll ds ≤ 1048576)
def OpenSpec.upto (s : _root_.Go.ChangeSpec) : _root_.Go.OpenSpec := { _root_.Go.OpenSpec.ofChange s with cond := some uptoSmall }

/-- 'laws.FnBoxPack', WHERE WHAT IT READS IS OF BULK AT MOST 1048576: true; the input reads as it did. -/
def fnBoxPackUptoRow : OpenClaim := { program := "ythcdhlglaeaieaagreatdoor", sum := "73c797929aa7701c60a572668c7aaab4eea7a287c5da600bf5f520e8ba9b9ddc", func := "loop.example/stile/laws.FnBoxPack", spec := "fnBoxPack", unfollowed := true, recurses := true, named := ["loop.example/stile/impl.devWords", "loop.example/stile/impl.devSizes"], apart := false, laid := [("loop.example/stile/impl.devSizes", laid_loop_example_stile_impl_devSizes), ("loop.example/stile/impl.devWords", laid_loop_example_stile_impl_devWords)], narrowed := true }
def FnBoxPackUptoSaid : Prop := fnBoxPackUptoRow.holds Tryz.pinned (OpenSpec.upto fnBoxPackSpec)

/-- 'laws.FnBackTwice', WHERE WHAT IT READS IS OF BULK AT MOST 1048576: true; the input reads as it did. -/
def fnBackTwiceUptoRow : OpenClaim := { program := "ythcdhlglaeaieaagreatdoor", sum := "73c797929aa7701c60a572668c7aaab4eea7a287c5da600bf5f520e8ba9b9ddc", func := "loop.example/stile/laws.FnBackTwice", spec := "fnBackTwice", unfollowed := true, recurses := true, named := ["loop.example/stile/impl.devWords", "loop.example/stile/impl.devSizes", "loop.example/stile/impl.and"], loops := true, apart := false, laid := [("loop.example/stile/impl.and", laid_loop_example_stile_impl_and), ("loop.example/stile/impl.devSizes", laid_loop_example_stile_impl_devSizes), ("loop.example/stile/impl.devWords", laid_loop_example_stile_impl_devWords)], narrowed := true }
def FnBackTwiceUptoSaid : Prop := fnBackTwiceUptoRow.holds Tryz.pinned (OpenSpec.upto fnBackTwiceSpec)

/-- 'laws.FnBackList', WHERE WHAT IT READS IS OF BULK AT MOST 1048576: true; the input reads as it did. -/
def fnBackListUptoRow : OpenClaim := { program := "ythcdhlglaeaieaagreatdoor", sum := "73c797929aa7701c60a572668c7aaab4eea7a287c5da600bf5f520e8ba9b9ddc", func := "loop.example/stile/laws.FnBackList", spec := "fnBackList", unfollowed := true, recurses := true, named := ["loop.example/stile/impl.devWords", "loop.example/stile/impl.devSizes", "loop.example/stile/impl.and"], loops := true, apart := false, laid := [("loop.example/stile/impl.and", laid_loop_example_stile_impl_and), ("loop.example/stile/impl.devSizes", laid_loop_example_stile_impl_devSizes), ("loop.example/stile/impl.devWords", laid_loop_example_stile_impl_devWords)], narrowed := true }
def FnBackListUptoSaid : Prop := fnBackListUptoRow.holds Tryz.pinned (OpenSpec.upto fnBackListSpec)

/-- 'laws.FnMachHeights', WHERE WHAT IT READS IS OF BULK AT MOST 1048576: true; the input reads as it did. -/
def fnMachHeightsUptoRow : OpenClaim := { program := "ythcdhlglaeaieaagreatdoor", sum := "73c797929aa7701c60a572668c7aaab4eea7a287c5da600bf5f520e8ba9b9ddc", func := "loop.example/stile/laws.FnMachHeights", spec := "fnMachHeights", inPlace := ["math.Float64frombits", "math.Float64bits", "math.archTrunc"], unfollowed := true, recurses := true, named := ["loop.example/stile/impl.devWords", "loop.example/stile/impl.devSizes"], apart := false, laid := [("loop.example/stile/impl.devSizes", laid_loop_example_stile_impl_devSizes), ("loop.example/stile/impl.devWords", laid_loop_example_stile_impl_devWords)], narrowed := true }
def FnMachHeightsUptoSaid : Prop := fnMachHeightsUptoRow.holds Tryz.pinned (OpenSpec.upto fnMachHeightsSpec)

end Rows
end Go.Proofs.YthcdhlglaeaieaaGreatDoor
