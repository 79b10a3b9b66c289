/-
  DERIVED. GIVEN WITH THE SEED: THE CARDS: each row of YthcdhlglaeaieaaGreatDoorRows.lean that lists a variable, with what it lists TIED to the program's text (the seventh form; the later family's looks); each row that meets fmt, with fmt's text TOLD by the authors' own Lean function (tested against real Go, not proved from fmt's source: count such statements apart). THE CARD IS WHAT COUNTS. Prove the row's statement (the work); the ties are given (YthcdhlglaeaieaaGreatDoorTie.lean); close each card by the builder's one call (the guide's Derived/Test/ToyasCard.lean, 'card_holds'). Laid BY PROGRAM, IN A SANDBOX (cutbox-door.mjs). By AI agents, Wed Nov 11 2026. No macro, syntax, notation, axiom, sorry.
-/
import Derived.Test.YthcdhlglaeaieaaGreatDoorRows
import GoSem.ClaimSeven
namespace Go.Proofs.YthcdhlglaeaieaaGreatDoor
namespace Rows

/-- THE TIED CARD OF 'laws.FnBoxPack'. -/
def fnBoxPackCard : Claim7 := { stood := { row := fnBoxPackRow, standIns := [], harness := (true, "5e4fed9224631f9603d6934988f4b90f6b32cbb3a74d2157b052190484342fad"), looks := false }, kinds := [], alts := [], laidByText := true, laidKinds := [.data, .widerDeep], laidTests := true, laidLooks := .later }
def FnBoxPackCardSaid : Prop := Claim7.holds Tryz.pinned (.plain (OpenSpec.ofChange fnBoxPackSpec)) fnBoxPackCard

/-- THE TIED CARD OF 'laws.FnBackTwice'. -/
def fnBackTwiceCard : Claim7 := { stood := { row := fnBackTwiceRow, standIns := [], harness := (true, "5e4fed9224631f9603d6934988f4b90f6b32cbb3a74d2157b052190484342fad"), looks := false }, kinds := [], alts := [], laidByText := true, laidKinds := [.widerDeep, .data, .widerDeep], laidTests := true, laidLooks := .later }
def FnBackTwiceCardSaid : Prop := Claim7.holds Tryz.pinned (.plain (OpenSpec.ofChange fnBackTwiceSpec)) fnBackTwiceCard

/-- THE TIED CARD OF 'laws.FnBackList'. -/
def fnBackListCard : Claim7 := { stood := { row := fnBackListRow, standIns := [], harness := (true, "5e4fed9224631f9603d6934988f4b90f6b32cbb3a74d2157b052190484342fad"), looks := false }, kinds := [], alts := [], laidByText := true, laidKinds := [.widerDeep, .data, .widerDeep], laidTests := true, laidLooks := .later }
def FnBackListCardSaid : Prop := Claim7.holds Tryz.pinned (.plain (OpenSpec.ofChange fnBackListSpec)) fnBackListCard

/-- THE TIED CARD OF 'laws.FnMachHeights'. -/
def fnMachHeightsCard : Claim7 := { stood := { row := fnMachHeightsRow, standIns := [], harness := (true, "5e4fed9224631f9603d6934988f4b90f6b32cbb3a74d2157b052190484342fad"), looks := false }, kinds := [], alts := [], laidByText := true, laidKinds := [.data, .widerDeep], laidTests := true, laidLooks := .later }
def FnMachHeightsCardSaid : Prop := Claim7.holds Tryz.pinned (.plain (OpenSpec.ofChange fnMachHeightsSpec)) fnMachHeightsCard

/-- THE SECOND FORM's CARD OF 'laws.FnBoxPack'. -/
def fnBoxPackUptoCard : Claim7 := { stood := { row := fnBoxPackUptoRow, standIns := [], harness := (true, "5e4fed9224631f9603d6934988f4b90f6b32cbb3a74d2157b052190484342fad"), looks := false }, kinds := [], alts := [], laidByText := true, laidKinds := [.data, .widerDeep], laidTests := true, laidLooks := .later }
def FnBoxPackUptoCardSaid : Prop := Claim7.holds Tryz.pinned (.plain (OpenSpec.upto fnBoxPackSpec)) fnBoxPackUptoCard

/-- THE SECOND FORM's CARD OF 'laws.FnBackTwice'. -/
def fnBackTwiceUptoCard : Claim7 := { stood := { row := fnBackTwiceUptoRow, standIns := [], harness := (true, "5e4fed9224631f9603d6934988f4b90f6b32cbb3a74d2157b052190484342fad"), looks := false }, kinds := [], alts := [], laidByText := true, laidKinds := [.widerDeep, .data, .widerDeep], laidTests := true, laidLooks := .later }
def FnBackTwiceUptoCardSaid : Prop := Claim7.holds Tryz.pinned (.plain (OpenSpec.upto fnBackTwiceSpec)) fnBackTwiceUptoCard

/-- THE SECOND FORM's CARD OF 'laws.FnBackList'. -/
def fnBackListUptoCard : Claim7 := { stood := { row := fnBackListUptoRow, standIns := [], harness := (true, "5e4fed9224631f9603d6934988f4b90f6b32cbb3a74d2157b052190484342fad"), looks := false }, kinds := [], alts := [], laidByText := true, laidKinds := [.widerDeep, .data, .widerDeep], laidTests := true, laidLooks := .later }
def FnBackListUptoCardSaid : Prop := Claim7.holds Tryz.pinned (.plain (OpenSpec.upto fnBackListSpec)) fnBackListUptoCard

/-- THE SECOND FORM's CARD OF 'laws.FnMachHeights'. -/
def fnMachHeightsUptoCard : Claim7 := { stood := { row := fnMachHeightsUptoRow, standIns := [], harness := (true, "5e4fed9224631f9603d6934988f4b90f6b32cbb3a74d2157b052190484342fad"), looks := false }, kinds := [], alts := [], laidByText := true, laidKinds := [.data, .widerDeep], laidTests := true, laidLooks := .later }
def FnMachHeightsUptoCardSaid : Prop := Claim7.holds Tryz.pinned (.plain (OpenSpec.upto fnMachHeightsSpec)) fnMachHeightsUptoCard
end Rows
end Go.Proofs.YthcdhlglaeaieaaGreatDoor
