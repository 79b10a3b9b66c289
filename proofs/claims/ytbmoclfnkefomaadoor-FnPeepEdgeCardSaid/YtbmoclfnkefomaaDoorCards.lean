/-
  DERIVED. GIVEN WITH THE SEED: THE CARDS: each row of YtbmoclfnkefomaaDoorRows.lean that lists a variable, with what it lists TIED to the program's text (the seventh form; the later family's looks); each row that meets fmt, with fmt's text TOLD by the authors' own Lean function (tested against real Go, not proved from fmt's source: count such statements apart). THE CARD IS WHAT COUNTS. Prove the row's statement (the work); the ties are given (YtbmoclfnkefomaaDoorTie.lean); close each card by the builder's one call (the guide's Derived/Test/ToyasCard.lean, 'card_holds'). Laid BY PROGRAM, IN A SANDBOX (cutbox-door.mjs). By AI agents, Wed Nov 11 2026. No macro, syntax, notation, axiom, sorry.
-/
import Derived.Test.YtbmoclfnkefomaaDoorRows
import GoSem.ClaimSeven
namespace Go.Proofs.YtbmoclfnkefomaaDoor
namespace Rows

/-- THE TIED CARD OF 'laws.FnPeepEdge'. -/
def fnPeepEdgeCard : Claim7 := { stood := { row := fnPeepEdgeRow, standIns := [], harness := (true, "5effd4a1752b12efa8f185c063b57d22537f27af3091ebc8570fbb4c286827c0"), looks := false }, kinds := [], alts := [], laidByText := true, laidKinds := [.widerDeep, .data, .widerDeep, .data], laidTests := true, laidLooks := .later }
def FnPeepEdgeCardSaid : Prop := Claim7.holds Tryd.pinned (.plain (OpenSpec.ofChange fnPeepEdgeSpec)) fnPeepEdgeCard

/-- THE SECOND FORM's CARD OF 'laws.FnPeepEdge'. -/
def fnPeepEdgeUptoCard : Claim7 := { stood := { row := fnPeepEdgeUptoRow, standIns := [], harness := (true, "5effd4a1752b12efa8f185c063b57d22537f27af3091ebc8570fbb4c286827c0"), looks := false }, kinds := [], alts := [], laidByText := true, laidKinds := [.widerDeep, .data, .widerDeep, .data], laidTests := true, laidLooks := .later }
def FnPeepEdgeUptoCardSaid : Prop := Claim7.holds Tryd.pinned (.plain (OpenSpec.upto fnPeepEdgeSpec)) fnPeepEdgeUptoCard
end Rows
end Go.Proofs.YtbmoclfnkefomaaDoor
