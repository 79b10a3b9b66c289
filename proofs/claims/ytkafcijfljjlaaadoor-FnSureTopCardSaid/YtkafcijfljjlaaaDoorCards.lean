/-
  DERIVED. GIVEN WITH THE SEED: THE CARDS: each row of YtkafcijfljjlaaaDoorRows.lean that lists a variable, with what it lists TIED to the program's text (the seventh form; the later family's looks); each row that meets fmt, with fmt's text TOLD by the authors' own Lean function (tested against real Go, not proved from fmt's source: count such statements apart). THE CARD IS WHAT COUNTS. Prove the row's statement (the work); the ties are given (YtkafcijfljjlaaaDoorTie.lean); close each card by the builder's one call (the guide's Derived/Test/ToyasCard.lean, 'card_holds'). Laid BY PROGRAM, IN A SANDBOX (cutbox-door.mjs). By AI agents, Wed Nov 11 2026. No macro, syntax, notation, axiom, sorry.
-/
import Derived.Test.YtkafcijfljjlaaaDoorRows
import GoSem.ClaimSeven
namespace Go.Proofs.YtkafcijfljjlaaaDoor
namespace Rows

/-- THE TIED CARD OF 'laws.FnSureFirst'. -/
def fnSureFirstCard : Claim7 := { stood := { row := fnSureFirstRow, standIns := [], harness := (true, "e8e866734c86dd88ee5d6d420fb63b2c495628c0e2a96fbcb07b106c417201ae"), looks := false }, kinds := [], alts := [], laidByText := true, laidKinds := [.data, .widerDeep], laidTests := true, laidLooks := .later }
def FnSureFirstCardSaid : Prop := Claim7.holds Tryd.pinned (.plain (OpenSpec.ofChange fnSureFirstSpec)) fnSureFirstCard

/-- THE TIED CARD OF 'laws.FnSureTop'. -/
def fnSureTopCard : Claim7 := { stood := { row := fnSureTopRow, standIns := [], harness := (true, "e8e866734c86dd88ee5d6d420fb63b2c495628c0e2a96fbcb07b106c417201ae"), looks := false }, kinds := [], alts := [], laidByText := true, laidKinds := [.data, .widerDeep], laidTests := true, laidLooks := .later }
def FnSureTopCardSaid : Prop := Claim7.holds Tryd.pinned (.plain (OpenSpec.ofChange fnSureTopSpec)) fnSureTopCard

/-- THE SECOND FORM's CARD OF 'laws.FnSureFirst'. -/
def fnSureFirstUptoCard : Claim7 := { stood := { row := fnSureFirstUptoRow, standIns := [], harness := (true, "e8e866734c86dd88ee5d6d420fb63b2c495628c0e2a96fbcb07b106c417201ae"), looks := false }, kinds := [], alts := [], laidByText := true, laidKinds := [.data, .widerDeep], laidTests := true, laidLooks := .later }
def FnSureFirstUptoCardSaid : Prop := Claim7.holds Tryd.pinned (.plain (OpenSpec.upto fnSureFirstSpec)) fnSureFirstUptoCard

/-- THE SECOND FORM's CARD OF 'laws.FnSureTop'. -/
def fnSureTopUptoCard : Claim7 := { stood := { row := fnSureTopUptoRow, standIns := [], harness := (true, "e8e866734c86dd88ee5d6d420fb63b2c495628c0e2a96fbcb07b106c417201ae"), looks := false }, kinds := [], alts := [], laidByText := true, laidKinds := [.data, .widerDeep], laidTests := true, laidLooks := .later }
def FnSureTopUptoCardSaid : Prop := Claim7.holds Tryd.pinned (.plain (OpenSpec.upto fnSureTopSpec)) fnSureTopUptoCard
end Rows
end Go.Proofs.YtkafcijfljjlaaaDoor
