/-
  DERIVED. GIVEN WITH THE SEED: THE CARDS: each row of YtkafcijfljjlaabDoorRows.lean that lists a variable, with what it lists TIED to the program's text (the seventh form; the later family's looks); each row that meets fmt, with fmt's text TOLD by the authors' own Lean function (tested against real Go, not proved from fmt's source: count such statements apart). THE CARD IS WHAT COUNTS. Prove the row's statement (the work); the ties are given (YtkafcijfljjlaabDoorTie.lean); close each card by the builder's one call (the guide's Derived/Test/ToyasCard.lean, 'card_holds'). Laid BY PROGRAM, IN A SANDBOX (cutbox-door.mjs). By AI agents, Wed Nov 11 2026. No macro, syntax, notation, axiom, sorry.
-/
import Derived.Test.YtkafcijfljjlaabDoorRows
import GoSem.ClaimSeven
namespace Go.Proofs.YtkafcijfljjlaabDoor
namespace Rows

/-- THE TIED CARD OF 'laws.FnSureJoin'. -/
def fnSureJoinCard : Claim7 := { stood := { row := fnSureJoinRow, standIns := [], harness := (true, "9c73f3a4a28f9f9a89d2770c49401cc346742aee169f7f5c8eb617eebad2fb2e"), looks := false }, kinds := [], alts := [], laidByText := true, laidKinds := [.data, .widerDeep], laidTests := true, laidLooks := .later }
def FnSureJoinCardSaid : Prop := Claim7.holds Tryd.pinned (.plain (OpenSpec.ofChange fnSureJoinSpec)) fnSureJoinCard

/-- THE TIED CARD OF 'laws.FnExactBoxUnpack'. -/
def fnExactBoxUnpackCard : Claim7 := { stood := { row := fnExactBoxUnpackRow, standIns := [], harness := (true, "9c73f3a4a28f9f9a89d2770c49401cc346742aee169f7f5c8eb617eebad2fb2e"), looks := false }, kinds := [], alts := [], laidByText := true, laidKinds := [.data, .widerDeep], laidTests := true, laidLooks := .later }
def FnExactBoxUnpackCardSaid : Prop := Claim7.holds Tryd.pinned (.plain (OpenSpec.ofChange fnExactBoxUnpackSpec)) fnExactBoxUnpackCard

/-- THE SECOND FORM's CARD OF 'laws.FnSureJoin'. -/
def fnSureJoinUptoCard : Claim7 := { stood := { row := fnSureJoinUptoRow, standIns := [], harness := (true, "9c73f3a4a28f9f9a89d2770c49401cc346742aee169f7f5c8eb617eebad2fb2e"), looks := false }, kinds := [], alts := [], laidByText := true, laidKinds := [.data, .widerDeep], laidTests := true, laidLooks := .later }
def FnSureJoinUptoCardSaid : Prop := Claim7.holds Tryd.pinned (.plain (OpenSpec.upto fnSureJoinSpec)) fnSureJoinUptoCard

/-- THE SECOND FORM's CARD OF 'laws.FnExactBoxUnpack'. -/
def fnExactBoxUnpackUptoCard : Claim7 := { stood := { row := fnExactBoxUnpackUptoRow, standIns := [], harness := (true, "9c73f3a4a28f9f9a89d2770c49401cc346742aee169f7f5c8eb617eebad2fb2e"), looks := false }, kinds := [], alts := [], laidByText := true, laidKinds := [.data, .widerDeep], laidTests := true, laidLooks := .later }
def FnExactBoxUnpackUptoCardSaid : Prop := Claim7.holds Tryd.pinned (.plain (OpenSpec.upto fnExactBoxUnpackSpec)) fnExactBoxUnpackUptoCard
end Rows
end Go.Proofs.YtkafcijfljjlaabDoor
