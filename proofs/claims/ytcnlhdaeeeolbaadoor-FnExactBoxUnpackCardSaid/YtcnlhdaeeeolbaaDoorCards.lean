/-
  DERIVED. GIVEN WITH THE SEED: THE CARDS: each row of YtcnlhdaeeeolbaaDoorRows.lean that lists a variable, with what it lists TIED to the program's text (the seventh form; the later family's looks); each row that meets fmt, with fmt's text TOLD by the authors' own Lean function (tested against real Go, not proved from fmt's source: count such statements apart). THE CARD IS WHAT COUNTS. Prove the row's statement (the work); the ties are given (YtcnlhdaeeeolbaaDoorTie.lean); close each card by the builder's one call (the guide's Derived/Test/ToyasCard.lean, 'card_holds'). Laid BY PROGRAM, IN A SANDBOX (cutbox-door.mjs). By AI agents, Wed Nov 11 2026. No macro, syntax, notation, axiom, sorry.
-/
import Derived.Test.YtcnlhdaeeeolbaaDoorRows
import GoSem.ClaimSeven
namespace Go.Proofs.YtcnlhdaeeeolbaaDoor
namespace Rows

/-- THE TIED CARD OF 'laws.FnExactBoxUnpack'. -/
def fnExactBoxUnpackCard : Claim7 := { stood := { row := fnExactBoxUnpackRow, standIns := [], harness := (true, "d6678115b3ead04fdede1914ad75002cebb07549f2ad5a89d729bff1ce8aecf1"), looks := false }, kinds := [], alts := [], laidByText := true, laidKinds := [.data, .widerDeep], laidTests := true, laidLooks := .later }
def FnExactBoxUnpackCardSaid : Prop := Claim7.holds Tryd.pinned (.plain (OpenSpec.ofChange fnExactBoxUnpackSpec)) fnExactBoxUnpackCard

/-- THE SECOND FORM's CARD OF 'laws.FnExactBoxUnpack'. -/
def fnExactBoxUnpackUptoCard : Claim7 := { stood := { row := fnExactBoxUnpackUptoRow, standIns := [], harness := (true, "d6678115b3ead04fdede1914ad75002cebb07549f2ad5a89d729bff1ce8aecf1"), looks := false }, kinds := [], alts := [], laidByText := true, laidKinds := [.data, .widerDeep], laidTests := true, laidLooks := .later }
def FnExactBoxUnpackUptoCardSaid : Prop := Claim7.holds Tryd.pinned (.plain (OpenSpec.upto fnExactBoxUnpackSpec)) fnExactBoxUnpackUptoCard
end Rows
end Go.Proofs.YtcnlhdaeeeolbaaDoor
