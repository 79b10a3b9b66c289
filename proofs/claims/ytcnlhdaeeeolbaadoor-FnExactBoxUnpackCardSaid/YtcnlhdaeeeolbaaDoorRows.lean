/-
  NARROWER THAN 'FOR EVERY INPUT', by the rows' own cells (each row's printed sentence says how): FnExactBoxUnpack: laid.
  DERIVED. THE GIVEN ROWS OF THIS SEAT. 1 by the template 'for every input the law returns true; each argument reads behind the call as it read before'; 0 by the template 'total and deterministic' (their statements: YtcnlhdaeeeolbaaDoorTotals.lean).
  GIVEN WITH THE SEED: the statements are not yours to turn. If you find one false, say at which input.
  Laid BY PROGRAM, IN A SANDBOX (cutbox-rows.mjs): the forced cells as the released guide's own fill.sh prints them over the translation 6864f8a32cdfc7db… (all of the seat's roots in one cut). By AI agents, Wed Nov 11 2026. No macro, syntax, notation, axiom, sorry.
-/
import Derived.Test.YtcnlhdaeeeolbaaDoorChecked
import GoSem.Claim
import GoSem.ClaimJoined
import GoSem.ClaimMapViews
import Derived.JoinedTies
import Derived.KernelRfl
namespace Go.Proofs.YtcnlhdaeeeolbaaDoor
/- THE CELL 'sum', in the pinned program and in every row, IS THE sha256 OF THE DUMP (.gsa) THAT YtcnlhdaeeeolbaaDoorProg.lean LOADS. Nothing in Lean hashes anything: it is a label: what it is worth is what the hold of that sum in a sandbox is worth. -/
noncomputable def Tryd.pinned : Pinned := { name := "ytcnlhdaeeeolbaadoor", sum := "6864f8a32cdfc7db5ba23ffc9db8079fe7f515fecb71428cc4eadcef5e7be611", checked := Tryd.checked }
namespace Rows
def none {H : Type} : Left H := { results := [], args := [] }

/- WHAT THE LISTED PACKAGE-LEVEL VARIABLES READ AS WHEN THE CALL BEGINS. Each datum BY PROGRAM (the guide's laid-datum.mjs) off the statement by which the dump's own 'gosem.cut.vars' lays the variable. In a bare row this is a premise. The card (YtcnlhdaeeeolbaaDoorCards.lean) ties it to the program's text. -/
def laid_loop_example_stile_impl_devSizes {H : Type} : DataW H := .slice [.lit (.int .i64 0), .lit (.int .i64 32), .lit (.int .i64 32), .lit (.int .i64 64), .lit (.int .i64 16), .lit (.int .i64 32), .lit (.int .i64 5), .lit (.int .i64 16), .lit (.int .i64 16), .lit (.int .i64 32), .lit (.int .i64 16)] []
def laid_loop_example_stile_impl_devWords {H : Type} : DataW H := .slice [.lit (.string [110, 97, 110]), .lit (.string [105, 110, 102]), .lit (.string [45, 105, 110, 102]), .lit (.string [45, 48, 46, 48])] []

/-- 'laws.FnExactBoxUnpack': WHATEVER THE INPUT: true; the input reads as it did. -/
def fnExactBoxUnpackSpec : ChangeSpec := { name := "fnExactBoxUnpack", vars := ["loop.example/stile/impl.devWords", "loop.example/stile/impl.devSizes"], fn := fun _ => fun
  | [d, g1, g2] => { results := [.lit (.bool true)], args := [d], vars := [g1, g2] }
  | _ => none }
def fnExactBoxUnpackRow : OpenClaim := { program := "ytcnlhdaeeeolbaadoor", sum := "6864f8a32cdfc7db5ba23ffc9db8079fe7f515fecb71428cc4eadcef5e7be611", func := "loop.example/stile/laws.FnExactBoxUnpack", spec := "fnExactBoxUnpack", unfollowed := true, recurses := true, named := ["loop.example/stile/impl.devWords", "loop.example/stile/impl.devSizes"], apart := false, laid := [("loop.example/stile/impl.devSizes", laid_loop_example_stile_impl_devSizes), ("loop.example/stile/impl.devWords", laid_loop_example_stile_impl_devWords)] }
def FnExactBoxUnpackSaid : Prop := fnExactBoxUnpackRow.holds Tryd.pinned (OpenSpec.ofChange fnExactBoxUnpackSpec)

/-- ITS FALSE NEIGHBOUR: 'it returns false'. Refute it at one input. -/
def fnExactBoxUnpackWrong : ChangeSpec := { name := "fnExactBoxUnpack", vars := ["loop.example/stile/impl.devWords", "loop.example/stile/impl.devSizes"], fn := fun _ => fun
  | [d, g1, g2] => { results := [.lit (.bool false)], args := [d], vars := [g1, g2] }
  | _ => none }
def FnExactBoxUnpackWrongFalsely : Prop := fnExactBoxUnpackRow.holds Tryd.pinned (OpenSpec.ofChange fnExactBoxUnpackWrong)

/- THE SECOND FORM. 'bulk': how many values and letters a reading holds, each counted each time it is reached (what is shared counts as often as it is met; a slice's spare places count too). A statement '..UptoSaid' is the law's where the arguments, and the package variables that the reading takes, are together of bulk at most 1048576: NARROWER than '..Said'. Prove '..Said' where nothing that the law and all that it calls make is longer than what came in: it says more and counts as full. Else prove '..UptoSaid'. A law counts once. -/
mutual
def uptoBulk {H : Type} : DataW H → Nat
  | .lit (.string bytes) => bytes.length + 1
  | .lit _ => 1
  | .nil => 1
  | .ptr d => uptoBulk d + 1
  | .slice elems spare => uptoBulkAll elems + uptoBulkAll spare + 1
  | .agg parts => uptoBulkAll parts + 1
  | .iface _ d => uptoBulk d + 1
  | .map entries => uptoBulkEntries entries + 1
  | .held _ => 1
def uptoBulkAll {H : Type} : List (DataW H) → Nat
  | [] => 0
  | d :: r => uptoBulk d + uptoBulkAll r
def uptoBulkEntries {H : Type} : List (Lit × DataW H) → Nat
  | [] => 0
  | x :: r => uptoBulkEntry x + uptoBulkEntries r
def uptoBulkEntry {H : Type} : Lit × DataW H → Nat
  | (.string bytes, d) => bytes.length + uptoBulk d + 1
  | (_, d) => uptoBulk d + 1
 end
def uptoSmall : (H : Type) → List (DataW H) → Bool := fun _ ds => decide (uptoBulkAll ds ≤ 1048576)
def OpenSpec.upto (s : _root_.Go.ChangeSpec) : _root_.Go.OpenSpec := { _root_.Go.OpenSpec.ofChange s with cond := some uptoSmall }

/-- 'laws.FnExactBoxUnpack', WHERE WHAT IT READS IS OF BULK AT MOST 1048576: true; the input reads as it did. -/
def fnExactBoxUnpackUptoRow : OpenClaim := { program := "ytcnlhdaeeeolbaadoor", sum := "6864f8a32cdfc7db5ba23ffc9db8079fe7f515fecb71428cc4eadcef5e7be611", func := "loop.example/stile/laws.FnExactBoxUnpack", spec := "fnExactBoxUnpack", unfollowed := true, recurses := true, named := ["loop.example/stile/impl.devWords", "loop.example/stile/impl.devSizes"], apart := false, laid := [("loop.example/stile/impl.devSizes", laid_loop_example_stile_impl_devSizes), ("loop.example/stile/impl.devWords", laid_loop_example_stile_impl_devWords)], narrowed := true }
def FnExactBoxUnpackUptoSaid : Prop := fnExactBoxUnpackUptoRow.holds Tryd.pinned (OpenSpec.upto fnExactBoxUnpackSpec)

end Rows
end Go.Proofs.YtcnlhdaeeeolbaaDoor
