/-
  No cell of these rows narrows 'for every input' (looked for: loops, veiled, ifaces, maps, wideKeys, modest, calm, conditions, laid).
  DERIVED. THE GIVEN ROWS OF THIS SEAT. 4 by the template 'for every input the law returns true; each argument reads behind the call as it read before'; 0 by the template 'total and deterministic' (their statements: YtkafcijfljjlaaaTotals.lean).
  GIVEN WITH THE SEED: the statements are not yours to turn. If you find one false, say at which input.
  Laid BY PROGRAM, IN A SANDBOX (cutbox-rows.mjs): the forced cells as the released guide's own fill.sh prints them over the translation 3b51fdf56a8fb49d… (all of the seat's roots in one cut). By AI agents, Wed Nov 11 2026. No macro, syntax, notation, axiom, sorry.
-/
import Derived.Test.YtkafcijfljjlaaaChecked
import GoSem.Claim
import GoSem.ClaimJoined
import GoSem.ClaimMapViews
import Derived.JoinedTies
import Derived.KernelRfl
namespace Go.Proofs.Ytkafcijfljjlaaa
/- THE CELL 'sum', in the pinned program and in every row, IS THE sha256 OF THE DUMP (.gsa) THAT YtkafcijfljjlaaaProg.lean LOADS. Nothing in Lean hashes anything: it is a label: what it is worth is what the hold of that sum in a sandbox is worth. -/
noncomputable def Try.pinned : Pinned := { name := "ytkafcijfljjlaaa", sum := "3b51fdf56a8fb49dd8ffd0f972500a16c56614651265b4946ee1cfb2d721762b", checked := Try.checked }
namespace Rows
def none {H : Type} : Left H := { results := [], args := [] }

/-- 'laws.FnExactPicRead': WHATEVER THE INPUT: true; the input reads as it did. -/
def fnExactPicReadSpec : ChangeSpec := { name := "fnExactPicRead", fn := fun _ => fun
  | [d] => { results := [.lit (.bool true)], args := [d] }
  | _ => none }
def fnExactPicReadRow : OpenClaim := { program := "ytkafcijfljjlaaa", sum := "3b51fdf56a8fb49dd8ffd0f972500a16c56614651265b4946ee1cfb2d721762b", func := "loop.example/stile/laws.FnExactPicRead", spec := "fnExactPicRead", apart := false }
def FnExactPicReadSaid : Prop := fnExactPicReadRow.holds Try.pinned (OpenSpec.ofChange fnExactPicReadSpec)

/-- ITS FALSE NEIGHBOUR: 'it returns false'. Refute it at one input. -/
def fnExactPicReadWrong : ChangeSpec := { name := "fnExactPicRead", fn := fun _ => fun
  | [d] => { results := [.lit (.bool false)], args := [d] }
  | _ => none }
def FnExactPicReadWrongFalsely : Prop := fnExactPicReadRow.holds Try.pinned (OpenSpec.ofChange fnExactPicReadWrong)

/-- 'laws.FnPicSum': WHATEVER THE INPUT: true; the input reads as it did. -/
def fnPicSumSpec : ChangeSpec := { name := "fnPicSum", fn := fun _ => fun
  | [d] => { results := [.lit (.bool true)], args := [d] }
  | _ => none }
def fnPicSumRow : OpenClaim := { program := "ytkafcijfljjlaaa", sum := "3b51fdf56a8fb49dd8ffd0f972500a16c56614651265b4946ee1cfb2d721762b", func := "loop.example/stile/laws.FnPicSum", spec := "fnPicSum", apart := false }
def FnPicSumSaid : Prop := fnPicSumRow.holds Try.pinned (OpenSpec.ofChange fnPicSumSpec)

/-- ITS FALSE NEIGHBOUR: 'it returns false'. Refute it at one input. -/
def fnPicSumWrong : ChangeSpec := { name := "fnPicSum", fn := fun _ => fun
  | [d] => { results := [.lit (.bool false)], args := [d] }
  | _ => none }
def FnPicSumWrongFalsely : Prop := fnPicSumRow.holds Try.pinned (OpenSpec.ofChange fnPicSumWrong)

/-- 'laws.FnSurePeak': WHATEVER THE INPUT: true; the input reads as it did. -/
def fnSurePeakSpec : ChangeSpec := { name := "fnSurePeak", fn := fun _ => fun
  | [d] => { results := [.lit (.bool true)], args := [d] }
  | _ => none }
def fnSurePeakRow : OpenClaim := { program := "ytkafcijfljjlaaa", sum := "3b51fdf56a8fb49dd8ffd0f972500a16c56614651265b4946ee1cfb2d721762b", func := "loop.example/stile/laws.FnSurePeak", spec := "fnSurePeak", apart := false }
def FnSurePeakSaid : Prop := fnSurePeakRow.holds Try.pinned (OpenSpec.ofChange fnSurePeakSpec)

/-- ITS FALSE NEIGHBOUR: 'it returns false'. Refute it at one input. -/
def fnSurePeakWrong : ChangeSpec := { name := "fnSurePeak", fn := fun _ => fun
  | [d] => { results := [.lit (.bool false)], args := [d] }
  | _ => none }
def FnSurePeakWrongFalsely : Prop := fnSurePeakRow.holds Try.pinned (OpenSpec.ofChange fnSurePeakWrong)

/-- 'laws.FnPicHex': WHATEVER THE INPUT: true; the input reads as it did. -/
def fnPicHexSpec : ChangeSpec := { name := "fnPicHex", fn := fun _ => fun
  | [d1, d2] => { results := [.lit (.bool true)], args := [d1, d2] }
  | _ => none }
def fnPicHexRow : OpenClaim := { program := "ytkafcijfljjlaaa", sum := "3b51fdf56a8fb49dd8ffd0f972500a16c56614651265b4946ee1cfb2d721762b", func := "loop.example/stile/laws.FnPicHex", spec := "fnPicHex", inPlace := ["internal/bytealg.IndexByteString"], apart := false }
def FnPicHexSaid : Prop := fnPicHexRow.holds Try.pinned (OpenSpec.ofChange fnPicHexSpec)

/-- ITS FALSE NEIGHBOUR: 'it returns false'. Refute it at one input. -/
def fnPicHexWrong : ChangeSpec := { name := "fnPicHex", fn := fun _ => fun
  | [d1, d2] => { results := [.lit (.bool false)], args := [d1, d2] }
  | _ => none }
def FnPicHexWrongFalsely : Prop := fnPicHexRow.holds Try.pinned (OpenSpec.ofChange fnPicHexWrong)

/- THE SECOND FORM. 'bulk': how many values and letters a reading holds, each counted each time it is reached (what is shared counts as often as it is met; a slice's spare places count too). A statement '..UptoSaid' is the law's where the arguments, and the package variables that the reading takes, are together of bulk at most 1048576: NARROWER than '..Said'. Prove '..Said' where nothing that the law and all that it calls make is longer than what came in: it says more and counts as full. Else prove '..UptoSaid'. A law counts once. -/
mutual
def uptoBulk {H : Type} : DataW H → Nat
  | .lit (.string bytes) => bytes.length + 1
  | .lit _ => 1
  | .nil => 1
  | .ptr d => uptoBulk d + 1
  | .slice elems spare => uptoBulkAll elems + uptoBulkAll spare + 1
  | .agg parts => uptoBulkAll parts + 1
  | .iface _ d => uptoBulk d + 1
  | .map entries => uptoBulkEntries entries + 1
  | .held _ => 1
def uptoBulkAll {H : Type} : List (DataW H) → Nat
  | [] => 0
  | d :: r => uptoBulk d + uptoBulkAll r
def uptoBulkEntries {H : Type} : List (Lit × DataW H) → Nat
  | [] => 0
  | x :: r => uptoBulkEntry x + uptoBulkEntries r
def uptoBulkEntry {H : Type} : Lit × DataW H → Nat
  | (.string bytes, d) => bytes.length + uptoBulk d + 1
  | (_, d) => uptoBulk d + 1
 end
def uptoSmall : (H : Type) → List (DataW H) → Bool := fun _ ds => decide (uptoBulkAll ds ≤ 1048576)
def OpenSpec.upto (s : _root_.Go.ChangeSpec) : _root_.Go.OpenSpec := { _root_.Go.OpenSpec.ofChange s with cond := some uptoSmall }

/-- 'laws.FnExactPicRead', WHERE WHAT IT READS IS OF BULK AT MOST 1048576: true; the input reads as it did. -/
def fnExactPicReadUptoRow : OpenClaim := { program := "ytkafcijfljjlaaa", sum := "3b51fdf56a8fb49dd8ffd0f972500a16c56614651265b4946ee1cfb2d721762b", func := "loop.example/stile/laws.FnExactPicRead", spec := "fnExactPicRead", apart := false, narrowed := true }
def FnExactPicReadUptoSaid : Prop := fnExactPicReadUptoRow.holds Try.pinned (OpenSpec.upto fnExactPicReadSpec)

/-- 'laws.FnPicSum', WHERE WHAT IT READS IS OF BULK AT MOST 1048576: true; the input reads as it did. -/
def fnPicSumUptoRow : OpenClaim := { program := "ytkafcijfljjlaaa", sum := "3b51fdf56a8fb49dd8ffd0f972500a16c56614651265b4946ee1cfb2d721762b", func := "loop.example/stile/laws.FnPicSum", spec := "fnPicSum", apart := false, narrowed := true }
def FnPicSumUptoSaid : Prop := fnPicSumUptoRow.holds Try.pinned (OpenSpec.upto fnPicSumSpec)

/-- 'laws.FnSurePeak', WHERE WHAT IT READS IS OF BULK AT MOST 1048576: true; the input reads as it did. -/
def fnSurePeakUptoRow : OpenClaim := { program := "ytkafcijfljjlaaa", sum := "3b51fdf56a8fb49dd8ffd0f972500a16c56614651265b4946ee1cfb2d721762b", func := "loop.example/stile/laws.FnSurePeak", spec := "fnSurePeak", apart := false, narrowed := true }
def FnSurePeakUptoSaid : Prop := fnSurePeakUptoRow.holds Try.pinned (OpenSpec.upto fnSurePeakSpec)

/-- 'laws.FnPicHex', WHERE WHAT IT READS IS OF BULK AT MOST 1048576: true; the input reads as it did. -/
def fnPicHexUptoRow : OpenClaim := { program := "ytkafcijfljjlaaa", sum := "3b51fdf56a8fb49dd8ffd0f972500a16c56614651265b4946ee1cfb2d721762b", func := "loop.example/stile/laws.FnPicHex", spec := "fnPicHex", inPlace := ["internal/bytealg.IndexByteString"], apart := false, narrowed := true }
def FnPicHexUptoSaid : Prop := fnPicHexUptoRow.holds Try.pinned (OpenSpec.upto fnPicHexSpec)

end Rows
end Go.Proofs.Ytkafcijfljjlaaa
