/-
  No cell of these rows narrows 'for every input' (looked for: loops, veiled, ifaces, maps, wideKeys, modest, calm, conditions, laid).
  DERIVED. THE GIVEN ROWS OF THIS SEAT. 12 by the template 'for every input the law returns true; each argument reads behind the call as it read before'; 0 by the template 'total and deterministic' (their statements: YtlmakigadloohaaTotals.lean).
  GIVEN WITH THE SEED: the statements are not yours to turn. If you find one false, say at which input.
  Laid BY PROGRAM, IN A SANDBOX (cutbox-rows.mjs): the forced cells as the released guide's own fill.sh prints them over the translation e4080b0ff26db2ee… (all of the seat's roots in one cut). By AI agents, Wed Nov 11 2026. No macro, syntax, notation, axiom, sorry.
-/
import Derived.Test.YtlmakigadloohaaChecked
import GoSem.Claim
import GoSem.ClaimJoined
import GoSem.ClaimMapViews
import Derived.JoinedTies
import Derived.KernelRfl
namespace Go.Proofs.Ytlmakigadloohaa
/- THE CELL 'sum', in the pinned program and in every row, IS THE sha256 OF THE DUMP (.gsa) THAT YtlmakigadloohaaProg.lean LOADS. Nothing in Lean hashes anything: it is a label: what it is worth is what the hold of that sum in a sandbox is worth. -/
noncomputable def Try.pinned : Pinned := { name := "ytlmakigadloohaa", sum := "e4080b0ff26db2eeaf1f48c98919095418660f00d68848f926c4e11efaf2fc1e", checked := Try.checked }
namespace Rows
def none {H : Type} : Left H := { results := [], args := [] }

/-- 'laws.FnExactIsSegment': WHATEVER THE INPUT: true; the input reads as it did. -/
def fnExactIsSegmentSpec : ChangeSpec := { name := "fnExactIsSegment", fn := fun _ => fun
  | [d] => { results := [.lit (.bool true)], args := [d] }
  | _ => none }
def fnExactIsSegmentRow : OpenClaim := { program := "ytlmakigadloohaa", sum := "e4080b0ff26db2eeaf1f48c98919095418660f00d68848f926c4e11efaf2fc1e", func := "loop.example/g00959/laws.FnExactIsSegment", spec := "fnExactIsSegment", apart := false }
def FnExactIsSegmentSaid : Prop := fnExactIsSegmentRow.holds Try.pinned (OpenSpec.ofChange fnExactIsSegmentSpec)

/-- ITS FALSE NEIGHBOUR: 'it returns false'. Refute it at one input. -/
def fnExactIsSegmentWrong : ChangeSpec := { name := "fnExactIsSegment", fn := fun _ => fun
  | [d] => { results := [.lit (.bool false)], args := [d] }
  | _ => none }
def FnExactIsSegmentWrongFalsely : Prop := fnExactIsSegmentRow.holds Try.pinned (OpenSpec.ofChange fnExactIsSegmentWrong)

/-- 'laws.FnExactTriangleCount': WHATEVER THE INPUT: true; the input reads as it did. -/
def fnExactTriangleCountSpec : ChangeSpec := { name := "fnExactTriangleCount", fn := fun _ => fun
  | [d1, d2, d3] => { results := [.lit (.bool true)], args := [d1, d2, d3] }
  | _ => none }
def fnExactTriangleCountRow : OpenClaim := { program := "ytlmakigadloohaa", sum := "e4080b0ff26db2eeaf1f48c98919095418660f00d68848f926c4e11efaf2fc1e", func := "loop.example/g00959/laws.FnExactTriangleCount", spec := "fnExactTriangleCount", apart := false }
def FnExactTriangleCountSaid : Prop := fnExactTriangleCountRow.holds Try.pinned (OpenSpec.ofChange fnExactTriangleCountSpec)

/-- ITS FALSE NEIGHBOUR: 'it returns false'. Refute it at one input. -/
def fnExactTriangleCountWrong : ChangeSpec := { name := "fnExactTriangleCount", fn := fun _ => fun
  | [d1, d2, d3] => { results := [.lit (.bool false)], args := [d1, d2, d3] }
  | _ => none }
def FnExactTriangleCountWrongFalsely : Prop := fnExactTriangleCountRow.holds Try.pinned (OpenSpec.ofChange fnExactTriangleCountWrong)

/-- 'laws.FnExactPowerMod': WHATEVER THE INPUT: true; the input reads as it did. -/
def fnExactPowerModSpec : ChangeSpec := { name := "fnExactPowerMod", fn := fun _ => fun
  | [d1, d2] => { results := [.lit (.bool true)], args := [d1, d2] }
  | _ => none }
def fnExactPowerModRow : OpenClaim := { program := "ytlmakigadloohaa", sum := "e4080b0ff26db2eeaf1f48c98919095418660f00d68848f926c4e11efaf2fc1e", func := "loop.example/g00959/laws.FnExactPowerMod", spec := "fnExactPowerMod", apart := false }
def FnExactPowerModSaid : Prop := fnExactPowerModRow.holds Try.pinned (OpenSpec.ofChange fnExactPowerModSpec)

/-- ITS FALSE NEIGHBOUR: 'it returns false'. Refute it at one input. -/
def fnExactPowerModWrong : ChangeSpec := { name := "fnExactPowerMod", fn := fun _ => fun
  | [d1, d2] => { results := [.lit (.bool false)], args := [d1, d2] }
  | _ => none }
def FnExactPowerModWrongFalsely : Prop := fnExactPowerModRow.holds Try.pinned (OpenSpec.ofChange fnExactPowerModWrong)

/-- 'laws.FnExactSegmentCount': WHATEVER THE INPUT: true; the input reads as it did. -/
def fnExactSegmentCountSpec : ChangeSpec := { name := "fnExactSegmentCount", fn := fun _ => fun
  | [d1, d2] => { results := [.lit (.bool true)], args := [d1, d2] }
  | _ => none }
def fnExactSegmentCountRow : OpenClaim := { program := "ytlmakigadloohaa", sum := "e4080b0ff26db2eeaf1f48c98919095418660f00d68848f926c4e11efaf2fc1e", func := "loop.example/g00959/laws.FnExactSegmentCount", spec := "fnExactSegmentCount", apart := false }
def FnExactSegmentCountSaid : Prop := fnExactSegmentCountRow.holds Try.pinned (OpenSpec.ofChange fnExactSegmentCountSpec)

/-- ITS FALSE NEIGHBOUR: 'it returns false'. Refute it at one input. -/
def fnExactSegmentCountWrong : ChangeSpec := { name := "fnExactSegmentCount", fn := fun _ => fun
  | [d1, d2] => { results := [.lit (.bool false)], args := [d1, d2] }
  | _ => none }
def FnExactSegmentCountWrongFalsely : Prop := fnExactSegmentCountRow.holds Try.pinned (OpenSpec.ofChange fnExactSegmentCountWrong)

/-- 'laws.FnExactSegmentInner': WHATEVER THE INPUT: true; the input reads as it did. -/
def fnExactSegmentInnerSpec : ChangeSpec := { name := "fnExactSegmentInner", fn := fun _ => fun
  | [d1, d2] => { results := [.lit (.bool true)], args := [d1, d2] }
  | _ => none }
def fnExactSegmentInnerRow : OpenClaim := { program := "ytlmakigadloohaa", sum := "e4080b0ff26db2eeaf1f48c98919095418660f00d68848f926c4e11efaf2fc1e", func := "loop.example/g00959/laws.FnExactSegmentInner", spec := "fnExactSegmentInner", apart := false }
def FnExactSegmentInnerSaid : Prop := fnExactSegmentInnerRow.holds Try.pinned (OpenSpec.ofChange fnExactSegmentInnerSpec)

/-- ITS FALSE NEIGHBOUR: 'it returns false'. Refute it at one input. -/
def fnExactSegmentInnerWrong : ChangeSpec := { name := "fnExactSegmentInner", fn := fun _ => fun
  | [d1, d2] => { results := [.lit (.bool false)], args := [d1, d2] }
  | _ => none }
def FnExactSegmentInnerWrongFalsely : Prop := fnExactSegmentInnerRow.holds Try.pinned (OpenSpec.ofChange fnExactSegmentInnerWrong)

/-- 'laws.FnExactFloorSum': WHATEVER THE INPUT: true; the input reads as it did. -/
def fnExactFloorSumSpec : ChangeSpec := { name := "fnExactFloorSum", fn := fun _ => fun
  | [d1, d2, d3, d4] => { results := [.lit (.bool true)], args := [d1, d2, d3, d4] }
  | _ => none }
def fnExactFloorSumRow : OpenClaim := { program := "ytlmakigadloohaa", sum := "e4080b0ff26db2eeaf1f48c98919095418660f00d68848f926c4e11efaf2fc1e", func := "loop.example/g00959/laws.FnExactFloorSum", spec := "fnExactFloorSum", apart := false }
def FnExactFloorSumSaid : Prop := fnExactFloorSumRow.holds Try.pinned (OpenSpec.ofChange fnExactFloorSumSpec)

/-- ITS FALSE NEIGHBOUR: 'it returns false'. Refute it at one input. -/
def fnExactFloorSumWrong : ChangeSpec := { name := "fnExactFloorSum", fn := fun _ => fun
  | [d1, d2, d3, d4] => { results := [.lit (.bool false)], args := [d1, d2, d3, d4] }
  | _ => none }
def FnExactFloorSumWrongFalsely : Prop := fnExactFloorSumRow.holds Try.pinned (OpenSpec.ofChange fnExactFloorSumWrong)

/-- 'laws.FnExactTwoCoins': WHATEVER THE INPUT: true; the input reads as it did. -/
def fnExactTwoCoinsSpec : ChangeSpec := { name := "fnExactTwoCoins", fn := fun _ => fun
  | [d1, d2, d3] => { results := [.lit (.bool true)], args := [d1, d2, d3] }
  | _ => none }
def fnExactTwoCoinsRow : OpenClaim := { program := "ytlmakigadloohaa", sum := "e4080b0ff26db2eeaf1f48c98919095418660f00d68848f926c4e11efaf2fc1e", func := "loop.example/g00959/laws.FnExactTwoCoins", spec := "fnExactTwoCoins", apart := false }
def FnExactTwoCoinsSaid : Prop := fnExactTwoCoinsRow.holds Try.pinned (OpenSpec.ofChange fnExactTwoCoinsSpec)

/-- ITS FALSE NEIGHBOUR: 'it returns false'. Refute it at one input. -/
def fnExactTwoCoinsWrong : ChangeSpec := { name := "fnExactTwoCoins", fn := fun _ => fun
  | [d1, d2, d3] => { results := [.lit (.bool false)], args := [d1, d2, d3] }
  | _ => none }
def FnExactTwoCoinsWrongFalsely : Prop := fnExactTwoCoinsRow.holds Try.pinned (OpenSpec.ofChange fnExactTwoCoinsWrong)

/-- 'laws.FnExactSawSum': WHATEVER THE INPUT: true; the input reads as it did. -/
def fnExactSawSumSpec : ChangeSpec := { name := "fnExactSawSum", fn := fun _ => fun
  | [d1, d2] => { results := [.lit (.bool true)], args := [d1, d2] }
  | _ => none }
def fnExactSawSumRow : OpenClaim := { program := "ytlmakigadloohaa", sum := "e4080b0ff26db2eeaf1f48c98919095418660f00d68848f926c4e11efaf2fc1e", func := "loop.example/g00959/laws.FnExactSawSum", spec := "fnExactSawSum", apart := false }
def FnExactSawSumSaid : Prop := fnExactSawSumRow.holds Try.pinned (OpenSpec.ofChange fnExactSawSumSpec)

/-- ITS FALSE NEIGHBOUR: 'it returns false'. Refute it at one input. -/
def fnExactSawSumWrong : ChangeSpec := { name := "fnExactSawSum", fn := fun _ => fun
  | [d1, d2] => { results := [.lit (.bool false)], args := [d1, d2] }
  | _ => none }
def FnExactSawSumWrongFalsely : Prop := fnExactSawSumRow.holds Try.pinned (OpenSpec.ofChange fnExactSawSumWrong)

/-- 'laws.FnExactMirrorHolds': WHATEVER THE INPUT: true; the input reads as it did. -/
def fnExactMirrorHoldsSpec : ChangeSpec := { name := "fnExactMirrorHolds", fn := fun _ => fun
  | [d1, d2] => { results := [.lit (.bool true)], args := [d1, d2] }
  | _ => none }
def fnExactMirrorHoldsRow : OpenClaim := { program := "ytlmakigadloohaa", sum := "e4080b0ff26db2eeaf1f48c98919095418660f00d68848f926c4e11efaf2fc1e", func := "loop.example/g00959/laws.FnExactMirrorHolds", spec := "fnExactMirrorHolds", apart := false }
def FnExactMirrorHoldsSaid : Prop := fnExactMirrorHoldsRow.holds Try.pinned (OpenSpec.ofChange fnExactMirrorHoldsSpec)

/-- ITS FALSE NEIGHBOUR: 'it returns false'. Refute it at one input. -/
def fnExactMirrorHoldsWrong : ChangeSpec := { name := "fnExactMirrorHolds", fn := fun _ => fun
  | [d1, d2] => { results := [.lit (.bool false)], args := [d1, d2] }
  | _ => none }
def FnExactMirrorHoldsWrongFalsely : Prop := fnExactMirrorHoldsRow.holds Try.pinned (OpenSpec.ofChange fnExactMirrorHoldsWrong)

/-- 'laws.FnExactSegmentPeriod': WHATEVER THE INPUT: true; the input reads as it did. -/
def fnExactSegmentPeriodSpec : ChangeSpec := { name := "fnExactSegmentPeriod", fn := fun _ => fun
  | [d] => { results := [.lit (.bool true)], args := [d] }
  | _ => none }
def fnExactSegmentPeriodRow : OpenClaim := { program := "ytlmakigadloohaa", sum := "e4080b0ff26db2eeaf1f48c98919095418660f00d68848f926c4e11efaf2fc1e", func := "loop.example/g00959/laws.FnExactSegmentPeriod", spec := "fnExactSegmentPeriod", apart := false }
def FnExactSegmentPeriodSaid : Prop := fnExactSegmentPeriodRow.holds Try.pinned (OpenSpec.ofChange fnExactSegmentPeriodSpec)

/-- ITS FALSE NEIGHBOUR: 'it returns false'. Refute it at one input. -/
def fnExactSegmentPeriodWrong : ChangeSpec := { name := "fnExactSegmentPeriod", fn := fun _ => fun
  | [d] => { results := [.lit (.bool false)], args := [d] }
  | _ => none }
def FnExactSegmentPeriodWrongFalsely : Prop := fnExactSegmentPeriodRow.holds Try.pinned (OpenSpec.ofChange fnExactSegmentPeriodWrong)

/-- 'laws.FnExactSegmentPieces': WHATEVER THE INPUT: true; the input reads as it did. -/
def fnExactSegmentPiecesSpec : ChangeSpec := { name := "fnExactSegmentPieces", fn := fun _ => fun
  | [d] => { results := [.lit (.bool true)], args := [d] }
  | _ => none }
def fnExactSegmentPiecesRow : OpenClaim := { program := "ytlmakigadloohaa", sum := "e4080b0ff26db2eeaf1f48c98919095418660f00d68848f926c4e11efaf2fc1e", func := "loop.example/g00959/laws.FnExactSegmentPieces", spec := "fnExactSegmentPieces", apart := false }
def FnExactSegmentPiecesSaid : Prop := fnExactSegmentPiecesRow.holds Try.pinned (OpenSpec.ofChange fnExactSegmentPiecesSpec)

/-- ITS FALSE NEIGHBOUR: 'it returns false'. Refute it at one input. -/
def fnExactSegmentPiecesWrong : ChangeSpec := { name := "fnExactSegmentPieces", fn := fun _ => fun
  | [d] => { results := [.lit (.bool false)], args := [d] }
  | _ => none }
def FnExactSegmentPiecesWrongFalsely : Prop := fnExactSegmentPiecesRow.holds Try.pinned (OpenSpec.ofChange fnExactSegmentPiecesWrong)

/-- 'laws.FnExactAreCoins': WHATEVER THE INPUT: true; the input reads as it did. -/
def fnExactAreCoinsSpec : ChangeSpec := { name := "fnExactAreCoins", fn := fun _ => fun
  | [d] => { results := [.lit (.bool true)], args := [d] }
  | _ => none }
def fnExactAreCoinsRow : OpenClaim := { program := "ytlmakigadloohaa", sum := "e4080b0ff26db2eeaf1f48c98919095418660f00d68848f926c4e11efaf2fc1e", func := "loop.example/g00959/laws.FnExactAreCoins", spec := "fnExactAreCoins", apart := false }
def FnExactAreCoinsSaid : Prop := fnExactAreCoinsRow.holds Try.pinned (OpenSpec.ofChange fnExactAreCoinsSpec)

/-- ITS FALSE NEIGHBOUR: 'it returns false'. Refute it at one input. -/
def fnExactAreCoinsWrong : ChangeSpec := { name := "fnExactAreCoins", fn := fun _ => fun
  | [d] => { results := [.lit (.bool false)], args := [d] }
  | _ => none }
def FnExactAreCoinsWrongFalsely : Prop := fnExactAreCoinsRow.holds Try.pinned (OpenSpec.ofChange fnExactAreCoinsWrong)

/- THE SECOND FORM. 'bulk': how many values and letters a reading holds, each counted each time it is reached (what is shared counts as often as it is met; a slice's spare places count too). A statement '..UptoSaid' is the law's where the arguments, and the package variables that the reading takes, are together of bulk at most 1048576: NARROWER than '..Said'. Prove '..Said' where nothing that the law and all that it calls make is longer than what came in: it says more and counts as full. Else prove '..UptoSaid'. A law counts once. -/
mutual
def uptoBulk {H : Type} : DataW H → Nat
  | .lit (.string bytes) => bytes.length + 1
  | .lit _ => 1
  | .nil => 1
  | .ptr d => uptoBulk d + 1
  | .slice elems spare => uptoBulkAll elems + uptoBulkAll spare + 1
  | .agg parts => uptoBulkAll parts + 1
  | .iface _ d => uptoBulk d + 1
  | .map entries => uptoBulkEntries entries + 1
  | .held _ => 1
def uptoBulkAll {H : Type} : List (DataW H) → Nat
  | [] => 0
  | d :: r => uptoBulk d + uptoBulkAll r
def uptoBulkEntries {H : Type} : List (Lit × DataW H) → Nat
  | [] => 0
  | x :: r => uptoBulkEntry x + uptoBulkEntries r
def uptoBulkEntry {H : Type} : Lit × DataW H → Nat
  | (.string bytes, d) => bytes.length + uptoBulk d + 1
  | (_, d) => uptoBulk d + 1
 end
def uptoSmall : (H : Type) → List (DataW H) → Bool := fun _ ds => decide (uptoBulkAll ds ≤ 1048576)
def OpenSpec.upto (s : _root_.Go.ChangeSpec) : _root_.Go.OpenSpec := { _root_.Go.OpenSpec.ofChange s with cond := some uptoSmall }

/-- 'laws.FnExactIsSegment', WHERE WHAT IT READS IS OF BULK AT MOST 1048576: true; the input reads as it did. -/
def fnExactIsSegmentUptoRow : OpenClaim := { program := "ytlmakigadloohaa", sum := "e4080b0ff26db2eeaf1f48c98919095418660f00d68848f926c4e11efaf2fc1e", func := "loop.example/g00959/laws.FnExactIsSegment", spec := "fnExactIsSegment", apart := false, narrowed := true }
def FnExactIsSegmentUptoSaid : Prop := fnExactIsSegmentUptoRow.holds Try.pinned (OpenSpec.upto fnExactIsSegmentSpec)

/-- 'laws.FnExactTriangleCount', WHERE WHAT IT READS IS OF BULK AT MOST 1048576: true; the input reads as it did. -/
def fnExactTriangleCountUptoRow : OpenClaim := { program := "ytlmakigadloohaa", sum := "e4080b0ff26db2eeaf1f48c98919095418660f00d68848f926c4e11efaf2fc1e", func := "loop.example/g00959/laws.FnExactTriangleCount", spec := "fnExactTriangleCount", apart := false, narrowed := true }
def FnExactTriangleCountUptoSaid : Prop := fnExactTriangleCountUptoRow.holds Try.pinned (OpenSpec.upto fnExactTriangleCountSpec)

/-- 'laws.FnExactPowerMod', WHERE WHAT IT READS IS OF BULK AT MOST 1048576: true; the input reads as it did. -/
def fnExactPowerModUptoRow : OpenClaim := { program := "ytlmakigadloohaa", sum := "e4080b0ff26db2eeaf1f48c98919095418660f00d68848f926c4e11efaf2fc1e", func := "loop.example/g00959/laws.FnExactPowerMod", spec := "fnExactPowerMod", apart := false, narrowed := true }
def FnExactPowerModUptoSaid : Prop := fnExactPowerModUptoRow.holds Try.pinned (OpenSpec.upto fnExactPowerModSpec)

/-- 'laws.FnExactSegmentCount', WHERE WHAT IT READS IS OF BULK AT MOST 1048576: true; the input reads as it did. -/
def fnExactSegmentCountUptoRow : OpenClaim := { program := "ytlmakigadloohaa", sum := "e4080b0ff26db2eeaf1f48c98919095418660f00d68848f926c4e11efaf2fc1e", func := "loop.example/g00959/laws.FnExactSegmentCount", spec := "fnExactSegmentCount", apart := false, narrowed := true }
def FnExactSegmentCountUptoSaid : Prop := fnExactSegmentCountUptoRow.holds Try.pinned (OpenSpec.upto fnExactSegmentCountSpec)

/-- 'laws.FnExactSegmentInner', WHERE WHAT IT READS IS OF BULK AT MOST 1048576: true; the input reads as it did. -/
def fnExactSegmentInnerUptoRow : OpenClaim := { program := "ytlmakigadloohaa", sum := "e4080b0ff26db2eeaf1f48c98919095418660f00d68848f926c4e11efaf2fc1e", func := "loop.example/g00959/laws.FnExactSegmentInner", spec := "fnExactSegmentInner", apart := false, narrowed := true }
def FnExactSegmentInnerUptoSaid : Prop := fnExactSegmentInnerUptoRow.holds Try.pinned (OpenSpec.upto fnExactSegmentInnerSpec)

/-- 'laws.FnExactFloorSum', WHERE WHAT IT READS IS OF BULK AT MOST 1048576: true; the input reads as it did. -/
def fnExactFloorSumUptoRow : OpenClaim := { program := "ytlmakigadloohaa", sum := "e4080b0ff26db2eeaf1f48c98919095418660f00d68848f926c4e11efaf2fc1e", func := "loop.example/g00959/laws.FnExactFloorSum", spec := "fnExactFloorSum", apart := false, narrowed := true }
def FnExactFloorSumUptoSaid : Prop := fnExactFloorSumUptoRow.holds Try.pinned (OpenSpec.upto fnExactFloorSumSpec)

/-- 'laws.FnExactTwoCoins', WHERE WHAT IT READS IS OF BULK AT MOST 1048576: true; the input reads as it did. -/
def fnExactTwoCoinsUptoRow : OpenClaim := { program := "ytlmakigadloohaa", sum := "e4080b0ff26db2eeaf1f48c98919095418660f00d68848f926c4e11efaf2fc1e", func := "loop.example/g00959/laws.FnExactTwoCoins", spec := "fnExactTwoCoins", apart := false, narrowed := true }
def FnExactTwoCoinsUptoSaid : Prop := fnExactTwoCoinsUptoRow.holds Try.pinned (OpenSpec.upto fnExactTwoCoinsSpec)

/-- 'laws.FnExactSawSum', WHERE WHAT IT READS IS OF BULK AT MOST 1048576: true; the input reads as it did. -/
def fnExactSawSumUptoRow : OpenClaim := { program := "ytlmakigadloohaa", sum := "e4080b0ff26db2eeaf1f48c98919095418660f00d68848f926c4e11efaf2fc1e", func := "loop.example/g00959/laws.FnExactSawSum", spec := "fnExactSawSum", apart := false, narrowed := true }
def FnExactSawSumUptoSaid : Prop := fnExactSawSumUptoRow.holds Try.pinned (OpenSpec.upto fnExactSawSumSpec)

/-- 'laws.FnExactMirrorHolds', WHERE WHAT IT READS IS OF BULK AT MOST 1048576: true; the input reads as it did. -/
def fnExactMirrorHoldsUptoRow : OpenClaim := { program := "ytlmakigadloohaa", sum := "e4080b0ff26db2eeaf1f48c98919095418660f00d68848f926c4e11efaf2fc1e", func := "loop.example/g00959/laws.FnExactMirrorHolds", spec := "fnExactMirrorHolds", apart := false, narrowed := true }
def FnExactMirrorHoldsUptoSaid : Prop := fnExactMirrorHoldsUptoRow.holds Try.pinned (OpenSpec.upto fnExactMirrorHoldsSpec)

/-- 'laws.FnExactSegmentPeriod', WHERE WHAT IT READS IS OF BULK AT MOST 1048576: true; the input reads as it did. -/
def fnExactSegmentPeriodUptoRow : OpenClaim := { program := "ytlmakigadloohaa", sum := "e4080b0ff26db2eeaf1f48c98919095418660f00d68848f926c4e11efaf2fc1e", func := "loop.example/g00959/laws.FnExactSegmentPeriod", spec := "fnExactSegmentPeriod", apart := false, narrowed := true }
def FnExactSegmentPeriodUptoSaid : Prop := fnExactSegmentPeriodUptoRow.holds Try.pinned (OpenSpec.upto fnExactSegmentPeriodSpec)

/-- 'laws.FnExactSegmentPieces', WHERE WHAT IT READS IS OF BULK AT MOST 1048576: true; the input reads as it did. -/
def fnExactSegmentPiecesUptoRow : OpenClaim := { program := "ytlmakigadloohaa", sum := "e4080b0ff26db2eeaf1f48c98919095418660f00d68848f926c4e11efaf2fc1e", func := "loop.example/g00959/laws.FnExactSegmentPieces", spec := "fnExactSegmentPieces", apart := false, narrowed := true }
def FnExactSegmentPiecesUptoSaid : Prop := fnExactSegmentPiecesUptoRow.holds Try.pinned (OpenSpec.upto fnExactSegmentPiecesSpec)

/-- 'laws.FnExactAreCoins', WHERE WHAT IT READS IS OF BULK AT MOST 1048576: true; the input reads as it did. -/
def fnExactAreCoinsUptoRow : OpenClaim := { program := "ytlmakigadloohaa", sum := "e4080b0ff26db2eeaf1f48c98919095418660f00d68848f926c4e11efaf2fc1e", func := "loop.example/g00959/laws.FnExactAreCoins", spec := "fnExactAreCoins", apart := false, narrowed := true }
def FnExactAreCoinsUptoSaid : Prop := fnExactAreCoinsUptoRow.holds Try.pinned (OpenSpec.upto fnExactAreCoinsSpec)

end Rows
end Go.Proofs.Ytlmakigadloohaa
