/-
  No cell of these rows narrows 'for every input' (looked for: loops, veiled, ifaces, maps, wideKeys, modest, calm, conditions, laid).
  DERIVED. THE GIVEN ROWS OF THIS SEAT. 8 by the template 'for every input the law returns true; each argument reads behind the call as it read before'; 0 by the template 'total and deterministic' (their statements: YtfncikbmdaameaaTotals.lean).
  GIVEN WITH THE SEED: the statements are not yours to turn. If you find one false, say at which input.
  Laid BY PROGRAM, IN A SANDBOX (cutbox-rows.mjs): the forced cells as the released guide's own fill.sh prints them over the translation 5e4298b6762df570… (all of the seat's roots in one cut). By AI agents, Wed Nov 11 2026. No macro, syntax, notation, axiom, sorry.
-/
import Derived.Test.YtfncikbmdaameaaChecked
import GoSem.Claim
import GoSem.ClaimJoined
import GoSem.ClaimMapViews
import Derived.JoinedTies
import Derived.KernelRfl
namespace Go.Proofs.Ytfncikbmdaameaa
/- THE CELL 'sum', in the pinned program and in every row, IS THE sha256 OF THE DUMP (.gsa) THAT YtfncikbmdaameaaProg.lean LOADS. Nothing in Lean hashes anything: it is a label: what it is worth is what the hold of that sum in a sandbox is worth. -/
noncomputable def Try.pinned : Pinned := { name := "ytfncikbmdaameaa", sum := "5e4298b6762df5701d29ecbe3e1d78f576baad085853aeaec887b5ca9e31a1d8", checked := Try.checked }
namespace Rows
def none {H : Type} : Left H := { results := [], args := [] }

/-- 'laws.FnExactSegmentPieces': WHATEVER THE INPUT: true; the input reads as it did. -/
def fnExactSegmentPiecesSpec : ChangeSpec := { name := "fnExactSegmentPieces", fn := fun _ => fun
  | [d] => { results := [.lit (.bool true)], args := [d] }
  | _ => none }
def fnExactSegmentPiecesRow : OpenClaim := { program := "ytfncikbmdaameaa", sum := "5e4298b6762df5701d29ecbe3e1d78f576baad085853aeaec887b5ca9e31a1d8", func := "loop.example/g00959/laws.FnExactSegmentPieces", spec := "fnExactSegmentPieces", apart := false }
def FnExactSegmentPiecesSaid : Prop := fnExactSegmentPiecesRow.holds Try.pinned (OpenSpec.ofChange fnExactSegmentPiecesSpec)

/-- ITS FALSE NEIGHBOUR: 'it returns false'. Refute it at one input. -/
def fnExactSegmentPiecesWrong : ChangeSpec := { name := "fnExactSegmentPieces", fn := fun _ => fun
  | [d] => { results := [.lit (.bool false)], args := [d] }
  | _ => none }
def FnExactSegmentPiecesWrongFalsely : Prop := fnExactSegmentPiecesRow.holds Try.pinned (OpenSpec.ofChange fnExactSegmentPiecesWrong)

/-- 'laws.FnExactCountTerms': WHATEVER THE INPUT: true; the input reads as it did. -/
def fnExactCountTermsSpec : ChangeSpec := { name := "fnExactCountTerms", fn := fun _ => fun
  | [d] => { results := [.lit (.bool true)], args := [d] }
  | _ => none }
def fnExactCountTermsRow : OpenClaim := { program := "ytfncikbmdaameaa", sum := "5e4298b6762df5701d29ecbe3e1d78f576baad085853aeaec887b5ca9e31a1d8", func := "loop.example/g00959/laws.FnExactCountTerms", spec := "fnExactCountTerms", apart := false }
def FnExactCountTermsSaid : Prop := fnExactCountTermsRow.holds Try.pinned (OpenSpec.ofChange fnExactCountTermsSpec)

/-- ITS FALSE NEIGHBOUR: 'it returns false'. Refute it at one input. -/
def fnExactCountTermsWrong : ChangeSpec := { name := "fnExactCountTerms", fn := fun _ => fun
  | [d] => { results := [.lit (.bool false)], args := [d] }
  | _ => none }
def FnExactCountTermsWrongFalsely : Prop := fnExactCountTermsRow.holds Try.pinned (OpenSpec.ofChange fnExactCountTermsWrong)

/-- 'laws.FnLines': WHATEVER THE INPUT: true; the input reads as it did. -/
def fnLinesSpec : ChangeSpec := { name := "fnLines", fn := fun _ => fun
  | [d] => { results := [.lit (.bool true)], args := [d] }
  | _ => none }
def fnLinesRow : OpenClaim := { program := "ytfncikbmdaameaa", sum := "5e4298b6762df5701d29ecbe3e1d78f576baad085853aeaec887b5ca9e31a1d8", func := "loop.example/g00959/laws.FnLines", spec := "fnLines", apart := false }
def FnLinesSaid : Prop := fnLinesRow.holds Try.pinned (OpenSpec.ofChange fnLinesSpec)

/-- ITS FALSE NEIGHBOUR: 'it returns false'. Refute it at one input. -/
def fnLinesWrong : ChangeSpec := { name := "fnLines", fn := fun _ => fun
  | [d] => { results := [.lit (.bool false)], args := [d] }
  | _ => none }
def FnLinesWrongFalsely : Prop := fnLinesRow.holds Try.pinned (OpenSpec.ofChange fnLinesWrong)

/-- 'laws.FnFloors': WHATEVER THE INPUT: true; the input reads as it did. -/
def fnFloorsSpec : ChangeSpec := { name := "fnFloors", fn := fun _ => fun
  | [d] => { results := [.lit (.bool true)], args := [d] }
  | _ => none }
def fnFloorsRow : OpenClaim := { program := "ytfncikbmdaameaa", sum := "5e4298b6762df5701d29ecbe3e1d78f576baad085853aeaec887b5ca9e31a1d8", func := "loop.example/g00959/laws.FnFloors", spec := "fnFloors", apart := false }
def FnFloorsSaid : Prop := fnFloorsRow.holds Try.pinned (OpenSpec.ofChange fnFloorsSpec)

/-- ITS FALSE NEIGHBOUR: 'it returns false'. Refute it at one input. -/
def fnFloorsWrong : ChangeSpec := { name := "fnFloors", fn := fun _ => fun
  | [d] => { results := [.lit (.bool false)], args := [d] }
  | _ => none }
def FnFloorsWrongFalsely : Prop := fnFloorsRow.holds Try.pinned (OpenSpec.ofChange fnFloorsWrong)

/-- 'laws.FnCoins': WHATEVER THE INPUT: true; the input reads as it did. -/
def fnCoinsSpec : ChangeSpec := { name := "fnCoins", fn := fun _ => fun
  | [d] => { results := [.lit (.bool true)], args := [d] }
  | _ => none }
def fnCoinsRow : OpenClaim := { program := "ytfncikbmdaameaa", sum := "5e4298b6762df5701d29ecbe3e1d78f576baad085853aeaec887b5ca9e31a1d8", func := "loop.example/g00959/laws.FnCoins", spec := "fnCoins", apart := false }
def FnCoinsSaid : Prop := fnCoinsRow.holds Try.pinned (OpenSpec.ofChange fnCoinsSpec)

/-- ITS FALSE NEIGHBOUR: 'it returns false'. Refute it at one input. -/
def fnCoinsWrong : ChangeSpec := { name := "fnCoins", fn := fun _ => fun
  | [d] => { results := [.lit (.bool false)], args := [d] }
  | _ => none }
def FnCoinsWrongFalsely : Prop := fnCoinsRow.holds Try.pinned (OpenSpec.ofChange fnCoinsWrong)

/-- 'laws.FnCones': WHATEVER THE INPUT: true; the input reads as it did. -/
def fnConesSpec : ChangeSpec := { name := "fnCones", fn := fun _ => fun
  | [d] => { results := [.lit (.bool true)], args := [d] }
  | _ => none }
def fnConesRow : OpenClaim := { program := "ytfncikbmdaameaa", sum := "5e4298b6762df5701d29ecbe3e1d78f576baad085853aeaec887b5ca9e31a1d8", func := "loop.example/g00959/laws.FnCones", spec := "fnCones", apart := false }
def FnConesSaid : Prop := fnConesRow.holds Try.pinned (OpenSpec.ofChange fnConesSpec)

/-- ITS FALSE NEIGHBOUR: 'it returns false'. Refute it at one input. -/
def fnConesWrong : ChangeSpec := { name := "fnCones", fn := fun _ => fun
  | [d] => { results := [.lit (.bool false)], args := [d] }
  | _ => none }
def FnConesWrongFalsely : Prop := fnConesRow.holds Try.pinned (OpenSpec.ofChange fnConesWrong)

/-- 'laws.FnTetrahedra': WHATEVER THE INPUT: true; the input reads as it did. -/
def fnTetrahedraSpec : ChangeSpec := { name := "fnTetrahedra", fn := fun _ => fun
  | [d] => { results := [.lit (.bool true)], args := [d] }
  | _ => none }
def fnTetrahedraRow : OpenClaim := { program := "ytfncikbmdaameaa", sum := "5e4298b6762df5701d29ecbe3e1d78f576baad085853aeaec887b5ca9e31a1d8", func := "loop.example/g00959/laws.FnTetrahedra", spec := "fnTetrahedra", recurses := true, apart := false }
def FnTetrahedraSaid : Prop := fnTetrahedraRow.holds Try.pinned (OpenSpec.ofChange fnTetrahedraSpec)

/-- ITS FALSE NEIGHBOUR: 'it returns false'. Refute it at one input. -/
def fnTetrahedraWrong : ChangeSpec := { name := "fnTetrahedra", fn := fun _ => fun
  | [d] => { results := [.lit (.bool false)], args := [d] }
  | _ => none }
def FnTetrahedraWrongFalsely : Prop := fnTetrahedraRow.holds Try.pinned (OpenSpec.ofChange fnTetrahedraWrong)

/-- 'laws.FnSeries': WHATEVER THE INPUT: true; the input reads as it did. -/
def fnSeriesSpec : ChangeSpec := { name := "fnSeries", fn := fun _ => fun
  | [d] => { results := [.lit (.bool true)], args := [d] }
  | _ => none }
def fnSeriesRow : OpenClaim := { program := "ytfncikbmdaameaa", sum := "5e4298b6762df5701d29ecbe3e1d78f576baad085853aeaec887b5ca9e31a1d8", func := "loop.example/g00959/laws.FnSeries", spec := "fnSeries", apart := false }
def FnSeriesSaid : Prop := fnSeriesRow.holds Try.pinned (OpenSpec.ofChange fnSeriesSpec)

/-- ITS FALSE NEIGHBOUR: 'it returns false'. Refute it at one input. -/
def fnSeriesWrong : ChangeSpec := { name := "fnSeries", fn := fun _ => fun
  | [d] => { results := [.lit (.bool false)], args := [d] }
  | _ => none }
def FnSeriesWrongFalsely : Prop := fnSeriesRow.holds Try.pinned (OpenSpec.ofChange fnSeriesWrong)

/- THE SECOND FORM. 'bulk': how many values and letters a reading holds, each counted each time it is reached (what is shared counts as often as it is met; a slice's spare places count too). A statement '..UptoSaid' is the law's where the arguments, and the package variables that the reading takes, are together of bulk at most 1048576: NARROWER than '..Said'. Prove '..Said' where nothing that the law and all that it calls make is longer than what came in: it says more and counts as full. Else prove '..UptoSaid'. A law counts once. -/
mutual
def uptoBulk {H : Type} : DataW H → Nat
  | .lit (.string bytes) => bytes.length + 1
  | .lit _ => 1
  | .nil => 1
  | .ptr d => uptoBulk d + 1
  | .slice elems spare => uptoBulkAll elems + uptoBulkAll spare + 1
  | .agg parts => uptoBulkAll parts + 1
  | .iface _ d => uptoBulk d + 1
  | .map entries => uptoBulkEntries entries + 1
  | .held _ => 1
def uptoBulkAll {H : Type} : List (DataW H) → Nat
  | [] => 0
  | d :: r => uptoBulk d + uptoBulkAll r
def uptoBulkEntries {H : Type} : List (Lit × DataW H) → Nat
  | [] => 0
  | x :: r => uptoBulkEntry x + uptoBulkEntries r
def uptoBulkEntry {H : Type} : Lit × DataW H → Nat
  | (.string bytes, d) => bytes.length + uptoBulk d + 1
  | (_, d) => uptoBulk d + 1
 end
def uptoSmall : (H : Type) → List (DataW H) → Bool := fun _ ds => decide (uptoBulkAll ds ≤ 1048576)
def OpenSpec.upto (s : _root_.Go.ChangeSpec) : _root_.Go.OpenSpec := { _root_.Go.OpenSpec.ofChange s with cond := some uptoSmall }

/-- 'laws.FnExactSegmentPieces', WHERE WHAT IT READS IS OF BULK AT MOST 1048576: true; the input reads as it did. -/
def fnExactSegmentPiecesUptoRow : OpenClaim := { program := "ytfncikbmdaameaa", sum := "5e4298b6762df5701d29ecbe3e1d78f576baad085853aeaec887b5ca9e31a1d8", func := "loop.example/g00959/laws.FnExactSegmentPieces", spec := "fnExactSegmentPieces", apart := false, narrowed := true }
def FnExactSegmentPiecesUptoSaid : Prop := fnExactSegmentPiecesUptoRow.holds Try.pinned (OpenSpec.upto fnExactSegmentPiecesSpec)

/-- 'laws.FnExactCountTerms', WHERE WHAT IT READS IS OF BULK AT MOST 1048576: true; the input reads as it did. -/
def fnExactCountTermsUptoRow : OpenClaim := { program := "ytfncikbmdaameaa", sum := "5e4298b6762df5701d29ecbe3e1d78f576baad085853aeaec887b5ca9e31a1d8", func := "loop.example/g00959/laws.FnExactCountTerms", spec := "fnExactCountTerms", apart := false, narrowed := true }
def FnExactCountTermsUptoSaid : Prop := fnExactCountTermsUptoRow.holds Try.pinned (OpenSpec.upto fnExactCountTermsSpec)

/-- 'laws.FnLines', WHERE WHAT IT READS IS OF BULK AT MOST 1048576: true; the input reads as it did. -/
def fnLinesUptoRow : OpenClaim := { program := "ytfncikbmdaameaa", sum := "5e4298b6762df5701d29ecbe3e1d78f576baad085853aeaec887b5ca9e31a1d8", func := "loop.example/g00959/laws.FnLines", spec := "fnLines", apart := false, narrowed := true }
def FnLinesUptoSaid : Prop := fnLinesUptoRow.holds Try.pinned (OpenSpec.upto fnLinesSpec)

/-- 'laws.FnFloors', WHERE WHAT IT READS IS OF BULK AT MOST 1048576: true; the input reads as it did. -/
def fnFloorsUptoRow : OpenClaim := { program := "ytfncikbmdaameaa", sum := "5e4298b6762df5701d29ecbe3e1d78f576baad085853aeaec887b5ca9e31a1d8", func := "loop.example/g00959/laws.FnFloors", spec := "fnFloors", apart := false, narrowed := true }
def FnFloorsUptoSaid : Prop := fnFloorsUptoRow.holds Try.pinned (OpenSpec.upto fnFloorsSpec)

/-- 'laws.FnCoins', WHERE WHAT IT READS IS OF BULK AT MOST 1048576: true; the input reads as it did. -/
def fnCoinsUptoRow : OpenClaim := { program := "ytfncikbmdaameaa", sum := "5e4298b6762df5701d29ecbe3e1d78f576baad085853aeaec887b5ca9e31a1d8", func := "loop.example/g00959/laws.FnCoins", spec := "fnCoins", apart := false, narrowed := true }
def FnCoinsUptoSaid : Prop := fnCoinsUptoRow.holds Try.pinned (OpenSpec.upto fnCoinsSpec)

/-- 'laws.FnCones', WHERE WHAT IT READS IS OF BULK AT MOST 1048576: true; the input reads as it did. -/
def fnConesUptoRow : OpenClaim := { program := "ytfncikbmdaameaa", sum := "5e4298b6762df5701d29ecbe3e1d78f576baad085853aeaec887b5ca9e31a1d8", func := "loop.example/g00959/laws.FnCones", spec := "fnCones", apart := false, narrowed := true }
def FnConesUptoSaid : Prop := fnConesUptoRow.holds Try.pinned (OpenSpec.upto fnConesSpec)

/-- 'laws.FnTetrahedra', WHERE WHAT IT READS IS OF BULK AT MOST 1048576: true; the input reads as it did. -/
def fnTetrahedraUptoRow : OpenClaim := { program := "ytfncikbmdaameaa", sum := "5e4298b6762df5701d29ecbe3e1d78f576baad085853aeaec887b5ca9e31a1d8", func := "loop.example/g00959/laws.FnTetrahedra", spec := "fnTetrahedra", recurses := true, apart := false, narrowed := true }
def FnTetrahedraUptoSaid : Prop := fnTetrahedraUptoRow.holds Try.pinned (OpenSpec.upto fnTetrahedraSpec)

/-- 'laws.FnSeries', WHERE WHAT IT READS IS OF BULK AT MOST 1048576: true; the input reads as it did. -/
def fnSeriesUptoRow : OpenClaim := { program := "ytfncikbmdaameaa", sum := "5e4298b6762df5701d29ecbe3e1d78f576baad085853aeaec887b5ca9e31a1d8", func := "loop.example/g00959/laws.FnSeries", spec := "fnSeries", apart := false, narrowed := true }
def FnSeriesUptoSaid : Prop := fnSeriesUptoRow.holds Try.pinned (OpenSpec.upto fnSeriesSpec)

end Rows
end Go.Proofs.Ytfncikbmdaameaa
