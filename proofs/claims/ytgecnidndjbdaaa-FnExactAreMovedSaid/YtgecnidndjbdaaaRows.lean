/-
  No cell of these rows narrows 'for every input' (looked for: loops, veiled, ifaces, maps, wideKeys, modest, calm, conditions, laid).
  DERIVED. THE GIVEN ROWS OF THIS SEAT. 7 by the template 'for every input the law returns true; each argument reads behind the call as it read before'; 0 by the template 'total and deterministic' (their statements: YtgecnidndjbdaaaTotals.lean).
  GIVEN WITH THE SEED: the statements are not yours to turn. If you find one false, say at which input.
  Laid BY PROGRAM, IN A SANDBOX (cutbox-rows.mjs): the forced cells as the released guide's own fill.sh prints them over the translation ba51a8f3e3e0f158… (all of the seat's roots in one cut). By AI agents, Wed Nov 11 2026. No macro, syntax, notation, axiom, sorry.
-/
import Derived.Test.YtgecnidndjbdaaaChecked
import GoSem.Claim
import GoSem.ClaimJoined
import GoSem.ClaimMapViews
import Derived.JoinedTies
import Derived.KernelRfl
namespace Go.Proofs.Ytgecnidndjbdaaa
/- THE CELL 'sum', in the pinned program and in every row, IS THE sha256 OF THE DUMP (.gsa) THAT YtgecnidndjbdaaaProg.lean LOADS. Nothing in Lean hashes anything: it is a label: what it is worth is what the hold of that sum in a sandbox is worth. -/
noncomputable def Try.pinned : Pinned := { name := "ytgecnidndjbdaaa", sum := "ba51a8f3e3e0f15887bd3940777f1615120fa5b8f56e341558cade01af3a06ce", checked := Try.checked }
namespace Rows
def none {H : Type} : Left H := { results := [], args := [] }

/-- 'laws.FnExactIsMove': WHATEVER THE INPUT: true; the input reads as it did. -/
def fnExactIsMoveSpec : ChangeSpec := { name := "fnExactIsMove", fn := fun _ => fun
  | [d] => { results := [.lit (.bool true)], args := [d] }
  | _ => none }
def fnExactIsMoveRow : OpenClaim := { program := "ytgecnidndjbdaaa", sum := "ba51a8f3e3e0f15887bd3940777f1615120fa5b8f56e341558cade01af3a06ce", func := "loop.example/g00959/laws.FnExactIsMove", spec := "fnExactIsMove", recurses := true, apart := false }
def FnExactIsMoveSaid : Prop := fnExactIsMoveRow.holds Try.pinned (OpenSpec.ofChange fnExactIsMoveSpec)

/-- ITS FALSE NEIGHBOUR: 'it returns false'. Refute it at one input. -/
def fnExactIsMoveWrong : ChangeSpec := { name := "fnExactIsMove", fn := fun _ => fun
  | [d] => { results := [.lit (.bool false)], args := [d] }
  | _ => none }
def FnExactIsMoveWrongFalsely : Prop := fnExactIsMoveRow.holds Try.pinned (OpenSpec.ofChange fnExactIsMoveWrong)

/-- 'laws.FnExactInverseMove': WHATEVER THE INPUT: true; the input reads as it did. -/
def fnExactInverseMoveSpec : ChangeSpec := { name := "fnExactInverseMove", fn := fun _ => fun
  | [d] => { results := [.lit (.bool true)], args := [d] }
  | _ => none }
def fnExactInverseMoveRow : OpenClaim := { program := "ytgecnidndjbdaaa", sum := "ba51a8f3e3e0f15887bd3940777f1615120fa5b8f56e341558cade01af3a06ce", func := "loop.example/g00959/laws.FnExactInverseMove", spec := "fnExactInverseMove", recurses := true, apart := false }
def FnExactInverseMoveSaid : Prop := fnExactInverseMoveRow.holds Try.pinned (OpenSpec.ofChange fnExactInverseMoveSpec)

/-- ITS FALSE NEIGHBOUR: 'it returns false'. Refute it at one input. -/
def fnExactInverseMoveWrong : ChangeSpec := { name := "fnExactInverseMove", fn := fun _ => fun
  | [d] => { results := [.lit (.bool false)], args := [d] }
  | _ => none }
def FnExactInverseMoveWrongFalsely : Prop := fnExactInverseMoveRow.holds Try.pinned (OpenSpec.ofChange fnExactInverseMoveWrong)

/-- 'laws.FnExactClassLeaders': WHATEVER THE INPUT: true; the input reads as it did. -/
def fnExactClassLeadersSpec : ChangeSpec := { name := "fnExactClassLeaders", fn := fun _ => fun
  | [d] => { results := [.lit (.bool true)], args := [d] }
  | _ => none }
def fnExactClassLeadersRow : OpenClaim := { program := "ytgecnidndjbdaaa", sum := "ba51a8f3e3e0f15887bd3940777f1615120fa5b8f56e341558cade01af3a06ce", func := "loop.example/g00959/laws.FnExactClassLeaders", spec := "fnExactClassLeaders", recurses := true, apart := false }
def FnExactClassLeadersSaid : Prop := fnExactClassLeadersRow.holds Try.pinned (OpenSpec.ofChange fnExactClassLeadersSpec)

/-- ITS FALSE NEIGHBOUR: 'it returns false'. Refute it at one input. -/
def fnExactClassLeadersWrong : ChangeSpec := { name := "fnExactClassLeaders", fn := fun _ => fun
  | [d] => { results := [.lit (.bool false)], args := [d] }
  | _ => none }
def FnExactClassLeadersWrongFalsely : Prop := fnExactClassLeadersRow.holds Try.pinned (OpenSpec.ofChange fnExactClassLeadersWrong)

/-- 'laws.FnExactCellPoints': WHATEVER THE INPUT: true; the input reads as it did. -/
def fnExactCellPointsSpec : ChangeSpec := { name := "fnExactCellPoints", fn := fun _ => fun
  | [d] => { results := [.lit (.bool true)], args := [d] }
  | _ => none }
def fnExactCellPointsRow : OpenClaim := { program := "ytgecnidndjbdaaa", sum := "ba51a8f3e3e0f15887bd3940777f1615120fa5b8f56e341558cade01af3a06ce", func := "loop.example/g00959/laws.FnExactCellPoints", spec := "fnExactCellPoints", unfollowed := true, recurses := true, apart := false }
def FnExactCellPointsSaid : Prop := fnExactCellPointsRow.holds Try.pinned (OpenSpec.ofChange fnExactCellPointsSpec)

/-- ITS FALSE NEIGHBOUR: 'it returns false'. Refute it at one input. -/
def fnExactCellPointsWrong : ChangeSpec := { name := "fnExactCellPoints", fn := fun _ => fun
  | [d] => { results := [.lit (.bool false)], args := [d] }
  | _ => none }
def FnExactCellPointsWrongFalsely : Prop := fnExactCellPointsRow.holds Try.pinned (OpenSpec.ofChange fnExactCellPointsWrong)

/-- 'laws.FnExactMovePolygon': WHATEVER THE INPUT: true; the input reads as it did. -/
def fnExactMovePolygonSpec : ChangeSpec := { name := "fnExactMovePolygon", fn := fun _ => fun
  | [d1, d2] => { results := [.lit (.bool true)], args := [d1, d2] }
  | _ => none }
def fnExactMovePolygonRow : OpenClaim := { program := "ytgecnidndjbdaaa", sum := "ba51a8f3e3e0f15887bd3940777f1615120fa5b8f56e341558cade01af3a06ce", func := "loop.example/g00959/laws.FnExactMovePolygon", spec := "fnExactMovePolygon", unfollowed := true, recurses := true, apart := false }
def FnExactMovePolygonSaid : Prop := fnExactMovePolygonRow.holds Try.pinned (OpenSpec.ofChange fnExactMovePolygonSpec)

/-- ITS FALSE NEIGHBOUR: 'it returns false'. Refute it at one input. -/
def fnExactMovePolygonWrong : ChangeSpec := { name := "fnExactMovePolygon", fn := fun _ => fun
  | [d1, d2] => { results := [.lit (.bool false)], args := [d1, d2] }
  | _ => none }
def FnExactMovePolygonWrongFalsely : Prop := fnExactMovePolygonRow.holds Try.pinned (OpenSpec.ofChange fnExactMovePolygonWrong)

/-- 'laws.FnExactNormalPolygon': WHATEVER THE INPUT: true; the input reads as it did. -/
def fnExactNormalPolygonSpec : ChangeSpec := { name := "fnExactNormalPolygon", fn := fun _ => fun
  | [d] => { results := [.lit (.bool true)], args := [d] }
  | _ => none }
def fnExactNormalPolygonRow : OpenClaim := { program := "ytgecnidndjbdaaa", sum := "ba51a8f3e3e0f15887bd3940777f1615120fa5b8f56e341558cade01af3a06ce", func := "loop.example/g00959/laws.FnExactNormalPolygon", spec := "fnExactNormalPolygon", unfollowed := true, recurses := true, apart := false }
def FnExactNormalPolygonSaid : Prop := fnExactNormalPolygonRow.holds Try.pinned (OpenSpec.ofChange fnExactNormalPolygonSpec)

/-- ITS FALSE NEIGHBOUR: 'it returns false'. Refute it at one input. -/
def fnExactNormalPolygonWrong : ChangeSpec := { name := "fnExactNormalPolygon", fn := fun _ => fun
  | [d] => { results := [.lit (.bool false)], args := [d] }
  | _ => none }
def FnExactNormalPolygonWrongFalsely : Prop := fnExactNormalPolygonRow.holds Try.pinned (OpenSpec.ofChange fnExactNormalPolygonWrong)

/-- 'laws.FnExactAreMoved': WHATEVER THE INPUT: true; the input reads as it did. -/
def fnExactAreMovedSpec : ChangeSpec := { name := "fnExactAreMoved", fn := fun _ => fun
  | [d1, d2] => { results := [.lit (.bool true)], args := [d1, d2] }
  | _ => none }
def fnExactAreMovedRow : OpenClaim := { program := "ytgecnidndjbdaaa", sum := "ba51a8f3e3e0f15887bd3940777f1615120fa5b8f56e341558cade01af3a06ce", func := "loop.example/g00959/laws.FnExactAreMoved", spec := "fnExactAreMoved", unfollowed := true, recurses := true, apart := false }
def FnExactAreMovedSaid : Prop := fnExactAreMovedRow.holds Try.pinned (OpenSpec.ofChange fnExactAreMovedSpec)

/-- ITS FALSE NEIGHBOUR: 'it returns false'. Refute it at one input. -/
def fnExactAreMovedWrong : ChangeSpec := { name := "fnExactAreMoved", fn := fun _ => fun
  | [d1, d2] => { results := [.lit (.bool false)], args := [d1, d2] }
  | _ => none }
def FnExactAreMovedWrongFalsely : Prop := fnExactAreMovedRow.holds Try.pinned (OpenSpec.ofChange fnExactAreMovedWrong)

/- THE SECOND FORM. 'bulk': how many values and letters a reading holds, each counted each time it is reached (what is shared counts as often as it is met; a slice's spare places count too). A statement '..UptoSaid' is the law's where the arguments, and the package variables that the reading takes, are together of bulk at most 1048576: NARROWER than '..Said'. Prove '..Said' where nothing that the law and all that it calls make is longer than what came in: it says more and counts as full. Else prove '..UptoSaid'. A law counts once. -/
mutual
def uptoBulk {H : Type} : DataW H → Nat
  | .lit (.string bytes) => bytes.length + 1
  | .lit _ => 1
  | .nil => 1
  | .ptr d => uptoBulk d + 1
  | .slice elems spare => uptoBulkAll elems + uptoBulkAll spare + 1
  | .agg parts => uptoBulkAll parts + 1
  | .iface _ d => uptoBulk d + 1
  | .map entries => uptoBulkEntries entries + 1
  | .held _ => 1
def uptoBulkAll {H : Type} : List (DataW H) → Nat
  | [] => 0
  | d :: r => uptoBulk d + uptoBulkAll r
def uptoBulkEntries {H : Type} : List (Lit × DataW H) → Nat
  | [] => 0
  | x :: r => uptoBulkEntry x + uptoBulkEntries r
def uptoBulkEntry {H : Type} : Lit × DataW H → Nat
  | (.string bytes, d) => bytes.length + uptoBulk d + 1
  | (_, d) => uptoBulk d + 1
 end
def uptoSmall : (H : Type) → List (DataW H) → Bool := fun _ ds => decide (uptoBulkAll ds ≤ 1048576)
def OpenSpec.upto (s : _root_.Go.ChangeSpec) : _root_.Go.OpenSpec := { _root_.Go.OpenSpec.ofChange s with cond := some uptoSmall }

/-- 'laws.FnExactIsMove', WHERE WHAT IT READS IS OF BULK AT MOST 1048576: true; the input reads as it did. -/
def fnExactIsMoveUptoRow : OpenClaim := { program := "ytgecnidndjbdaaa", sum := "ba51a8f3e3e0f15887bd3940777f1615120fa5b8f56e341558cade01af3a06ce", func := "loop.example/g00959/laws.FnExactIsMove", spec := "fnExactIsMove", recurses := true, apart := false, narrowed := true }
def FnExactIsMoveUptoSaid : Prop := fnExactIsMoveUptoRow.holds Try.pinned (OpenSpec.upto fnExactIsMoveSpec)

/-- 'laws.FnExactInverseMove', WHERE WHAT IT READS IS OF BULK AT MOST 1048576: true; the input reads as it did. -/
def fnExactInverseMoveUptoRow : OpenClaim := { program := "ytgecnidndjbdaaa", sum := "ba51a8f3e3e0f15887bd3940777f1615120fa5b8f56e341558cade01af3a06ce", func := "loop.example/g00959/laws.FnExactInverseMove", spec := "fnExactInverseMove", recurses := true, apart := false, narrowed := true }
def FnExactInverseMoveUptoSaid : Prop := fnExactInverseMoveUptoRow.holds Try.pinned (OpenSpec.upto fnExactInverseMoveSpec)

/-- 'laws.FnExactClassLeaders', WHERE WHAT IT READS IS OF BULK AT MOST 1048576: true; the input reads as it did. -/
def fnExactClassLeadersUptoRow : OpenClaim := { program := "ytgecnidndjbdaaa", sum := "ba51a8f3e3e0f15887bd3940777f1615120fa5b8f56e341558cade01af3a06ce", func := "loop.example/g00959/laws.FnExactClassLeaders", spec := "fnExactClassLeaders", recurses := true, apart := false, narrowed := true }
def FnExactClassLeadersUptoSaid : Prop := fnExactClassLeadersUptoRow.holds Try.pinned (OpenSpec.upto fnExactClassLeadersSpec)

/-- 'laws.FnExactCellPoints', WHERE WHAT IT READS IS OF BULK AT MOST 1048576: true; the input reads as it did. -/
def fnExactCellPointsUptoRow : OpenClaim := { program := "ytgecnidndjbdaaa", sum := "ba51a8f3e3e0f15887bd3940777f1615120fa5b8f56e341558cade01af3a06ce", func := "loop.example/g00959/laws.FnExactCellPoints", spec := "fnExactCellPoints", unfollowed := true, recurses := true, apart := false, narrowed := true }
def FnExactCellPointsUptoSaid : Prop := fnExactCellPointsUptoRow.holds Try.pinned (OpenSpec.upto fnExactCellPointsSpec)

/-- 'laws.FnExactMovePolygon', WHERE WHAT IT READS IS OF BULK AT MOST 1048576: true; the input reads as it did. -/
def fnExactMovePolygonUptoRow : OpenClaim := { program := "ytgecnidndjbdaaa", sum := "ba51a8f3e3e0f15887bd3940777f1615120fa5b8f56e341558cade01af3a06ce", func := "loop.example/g00959/laws.FnExactMovePolygon", spec := "fnExactMovePolygon", unfollowed := true, recurses := true, apart := false, narrowed := true }
def FnExactMovePolygonUptoSaid : Prop := fnExactMovePolygonUptoRow.holds Try.pinned (OpenSpec.upto fnExactMovePolygonSpec)

/-- 'laws.FnExactNormalPolygon', WHERE WHAT IT READS IS OF BULK AT MOST 1048576: true; the input reads as it did. -/
def fnExactNormalPolygonUptoRow : OpenClaim := { program := "ytgecnidndjbdaaa", sum := "ba51a8f3e3e0f15887bd3940777f1615120fa5b8f56e341558cade01af3a06ce", func := "loop.example/g00959/laws.FnExactNormalPolygon", spec := "fnExactNormalPolygon", unfollowed := true, recurses := true, apart := false, narrowed := true }
def FnExactNormalPolygonUptoSaid : Prop := fnExactNormalPolygonUptoRow.holds Try.pinned (OpenSpec.upto fnExactNormalPolygonSpec)

/-- 'laws.FnExactAreMoved', WHERE WHAT IT READS IS OF BULK AT MOST 1048576: true; the input reads as it did. -/
def fnExactAreMovedUptoRow : OpenClaim := { program := "ytgecnidndjbdaaa", sum := "ba51a8f3e3e0f15887bd3940777f1615120fa5b8f56e341558cade01af3a06ce", func := "loop.example/g00959/laws.FnExactAreMoved", spec := "fnExactAreMoved", unfollowed := true, recurses := true, apart := false, narrowed := true }
def FnExactAreMovedUptoSaid : Prop := fnExactAreMovedUptoRow.holds Try.pinned (OpenSpec.upto fnExactAreMovedSpec)

end Rows
end Go.Proofs.Ytgecnidndjbdaaa
