/-
  No cell of these rows narrows 'for every input' (looked for: loops, veiled, ifaces, maps, wideKeys, modest, calm, conditions, laid).
  DERIVED. THE GIVEN ROWS OF THIS SEAT. 12 by the template 'for every input the law returns true; each argument reads behind the call as it read before'; 0 by the template 'total and deterministic' (their statements: YtibninlggdpnkaaTotals.lean).
  GIVEN WITH THE SEED: the statements are not yours to turn. If you find one false, say at which input.
  Laid BY PROGRAM, IN A SANDBOX (cutbox-rows.mjs): the forced cells as the released guide's own fill.sh prints them over the translation 3c31320112c21f0b… (all of the seat's roots in one cut). By AI agents, Wed Nov 11 2026. No macro, syntax, notation, axiom, sorry.
-/
import Derived.Test.YtibninlggdpnkaaChecked
import GoSem.Claim
import GoSem.ClaimJoined
import GoSem.ClaimMapViews
import Derived.JoinedTies
import Derived.KernelRfl
namespace Go.Proofs.Ytibninlggdpnkaa
/- THE CELL 'sum', in the pinned program and in every row, IS THE sha256 OF THE DUMP (.gsa) THAT YtibninlggdpnkaaProg.lean LOADS. Nothing in Lean hashes anything: it is a label: what it is worth is what the hold of that sum in a sandbox is worth. -/
noncomputable def Try.pinned : Pinned := { name := "ytibninlggdpnkaa", sum := "3c31320112c21f0b0e1316615e185b620f1e6dfb564719a3393638b0034b46e5", checked := Try.checked }
namespace Rows
def none {H : Type} : Left H := { results := [], args := [] }

/-- 'laws.FnExactCountWays': WHATEVER THE INPUT: true; the input reads as it did. -/
def fnExactCountWaysSpec : ChangeSpec := { name := "fnExactCountWays", fn := fun _ => fun
  | [d1, d2] => { results := [.lit (.bool true)], args := [d1, d2] }
  | _ => none }
def fnExactCountWaysRow : OpenClaim := { program := "ytibninlggdpnkaa", sum := "3c31320112c21f0b0e1316615e185b620f1e6dfb564719a3393638b0034b46e5", func := "loop.example/g00959/laws.FnExactCountWays", spec := "fnExactCountWays", apart := false }
def FnExactCountWaysSaid : Prop := fnExactCountWaysRow.holds Try.pinned (OpenSpec.ofChange fnExactCountWaysSpec)

/-- ITS FALSE NEIGHBOUR: 'it returns false'. Refute it at one input. -/
def fnExactCountWaysWrong : ChangeSpec := { name := "fnExactCountWays", fn := fun _ => fun
  | [d1, d2] => { results := [.lit (.bool false)], args := [d1, d2] }
  | _ => none }
def FnExactCountWaysWrongFalsely : Prop := fnExactCountWaysRow.holds Try.pinned (OpenSpec.ofChange fnExactCountWaysWrong)

/-- 'laws.FnExactFewestCoins': WHATEVER THE INPUT: true; the input reads as it did. -/
def fnExactFewestCoinsSpec : ChangeSpec := { name := "fnExactFewestCoins", fn := fun _ => fun
  | [d1, d2] => { results := [.lit (.bool true)], args := [d1, d2] }
  | _ => none }
def fnExactFewestCoinsRow : OpenClaim := { program := "ytibninlggdpnkaa", sum := "3c31320112c21f0b0e1316615e185b620f1e6dfb564719a3393638b0034b46e5", func := "loop.example/g00959/laws.FnExactFewestCoins", spec := "fnExactFewestCoins", apart := false }
def FnExactFewestCoinsSaid : Prop := fnExactFewestCoinsRow.holds Try.pinned (OpenSpec.ofChange fnExactFewestCoinsSpec)

/-- ITS FALSE NEIGHBOUR: 'it returns false'. Refute it at one input. -/
def fnExactFewestCoinsWrong : ChangeSpec := { name := "fnExactFewestCoins", fn := fun _ => fun
  | [d1, d2] => { results := [.lit (.bool false)], args := [d1, d2] }
  | _ => none }
def FnExactFewestCoinsWrongFalsely : Prop := fnExactFewestCoinsRow.holds Try.pinned (OpenSpec.ofChange fnExactFewestCoinsWrong)

/-- 'laws.FnExactGreatestGap': WHATEVER THE INPUT: true; the input reads as it did. -/
def fnExactGreatestGapSpec : ChangeSpec := { name := "fnExactGreatestGap", fn := fun _ => fun
  | [d] => { results := [.lit (.bool true)], args := [d] }
  | _ => none }
def fnExactGreatestGapRow : OpenClaim := { program := "ytibninlggdpnkaa", sum := "3c31320112c21f0b0e1316615e185b620f1e6dfb564719a3393638b0034b46e5", func := "loop.example/g00959/laws.FnExactGreatestGap", spec := "fnExactGreatestGap", apart := false }
def FnExactGreatestGapSaid : Prop := fnExactGreatestGapRow.holds Try.pinned (OpenSpec.ofChange fnExactGreatestGapSpec)

/-- ITS FALSE NEIGHBOUR: 'it returns false'. Refute it at one input. -/
def fnExactGreatestGapWrong : ChangeSpec := { name := "fnExactGreatestGap", fn := fun _ => fun
  | [d] => { results := [.lit (.bool false)], args := [d] }
  | _ => none }
def FnExactGreatestGapWrongFalsely : Prop := fnExactGreatestGapRow.holds Try.pinned (OpenSpec.ofChange fnExactGreatestGapWrong)

/-- 'laws.FnExactCountTerms': WHATEVER THE INPUT: true; the input reads as it did. -/
def fnExactCountTermsSpec : ChangeSpec := { name := "fnExactCountTerms", fn := fun _ => fun
  | [d] => { results := [.lit (.bool true)], args := [d] }
  | _ => none }
def fnExactCountTermsRow : OpenClaim := { program := "ytibninlggdpnkaa", sum := "3c31320112c21f0b0e1316615e185b620f1e6dfb564719a3393638b0034b46e5", func := "loop.example/g00959/laws.FnExactCountTerms", spec := "fnExactCountTerms", apart := false }
def FnExactCountTermsSaid : Prop := fnExactCountTermsRow.holds Try.pinned (OpenSpec.ofChange fnExactCountTermsSpec)

/-- ITS FALSE NEIGHBOUR: 'it returns false'. Refute it at one input. -/
def fnExactCountTermsWrong : ChangeSpec := { name := "fnExactCountTerms", fn := fun _ => fun
  | [d] => { results := [.lit (.bool false)], args := [d] }
  | _ => none }
def FnExactCountTermsWrongFalsely : Prop := fnExactCountTermsRow.holds Try.pinned (OpenSpec.ofChange fnExactCountTermsWrong)

/-- 'laws.FnExactPointsValue': WHATEVER THE INPUT: true; the input reads as it did. -/
def fnExactPointsValueSpec : ChangeSpec := { name := "fnExactPointsValue", fn := fun _ => fun
  | [d1, d2, d3] => { results := [.lit (.bool true)], args := [d1, d2, d3] }
  | _ => none }
def fnExactPointsValueRow : OpenClaim := { program := "ytibninlggdpnkaa", sum := "3c31320112c21f0b0e1316615e185b620f1e6dfb564719a3393638b0034b46e5", func := "loop.example/g00959/laws.FnExactPointsValue", spec := "fnExactPointsValue", apart := false }
def FnExactPointsValueSaid : Prop := fnExactPointsValueRow.holds Try.pinned (OpenSpec.ofChange fnExactPointsValueSpec)

/-- ITS FALSE NEIGHBOUR: 'it returns false'. Refute it at one input. -/
def fnExactPointsValueWrong : ChangeSpec := { name := "fnExactPointsValue", fn := fun _ => fun
  | [d1, d2, d3] => { results := [.lit (.bool false)], args := [d1, d2, d3] }
  | _ => none }
def FnExactPointsValueWrongFalsely : Prop := fnExactPointsValueRow.holds Try.pinned (OpenSpec.ofChange fnExactPointsValueWrong)

/-- 'laws.FnExactIsCone': WHATEVER THE INPUT: true; the input reads as it did. -/
def fnExactIsConeSpec : ChangeSpec := { name := "fnExactIsCone", fn := fun _ => fun
  | [d] => { results := [.lit (.bool true)], args := [d] }
  | _ => none }
def fnExactIsConeRow : OpenClaim := { program := "ytibninlggdpnkaa", sum := "3c31320112c21f0b0e1316615e185b620f1e6dfb564719a3393638b0034b46e5", func := "loop.example/g00959/laws.FnExactIsCone", spec := "fnExactIsCone", apart := false }
def FnExactIsConeSaid : Prop := fnExactIsConeRow.holds Try.pinned (OpenSpec.ofChange fnExactIsConeSpec)

/-- ITS FALSE NEIGHBOUR: 'it returns false'. Refute it at one input. -/
def fnExactIsConeWrong : ChangeSpec := { name := "fnExactIsCone", fn := fun _ => fun
  | [d] => { results := [.lit (.bool false)], args := [d] }
  | _ => none }
def FnExactIsConeWrongFalsely : Prop := fnExactIsConeRow.holds Try.pinned (OpenSpec.ofChange fnExactIsConeWrong)

/-- 'laws.FnExactInCone': WHATEVER THE INPUT: true; the input reads as it did. -/
def fnExactInConeSpec : ChangeSpec := { name := "fnExactInCone", fn := fun _ => fun
  | [d1, d2] => { results := [.lit (.bool true)], args := [d1, d2] }
  | _ => none }
def fnExactInConeRow : OpenClaim := { program := "ytibninlggdpnkaa", sum := "3c31320112c21f0b0e1316615e185b620f1e6dfb564719a3393638b0034b46e5", func := "loop.example/g00959/laws.FnExactInCone", spec := "fnExactInCone", apart := false }
def FnExactInConeSaid : Prop := fnExactInConeRow.holds Try.pinned (OpenSpec.ofChange fnExactInConeSpec)

/-- ITS FALSE NEIGHBOUR: 'it returns false'. Refute it at one input. -/
def fnExactInConeWrong : ChangeSpec := { name := "fnExactInCone", fn := fun _ => fun
  | [d1, d2] => { results := [.lit (.bool false)], args := [d1, d2] }
  | _ => none }
def FnExactInConeWrongFalsely : Prop := fnExactInConeRow.holds Try.pinned (OpenSpec.ofChange fnExactInConeWrong)

/-- 'laws.FnExactConeIndex': WHATEVER THE INPUT: true; the input reads as it did. -/
def fnExactConeIndexSpec : ChangeSpec := { name := "fnExactConeIndex", fn := fun _ => fun
  | [d] => { results := [.lit (.bool true)], args := [d] }
  | _ => none }
def fnExactConeIndexRow : OpenClaim := { program := "ytibninlggdpnkaa", sum := "3c31320112c21f0b0e1316615e185b620f1e6dfb564719a3393638b0034b46e5", func := "loop.example/g00959/laws.FnExactConeIndex", spec := "fnExactConeIndex", apart := false }
def FnExactConeIndexSaid : Prop := fnExactConeIndexRow.holds Try.pinned (OpenSpec.ofChange fnExactConeIndexSpec)

/-- ITS FALSE NEIGHBOUR: 'it returns false'. Refute it at one input. -/
def fnExactConeIndexWrong : ChangeSpec := { name := "fnExactConeIndex", fn := fun _ => fun
  | [d] => { results := [.lit (.bool false)], args := [d] }
  | _ => none }
def FnExactConeIndexWrongFalsely : Prop := fnExactConeIndexRow.holds Try.pinned (OpenSpec.ofChange fnExactConeIndexWrong)

/-- 'laws.FnExactConeOfTurns': WHATEVER THE INPUT: true; the input reads as it did. -/
def fnExactConeOfTurnsSpec : ChangeSpec := { name := "fnExactConeOfTurns", fn := fun _ => fun
  | [d] => { results := [.lit (.bool true)], args := [d] }
  | _ => none }
def fnExactConeOfTurnsRow : OpenClaim := { program := "ytibninlggdpnkaa", sum := "3c31320112c21f0b0e1316615e185b620f1e6dfb564719a3393638b0034b46e5", func := "loop.example/g00959/laws.FnExactConeOfTurns", spec := "fnExactConeOfTurns", apart := false }
def FnExactConeOfTurnsSaid : Prop := fnExactConeOfTurnsRow.holds Try.pinned (OpenSpec.ofChange fnExactConeOfTurnsSpec)

/-- ITS FALSE NEIGHBOUR: 'it returns false'. Refute it at one input. -/
def fnExactConeOfTurnsWrong : ChangeSpec := { name := "fnExactConeOfTurns", fn := fun _ => fun
  | [d] => { results := [.lit (.bool false)], args := [d] }
  | _ => none }
def FnExactConeOfTurnsWrongFalsely : Prop := fnExactConeOfTurnsRow.holds Try.pinned (OpenSpec.ofChange fnExactConeOfTurnsWrong)

/-- 'laws.FnExactIsTerm': WHATEVER THE INPUT: true; the input reads as it did. -/
def fnExactIsTermSpec : ChangeSpec := { name := "fnExactIsTerm", fn := fun _ => fun
  | [d] => { results := [.lit (.bool true)], args := [d] }
  | _ => none }
def fnExactIsTermRow : OpenClaim := { program := "ytibninlggdpnkaa", sum := "3c31320112c21f0b0e1316615e185b620f1e6dfb564719a3393638b0034b46e5", func := "loop.example/g00959/laws.FnExactIsTerm", spec := "fnExactIsTerm", apart := false }
def FnExactIsTermSaid : Prop := fnExactIsTermRow.holds Try.pinned (OpenSpec.ofChange fnExactIsTermSpec)

/-- ITS FALSE NEIGHBOUR: 'it returns false'. Refute it at one input. -/
def fnExactIsTermWrong : ChangeSpec := { name := "fnExactIsTerm", fn := fun _ => fun
  | [d] => { results := [.lit (.bool false)], args := [d] }
  | _ => none }
def FnExactIsTermWrongFalsely : Prop := fnExactIsTermRow.holds Try.pinned (OpenSpec.ofChange fnExactIsTermWrong)

/-- 'laws.FnExactTermValue': WHATEVER THE INPUT: true; the input reads as it did. -/
def fnExactTermValueSpec : ChangeSpec := { name := "fnExactTermValue", fn := fun _ => fun
  | [d1, d2, d3] => { results := [.lit (.bool true)], args := [d1, d2, d3] }
  | _ => none }
def fnExactTermValueRow : OpenClaim := { program := "ytibninlggdpnkaa", sum := "3c31320112c21f0b0e1316615e185b620f1e6dfb564719a3393638b0034b46e5", func := "loop.example/g00959/laws.FnExactTermValue", spec := "fnExactTermValue", apart := false }
def FnExactTermValueSaid : Prop := fnExactTermValueRow.holds Try.pinned (OpenSpec.ofChange fnExactTermValueSpec)

/-- ITS FALSE NEIGHBOUR: 'it returns false'. Refute it at one input. -/
def fnExactTermValueWrong : ChangeSpec := { name := "fnExactTermValue", fn := fun _ => fun
  | [d1, d2, d3] => { results := [.lit (.bool false)], args := [d1, d2, d3] }
  | _ => none }
def FnExactTermValueWrongFalsely : Prop := fnExactTermValueRow.holds Try.pinned (OpenSpec.ofChange fnExactTermValueWrong)

/-- 'laws.FnExactTermAt': WHATEVER THE INPUT: true; the input reads as it did. -/
def fnExactTermAtSpec : ChangeSpec := { name := "fnExactTermAt", fn := fun _ => fun
  | [d1, d2] => { results := [.lit (.bool true)], args := [d1, d2] }
  | _ => none }
def fnExactTermAtRow : OpenClaim := { program := "ytibninlggdpnkaa", sum := "3c31320112c21f0b0e1316615e185b620f1e6dfb564719a3393638b0034b46e5", func := "loop.example/g00959/laws.FnExactTermAt", spec := "fnExactTermAt", apart := false }
def FnExactTermAtSaid : Prop := fnExactTermAtRow.holds Try.pinned (OpenSpec.ofChange fnExactTermAtSpec)

/-- ITS FALSE NEIGHBOUR: 'it returns false'. Refute it at one input. -/
def fnExactTermAtWrong : ChangeSpec := { name := "fnExactTermAt", fn := fun _ => fun
  | [d1, d2] => { results := [.lit (.bool false)], args := [d1, d2] }
  | _ => none }
def FnExactTermAtWrongFalsely : Prop := fnExactTermAtRow.holds Try.pinned (OpenSpec.ofChange fnExactTermAtWrong)

/- THE SECOND FORM. 'bulk': how many values and letters a reading holds, each counted each time it is reached (what is shared counts as often as it is met; a slice's spare places count too). A statement '..UptoSaid' is the law's where the arguments, and the package variables that the reading takes, are together of bulk at most 1048576: NARROWER than '..Said'. Prove '..Said' where nothing that the law and all that it calls make is longer than what came in: it says more and counts as full. Else prove '..UptoSaid'. A law counts once. -/
mutual
def uptoBulk {H : Type} : DataW H → Nat
  | .lit (.string bytes) => bytes.length + 1
  | .lit _ => 1
  | .nil => 1
  | .ptr d => uptoBulk d + 1
  | .slice elems spare => uptoBulkAll elems + uptoBulkAll spare + 1
  | .agg parts => uptoBulkAll parts + 1
  | .iface _ d => uptoBulk d + 1
  | .map entries => uptoBulkEntries entries + 1
  | .held _ => 1
def uptoBulkAll {H : Type} : List (DataW H) → Nat
  | [] => 0
  | d :: r => uptoBulk d + uptoBulkAll r
def uptoBulkEntries {H : Type} : List (Lit × DataW H) → Nat
  | [] => 0
  | x :: r => uptoBulkEntry x + uptoBulkEntries r
def uptoBulkEntry {H : Type} : Lit × DataW H → Nat
  | (.string bytes, d) => bytes.length + uptoBulk d + 1
  | (_, d) => uptoBulk d + 1
 end
def uptoSmall : (H : Type) → List (DataW H) → Bool := fun _ ds => decide (uptoBulkAll ds ≤ 1048576)
def OpenSpec.upto (s : _root_.Go.ChangeSpec) : _root_.Go.OpenSpec := { _root_.Go.OpenSpec.ofChange s with cond := some uptoSmall }

/-- 'laws.FnExactCountWays', WHERE WHAT IT READS IS OF BULK AT MOST 1048576: true; the input reads as it did. -/
def fnExactCountWaysUptoRow : OpenClaim := { program := "ytibninlggdpnkaa", sum := "3c31320112c21f0b0e1316615e185b620f1e6dfb564719a3393638b0034b46e5", func := "loop.example/g00959/laws.FnExactCountWays", spec := "fnExactCountWays", apart := false, narrowed := true }
def FnExactCountWaysUptoSaid : Prop := fnExactCountWaysUptoRow.holds Try.pinned (OpenSpec.upto fnExactCountWaysSpec)

/-- 'laws.FnExactFewestCoins', WHERE WHAT IT READS IS OF BULK AT MOST 1048576: true; the input reads as it did. -/
def fnExactFewestCoinsUptoRow : OpenClaim := { program := "ytibninlggdpnkaa", sum := "3c31320112c21f0b0e1316615e185b620f1e6dfb564719a3393638b0034b46e5", func := "loop.example/g00959/laws.FnExactFewestCoins", spec := "fnExactFewestCoins", apart := false, narrowed := true }
def FnExactFewestCoinsUptoSaid : Prop := fnExactFewestCoinsUptoRow.holds Try.pinned (OpenSpec.upto fnExactFewestCoinsSpec)

/-- 'laws.FnExactGreatestGap', WHERE WHAT IT READS IS OF BULK AT MOST 1048576: true; the input reads as it did. -/
def fnExactGreatestGapUptoRow : OpenClaim := { program := "ytibninlggdpnkaa", sum := "3c31320112c21f0b0e1316615e185b620f1e6dfb564719a3393638b0034b46e5", func := "loop.example/g00959/laws.FnExactGreatestGap", spec := "fnExactGreatestGap", apart := false, narrowed := true }
def FnExactGreatestGapUptoSaid : Prop := fnExactGreatestGapUptoRow.holds Try.pinned (OpenSpec.upto fnExactGreatestGapSpec)

/-- 'laws.FnExactCountTerms', WHERE WHAT IT READS IS OF BULK AT MOST 1048576: true; the input reads as it did. -/
def fnExactCountTermsUptoRow : OpenClaim := { program := "ytibninlggdpnkaa", sum := "3c31320112c21f0b0e1316615e185b620f1e6dfb564719a3393638b0034b46e5", func := "loop.example/g00959/laws.FnExactCountTerms", spec := "fnExactCountTerms", apart := false, narrowed := true }
def FnExactCountTermsUptoSaid : Prop := fnExactCountTermsUptoRow.holds Try.pinned (OpenSpec.upto fnExactCountTermsSpec)

/-- 'laws.FnExactPointsValue', WHERE WHAT IT READS IS OF BULK AT MOST 1048576: true; the input reads as it did. -/
def fnExactPointsValueUptoRow : OpenClaim := { program := "ytibninlggdpnkaa", sum := "3c31320112c21f0b0e1316615e185b620f1e6dfb564719a3393638b0034b46e5", func := "loop.example/g00959/laws.FnExactPointsValue", spec := "fnExactPointsValue", apart := false, narrowed := true }
def FnExactPointsValueUptoSaid : Prop := fnExactPointsValueUptoRow.holds Try.pinned (OpenSpec.upto fnExactPointsValueSpec)

/-- 'laws.FnExactIsCone', WHERE WHAT IT READS IS OF BULK AT MOST 1048576: true; the input reads as it did. -/
def fnExactIsConeUptoRow : OpenClaim := { program := "ytibninlggdpnkaa", sum := "3c31320112c21f0b0e1316615e185b620f1e6dfb564719a3393638b0034b46e5", func := "loop.example/g00959/laws.FnExactIsCone", spec := "fnExactIsCone", apart := false, narrowed := true }
def FnExactIsConeUptoSaid : Prop := fnExactIsConeUptoRow.holds Try.pinned (OpenSpec.upto fnExactIsConeSpec)

/-- 'laws.FnExactInCone', WHERE WHAT IT READS IS OF BULK AT MOST 1048576: true; the input reads as it did. -/
def fnExactInConeUptoRow : OpenClaim := { program := "ytibninlggdpnkaa", sum := "3c31320112c21f0b0e1316615e185b620f1e6dfb564719a3393638b0034b46e5", func := "loop.example/g00959/laws.FnExactInCone", spec := "fnExactInCone", apart := false, narrowed := true }
def FnExactInConeUptoSaid : Prop := fnExactInConeUptoRow.holds Try.pinned (OpenSpec.upto fnExactInConeSpec)

/-- 'laws.FnExactConeIndex', WHERE WHAT IT READS IS OF BULK AT MOST 1048576: true; the input reads as it did. -/
def fnExactConeIndexUptoRow : OpenClaim := { program := "ytibninlggdpnkaa", sum := "3c31320112c21f0b0e1316615e185b620f1e6dfb564719a3393638b0034b46e5", func := "loop.example/g00959/laws.FnExactConeIndex", spec := "fnExactConeIndex", apart := false, narrowed := true }
def FnExactConeIndexUptoSaid : Prop := fnExactConeIndexUptoRow.holds Try.pinned (OpenSpec.upto fnExactConeIndexSpec)

/-- 'laws.FnExactConeOfTurns', WHERE WHAT IT READS IS OF BULK AT MOST 1048576: true; the input reads as it did. -/
def fnExactConeOfTurnsUptoRow : OpenClaim := { program := "ytibninlggdpnkaa", sum := "3c31320112c21f0b0e1316615e185b620f1e6dfb564719a3393638b0034b46e5", func := "loop.example/g00959/laws.FnExactConeOfTurns", spec := "fnExactConeOfTurns", apart := false, narrowed := true }
def FnExactConeOfTurnsUptoSaid : Prop := fnExactConeOfTurnsUptoRow.holds Try.pinned (OpenSpec.upto fnExactConeOfTurnsSpec)

/-- 'laws.FnExactIsTerm', WHERE WHAT IT READS IS OF BULK AT MOST 1048576: true; the input reads as it did. -/
def fnExactIsTermUptoRow : OpenClaim := { program := "ytibninlggdpnkaa", sum := "3c31320112c21f0b0e1316615e185b620f1e6dfb564719a3393638b0034b46e5", func := "loop.example/g00959/laws.FnExactIsTerm", spec := "fnExactIsTerm", apart := false, narrowed := true }
def FnExactIsTermUptoSaid : Prop := fnExactIsTermUptoRow.holds Try.pinned (OpenSpec.upto fnExactIsTermSpec)

/-- 'laws.FnExactTermValue', WHERE WHAT IT READS IS OF BULK AT MOST 1048576: true; the input reads as it did. -/
def fnExactTermValueUptoRow : OpenClaim := { program := "ytibninlggdpnkaa", sum := "3c31320112c21f0b0e1316615e185b620f1e6dfb564719a3393638b0034b46e5", func := "loop.example/g00959/laws.FnExactTermValue", spec := "fnExactTermValue", apart := false, narrowed := true }
def FnExactTermValueUptoSaid : Prop := fnExactTermValueUptoRow.holds Try.pinned (OpenSpec.upto fnExactTermValueSpec)

/-- 'laws.FnExactTermAt', WHERE WHAT IT READS IS OF BULK AT MOST 1048576: true; the input reads as it did. -/
def fnExactTermAtUptoRow : OpenClaim := { program := "ytibninlggdpnkaa", sum := "3c31320112c21f0b0e1316615e185b620f1e6dfb564719a3393638b0034b46e5", func := "loop.example/g00959/laws.FnExactTermAt", spec := "fnExactTermAt", apart := false, narrowed := true }
def FnExactTermAtUptoSaid : Prop := fnExactTermAtUptoRow.holds Try.pinned (OpenSpec.upto fnExactTermAtSpec)

end Rows
end Go.Proofs.Ytibninlggdpnkaa
