/-
  No cell of these rows narrows 'for every input' (looked for: loops, veiled, ifaces, maps, wideKeys, modest, calm, conditions, laid).
  DERIVED. THE GIVEN ROWS OF THIS SEAT. 11 by the template 'for every input the law returns true; each argument reads behind the call as it read before'; 0 by the template 'total and deterministic' (their statements: YtchkcjpahlimjaaTotals.lean).
  GIVEN WITH THE SEED: the statements are not yours to turn. If you find one false, say at which input.
  Laid BY PROGRAM, IN A SANDBOX (cutbox-rows.mjs): the forced cells as the released guide's own fill.sh prints them over the translation 62706ae3877bd4f8… (all of the seat's roots in one cut). By AI agents, Wed Nov 11 2026. No macro, syntax, notation, axiom, sorry.
-/
import Derived.Test.YtchkcjpahlimjaaChecked
import GoSem.Claim
import GoSem.ClaimJoined
import GoSem.ClaimMapViews
import Derived.JoinedTies
import Derived.KernelRfl
namespace Go.Proofs.Ytchkcjpahlimjaa
/- THE CELL 'sum', in the pinned program and in every row, IS THE sha256 OF THE DUMP (.gsa) THAT YtchkcjpahlimjaaProg.lean LOADS. Nothing in Lean hashes anything: it is a label: what it is worth is what the hold of that sum in a sandbox is worth. -/
noncomputable def Try.pinned : Pinned := { name := "ytchkcjpahlimjaa", sum := "62706ae3877bd4f87d7006ccd5a72104a5b86c798e82b963708020a886dd519b", checked := Try.checked }
namespace Rows
def none {H : Type} : Left H := { results := [], args := [] }

/-- 'laws.FnExactSplitCone': WHATEVER THE INPUT: true; the input reads as it did. -/
def fnExactSplitConeSpec : ChangeSpec := { name := "fnExactSplitCone", fn := fun _ => fun
  | [d] => { results := [.lit (.bool true)], args := [d] }
  | _ => none }
def fnExactSplitConeRow : OpenClaim := { program := "ytchkcjpahlimjaa", sum := "62706ae3877bd4f87d7006ccd5a72104a5b86c798e82b963708020a886dd519b", func := "loop.example/g00959/laws.FnExactSplitCone", spec := "fnExactSplitCone", apart := false }
def FnExactSplitConeSaid : Prop := fnExactSplitConeRow.holds Try.pinned (OpenSpec.ofChange fnExactSplitConeSpec)

/-- ITS FALSE NEIGHBOUR: 'it returns false'. Refute it at one input. -/
def fnExactSplitConeWrong : ChangeSpec := { name := "fnExactSplitCone", fn := fun _ => fun
  | [d] => { results := [.lit (.bool false)], args := [d] }
  | _ => none }
def FnExactSplitConeWrongFalsely : Prop := fnExactSplitConeRow.holds Try.pinned (OpenSpec.ofChange fnExactSplitConeWrong)

/-- 'laws.FnExactTurnsOf': WHATEVER THE INPUT: true; the input reads as it did. -/
def fnExactTurnsOfSpec : ChangeSpec := { name := "fnExactTurnsOf", fn := fun _ => fun
  | [d] => { results := [.lit (.bool true)], args := [d] }
  | _ => none }
def fnExactTurnsOfRow : OpenClaim := { program := "ytchkcjpahlimjaa", sum := "62706ae3877bd4f87d7006ccd5a72104a5b86c798e82b963708020a886dd519b", func := "loop.example/g00959/laws.FnExactTurnsOf", spec := "fnExactTurnsOf", apart := false }
def FnExactTurnsOfSaid : Prop := fnExactTurnsOfRow.holds Try.pinned (OpenSpec.ofChange fnExactTurnsOfSpec)

/-- ITS FALSE NEIGHBOUR: 'it returns false'. Refute it at one input. -/
def fnExactTurnsOfWrong : ChangeSpec := { name := "fnExactTurnsOf", fn := fun _ => fun
  | [d] => { results := [.lit (.bool false)], args := [d] }
  | _ => none }
def FnExactTurnsOfWrongFalsely : Prop := fnExactTurnsOfRow.holds Try.pinned (OpenSpec.ofChange fnExactTurnsOfWrong)

/-- 'laws.FnExactSeriesValue': WHATEVER THE INPUT: true; the input reads as it did. -/
def fnExactSeriesValueSpec : ChangeSpec := { name := "fnExactSeriesValue", fn := fun _ => fun
  | [d1, d2, d3] => { results := [.lit (.bool true)], args := [d1, d2, d3] }
  | _ => none }
def fnExactSeriesValueRow : OpenClaim := { program := "ytchkcjpahlimjaa", sum := "62706ae3877bd4f87d7006ccd5a72104a5b86c798e82b963708020a886dd519b", func := "loop.example/g00959/laws.FnExactSeriesValue", spec := "fnExactSeriesValue", apart := false }
def FnExactSeriesValueSaid : Prop := fnExactSeriesValueRow.holds Try.pinned (OpenSpec.ofChange fnExactSeriesValueSpec)

/-- ITS FALSE NEIGHBOUR: 'it returns false'. Refute it at one input. -/
def fnExactSeriesValueWrong : ChangeSpec := { name := "fnExactSeriesValue", fn := fun _ => fun
  | [d1, d2, d3] => { results := [.lit (.bool false)], args := [d1, d2, d3] }
  | _ => none }
def FnExactSeriesValueWrongFalsely : Prop := fnExactSeriesValueRow.holds Try.pinned (OpenSpec.ofChange fnExactSeriesValueWrong)

/-- 'laws.FnExactSeriesAt': WHATEVER THE INPUT: true; the input reads as it did. -/
def fnExactSeriesAtSpec : ChangeSpec := { name := "fnExactSeriesAt", fn := fun _ => fun
  | [d1, d2] => { results := [.lit (.bool true)], args := [d1, d2] }
  | _ => none }
def fnExactSeriesAtRow : OpenClaim := { program := "ytchkcjpahlimjaa", sum := "62706ae3877bd4f87d7006ccd5a72104a5b86c798e82b963708020a886dd519b", func := "loop.example/g00959/laws.FnExactSeriesAt", spec := "fnExactSeriesAt", apart := false }
def FnExactSeriesAtSaid : Prop := fnExactSeriesAtRow.holds Try.pinned (OpenSpec.ofChange fnExactSeriesAtSpec)

/-- ITS FALSE NEIGHBOUR: 'it returns false'. Refute it at one input. -/
def fnExactSeriesAtWrong : ChangeSpec := { name := "fnExactSeriesAt", fn := fun _ => fun
  | [d1, d2] => { results := [.lit (.bool false)], args := [d1, d2] }
  | _ => none }
def FnExactSeriesAtWrongFalsely : Prop := fnExactSeriesAtRow.holds Try.pinned (OpenSpec.ofChange fnExactSeriesAtWrong)

/-- 'laws.FnExactSeriesOfCone': WHATEVER THE INPUT: true; the input reads as it did. -/
def fnExactSeriesOfConeSpec : ChangeSpec := { name := "fnExactSeriesOfCone", fn := fun _ => fun
  | [d1, d2] => { results := [.lit (.bool true)], args := [d1, d2] }
  | _ => none }
def fnExactSeriesOfConeRow : OpenClaim := { program := "ytchkcjpahlimjaa", sum := "62706ae3877bd4f87d7006ccd5a72104a5b86c798e82b963708020a886dd519b", func := "loop.example/g00959/laws.FnExactSeriesOfCone", spec := "fnExactSeriesOfCone", apart := false }
def FnExactSeriesOfConeSaid : Prop := fnExactSeriesOfConeRow.holds Try.pinned (OpenSpec.ofChange fnExactSeriesOfConeSpec)

/-- ITS FALSE NEIGHBOUR: 'it returns false'. Refute it at one input. -/
def fnExactSeriesOfConeWrong : ChangeSpec := { name := "fnExactSeriesOfCone", fn := fun _ => fun
  | [d1, d2] => { results := [.lit (.bool false)], args := [d1, d2] }
  | _ => none }
def FnExactSeriesOfConeWrongFalsely : Prop := fnExactSeriesOfConeRow.holds Try.pinned (OpenSpec.ofChange fnExactSeriesOfConeWrong)

/-- 'laws.FnExactIsTetra': WHATEVER THE INPUT: true; the input reads as it did. -/
def fnExactIsTetraSpec : ChangeSpec := { name := "fnExactIsTetra", fn := fun _ => fun
  | [d] => { results := [.lit (.bool true)], args := [d] }
  | _ => none }
def fnExactIsTetraRow : OpenClaim := { program := "ytchkcjpahlimjaa", sum := "62706ae3877bd4f87d7006ccd5a72104a5b86c798e82b963708020a886dd519b", func := "loop.example/g00959/laws.FnExactIsTetra", spec := "fnExactIsTetra", recurses := true, apart := false }
def FnExactIsTetraSaid : Prop := fnExactIsTetraRow.holds Try.pinned (OpenSpec.ofChange fnExactIsTetraSpec)

/-- ITS FALSE NEIGHBOUR: 'it returns false'. Refute it at one input. -/
def fnExactIsTetraWrong : ChangeSpec := { name := "fnExactIsTetra", fn := fun _ => fun
  | [d] => { results := [.lit (.bool false)], args := [d] }
  | _ => none }
def FnExactIsTetraWrongFalsely : Prop := fnExactIsTetraRow.holds Try.pinned (OpenSpec.ofChange fnExactIsTetraWrong)

/-- 'laws.FnExactVolumeSix': WHATEVER THE INPUT: true; the input reads as it did. -/
def fnExactVolumeSixSpec : ChangeSpec := { name := "fnExactVolumeSix", fn := fun _ => fun
  | [d] => { results := [.lit (.bool true)], args := [d] }
  | _ => none }
def fnExactVolumeSixRow : OpenClaim := { program := "ytchkcjpahlimjaa", sum := "62706ae3877bd4f87d7006ccd5a72104a5b86c798e82b963708020a886dd519b", func := "loop.example/g00959/laws.FnExactVolumeSix", spec := "fnExactVolumeSix", recurses := true, apart := false }
def FnExactVolumeSixSaid : Prop := fnExactVolumeSixRow.holds Try.pinned (OpenSpec.ofChange fnExactVolumeSixSpec)

/-- ITS FALSE NEIGHBOUR: 'it returns false'. Refute it at one input. -/
def fnExactVolumeSixWrong : ChangeSpec := { name := "fnExactVolumeSix", fn := fun _ => fun
  | [d] => { results := [.lit (.bool false)], args := [d] }
  | _ => none }
def FnExactVolumeSixWrongFalsely : Prop := fnExactVolumeSixRow.holds Try.pinned (OpenSpec.ofChange fnExactVolumeSixWrong)

/-- 'laws.FnExactTetraHas': WHATEVER THE INPUT: true; the input reads as it did. -/
def fnExactTetraHasSpec : ChangeSpec := { name := "fnExactTetraHas", fn := fun _ => fun
  | [d1, d2, d3] => { results := [.lit (.bool true)], args := [d1, d2, d3] }
  | _ => none }
def fnExactTetraHasRow : OpenClaim := { program := "ytchkcjpahlimjaa", sum := "62706ae3877bd4f87d7006ccd5a72104a5b86c798e82b963708020a886dd519b", func := "loop.example/g00959/laws.FnExactTetraHas", spec := "fnExactTetraHas", recurses := true, apart := false }
def FnExactTetraHasSaid : Prop := fnExactTetraHasRow.holds Try.pinned (OpenSpec.ofChange fnExactTetraHasSpec)

/-- ITS FALSE NEIGHBOUR: 'it returns false'. Refute it at one input. -/
def fnExactTetraHasWrong : ChangeSpec := { name := "fnExactTetraHas", fn := fun _ => fun
  | [d1, d2, d3] => { results := [.lit (.bool false)], args := [d1, d2, d3] }
  | _ => none }
def FnExactTetraHasWrongFalsely : Prop := fnExactTetraHasRow.holds Try.pinned (OpenSpec.ofChange fnExactTetraHasWrong)

/-- 'laws.FnExactTetraCount': WHATEVER THE INPUT: true; the input reads as it did. -/
def fnExactTetraCountSpec : ChangeSpec := { name := "fnExactTetraCount", fn := fun _ => fun
  | [d1, d2] => { results := [.lit (.bool true)], args := [d1, d2] }
  | _ => none }
def fnExactTetraCountRow : OpenClaim := { program := "ytchkcjpahlimjaa", sum := "62706ae3877bd4f87d7006ccd5a72104a5b86c798e82b963708020a886dd519b", func := "loop.example/g00959/laws.FnExactTetraCount", spec := "fnExactTetraCount", recurses := true, apart := false }
def FnExactTetraCountSaid : Prop := fnExactTetraCountRow.holds Try.pinned (OpenSpec.ofChange fnExactTetraCountSpec)

/-- ITS FALSE NEIGHBOUR: 'it returns false'. Refute it at one input. -/
def fnExactTetraCountWrong : ChangeSpec := { name := "fnExactTetraCount", fn := fun _ => fun
  | [d1, d2] => { results := [.lit (.bool false)], args := [d1, d2] }
  | _ => none }
def FnExactTetraCountWrongFalsely : Prop := fnExactTetraCountRow.holds Try.pinned (OpenSpec.ofChange fnExactTetraCountWrong)

/-- 'laws.FnExactTetraInner': WHATEVER THE INPUT: true; the input reads as it did. -/
def fnExactTetraInnerSpec : ChangeSpec := { name := "fnExactTetraInner", fn := fun _ => fun
  | [d1, d2] => { results := [.lit (.bool true)], args := [d1, d2] }
  | _ => none }
def fnExactTetraInnerRow : OpenClaim := { program := "ytchkcjpahlimjaa", sum := "62706ae3877bd4f87d7006ccd5a72104a5b86c798e82b963708020a886dd519b", func := "loop.example/g00959/laws.FnExactTetraInner", spec := "fnExactTetraInner", recurses := true, apart := false }
def FnExactTetraInnerSaid : Prop := fnExactTetraInnerRow.holds Try.pinned (OpenSpec.ofChange fnExactTetraInnerSpec)

/-- ITS FALSE NEIGHBOUR: 'it returns false'. Refute it at one input. -/
def fnExactTetraInnerWrong : ChangeSpec := { name := "fnExactTetraInner", fn := fun _ => fun
  | [d1, d2] => { results := [.lit (.bool false)], args := [d1, d2] }
  | _ => none }
def FnExactTetraInnerWrongFalsely : Prop := fnExactTetraInnerRow.holds Try.pinned (OpenSpec.ofChange fnExactTetraInnerWrong)

/-- 'laws.FnExactTetraTop': WHATEVER THE INPUT: true; the input reads as it did. -/
def fnExactTetraTopSpec : ChangeSpec := { name := "fnExactTetraTop", fn := fun _ => fun
  | [d] => { results := [.lit (.bool true)], args := [d] }
  | _ => none }
def fnExactTetraTopRow : OpenClaim := { program := "ytchkcjpahlimjaa", sum := "62706ae3877bd4f87d7006ccd5a72104a5b86c798e82b963708020a886dd519b", func := "loop.example/g00959/laws.FnExactTetraTop", spec := "fnExactTetraTop", recurses := true, apart := false }
def FnExactTetraTopSaid : Prop := fnExactTetraTopRow.holds Try.pinned (OpenSpec.ofChange fnExactTetraTopSpec)

/-- ITS FALSE NEIGHBOUR: 'it returns false'. Refute it at one input. -/
def fnExactTetraTopWrong : ChangeSpec := { name := "fnExactTetraTop", fn := fun _ => fun
  | [d] => { results := [.lit (.bool false)], args := [d] }
  | _ => none }
def FnExactTetraTopWrongFalsely : Prop := fnExactTetraTopRow.holds Try.pinned (OpenSpec.ofChange fnExactTetraTopWrong)

/- THE SECOND FORM. 'bulk': how many values and letters a reading holds, each counted each time it is reached (what is shared counts as often as it is met; a slice's spare places count too). A statement '..UptoSaid' is the law's where the arguments, and the package variables that the reading takes, are together of bulk at most 1048576: NARROWER than '..Said'. Prove '..Said' where nothing that the law and all that it calls make is longer than what came in: it says more and counts as full. Else prove '..UptoSaid'. A law counts once. -/
mutual
def uptoBulk {H : Type} : DataW H → Nat
  | .lit (.string bytes) => bytes.length + 1
  | .lit _ => 1
  | .nil => 1
  | .ptr d => uptoBulk d + 1
  | .slice elems spare => uptoBulkAll elems + uptoBulkAll spare + 1
  | .agg parts => uptoBulkAll parts + 1
  | .iface _ d => uptoBulk d + 1
  | .map entries => uptoBulkEntries entries + 1
  | .held _ => 1
def uptoBulkAll {H : Type} : List (DataW H) → Nat
  | [] => 0
  | d :: r => uptoBulk d + uptoBulkAll r
def uptoBulkEntries {H : Type} : List (Lit × DataW H) → Nat
  | [] => 0
  | x :: r => uptoBulkEntry x + uptoBulkEntries r
def uptoBulkEntry {H : Type} : Lit × DataW H → Nat
  | (.string bytes, d) => bytes.length + uptoBulk d + 1
  | (_, d) => uptoBulk d + 1
 end
def uptoSmall : (H : Type) → List (DataW H) → Bool := fun _ ds => decide (uptoBulkAll ds ≤ 1048576)
def OpenSpec.upto (s : _root_.Go.ChangeSpec) : _root_.Go.OpenSpec := { _root_.Go.OpenSpec.ofChange s with cond := some uptoSmall }

/-- 'laws.FnExactSplitCone', WHERE WHAT IT READS IS OF BULK AT MOST 1048576: true; the input reads as it did. -/
def fnExactSplitConeUptoRow : OpenClaim := { program := "ytchkcjpahlimjaa", sum := "62706ae3877bd4f87d7006ccd5a72104a5b86c798e82b963708020a886dd519b", func := "loop.example/g00959/laws.FnExactSplitCone", spec := "fnExactSplitCone", apart := false, narrowed := true }
def FnExactSplitConeUptoSaid : Prop := fnExactSplitConeUptoRow.holds Try.pinned (OpenSpec.upto fnExactSplitConeSpec)

/-- 'laws.FnExactTurnsOf', WHERE WHAT IT READS IS OF BULK AT MOST 1048576: true; the input reads as it did. -/
def fnExactTurnsOfUptoRow : OpenClaim := { program := "ytchkcjpahlimjaa", sum := "62706ae3877bd4f87d7006ccd5a72104a5b86c798e82b963708020a886dd519b", func := "loop.example/g00959/laws.FnExactTurnsOf", spec := "fnExactTurnsOf", apart := false, narrowed := true }
def FnExactTurnsOfUptoSaid : Prop := fnExactTurnsOfUptoRow.holds Try.pinned (OpenSpec.upto fnExactTurnsOfSpec)

/-- 'laws.FnExactSeriesValue', WHERE WHAT IT READS IS OF BULK AT MOST 1048576: true; the input reads as it did. -/
def fnExactSeriesValueUptoRow : OpenClaim := { program := "ytchkcjpahlimjaa", sum := "62706ae3877bd4f87d7006ccd5a72104a5b86c798e82b963708020a886dd519b", func := "loop.example/g00959/laws.FnExactSeriesValue", spec := "fnExactSeriesValue", apart := false, narrowed := true }
def FnExactSeriesValueUptoSaid : Prop := fnExactSeriesValueUptoRow.holds Try.pinned (OpenSpec.upto fnExactSeriesValueSpec)

/-- 'laws.FnExactSeriesAt', WHERE WHAT IT READS IS OF BULK AT MOST 1048576: true; the input reads as it did. -/
def fnExactSeriesAtUptoRow : OpenClaim := { program := "ytchkcjpahlimjaa", sum := "62706ae3877bd4f87d7006ccd5a72104a5b86c798e82b963708020a886dd519b", func := "loop.example/g00959/laws.FnExactSeriesAt", spec := "fnExactSeriesAt", apart := false, narrowed := true }
def FnExactSeriesAtUptoSaid : Prop := fnExactSeriesAtUptoRow.holds Try.pinned (OpenSpec.upto fnExactSeriesAtSpec)

/-- 'laws.FnExactSeriesOfCone', WHERE WHAT IT READS IS OF BULK AT MOST 1048576: true; the input reads as it did. -/
def fnExactSeriesOfConeUptoRow : OpenClaim := { program := "ytchkcjpahlimjaa", sum := "62706ae3877bd4f87d7006ccd5a72104a5b86c798e82b963708020a886dd519b", func := "loop.example/g00959/laws.FnExactSeriesOfCone", spec := "fnExactSeriesOfCone", apart := false, narrowed := true }
def FnExactSeriesOfConeUptoSaid : Prop := fnExactSeriesOfConeUptoRow.holds Try.pinned (OpenSpec.upto fnExactSeriesOfConeSpec)

/-- 'laws.FnExactIsTetra', WHERE WHAT IT READS IS OF BULK AT MOST 1048576: true; the input reads as it did. -/
def fnExactIsTetraUptoRow : OpenClaim := { program := "ytchkcjpahlimjaa", sum := "62706ae3877bd4f87d7006ccd5a72104a5b86c798e82b963708020a886dd519b", func := "loop.example/g00959/laws.FnExactIsTetra", spec := "fnExactIsTetra", recurses := true, apart := false, narrowed := true }
def FnExactIsTetraUptoSaid : Prop := fnExactIsTetraUptoRow.holds Try.pinned (OpenSpec.upto fnExactIsTetraSpec)

/-- 'laws.FnExactVolumeSix', WHERE WHAT IT READS IS OF BULK AT MOST 1048576: true; the input reads as it did. -/
def fnExactVolumeSixUptoRow : OpenClaim := { program := "ytchkcjpahlimjaa", sum := "62706ae3877bd4f87d7006ccd5a72104a5b86c798e82b963708020a886dd519b", func := "loop.example/g00959/laws.FnExactVolumeSix", spec := "fnExactVolumeSix", recurses := true, apart := false, narrowed := true }
def FnExactVolumeSixUptoSaid : Prop := fnExactVolumeSixUptoRow.holds Try.pinned (OpenSpec.upto fnExactVolumeSixSpec)

/-- 'laws.FnExactTetraHas', WHERE WHAT IT READS IS OF BULK AT MOST 1048576: true; the input reads as it did. -/
def fnExactTetraHasUptoRow : OpenClaim := { program := "ytchkcjpahlimjaa", sum := "62706ae3877bd4f87d7006ccd5a72104a5b86c798e82b963708020a886dd519b", func := "loop.example/g00959/laws.FnExactTetraHas", spec := "fnExactTetraHas", recurses := true, apart := false, narrowed := true }
def FnExactTetraHasUptoSaid : Prop := fnExactTetraHasUptoRow.holds Try.pinned (OpenSpec.upto fnExactTetraHasSpec)

/-- 'laws.FnExactTetraCount', WHERE WHAT IT READS IS OF BULK AT MOST 1048576: true; the input reads as it did. -/
def fnExactTetraCountUptoRow : OpenClaim := { program := "ytchkcjpahlimjaa", sum := "62706ae3877bd4f87d7006ccd5a72104a5b86c798e82b963708020a886dd519b", func := "loop.example/g00959/laws.FnExactTetraCount", spec := "fnExactTetraCount", recurses := true, apart := false, narrowed := true }
def FnExactTetraCountUptoSaid : Prop := fnExactTetraCountUptoRow.holds Try.pinned (OpenSpec.upto fnExactTetraCountSpec)

/-- 'laws.FnExactTetraInner', WHERE WHAT IT READS IS OF BULK AT MOST 1048576: true; the input reads as it did. -/
def fnExactTetraInnerUptoRow : OpenClaim := { program := "ytchkcjpahlimjaa", sum := "62706ae3877bd4f87d7006ccd5a72104a5b86c798e82b963708020a886dd519b", func := "loop.example/g00959/laws.FnExactTetraInner", spec := "fnExactTetraInner", recurses := true, apart := false, narrowed := true }
def FnExactTetraInnerUptoSaid : Prop := fnExactTetraInnerUptoRow.holds Try.pinned (OpenSpec.upto fnExactTetraInnerSpec)

/-- 'laws.FnExactTetraTop', WHERE WHAT IT READS IS OF BULK AT MOST 1048576: true; the input reads as it did. -/
def fnExactTetraTopUptoRow : OpenClaim := { program := "ytchkcjpahlimjaa", sum := "62706ae3877bd4f87d7006ccd5a72104a5b86c798e82b963708020a886dd519b", func := "loop.example/g00959/laws.FnExactTetraTop", spec := "fnExactTetraTop", recurses := true, apart := false, narrowed := true }
def FnExactTetraTopUptoSaid : Prop := fnExactTetraTopUptoRow.holds Try.pinned (OpenSpec.upto fnExactTetraTopSpec)

end Rows
end Go.Proofs.Ytchkcjpahlimjaa
