/-
  No cell of these rows narrows 'for every input' (looked for: loops, veiled, ifaces, maps, wideKeys, modest, calm, conditions, laid).
  DERIVED. THE GIVEN ROWS OF THIS SEAT. 9 by the template 'for every input the law returns true; each argument reads behind the call as it read before'; 0 by the template 'total and deterministic' (their statements: YtcofkjnkdfibfaaTotals.lean).
  GIVEN WITH THE SEED: the statements are not yours to turn. If you find one false, say at which input.
  Laid BY PROGRAM, IN A SANDBOX (cutbox-rows.mjs): the forced cells as the released guide's own fill.sh prints them over the translation 7eebbfab708fda4f… (all of the seat's roots in one cut). By AI agents, Wed Nov 11 2026. No macro, syntax, notation, axiom, sorry.
-/
import Derived.Test.YtcofkjnkdfibfaaChecked
import GoSem.Claim
import GoSem.ClaimJoined
import GoSem.ClaimMapViews
import Derived.JoinedTies
import Derived.KernelRfl
namespace Go.Proofs.Ytcofkjnkdfibfaa
/- THE CELL 'sum', in the pinned program and in every row, IS THE sha256 OF THE DUMP (.gsa) THAT YtcofkjnkdfibfaaProg.lean LOADS. Nothing in Lean hashes anything: it is a label: what it is worth is what the hold of that sum in a sandbox is worth. -/
noncomputable def Try.pinned : Pinned := { name := "ytcofkjnkdfibfaa", sum := "7eebbfab708fda4fcb69660352440289f2795b47a3a2d65fb586a7f3d69a186a", checked := Try.checked }
namespace Rows
def none {H : Type} : Left H := { results := [], args := [] }

/-- 'laws.FnExactDilatePolygon': WHATEVER THE INPUT: true; the input reads as it did. -/
def fnExactDilatePolygonSpec : ChangeSpec := { name := "fnExactDilatePolygon", fn := fun _ => fun
  | [d1, d2] => { results := [.lit (.bool true)], args := [d1, d2] }
  | _ => none }
def fnExactDilatePolygonRow : OpenClaim := { program := "ytcofkjnkdfibfaa", sum := "7eebbfab708fda4fcb69660352440289f2795b47a3a2d65fb586a7f3d69a186a", func := "loop.example/g00959/laws.FnExactDilatePolygon", spec := "fnExactDilatePolygon", apart := false }
def FnExactDilatePolygonSaid : Prop := fnExactDilatePolygonRow.holds Try.pinned (OpenSpec.ofChange fnExactDilatePolygonSpec)

/-- ITS FALSE NEIGHBOUR: 'it returns false'. Refute it at one input. -/
def fnExactDilatePolygonWrong : ChangeSpec := { name := "fnExactDilatePolygon", fn := fun _ => fun
  | [d1, d2] => { results := [.lit (.bool false)], args := [d1, d2] }
  | _ => none }
def FnExactDilatePolygonWrongFalsely : Prop := fnExactDilatePolygonRow.holds Try.pinned (OpenSpec.ofChange fnExactDilatePolygonWrong)

/-- 'laws.FnExactSideNumbers': WHATEVER THE INPUT: true; the input reads as it did. -/
def fnExactSideNumbersSpec : ChangeSpec := { name := "fnExactSideNumbers", fn := fun _ => fun
  | [d] => { results := [.lit (.bool true)], args := [d] }
  | _ => none }
def fnExactSideNumbersRow : OpenClaim := { program := "ytcofkjnkdfibfaa", sum := "7eebbfab708fda4fcb69660352440289f2795b47a3a2d65fb586a7f3d69a186a", func := "loop.example/g00959/laws.FnExactSideNumbers", spec := "fnExactSideNumbers", apart := false }
def FnExactSideNumbersSaid : Prop := fnExactSideNumbersRow.holds Try.pinned (OpenSpec.ofChange fnExactSideNumbersSpec)

/-- ITS FALSE NEIGHBOUR: 'it returns false'. Refute it at one input. -/
def fnExactSideNumbersWrong : ChangeSpec := { name := "fnExactSideNumbers", fn := fun _ => fun
  | [d] => { results := [.lit (.bool false)], args := [d] }
  | _ => none }
def FnExactSideNumbersWrongFalsely : Prop := fnExactSideNumbersRow.holds Try.pinned (OpenSpec.ofChange fnExactSideNumbersWrong)

/-- 'laws.FnExactEhrhartAt': WHATEVER THE INPUT: true; the input reads as it did. -/
def fnExactEhrhartAtSpec : ChangeSpec := { name := "fnExactEhrhartAt", fn := fun _ => fun
  | [d1, d2] => { results := [.lit (.bool true)], args := [d1, d2] }
  | _ => none }
def fnExactEhrhartAtRow : OpenClaim := { program := "ytcofkjnkdfibfaa", sum := "7eebbfab708fda4fcb69660352440289f2795b47a3a2d65fb586a7f3d69a186a", func := "loop.example/g00959/laws.FnExactEhrhartAt", spec := "fnExactEhrhartAt", apart := false }
def FnExactEhrhartAtSaid : Prop := fnExactEhrhartAtRow.holds Try.pinned (OpenSpec.ofChange fnExactEhrhartAtSpec)

/-- ITS FALSE NEIGHBOUR: 'it returns false'. Refute it at one input. -/
def fnExactEhrhartAtWrong : ChangeSpec := { name := "fnExactEhrhartAt", fn := fun _ => fun
  | [d1, d2] => { results := [.lit (.bool false)], args := [d1, d2] }
  | _ => none }
def FnExactEhrhartAtWrongFalsely : Prop := fnExactEhrhartAtRow.holds Try.pinned (OpenSpec.ofChange fnExactEhrhartAtWrong)

/-- 'laws.FnExactAtLeastPoints': WHATEVER THE INPUT: true; the input reads as it did. -/
def fnExactAtLeastPointsSpec : ChangeSpec := { name := "fnExactAtLeastPoints", fn := fun _ => fun
  | [d1, d2] => { results := [.lit (.bool true)], args := [d1, d2] }
  | _ => none }
def fnExactAtLeastPointsRow : OpenClaim := { program := "ytcofkjnkdfibfaa", sum := "7eebbfab708fda4fcb69660352440289f2795b47a3a2d65fb586a7f3d69a186a", func := "loop.example/g00959/laws.FnExactAtLeastPoints", spec := "fnExactAtLeastPoints", apart := false }
def FnExactAtLeastPointsSaid : Prop := fnExactAtLeastPointsRow.holds Try.pinned (OpenSpec.ofChange fnExactAtLeastPointsSpec)

/-- ITS FALSE NEIGHBOUR: 'it returns false'. Refute it at one input. -/
def fnExactAtLeastPointsWrong : ChangeSpec := { name := "fnExactAtLeastPoints", fn := fun _ => fun
  | [d1, d2] => { results := [.lit (.bool false)], args := [d1, d2] }
  | _ => none }
def FnExactAtLeastPointsWrongFalsely : Prop := fnExactAtLeastPointsRow.holds Try.pinned (OpenSpec.ofChange fnExactAtLeastPointsWrong)

/-- 'laws.FnExactEhrhartOf': WHATEVER THE INPUT: true; the input reads as it did. -/
def fnExactEhrhartOfSpec : ChangeSpec := { name := "fnExactEhrhartOf", fn := fun _ => fun
  | [d] => { results := [.lit (.bool true)], args := [d] }
  | _ => none }
def fnExactEhrhartOfRow : OpenClaim := { program := "ytcofkjnkdfibfaa", sum := "7eebbfab708fda4fcb69660352440289f2795b47a3a2d65fb586a7f3d69a186a", func := "loop.example/g00959/laws.FnExactEhrhartOf", spec := "fnExactEhrhartOf", apart := false }
def FnExactEhrhartOfSaid : Prop := fnExactEhrhartOfRow.holds Try.pinned (OpenSpec.ofChange fnExactEhrhartOfSpec)

/-- ITS FALSE NEIGHBOUR: 'it returns false'. Refute it at one input. -/
def fnExactEhrhartOfWrong : ChangeSpec := { name := "fnExactEhrhartOf", fn := fun _ => fun
  | [d] => { results := [.lit (.bool false)], args := [d] }
  | _ => none }
def FnExactEhrhartOfWrongFalsely : Prop := fnExactEhrhartOfRow.holds Try.pinned (OpenSpec.ofChange fnExactEhrhartOfWrong)

/-- 'laws.FnExactIsReflexive': WHATEVER THE INPUT: true; the input reads as it did. -/
def fnExactIsReflexiveSpec : ChangeSpec := { name := "fnExactIsReflexive", fn := fun _ => fun
  | [d] => { results := [.lit (.bool true)], args := [d] }
  | _ => none }
def fnExactIsReflexiveRow : OpenClaim := { program := "ytcofkjnkdfibfaa", sum := "7eebbfab708fda4fcb69660352440289f2795b47a3a2d65fb586a7f3d69a186a", func := "loop.example/g00959/laws.FnExactIsReflexive", spec := "fnExactIsReflexive", apart := false }
def FnExactIsReflexiveSaid : Prop := fnExactIsReflexiveRow.holds Try.pinned (OpenSpec.ofChange fnExactIsReflexiveSpec)

/-- ITS FALSE NEIGHBOUR: 'it returns false'. Refute it at one input. -/
def fnExactIsReflexiveWrong : ChangeSpec := { name := "fnExactIsReflexive", fn := fun _ => fun
  | [d] => { results := [.lit (.bool false)], args := [d] }
  | _ => none }
def FnExactIsReflexiveWrongFalsely : Prop := fnExactIsReflexiveRow.holds Try.pinned (OpenSpec.ofChange fnExactIsReflexiveWrong)

/-- 'laws.FnExactSeriesTop': WHATEVER THE INPUT: true; the input reads as it did. -/
def fnExactSeriesTopSpec : ChangeSpec := { name := "fnExactSeriesTop", fn := fun _ => fun
  | [d] => { results := [.lit (.bool true)], args := [d] }
  | _ => none }
def fnExactSeriesTopRow : OpenClaim := { program := "ytcofkjnkdfibfaa", sum := "7eebbfab708fda4fcb69660352440289f2795b47a3a2d65fb586a7f3d69a186a", func := "loop.example/g00959/laws.FnExactSeriesTop", spec := "fnExactSeriesTop", apart := false }
def FnExactSeriesTopSaid : Prop := fnExactSeriesTopRow.holds Try.pinned (OpenSpec.ofChange fnExactSeriesTopSpec)

/-- ITS FALSE NEIGHBOUR: 'it returns false'. Refute it at one input. -/
def fnExactSeriesTopWrong : ChangeSpec := { name := "fnExactSeriesTop", fn := fun _ => fun
  | [d] => { results := [.lit (.bool false)], args := [d] }
  | _ => none }
def FnExactSeriesTopWrongFalsely : Prop := fnExactSeriesTopRow.holds Try.pinned (OpenSpec.ofChange fnExactSeriesTopWrong)

/-- 'laws.FnExactCornerCone': WHATEVER THE INPUT: true; the input reads as it did. -/
def fnExactCornerConeSpec : ChangeSpec := { name := "fnExactCornerCone", fn := fun _ => fun
  | [d1, d2] => { results := [.lit (.bool true)], args := [d1, d2] }
  | _ => none }
def fnExactCornerConeRow : OpenClaim := { program := "ytcofkjnkdfibfaa", sum := "7eebbfab708fda4fcb69660352440289f2795b47a3a2d65fb586a7f3d69a186a", func := "loop.example/g00959/laws.FnExactCornerCone", spec := "fnExactCornerCone", apart := false }
def FnExactCornerConeSaid : Prop := fnExactCornerConeRow.holds Try.pinned (OpenSpec.ofChange fnExactCornerConeSpec)

/-- ITS FALSE NEIGHBOUR: 'it returns false'. Refute it at one input. -/
def fnExactCornerConeWrong : ChangeSpec := { name := "fnExactCornerCone", fn := fun _ => fun
  | [d1, d2] => { results := [.lit (.bool false)], args := [d1, d2] }
  | _ => none }
def FnExactCornerConeWrongFalsely : Prop := fnExactCornerConeRow.holds Try.pinned (OpenSpec.ofChange fnExactCornerConeWrong)

/-- 'laws.FnExactCornerTerms': WHATEVER THE INPUT: true; the input reads as it did. -/
def fnExactCornerTermsSpec : ChangeSpec := { name := "fnExactCornerTerms", fn := fun _ => fun
  | [d] => { results := [.lit (.bool true)], args := [d] }
  | _ => none }
def fnExactCornerTermsRow : OpenClaim := { program := "ytcofkjnkdfibfaa", sum := "7eebbfab708fda4fcb69660352440289f2795b47a3a2d65fb586a7f3d69a186a", func := "loop.example/g00959/laws.FnExactCornerTerms", spec := "fnExactCornerTerms", apart := false }
def FnExactCornerTermsSaid : Prop := fnExactCornerTermsRow.holds Try.pinned (OpenSpec.ofChange fnExactCornerTermsSpec)

/-- ITS FALSE NEIGHBOUR: 'it returns false'. Refute it at one input. -/
def fnExactCornerTermsWrong : ChangeSpec := { name := "fnExactCornerTerms", fn := fun _ => fun
  | [d] => { results := [.lit (.bool false)], args := [d] }
  | _ => none }
def FnExactCornerTermsWrongFalsely : Prop := fnExactCornerTermsRow.holds Try.pinned (OpenSpec.ofChange fnExactCornerTermsWrong)

/- THE SECOND FORM. 'bulk': how many values and letters a reading holds, each counted each time it is reached (what is shared counts as often as it is met; a slice's spare places count too). A statement '..UptoSaid' is the law's where the arguments, and the package variables that the reading takes, are together of bulk at most 1048576: NARROWER than '..Said'. Prove '..Said' where nothing that the law and all that it calls make is longer than what came in: it says more and counts as full. Else prove '..UptoSaid'. A law counts once. -/
mutual
def uptoBulk {H : Type} : DataW H → Nat
  | .lit (.string bytes) => bytes.length + 1
  | .lit _ => 1
  | .nil => 1
  | .ptr d => uptoBulk d + 1
  | .slice elems spare => uptoBulkAll elems + uptoBulkAll spare + 1
  | .agg parts => uptoBulkAll parts + 1
  | .iface _ d => uptoBulk d + 1
  | .map entries => uptoBulkEntries entries + 1
  | .held _ => 1
def uptoBulkAll {H : Type} : List (DataW H) → Nat
  | [] => 0
  | d :: r => uptoBulk d + uptoBulkAll r
def uptoBulkEntries {H : Type} : List (Lit × DataW H) → Nat
  | [] => 0
  | x :: r => uptoBulkEntry x + uptoBulkEntries r
def uptoBulkEntry {H : Type} : Lit × DataW H → Nat
  | (.string bytes, d) => bytes.length + uptoBulk d + 1
  | (_, d) => uptoBulk d + 1
 end
def uptoSmall : (H : Type) → List (DataW H) → Bool := fun _ ds => decide (uptoBulkAll ds ≤ 1048576)
def OpenSpec.upto (s : _root_.Go.ChangeSpec) : _root_.Go.OpenSpec := { _root_.Go.OpenSpec.ofChange s with cond := some uptoSmall }

/-- 'laws.FnExactDilatePolygon', WHERE WHAT IT READS IS OF BULK AT MOST 1048576: true; the input reads as it did. -/
def fnExactDilatePolygonUptoRow : OpenClaim := { program := "ytcofkjnkdfibfaa", sum := "7eebbfab708fda4fcb69660352440289f2795b47a3a2d65fb586a7f3d69a186a", func := "loop.example/g00959/laws.FnExactDilatePolygon", spec := "fnExactDilatePolygon", apart := false, narrowed := true }
def FnExactDilatePolygonUptoSaid : Prop := fnExactDilatePolygonUptoRow.holds Try.pinned (OpenSpec.upto fnExactDilatePolygonSpec)

/-- 'laws.FnExactSideNumbers', WHERE WHAT IT READS IS OF BULK AT MOST 1048576: true; the input reads as it did. -/
def fnExactSideNumbersUptoRow : OpenClaim := { program := "ytcofkjnkdfibfaa", sum := "7eebbfab708fda4fcb69660352440289f2795b47a3a2d65fb586a7f3d69a186a", func := "loop.example/g00959/laws.FnExactSideNumbers", spec := "fnExactSideNumbers", apart := false, narrowed := true }
def FnExactSideNumbersUptoSaid : Prop := fnExactSideNumbersUptoRow.holds Try.pinned (OpenSpec.upto fnExactSideNumbersSpec)

/-- 'laws.FnExactEhrhartAt', WHERE WHAT IT READS IS OF BULK AT MOST 1048576: true; the input reads as it did. -/
def fnExactEhrhartAtUptoRow : OpenClaim := { program := "ytcofkjnkdfibfaa", sum := "7eebbfab708fda4fcb69660352440289f2795b47a3a2d65fb586a7f3d69a186a", func := "loop.example/g00959/laws.FnExactEhrhartAt", spec := "fnExactEhrhartAt", apart := false, narrowed := true }
def FnExactEhrhartAtUptoSaid : Prop := fnExactEhrhartAtUptoRow.holds Try.pinned (OpenSpec.upto fnExactEhrhartAtSpec)

/-- 'laws.FnExactAtLeastPoints', WHERE WHAT IT READS IS OF BULK AT MOST 1048576: true; the input reads as it did. -/
def fnExactAtLeastPointsUptoRow : OpenClaim := { program := "ytcofkjnkdfibfaa", sum := "7eebbfab708fda4fcb69660352440289f2795b47a3a2d65fb586a7f3d69a186a", func := "loop.example/g00959/laws.FnExactAtLeastPoints", spec := "fnExactAtLeastPoints", apart := false, narrowed := true }
def FnExactAtLeastPointsUptoSaid : Prop := fnExactAtLeastPointsUptoRow.holds Try.pinned (OpenSpec.upto fnExactAtLeastPointsSpec)

/-- 'laws.FnExactEhrhartOf', WHERE WHAT IT READS IS OF BULK AT MOST 1048576: true; the input reads as it did. -/
def fnExactEhrhartOfUptoRow : OpenClaim := { program := "ytcofkjnkdfibfaa", sum := "7eebbfab708fda4fcb69660352440289f2795b47a3a2d65fb586a7f3d69a186a", func := "loop.example/g00959/laws.FnExactEhrhartOf", spec := "fnExactEhrhartOf", apart := false, narrowed := true }
def FnExactEhrhartOfUptoSaid : Prop := fnExactEhrhartOfUptoRow.holds Try.pinned (OpenSpec.upto fnExactEhrhartOfSpec)

/-- 'laws.FnExactIsReflexive', WHERE WHAT IT READS IS OF BULK AT MOST 1048576: true; the input reads as it did. -/
def fnExactIsReflexiveUptoRow : OpenClaim := { program := "ytcofkjnkdfibfaa", sum := "7eebbfab708fda4fcb69660352440289f2795b47a3a2d65fb586a7f3d69a186a", func := "loop.example/g00959/laws.FnExactIsReflexive", spec := "fnExactIsReflexive", apart := false, narrowed := true }
def FnExactIsReflexiveUptoSaid : Prop := fnExactIsReflexiveUptoRow.holds Try.pinned (OpenSpec.upto fnExactIsReflexiveSpec)

/-- 'laws.FnExactSeriesTop', WHERE WHAT IT READS IS OF BULK AT MOST 1048576: true; the input reads as it did. -/
def fnExactSeriesTopUptoRow : OpenClaim := { program := "ytcofkjnkdfibfaa", sum := "7eebbfab708fda4fcb69660352440289f2795b47a3a2d65fb586a7f3d69a186a", func := "loop.example/g00959/laws.FnExactSeriesTop", spec := "fnExactSeriesTop", apart := false, narrowed := true }
def FnExactSeriesTopUptoSaid : Prop := fnExactSeriesTopUptoRow.holds Try.pinned (OpenSpec.upto fnExactSeriesTopSpec)

/-- 'laws.FnExactCornerCone', WHERE WHAT IT READS IS OF BULK AT MOST 1048576: true; the input reads as it did. -/
def fnExactCornerConeUptoRow : OpenClaim := { program := "ytcofkjnkdfibfaa", sum := "7eebbfab708fda4fcb69660352440289f2795b47a3a2d65fb586a7f3d69a186a", func := "loop.example/g00959/laws.FnExactCornerCone", spec := "fnExactCornerCone", apart := false, narrowed := true }
def FnExactCornerConeUptoSaid : Prop := fnExactCornerConeUptoRow.holds Try.pinned (OpenSpec.upto fnExactCornerConeSpec)

/-- 'laws.FnExactCornerTerms', WHERE WHAT IT READS IS OF BULK AT MOST 1048576: true; the input reads as it did. -/
def fnExactCornerTermsUptoRow : OpenClaim := { program := "ytcofkjnkdfibfaa", sum := "7eebbfab708fda4fcb69660352440289f2795b47a3a2d65fb586a7f3d69a186a", func := "loop.example/g00959/laws.FnExactCornerTerms", spec := "fnExactCornerTerms", apart := false, narrowed := true }
def FnExactCornerTermsUptoSaid : Prop := fnExactCornerTermsUptoRow.holds Try.pinned (OpenSpec.upto fnExactCornerTermsSpec)

end Rows
end Go.Proofs.Ytcofkjnkdfibfaa
