/-
  No cell of these rows narrows 'for every input' (looked for: loops, veiled, ifaces, maps, wideKeys, modest, calm, conditions, laid).
  DERIVED. THE GIVEN ROWS OF THIS SEAT. 12 by the template 'for every input the law returns true; each argument reads behind the call as it read before'; 0 by the template 'total and deterministic' (their statements: YtfbajjddndgmlaaTotals.lean).
  GIVEN WITH THE SEED: the statements are not yours to turn. If you find one false, say at which input.
  Laid BY PROGRAM, IN A SANDBOX (cutbox-rows.mjs): the forced cells as the released guide's own fill.sh prints them over the translation 8f2f3cf89463cf70… (all of the seat's roots in one cut). By AI agents, Wed Nov 11 2026. No macro, syntax, notation, axiom, sorry.
-/
import Derived.Test.YtfbajjddndgmlaaChecked
import GoSem.Claim
import GoSem.ClaimJoined
import GoSem.ClaimMapViews
import Derived.JoinedTies
import Derived.KernelRfl
namespace Go.Proofs.Ytfbajjddndgmlaa
/- THE CELL 'sum', in the pinned program and in every row, IS THE sha256 OF THE DUMP (.gsa) THAT YtfbajjddndgmlaaProg.lean LOADS. Nothing in Lean hashes anything: it is a label: what it is worth is what the hold of that sum in a sandbox is worth. -/
noncomputable def Try.pinned : Pinned := { name := "ytfbajjddndgmlaa", sum := "8f2f3cf89463cf7088d45c1bc45366cbf8ac5a3459f424a8aca7f1fd4022554e", checked := Try.checked }
namespace Rows
def none {H : Type} : Left H := { results := [], args := [] }

/-- 'laws.FnExactConstants': WHATEVER THE INPUT: true; the input reads as it did. -/
def fnExactConstantsSpec : ChangeSpec := { name := "fnExactConstants", fn := fun _ => fun
  | [] => { results := [.lit (.bool true)], args := [] }
  | _ => none }
def fnExactConstantsRow : OpenClaim := { program := "ytfbajjddndgmlaa", sum := "8f2f3cf89463cf7088d45c1bc45366cbf8ac5a3459f424a8aca7f1fd4022554e", func := "loop.example/g01213/laws.FnExactConstants", spec := "fnExactConstants", apart := false }
def FnExactConstantsSaid : Prop := fnExactConstantsRow.holds Try.pinned (OpenSpec.ofChange fnExactConstantsSpec)

/-- ITS FALSE NEIGHBOUR: 'it returns false'. Refute it at one input. -/
def fnExactConstantsWrong : ChangeSpec := { name := "fnExactConstants", fn := fun _ => fun
  | [] => { results := [.lit (.bool false)], args := [] }
  | _ => none }
def FnExactConstantsWrongFalsely : Prop := fnExactConstantsRow.holds Try.pinned (OpenSpec.ofChange fnExactConstantsWrong)

/-- 'laws.FnExactSameNumber': WHATEVER THE INPUT: true; the input reads as it did. -/
def fnExactSameNumberSpec : ChangeSpec := { name := "fnExactSameNumber", fn := fun _ => fun
  | [d1, d2] => { results := [.lit (.bool true)], args := [d1, d2] }
  | _ => none }
def fnExactSameNumberRow : OpenClaim := { program := "ytfbajjddndgmlaa", sum := "8f2f3cf89463cf7088d45c1bc45366cbf8ac5a3459f424a8aca7f1fd4022554e", func := "loop.example/g01213/laws.FnExactSameNumber", spec := "fnExactSameNumber", inPlace := ["math.Float32bits"], apart := false }
def FnExactSameNumberSaid : Prop := fnExactSameNumberRow.holds Try.pinned (OpenSpec.ofChange fnExactSameNumberSpec)

/-- ITS FALSE NEIGHBOUR: 'it returns false'. Refute it at one input. -/
def fnExactSameNumberWrong : ChangeSpec := { name := "fnExactSameNumber", fn := fun _ => fun
  | [d1, d2] => { results := [.lit (.bool false)], args := [d1, d2] }
  | _ => none }
def FnExactSameNumberWrongFalsely : Prop := fnExactSameNumberRow.holds Try.pinned (OpenSpec.ofChange fnExactSameNumberWrong)

/-- 'laws.FnExactCodeName': WHATEVER THE INPUT: true; the input reads as it did. -/
def fnExactCodeNameSpec : ChangeSpec := { name := "fnExactCodeName", fn := fun _ => fun
  | [d] => { results := [.lit (.bool true)], args := [d] }
  | _ => none }
def fnExactCodeNameRow : OpenClaim := { program := "ytfbajjddndgmlaa", sum := "8f2f3cf89463cf7088d45c1bc45366cbf8ac5a3459f424a8aca7f1fd4022554e", func := "loop.example/g01213/laws.FnExactCodeName", spec := "fnExactCodeName", apart := false }
def FnExactCodeNameSaid : Prop := fnExactCodeNameRow.holds Try.pinned (OpenSpec.ofChange fnExactCodeNameSpec)

/-- ITS FALSE NEIGHBOUR: 'it returns false'. Refute it at one input. -/
def fnExactCodeNameWrong : ChangeSpec := { name := "fnExactCodeName", fn := fun _ => fun
  | [d] => { results := [.lit (.bool false)], args := [d] }
  | _ => none }
def FnExactCodeNameWrongFalsely : Prop := fnExactCodeNameRow.holds Try.pinned (OpenSpec.ofChange fnExactCodeNameWrong)

/-- 'laws.FnExactFlatCurve': WHATEVER THE INPUT: true; the input reads as it did. -/
def fnExactFlatCurveSpec : ChangeSpec := { name := "fnExactFlatCurve", fn := fun _ => fun
  | [d] => { results := [.lit (.bool true)], args := [d] }
  | _ => none }
def fnExactFlatCurveRow : OpenClaim := { program := "ytfbajjddndgmlaa", sum := "8f2f3cf89463cf7088d45c1bc45366cbf8ac5a3459f424a8aca7f1fd4022554e", func := "loop.example/g01213/laws.FnExactFlatCurve", spec := "fnExactFlatCurve", unfollowed := true, recurses := true, apart := false }
def FnExactFlatCurveSaid : Prop := fnExactFlatCurveRow.holds Try.pinned (OpenSpec.ofChange fnExactFlatCurveSpec)

/-- ITS FALSE NEIGHBOUR: 'it returns false'. Refute it at one input. -/
def fnExactFlatCurveWrong : ChangeSpec := { name := "fnExactFlatCurve", fn := fun _ => fun
  | [d] => { results := [.lit (.bool false)], args := [d] }
  | _ => none }
def FnExactFlatCurveWrongFalsely : Prop := fnExactFlatCurveRow.holds Try.pinned (OpenSpec.ofChange fnExactFlatCurveWrong)

/-- 'laws.FnExactSumOfCurve': WHATEVER THE INPUT: true; the input reads as it did. -/
def fnExactSumOfCurveSpec : ChangeSpec := { name := "fnExactSumOfCurve", fn := fun _ => fun
  | [d] => { results := [.lit (.bool true)], args := [d] }
  | _ => none }
def fnExactSumOfCurveRow : OpenClaim := { program := "ytfbajjddndgmlaa", sum := "8f2f3cf89463cf7088d45c1bc45366cbf8ac5a3459f424a8aca7f1fd4022554e", func := "loop.example/g01213/laws.FnExactSumOfCurve", spec := "fnExactSumOfCurve", apart := false }
def FnExactSumOfCurveSaid : Prop := fnExactSumOfCurveRow.holds Try.pinned (OpenSpec.ofChange fnExactSumOfCurveSpec)

/-- ITS FALSE NEIGHBOUR: 'it returns false'. Refute it at one input. -/
def fnExactSumOfCurveWrong : ChangeSpec := { name := "fnExactSumOfCurve", fn := fun _ => fun
  | [d] => { results := [.lit (.bool false)], args := [d] }
  | _ => none }
def FnExactSumOfCurveWrongFalsely : Prop := fnExactSumOfCurveRow.holds Try.pinned (OpenSpec.ofChange fnExactSumOfCurveWrong)

/-- 'laws.FnExactSameThree': WHATEVER THE INPUT: true; the input reads as it did. -/
def fnExactSameThreeSpec : ChangeSpec := { name := "fnExactSameThree", fn := fun _ => fun
  | [d1, d2] => { results := [.lit (.bool true)], args := [d1, d2] }
  | _ => none }
def fnExactSameThreeRow : OpenClaim := { program := "ytfbajjddndgmlaa", sum := "8f2f3cf89463cf7088d45c1bc45366cbf8ac5a3459f424a8aca7f1fd4022554e", func := "loop.example/g01213/laws.FnExactSameThree", spec := "fnExactSameThree", inPlace := ["math.Float32bits"], unfollowed := true, recurses := true, apart := false }
def FnExactSameThreeSaid : Prop := fnExactSameThreeRow.holds Try.pinned (OpenSpec.ofChange fnExactSameThreeSpec)

/-- ITS FALSE NEIGHBOUR: 'it returns false'. Refute it at one input. -/
def fnExactSameThreeWrong : ChangeSpec := { name := "fnExactSameThree", fn := fun _ => fun
  | [d1, d2] => { results := [.lit (.bool false)], args := [d1, d2] }
  | _ => none }
def FnExactSameThreeWrongFalsely : Prop := fnExactSameThreeRow.holds Try.pinned (OpenSpec.ofChange fnExactSameThreeWrong)

/-- 'laws.FnExactMulCurves': WHATEVER THE INPUT: true; the input reads as it did. -/
def fnExactMulCurvesSpec : ChangeSpec := { name := "fnExactMulCurves", fn := fun _ => fun
  | [d1, d2] => { results := [.lit (.bool true)], args := [d1, d2] }
  | _ => none }
def fnExactMulCurvesRow : OpenClaim := { program := "ytfbajjddndgmlaa", sum := "8f2f3cf89463cf7088d45c1bc45366cbf8ac5a3459f424a8aca7f1fd4022554e", func := "loop.example/g01213/laws.FnExactMulCurves", spec := "fnExactMulCurves", unfollowed := true, recurses := true, apart := false }
def FnExactMulCurvesSaid : Prop := fnExactMulCurvesRow.holds Try.pinned (OpenSpec.ofChange fnExactMulCurvesSpec)

/-- ITS FALSE NEIGHBOUR: 'it returns false'. Refute it at one input. -/
def fnExactMulCurvesWrong : ChangeSpec := { name := "fnExactMulCurves", fn := fun _ => fun
  | [d1, d2] => { results := [.lit (.bool false)], args := [d1, d2] }
  | _ => none }
def FnExactMulCurvesWrongFalsely : Prop := fnExactMulCurvesRow.holds Try.pinned (OpenSpec.ofChange fnExactMulCurvesWrong)

/-- 'laws.FnExactAddCurves': WHATEVER THE INPUT: true; the input reads as it did. -/
def fnExactAddCurvesSpec : ChangeSpec := { name := "fnExactAddCurves", fn := fun _ => fun
  | [d1, d2] => { results := [.lit (.bool true)], args := [d1, d2] }
  | _ => none }
def fnExactAddCurvesRow : OpenClaim := { program := "ytfbajjddndgmlaa", sum := "8f2f3cf89463cf7088d45c1bc45366cbf8ac5a3459f424a8aca7f1fd4022554e", func := "loop.example/g01213/laws.FnExactAddCurves", spec := "fnExactAddCurves", unfollowed := true, recurses := true, apart := false }
def FnExactAddCurvesSaid : Prop := fnExactAddCurvesRow.holds Try.pinned (OpenSpec.ofChange fnExactAddCurvesSpec)

/-- ITS FALSE NEIGHBOUR: 'it returns false'. Refute it at one input. -/
def fnExactAddCurvesWrong : ChangeSpec := { name := "fnExactAddCurves", fn := fun _ => fun
  | [d1, d2] => { results := [.lit (.bool false)], args := [d1, d2] }
  | _ => none }
def FnExactAddCurvesWrongFalsely : Prop := fnExactAddCurvesRow.holds Try.pinned (OpenSpec.ofChange fnExactAddCurvesWrong)

/-- 'laws.FnExactMixCurves': WHATEVER THE INPUT: true; the input reads as it did. -/
def fnExactMixCurvesSpec : ChangeSpec := { name := "fnExactMixCurves", fn := fun _ => fun
  | [d1, d2, d3] => { results := [.lit (.bool true)], args := [d1, d2, d3] }
  | _ => none }
def fnExactMixCurvesRow : OpenClaim := { program := "ytfbajjddndgmlaa", sum := "8f2f3cf89463cf7088d45c1bc45366cbf8ac5a3459f424a8aca7f1fd4022554e", func := "loop.example/g01213/laws.FnExactMixCurves", spec := "fnExactMixCurves", unfollowed := true, recurses := true, apart := false }
def FnExactMixCurvesSaid : Prop := fnExactMixCurvesRow.holds Try.pinned (OpenSpec.ofChange fnExactMixCurvesSpec)

/-- ITS FALSE NEIGHBOUR: 'it returns false'. Refute it at one input. -/
def fnExactMixCurvesWrong : ChangeSpec := { name := "fnExactMixCurves", fn := fun _ => fun
  | [d1, d2, d3] => { results := [.lit (.bool false)], args := [d1, d2, d3] }
  | _ => none }
def FnExactMixCurvesWrongFalsely : Prop := fnExactMixCurvesRow.holds Try.pinned (OpenSpec.ofChange fnExactMixCurvesWrong)

/-- 'laws.FnExactScaleCurve': WHATEVER THE INPUT: true; the input reads as it did. -/
def fnExactScaleCurveSpec : ChangeSpec := { name := "fnExactScaleCurve", fn := fun _ => fun
  | [d1, d2] => { results := [.lit (.bool true)], args := [d1, d2] }
  | _ => none }
def fnExactScaleCurveRow : OpenClaim := { program := "ytfbajjddndgmlaa", sum := "8f2f3cf89463cf7088d45c1bc45366cbf8ac5a3459f424a8aca7f1fd4022554e", func := "loop.example/g01213/laws.FnExactScaleCurve", spec := "fnExactScaleCurve", unfollowed := true, recurses := true, apart := false }
def FnExactScaleCurveSaid : Prop := fnExactScaleCurveRow.holds Try.pinned (OpenSpec.ofChange fnExactScaleCurveSpec)

/-- ITS FALSE NEIGHBOUR: 'it returns false'. Refute it at one input. -/
def fnExactScaleCurveWrong : ChangeSpec := { name := "fnExactScaleCurve", fn := fun _ => fun
  | [d1, d2] => { results := [.lit (.bool false)], args := [d1, d2] }
  | _ => none }
def FnExactScaleCurveWrongFalsely : Prop := fnExactScaleCurveRow.holds Try.pinned (OpenSpec.ofChange fnExactScaleCurveWrong)

/-- 'laws.FnExactLightOf': WHATEVER THE INPUT: true; the input reads as it did. -/
def fnExactLightOfSpec : ChangeSpec := { name := "fnExactLightOf", fn := fun _ => fun
  | [d] => { results := [.lit (.bool true)], args := [d] }
  | _ => none }
def fnExactLightOfRow : OpenClaim := { program := "ytfbajjddndgmlaa", sum := "8f2f3cf89463cf7088d45c1bc45366cbf8ac5a3459f424a8aca7f1fd4022554e", func := "loop.example/g01213/laws.FnExactLightOf", spec := "fnExactLightOf", apart := false }
def FnExactLightOfSaid : Prop := fnExactLightOfRow.holds Try.pinned (OpenSpec.ofChange fnExactLightOfSpec)

/-- ITS FALSE NEIGHBOUR: 'it returns false'. Refute it at one input. -/
def fnExactLightOfWrong : ChangeSpec := { name := "fnExactLightOf", fn := fun _ => fun
  | [d] => { results := [.lit (.bool false)], args := [d] }
  | _ => none }
def FnExactLightOfWrongFalsely : Prop := fnExactLightOfRow.holds Try.pinned (OpenSpec.ofChange fnExactLightOfWrong)

/-- 'laws.FnExactSameCurve': WHATEVER THE INPUT: true; the input reads as it did. -/
def fnExactSameCurveSpec : ChangeSpec := { name := "fnExactSameCurve", fn := fun _ => fun
  | [d1, d2] => { results := [.lit (.bool true)], args := [d1, d2] }
  | _ => none }
def fnExactSameCurveRow : OpenClaim := { program := "ytfbajjddndgmlaa", sum := "8f2f3cf89463cf7088d45c1bc45366cbf8ac5a3459f424a8aca7f1fd4022554e", func := "loop.example/g01213/laws.FnExactSameCurve", spec := "fnExactSameCurve", inPlace := ["math.Float32bits"], unfollowed := true, recurses := true, apart := false }
def FnExactSameCurveSaid : Prop := fnExactSameCurveRow.holds Try.pinned (OpenSpec.ofChange fnExactSameCurveSpec)

/-- ITS FALSE NEIGHBOUR: 'it returns false'. Refute it at one input. -/
def fnExactSameCurveWrong : ChangeSpec := { name := "fnExactSameCurve", fn := fun _ => fun
  | [d1, d2] => { results := [.lit (.bool false)], args := [d1, d2] }
  | _ => none }
def FnExactSameCurveWrongFalsely : Prop := fnExactSameCurveRow.holds Try.pinned (OpenSpec.ofChange fnExactSameCurveWrong)

/- THE SECOND FORM. 'bulk': how many values and letters a reading holds, each counted each time it is reached (what is shared counts as often as it is met; a slice's spare places count too). A statement '..UptoSaid' is the law's where the arguments, and the package variables that the reading takes, are together of bulk at most 1048576: NARROWER than '..Said'. Prove '..Said' where nothing that the law and all that it calls make is longer than what came in: it says more and counts as full. Else prove '..UptoSaid'. A law counts once. -/
mutual
def uptoBulk {H : Type} : DataW H → Nat
  | .lit (.string bytes) => bytes.length + 1
  | .lit _ => 1
  | .nil => 1
  | .ptr d => uptoBulk d + 1
  | .slice elems spare => uptoBulkAll elems + uptoBulkAll spare + 1
  | .agg parts => uptoBulkAll parts + 1
  | .iface _ d => uptoBulk d + 1
  | .map entries => uptoBulkEntries entries + 1
  | .held _ => 1
def uptoBulkAll {H : Type} : List (DataW H) → Nat
  | [] => 0
  | d :: r => uptoBulk d + uptoBulkAll r
def uptoBulkEntries {H : Type} : List (Lit × DataW H) → Nat
  | [] => 0
  | x :: r => uptoBulkEntry x + uptoBulkEntries r
def uptoBulkEntry {H : Type} : Lit × DataW H → Nat
  | (.string bytes, d) => bytes.length + uptoBulk d + 1
  | (_, d) => uptoBulk d + 1
 end
def uptoSmall : (H : Type) → List (DataW H) → Bool := fun _ ds => decide (uptoBulkAll ds ≤ 1048576)
def OpenSpec.upto (s : _root_.Go.ChangeSpec) : _root_.Go.OpenSpec := { _root_.Go.OpenSpec.ofChange s with cond := some uptoSmall }

/-- 'laws.FnExactConstants', WHERE WHAT IT READS IS OF BULK AT MOST 1048576: true; the input reads as it did. -/
def fnExactConstantsUptoRow : OpenClaim := { program := "ytfbajjddndgmlaa", sum := "8f2f3cf89463cf7088d45c1bc45366cbf8ac5a3459f424a8aca7f1fd4022554e", func := "loop.example/g01213/laws.FnExactConstants", spec := "fnExactConstants", apart := false, narrowed := true }
def FnExactConstantsUptoSaid : Prop := fnExactConstantsUptoRow.holds Try.pinned (OpenSpec.upto fnExactConstantsSpec)

/-- 'laws.FnExactSameNumber', WHERE WHAT IT READS IS OF BULK AT MOST 1048576: true; the input reads as it did. -/
def fnExactSameNumberUptoRow : OpenClaim := { program := "ytfbajjddndgmlaa", sum := "8f2f3cf89463cf7088d45c1bc45366cbf8ac5a3459f424a8aca7f1fd4022554e", func := "loop.example/g01213/laws.FnExactSameNumber", spec := "fnExactSameNumber", inPlace := ["math.Float32bits"], apart := false, narrowed := true }
def FnExactSameNumberUptoSaid : Prop := fnExactSameNumberUptoRow.holds Try.pinned (OpenSpec.upto fnExactSameNumberSpec)

/-- 'laws.FnExactCodeName', WHERE WHAT IT READS IS OF BULK AT MOST 1048576: true; the input reads as it did. -/
def fnExactCodeNameUptoRow : OpenClaim := { program := "ytfbajjddndgmlaa", sum := "8f2f3cf89463cf7088d45c1bc45366cbf8ac5a3459f424a8aca7f1fd4022554e", func := "loop.example/g01213/laws.FnExactCodeName", spec := "fnExactCodeName", apart := false, narrowed := true }
def FnExactCodeNameUptoSaid : Prop := fnExactCodeNameUptoRow.holds Try.pinned (OpenSpec.upto fnExactCodeNameSpec)

/-- 'laws.FnExactFlatCurve', WHERE WHAT IT READS IS OF BULK AT MOST 1048576: true; the input reads as it did. -/
def fnExactFlatCurveUptoRow : OpenClaim := { program := "ytfbajjddndgmlaa", sum := "8f2f3cf89463cf7088d45c1bc45366cbf8ac5a3459f424a8aca7f1fd4022554e", func := "loop.example/g01213/laws.FnExactFlatCurve", spec := "fnExactFlatCurve", unfollowed := true, recurses := true, apart := false, narrowed := true }
def FnExactFlatCurveUptoSaid : Prop := fnExactFlatCurveUptoRow.holds Try.pinned (OpenSpec.upto fnExactFlatCurveSpec)

/-- 'laws.FnExactSumOfCurve', WHERE WHAT IT READS IS OF BULK AT MOST 1048576: true; the input reads as it did. -/
def fnExactSumOfCurveUptoRow : OpenClaim := { program := "ytfbajjddndgmlaa", sum := "8f2f3cf89463cf7088d45c1bc45366cbf8ac5a3459f424a8aca7f1fd4022554e", func := "loop.example/g01213/laws.FnExactSumOfCurve", spec := "fnExactSumOfCurve", apart := false, narrowed := true }
def FnExactSumOfCurveUptoSaid : Prop := fnExactSumOfCurveUptoRow.holds Try.pinned (OpenSpec.upto fnExactSumOfCurveSpec)

/-- 'laws.FnExactSameThree', WHERE WHAT IT READS IS OF BULK AT MOST 1048576: true; the input reads as it did. -/
def fnExactSameThreeUptoRow : OpenClaim := { program := "ytfbajjddndgmlaa", sum := "8f2f3cf89463cf7088d45c1bc45366cbf8ac5a3459f424a8aca7f1fd4022554e", func := "loop.example/g01213/laws.FnExactSameThree", spec := "fnExactSameThree", inPlace := ["math.Float32bits"], unfollowed := true, recurses := true, apart := false, narrowed := true }
def FnExactSameThreeUptoSaid : Prop := fnExactSameThreeUptoRow.holds Try.pinned (OpenSpec.upto fnExactSameThreeSpec)

/-- 'laws.FnExactMulCurves', WHERE WHAT IT READS IS OF BULK AT MOST 1048576: true; the input reads as it did. -/
def fnExactMulCurvesUptoRow : OpenClaim := { program := "ytfbajjddndgmlaa", sum := "8f2f3cf89463cf7088d45c1bc45366cbf8ac5a3459f424a8aca7f1fd4022554e", func := "loop.example/g01213/laws.FnExactMulCurves", spec := "fnExactMulCurves", unfollowed := true, recurses := true, apart := false, narrowed := true }
def FnExactMulCurvesUptoSaid : Prop := fnExactMulCurvesUptoRow.holds Try.pinned (OpenSpec.upto fnExactMulCurvesSpec)

/-- 'laws.FnExactAddCurves', WHERE WHAT IT READS IS OF BULK AT MOST 1048576: true; the input reads as it did. -/
def fnExactAddCurvesUptoRow : OpenClaim := { program := "ytfbajjddndgmlaa", sum := "8f2f3cf89463cf7088d45c1bc45366cbf8ac5a3459f424a8aca7f1fd4022554e", func := "loop.example/g01213/laws.FnExactAddCurves", spec := "fnExactAddCurves", unfollowed := true, recurses := true, apart := false, narrowed := true }
def FnExactAddCurvesUptoSaid : Prop := fnExactAddCurvesUptoRow.holds Try.pinned (OpenSpec.upto fnExactAddCurvesSpec)

/-- 'laws.FnExactMixCurves', WHERE WHAT IT READS IS OF BULK AT MOST 1048576: true; the input reads as it did. -/
def fnExactMixCurvesUptoRow : OpenClaim := { program := "ytfbajjddndgmlaa", sum := "8f2f3cf89463cf7088d45c1bc45366cbf8ac5a3459f424a8aca7f1fd4022554e", func := "loop.example/g01213/laws.FnExactMixCurves", spec := "fnExactMixCurves", unfollowed := true, recurses := true, apart := false, narrowed := true }
def FnExactMixCurvesUptoSaid : Prop := fnExactMixCurvesUptoRow.holds Try.pinned (OpenSpec.upto fnExactMixCurvesSpec)

/-- 'laws.FnExactScaleCurve', WHERE WHAT IT READS IS OF BULK AT MOST 1048576: true; the input reads as it did. -/
def fnExactScaleCurveUptoRow : OpenClaim := { program := "ytfbajjddndgmlaa", sum := "8f2f3cf89463cf7088d45c1bc45366cbf8ac5a3459f424a8aca7f1fd4022554e", func := "loop.example/g01213/laws.FnExactScaleCurve", spec := "fnExactScaleCurve", unfollowed := true, recurses := true, apart := false, narrowed := true }
def FnExactScaleCurveUptoSaid : Prop := fnExactScaleCurveUptoRow.holds Try.pinned (OpenSpec.upto fnExactScaleCurveSpec)

/-- 'laws.FnExactLightOf', WHERE WHAT IT READS IS OF BULK AT MOST 1048576: true; the input reads as it did. -/
def fnExactLightOfUptoRow : OpenClaim := { program := "ytfbajjddndgmlaa", sum := "8f2f3cf89463cf7088d45c1bc45366cbf8ac5a3459f424a8aca7f1fd4022554e", func := "loop.example/g01213/laws.FnExactLightOf", spec := "fnExactLightOf", apart := false, narrowed := true }
def FnExactLightOfUptoSaid : Prop := fnExactLightOfUptoRow.holds Try.pinned (OpenSpec.upto fnExactLightOfSpec)

/-- 'laws.FnExactSameCurve', WHERE WHAT IT READS IS OF BULK AT MOST 1048576: true; the input reads as it did. -/
def fnExactSameCurveUptoRow : OpenClaim := { program := "ytfbajjddndgmlaa", sum := "8f2f3cf89463cf7088d45c1bc45366cbf8ac5a3459f424a8aca7f1fd4022554e", func := "loop.example/g01213/laws.FnExactSameCurve", spec := "fnExactSameCurve", inPlace := ["math.Float32bits"], unfollowed := true, recurses := true, apart := false, narrowed := true }
def FnExactSameCurveUptoSaid : Prop := fnExactSameCurveUptoRow.holds Try.pinned (OpenSpec.upto fnExactSameCurveSpec)

end Rows
end Go.Proofs.Ytfbajjddndgmlaa
