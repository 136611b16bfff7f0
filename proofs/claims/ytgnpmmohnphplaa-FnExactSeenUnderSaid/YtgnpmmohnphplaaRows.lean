/-
  No cell of these rows narrows 'for every input' (looked for: loops, veiled, ifaces, maps, wideKeys, modest, calm, conditions, laid).
  DERIVED. THE GIVEN ROWS OF THIS SEAT. 12 by the template 'for every input the law returns true; each argument reads behind the call as it read before'; 0 by the template 'total and deterministic' (their statements: YtgnpmmohnphplaaTotals.lean).
  GIVEN WITH THE SEED: the statements are not yours to turn. If you find one false, say at which input.
  Laid BY PROGRAM, IN A SANDBOX (cutbox-rows.mjs): the forced cells as the released guide's own fill.sh prints them over the translation 91b6ca4ae5030a5d… (all of the seat's roots in one cut). By AI agents, Wed Nov 11 2026. No macro, syntax, notation, axiom, sorry.
-/
import Derived.Test.YtgnpmmohnphplaaChecked
import GoSem.Claim
import GoSem.ClaimJoined
import GoSem.ClaimMapViews
import Derived.JoinedTies
import Derived.KernelRfl
namespace Go.Proofs.Ytgnpmmohnphplaa
/- THE CELL 'sum', in the pinned program and in every row, IS THE sha256 OF THE DUMP (.gsa) THAT YtgnpmmohnphplaaProg.lean LOADS. Nothing in Lean hashes anything: it is a label: what it is worth is what the hold of that sum in a sandbox is worth. -/
noncomputable def Try.pinned : Pinned := { name := "ytgnpmmohnphplaa", sum := "91b6ca4ae5030a5dd9c3c6e0ed46790330946ba7d1067ca3160826693804f89f", checked := Try.checked }
namespace Rows
def none {H : Type} : Left H := { results := [], args := [] }

/-- 'laws.FnExactObservers': WHATEVER THE INPUT: true; the input reads as it did. -/
def fnExactObserversSpec : ChangeSpec := { name := "fnExactObservers", fn := fun _ => fun
  | [] => { results := [.lit (.bool true)], args := [] }
  | _ => none }
def fnExactObserversRow : OpenClaim := { program := "ytgnpmmohnphplaa", sum := "91b6ca4ae5030a5dd9c3c6e0ed46790330946ba7d1067ca3160826693804f89f", func := "loop.example/g01213/laws.FnExactObservers", spec := "fnExactObservers", unfollowed := true, recurses := true, apart := false }
def FnExactObserversSaid : Prop := fnExactObserversRow.holds Try.pinned (OpenSpec.ofChange fnExactObserversSpec)

/-- ITS FALSE NEIGHBOUR: 'it returns false'. Refute it at one input. -/
def fnExactObserversWrong : ChangeSpec := { name := "fnExactObservers", fn := fun _ => fun
  | [] => { results := [.lit (.bool false)], args := [] }
  | _ => none }
def FnExactObserversWrongFalsely : Prop := fnExactObserversRow.holds Try.pinned (OpenSpec.ofChange fnExactObserversWrong)

/-- 'laws.FnExactBump': WHATEVER THE INPUT: true; the input reads as it did. -/
def fnExactBumpSpec : ChangeSpec := { name := "fnExactBump", fn := fun _ => fun
  | [d1, d2] => { results := [.lit (.bool true)], args := [d1, d2] }
  | _ => none }
def fnExactBumpRow : OpenClaim := { program := "ytgnpmmohnphplaa", sum := "91b6ca4ae5030a5dd9c3c6e0ed46790330946ba7d1067ca3160826693804f89f", func := "loop.example/g01213/laws.FnExactBump", spec := "fnExactBump", inPlace := ["math.Float64bits", "math.Float64frombits"], unfollowed := true, recurses := true, apart := false }
def FnExactBumpSaid : Prop := fnExactBumpRow.holds Try.pinned (OpenSpec.ofChange fnExactBumpSpec)

/-- ITS FALSE NEIGHBOUR: 'it returns false'. Refute it at one input. -/
def fnExactBumpWrong : ChangeSpec := { name := "fnExactBump", fn := fun _ => fun
  | [d1, d2] => { results := [.lit (.bool false)], args := [d1, d2] }
  | _ => none }
def FnExactBumpWrongFalsely : Prop := fnExactBumpRow.holds Try.pinned (OpenSpec.ofChange fnExactBumpWrong)

/-- 'laws.FnExactLostIn': WHATEVER THE INPUT: true; the input reads as it did. -/
def fnExactLostInSpec : ChangeSpec := { name := "fnExactLostIn", fn := fun _ => fun
  | [d] => { results := [.lit (.bool true)], args := [d] }
  | _ => none }
def fnExactLostInRow : OpenClaim := { program := "ytgnpmmohnphplaa", sum := "91b6ca4ae5030a5dd9c3c6e0ed46790330946ba7d1067ca3160826693804f89f", func := "loop.example/g01213/laws.FnExactLostIn", spec := "fnExactLostIn", unfollowed := true, recurses := true, apart := false }
def FnExactLostInSaid : Prop := fnExactLostInRow.holds Try.pinned (OpenSpec.ofChange fnExactLostInSpec)

/-- ITS FALSE NEIGHBOUR: 'it returns false'. Refute it at one input. -/
def fnExactLostInWrong : ChangeSpec := { name := "fnExactLostIn", fn := fun _ => fun
  | [d] => { results := [.lit (.bool false)], args := [d] }
  | _ => none }
def FnExactLostInWrongFalsely : Prop := fnExactLostInRow.holds Try.pinned (OpenSpec.ofChange fnExactLostInWrong)

/-- 'laws.FnExactCubeRoot': WHATEVER THE INPUT: true; the input reads as it did. -/
def fnExactCubeRootSpec : ChangeSpec := { name := "fnExactCubeRoot", fn := fun _ => fun
  | [d] => { results := [.lit (.bool true)], args := [d] }
  | _ => none }
def fnExactCubeRootRow : OpenClaim := { program := "ytgnpmmohnphplaa", sum := "91b6ca4ae5030a5dd9c3c6e0ed46790330946ba7d1067ca3160826693804f89f", func := "loop.example/g01213/laws.FnExactCubeRoot", spec := "fnExactCubeRoot", inPlace := ["math.Float64bits", "math.Float64frombits"], unfollowed := true, recurses := true, apart := false }
def FnExactCubeRootSaid : Prop := fnExactCubeRootRow.holds Try.pinned (OpenSpec.ofChange fnExactCubeRootSpec)

/-- ITS FALSE NEIGHBOUR: 'it returns false'. Refute it at one input. -/
def fnExactCubeRootWrong : ChangeSpec := { name := "fnExactCubeRoot", fn := fun _ => fun
  | [d] => { results := [.lit (.bool false)], args := [d] }
  | _ => none }
def FnExactCubeRootWrongFalsely : Prop := fnExactCubeRootRow.holds Try.pinned (OpenSpec.ofChange fnExactCubeRootWrong)

/-- 'laws.FnExactDifferenceOf': WHATEVER THE INPUT: true; the input reads as it did. -/
def fnExactDifferenceOfSpec : ChangeSpec := { name := "fnExactDifferenceOf", fn := fun _ => fun
  | [d1, d2] => { results := [.lit (.bool true)], args := [d1, d2] }
  | _ => none }
def fnExactDifferenceOfRow : OpenClaim := { program := "ytgnpmmohnphplaa", sum := "91b6ca4ae5030a5dd9c3c6e0ed46790330946ba7d1067ca3160826693804f89f", func := "loop.example/g01213/laws.FnExactDifferenceOf", spec := "fnExactDifferenceOf", inPlace := ["math.sqrt"], apart := false }
def FnExactDifferenceOfSaid : Prop := fnExactDifferenceOfRow.holds Try.pinned (OpenSpec.ofChange fnExactDifferenceOfSpec)

/-- ITS FALSE NEIGHBOUR: 'it returns false'. Refute it at one input. -/
def fnExactDifferenceOfWrong : ChangeSpec := { name := "fnExactDifferenceOf", fn := fun _ => fun
  | [d1, d2] => { results := [.lit (.bool false)], args := [d1, d2] }
  | _ => none }
def FnExactDifferenceOfWrongFalsely : Prop := fnExactDifferenceOfRow.holds Try.pinned (OpenSpec.ofChange fnExactDifferenceOfWrong)

/-- 'laws.FnExactRatioOf': WHATEVER THE INPUT: true; the input reads as it did. -/
def fnExactRatioOfSpec : ChangeSpec := { name := "fnExactRatioOf", fn := fun _ => fun
  | [d] => { results := [.lit (.bool true)], args := [d] }
  | _ => none }
def fnExactRatioOfRow : OpenClaim := { program := "ytgnpmmohnphplaa", sum := "91b6ca4ae5030a5dd9c3c6e0ed46790330946ba7d1067ca3160826693804f89f", func := "loop.example/g01213/laws.FnExactRatioOf", spec := "fnExactRatioOf", inPlace := ["math.Float64bits", "math.Float64frombits"], unfollowed := true, recurses := true, apart := false }
def FnExactRatioOfSaid : Prop := fnExactRatioOfRow.holds Try.pinned (OpenSpec.ofChange fnExactRatioOfSpec)

/-- ITS FALSE NEIGHBOUR: 'it returns false'. Refute it at one input. -/
def fnExactRatioOfWrong : ChangeSpec := { name := "fnExactRatioOf", fn := fun _ => fun
  | [d] => { results := [.lit (.bool false)], args := [d] }
  | _ => none }
def FnExactRatioOfWrongFalsely : Prop := fnExactRatioOfRow.holds Try.pinned (OpenSpec.ofChange fnExactRatioOfWrong)

/-- 'laws.FnExactDistanceOf': WHATEVER THE INPUT: true; the input reads as it did. -/
def fnExactDistanceOfSpec : ChangeSpec := { name := "fnExactDistanceOf", fn := fun _ => fun
  | [d1, d2] => { results := [.lit (.bool true)], args := [d1, d2] }
  | _ => none }
def fnExactDistanceOfRow : OpenClaim := { program := "ytgnpmmohnphplaa", sum := "91b6ca4ae5030a5dd9c3c6e0ed46790330946ba7d1067ca3160826693804f89f", func := "loop.example/g01213/laws.FnExactDistanceOf", spec := "fnExactDistanceOf", inPlace := ["math.sqrt"], apart := false }
def FnExactDistanceOfSaid : Prop := fnExactDistanceOfRow.holds Try.pinned (OpenSpec.ofChange fnExactDistanceOfSpec)

/-- ITS FALSE NEIGHBOUR: 'it returns false'. Refute it at one input. -/
def fnExactDistanceOfWrong : ChangeSpec := { name := "fnExactDistanceOf", fn := fun _ => fun
  | [d1, d2] => { results := [.lit (.bool false)], args := [d1, d2] }
  | _ => none }
def FnExactDistanceOfWrongFalsely : Prop := fnExactDistanceOfRow.holds Try.pinned (OpenSpec.ofChange fnExactDistanceOfWrong)

/-- 'laws.FnExactRatioCurve': WHATEVER THE INPUT: true; the input reads as it did. -/
def fnExactRatioCurveSpec : ChangeSpec := { name := "fnExactRatioCurve", fn := fun _ => fun
  | [d1, d2] => { results := [.lit (.bool true)], args := [d1, d2] }
  | _ => none }
def fnExactRatioCurveRow : OpenClaim := { program := "ytgnpmmohnphplaa", sum := "91b6ca4ae5030a5dd9c3c6e0ed46790330946ba7d1067ca3160826693804f89f", func := "loop.example/g01213/laws.FnExactRatioCurve", spec := "fnExactRatioCurve", inPlace := ["math.Float64bits", "math.Float64frombits"], unfollowed := true, recurses := true, apart := false }
def FnExactRatioCurveSaid : Prop := fnExactRatioCurveRow.holds Try.pinned (OpenSpec.ofChange fnExactRatioCurveSpec)

/-- ITS FALSE NEIGHBOUR: 'it returns false'. Refute it at one input. -/
def fnExactRatioCurveWrong : ChangeSpec := { name := "fnExactRatioCurve", fn := fun _ => fun
  | [d1, d2] => { results := [.lit (.bool false)], args := [d1, d2] }
  | _ => none }
def FnExactRatioCurveWrongFalsely : Prop := fnExactRatioCurveRow.holds Try.pinned (OpenSpec.ofChange fnExactRatioCurveWrong)

/-- 'laws.FnExactLookOf': WHATEVER THE INPUT: true; the input reads as it did. -/
def fnExactLookOfSpec : ChangeSpec := { name := "fnExactLookOf", fn := fun _ => fun
  | [d] => { results := [.lit (.bool true)], args := [d] }
  | _ => none }
def fnExactLookOfRow : OpenClaim := { program := "ytgnpmmohnphplaa", sum := "91b6ca4ae5030a5dd9c3c6e0ed46790330946ba7d1067ca3160826693804f89f", func := "loop.example/g01213/laws.FnExactLookOf", spec := "fnExactLookOf", inPlace := ["math.Float64bits", "math.Float64frombits"], unfollowed := true, recurses := true, apart := false }
def FnExactLookOfSaid : Prop := fnExactLookOfRow.holds Try.pinned (OpenSpec.ofChange fnExactLookOfSpec)

/-- ITS FALSE NEIGHBOUR: 'it returns false'. Refute it at one input. -/
def fnExactLookOfWrong : ChangeSpec := { name := "fnExactLookOf", fn := fun _ => fun
  | [d] => { results := [.lit (.bool false)], args := [d] }
  | _ => none }
def FnExactLookOfWrongFalsely : Prop := fnExactLookOfRow.holds Try.pinned (OpenSpec.ofChange fnExactLookOfWrong)

/-- 'laws.FnExactSeenUnder': WHATEVER THE INPUT: true; the input reads as it did. -/
def fnExactSeenUnderSpec : ChangeSpec := { name := "fnExactSeenUnder", fn := fun _ => fun
  | [d1, d2] => { results := [.lit (.bool true)], args := [d1, d2] }
  | _ => none }
def fnExactSeenUnderRow : OpenClaim := { program := "ytgnpmmohnphplaa", sum := "91b6ca4ae5030a5dd9c3c6e0ed46790330946ba7d1067ca3160826693804f89f", func := "loop.example/g01213/laws.FnExactSeenUnder", spec := "fnExactSeenUnder", inPlace := ["math.Float64bits", "math.Float64frombits"], unfollowed := true, recurses := true, apart := false }
def FnExactSeenUnderSaid : Prop := fnExactSeenUnderRow.holds Try.pinned (OpenSpec.ofChange fnExactSeenUnderSpec)

/-- ITS FALSE NEIGHBOUR: 'it returns false'. Refute it at one input. -/
def fnExactSeenUnderWrong : ChangeSpec := { name := "fnExactSeenUnder", fn := fun _ => fun
  | [d1, d2] => { results := [.lit (.bool false)], args := [d1, d2] }
  | _ => none }
def FnExactSeenUnderWrongFalsely : Prop := fnExactSeenUnderRow.holds Try.pinned (OpenSpec.ofChange fnExactSeenUnderWrong)

/-- 'laws.FnExactFilmOf': WHATEVER THE INPUT: true; the input reads as it did. -/
def fnExactFilmOfSpec : ChangeSpec := { name := "fnExactFilmOf", fn := fun _ => fun
  | [d] => { results := [.lit (.bool true)], args := [d] }
  | _ => none }
def fnExactFilmOfRow : OpenClaim := { program := "ytgnpmmohnphplaa", sum := "91b6ca4ae5030a5dd9c3c6e0ed46790330946ba7d1067ca3160826693804f89f", func := "loop.example/g01213/laws.FnExactFilmOf", spec := "fnExactFilmOf", inPlace := ["math.Float64bits", "math.Float64frombits"], unfollowed := true, recurses := true, apart := false }
def FnExactFilmOfSaid : Prop := fnExactFilmOfRow.holds Try.pinned (OpenSpec.ofChange fnExactFilmOfSpec)

/-- ITS FALSE NEIGHBOUR: 'it returns false'. Refute it at one input. -/
def fnExactFilmOfWrong : ChangeSpec := { name := "fnExactFilmOf", fn := fun _ => fun
  | [d] => { results := [.lit (.bool false)], args := [d] }
  | _ => none }
def FnExactFilmOfWrongFalsely : Prop := fnExactFilmOfRow.holds Try.pinned (OpenSpec.ofChange fnExactFilmOfWrong)

/-- 'laws.FnExactOfRatio': WHATEVER THE INPUT: true; the input reads as it did. -/
def fnExactOfRatioSpec : ChangeSpec := { name := "fnExactOfRatio", fn := fun _ => fun
  | [d] => { results := [.lit (.bool true)], args := [d] }
  | _ => none }
def fnExactOfRatioRow : OpenClaim := { program := "ytgnpmmohnphplaa", sum := "91b6ca4ae5030a5dd9c3c6e0ed46790330946ba7d1067ca3160826693804f89f", func := "loop.example/g01213/laws.FnExactOfRatio", spec := "fnExactOfRatio", inPlace := ["math.sqrt", "math.Float64bits", "math.Float64frombits"], unfollowed := true, recurses := true, apart := false }
def FnExactOfRatioSaid : Prop := fnExactOfRatioRow.holds Try.pinned (OpenSpec.ofChange fnExactOfRatioSpec)

/-- ITS FALSE NEIGHBOUR: 'it returns false'. Refute it at one input. -/
def fnExactOfRatioWrong : ChangeSpec := { name := "fnExactOfRatio", fn := fun _ => fun
  | [d] => { results := [.lit (.bool false)], args := [d] }
  | _ => none }
def FnExactOfRatioWrongFalsely : Prop := fnExactOfRatioRow.holds Try.pinned (OpenSpec.ofChange fnExactOfRatioWrong)

/- THE SECOND FORM. 'bulk': how many values and letters a reading holds, each counted each time it is reached (what is shared counts as often as it is met; a slice's spare places count too). A statement '..UptoSaid' is the law's where the arguments, and the package variables that the reading takes, are together of bulk at most 1048576: NARROWER than '..Said'. Prove '..Said' where nothing that the law and all that it calls make is longer than what came in: it says more and counts as full. Else prove '..UptoSaid'. A law counts once. -/
mutual
def uptoBulk {H : Type} : DataW H → Nat
  | .lit (.string bytes) => bytes.length + 1
  | .lit _ => 1
  | .nil => 1
  | .ptr d => uptoBulk d + 1
  | .slice elems spare => uptoBulkAll elems + uptoBulkAll spare + 1
  | .agg parts => uptoBulkAll parts + 1
  | .iface _ d => uptoBulk d + 1
  | .map entries => uptoBulkEntries entries + 1
  | .held _ => 1
def uptoBulkAll {H : Type} : List (DataW H) → Nat
  | [] => 0
  | d :: r => uptoBulk d + uptoBulkAll r
def uptoBulkEntries {H : Type} : List (Lit × DataW H) → Nat
  | [] => 0
  | x :: r => uptoBulkEntry x + uptoBulkEntries r
def uptoBulkEntry {H : Type} : Lit × DataW H → Nat
  | (.string bytes, d) => bytes.length + uptoBulk d + 1
  | (_, d) => uptoBulk d + 1
 end
def uptoSmall : (H : Type) → List (DataW H) → Bool := fun _ ds => decide (uptoBulkAll ds ≤ 1048576)
def OpenSpec.upto (s : _root_.Go.ChangeSpec) : _root_.Go.OpenSpec := { _root_.Go.OpenSpec.ofChange s with cond := some uptoSmall }

/-- 'laws.FnExactObservers', WHERE WHAT IT READS IS OF BULK AT MOST 1048576: true; the input reads as it did. -/
def fnExactObserversUptoRow : OpenClaim := { program := "ytgnpmmohnphplaa", sum := "91b6ca4ae5030a5dd9c3c6e0ed46790330946ba7d1067ca3160826693804f89f", func := "loop.example/g01213/laws.FnExactObservers", spec := "fnExactObservers", unfollowed := true, recurses := true, apart := false, narrowed := true }
def FnExactObserversUptoSaid : Prop := fnExactObserversUptoRow.holds Try.pinned (OpenSpec.upto fnExactObserversSpec)

/-- 'laws.FnExactBump', WHERE WHAT IT READS IS OF BULK AT MOST 1048576: true; the input reads as it did. -/
def fnExactBumpUptoRow : OpenClaim := { program := "ytgnpmmohnphplaa", sum := "91b6ca4ae5030a5dd9c3c6e0ed46790330946ba7d1067ca3160826693804f89f", func := "loop.example/g01213/laws.FnExactBump", spec := "fnExactBump", inPlace := ["math.Float64bits", "math.Float64frombits"], unfollowed := true, recurses := true, apart := false, narrowed := true }
def FnExactBumpUptoSaid : Prop := fnExactBumpUptoRow.holds Try.pinned (OpenSpec.upto fnExactBumpSpec)

/-- 'laws.FnExactLostIn', WHERE WHAT IT READS IS OF BULK AT MOST 1048576: true; the input reads as it did. -/
def fnExactLostInUptoRow : OpenClaim := { program := "ytgnpmmohnphplaa", sum := "91b6ca4ae5030a5dd9c3c6e0ed46790330946ba7d1067ca3160826693804f89f", func := "loop.example/g01213/laws.FnExactLostIn", spec := "fnExactLostIn", unfollowed := true, recurses := true, apart := false, narrowed := true }
def FnExactLostInUptoSaid : Prop := fnExactLostInUptoRow.holds Try.pinned (OpenSpec.upto fnExactLostInSpec)

/-- 'laws.FnExactCubeRoot', WHERE WHAT IT READS IS OF BULK AT MOST 1048576: true; the input reads as it did. -/
def fnExactCubeRootUptoRow : OpenClaim := { program := "ytgnpmmohnphplaa", sum := "91b6ca4ae5030a5dd9c3c6e0ed46790330946ba7d1067ca3160826693804f89f", func := "loop.example/g01213/laws.FnExactCubeRoot", spec := "fnExactCubeRoot", inPlace := ["math.Float64bits", "math.Float64frombits"], unfollowed := true, recurses := true, apart := false, narrowed := true }
def FnExactCubeRootUptoSaid : Prop := fnExactCubeRootUptoRow.holds Try.pinned (OpenSpec.upto fnExactCubeRootSpec)

/-- 'laws.FnExactDifferenceOf', WHERE WHAT IT READS IS OF BULK AT MOST 1048576: true; the input reads as it did. -/
def fnExactDifferenceOfUptoRow : OpenClaim := { program := "ytgnpmmohnphplaa", sum := "91b6ca4ae5030a5dd9c3c6e0ed46790330946ba7d1067ca3160826693804f89f", func := "loop.example/g01213/laws.FnExactDifferenceOf", spec := "fnExactDifferenceOf", inPlace := ["math.sqrt"], apart := false, narrowed := true }
def FnExactDifferenceOfUptoSaid : Prop := fnExactDifferenceOfUptoRow.holds Try.pinned (OpenSpec.upto fnExactDifferenceOfSpec)

/-- 'laws.FnExactRatioOf', WHERE WHAT IT READS IS OF BULK AT MOST 1048576: true; the input reads as it did. -/
def fnExactRatioOfUptoRow : OpenClaim := { program := "ytgnpmmohnphplaa", sum := "91b6ca4ae5030a5dd9c3c6e0ed46790330946ba7d1067ca3160826693804f89f", func := "loop.example/g01213/laws.FnExactRatioOf", spec := "fnExactRatioOf", inPlace := ["math.Float64bits", "math.Float64frombits"], unfollowed := true, recurses := true, apart := false, narrowed := true }
def FnExactRatioOfUptoSaid : Prop := fnExactRatioOfUptoRow.holds Try.pinned (OpenSpec.upto fnExactRatioOfSpec)

/-- 'laws.FnExactDistanceOf', WHERE WHAT IT READS IS OF BULK AT MOST 1048576: true; the input reads as it did. -/
def fnExactDistanceOfUptoRow : OpenClaim := { program := "ytgnpmmohnphplaa", sum := "91b6ca4ae5030a5dd9c3c6e0ed46790330946ba7d1067ca3160826693804f89f", func := "loop.example/g01213/laws.FnExactDistanceOf", spec := "fnExactDistanceOf", inPlace := ["math.sqrt"], apart := false, narrowed := true }
def FnExactDistanceOfUptoSaid : Prop := fnExactDistanceOfUptoRow.holds Try.pinned (OpenSpec.upto fnExactDistanceOfSpec)

/-- 'laws.FnExactRatioCurve', WHERE WHAT IT READS IS OF BULK AT MOST 1048576: true; the input reads as it did. -/
def fnExactRatioCurveUptoRow : OpenClaim := { program := "ytgnpmmohnphplaa", sum := "91b6ca4ae5030a5dd9c3c6e0ed46790330946ba7d1067ca3160826693804f89f", func := "loop.example/g01213/laws.FnExactRatioCurve", spec := "fnExactRatioCurve", inPlace := ["math.Float64bits", "math.Float64frombits"], unfollowed := true, recurses := true, apart := false, narrowed := true }
def FnExactRatioCurveUptoSaid : Prop := fnExactRatioCurveUptoRow.holds Try.pinned (OpenSpec.upto fnExactRatioCurveSpec)

/-- 'laws.FnExactLookOf', WHERE WHAT IT READS IS OF BULK AT MOST 1048576: true; the input reads as it did. -/
def fnExactLookOfUptoRow : OpenClaim := { program := "ytgnpmmohnphplaa", sum := "91b6ca4ae5030a5dd9c3c6e0ed46790330946ba7d1067ca3160826693804f89f", func := "loop.example/g01213/laws.FnExactLookOf", spec := "fnExactLookOf", inPlace := ["math.Float64bits", "math.Float64frombits"], unfollowed := true, recurses := true, apart := false, narrowed := true }
def FnExactLookOfUptoSaid : Prop := fnExactLookOfUptoRow.holds Try.pinned (OpenSpec.upto fnExactLookOfSpec)

/-- 'laws.FnExactSeenUnder', WHERE WHAT IT READS IS OF BULK AT MOST 1048576: true; the input reads as it did. -/
def fnExactSeenUnderUptoRow : OpenClaim := { program := "ytgnpmmohnphplaa", sum := "91b6ca4ae5030a5dd9c3c6e0ed46790330946ba7d1067ca3160826693804f89f", func := "loop.example/g01213/laws.FnExactSeenUnder", spec := "fnExactSeenUnder", inPlace := ["math.Float64bits", "math.Float64frombits"], unfollowed := true, recurses := true, apart := false, narrowed := true }
def FnExactSeenUnderUptoSaid : Prop := fnExactSeenUnderUptoRow.holds Try.pinned (OpenSpec.upto fnExactSeenUnderSpec)

/-- 'laws.FnExactFilmOf', WHERE WHAT IT READS IS OF BULK AT MOST 1048576: true; the input reads as it did. -/
def fnExactFilmOfUptoRow : OpenClaim := { program := "ytgnpmmohnphplaa", sum := "91b6ca4ae5030a5dd9c3c6e0ed46790330946ba7d1067ca3160826693804f89f", func := "loop.example/g01213/laws.FnExactFilmOf", spec := "fnExactFilmOf", inPlace := ["math.Float64bits", "math.Float64frombits"], unfollowed := true, recurses := true, apart := false, narrowed := true }
def FnExactFilmOfUptoSaid : Prop := fnExactFilmOfUptoRow.holds Try.pinned (OpenSpec.upto fnExactFilmOfSpec)

/-- 'laws.FnExactOfRatio', WHERE WHAT IT READS IS OF BULK AT MOST 1048576: true; the input reads as it did. -/
def fnExactOfRatioUptoRow : OpenClaim := { program := "ytgnpmmohnphplaa", sum := "91b6ca4ae5030a5dd9c3c6e0ed46790330946ba7d1067ca3160826693804f89f", func := "loop.example/g01213/laws.FnExactOfRatio", spec := "fnExactOfRatio", inPlace := ["math.sqrt", "math.Float64bits", "math.Float64frombits"], unfollowed := true, recurses := true, apart := false, narrowed := true }
def FnExactOfRatioUptoSaid : Prop := fnExactOfRatioUptoRow.holds Try.pinned (OpenSpec.upto fnExactOfRatioSpec)

end Rows
end Go.Proofs.Ytgnpmmohnphplaa
