/-
  No cell of these rows narrows 'for every input' (looked for: loops, veiled, ifaces, maps, wideKeys, modest, calm, conditions, laid).
  DERIVED. THE GIVEN ROWS OF THIS SEAT. 12 by the template 'for every input the law returns true; each argument reads behind the call as it read before'; 0 by the template 'total and deterministic' (their statements: YtmgpfleoehldkaaTotals.lean).
  GIVEN WITH THE SEED: the statements are not yours to turn. If you find one false, say at which input.
  Laid BY PROGRAM, IN A SANDBOX (cutbox-rows.mjs): the forced cells as the released guide's own fill.sh prints them over the translation f73ea65b7eb651f3… (all of the seat's roots in one cut). By AI agents, Wed Nov 11 2026. No macro, syntax, notation, axiom, sorry.
-/
import Derived.Test.YtmgpfleoehldkaaChecked
import GoSem.Claim
import GoSem.ClaimJoined
import GoSem.ClaimMapViews
import Derived.JoinedTies
import Derived.KernelRfl
namespace Go.Proofs.Ytmgpfleoehldkaa
/- THE CELL 'sum', in the pinned program and in every row, IS THE sha256 OF THE DUMP (.gsa) THAT YtmgpfleoehldkaaProg.lean LOADS. Nothing in Lean hashes anything: it is a label: what it is worth is what the hold of that sum in a sandbox is worth. -/
noncomputable def Try.pinned : Pinned := { name := "ytmgpfleoehldkaa", sum := "f73ea65b7eb651f37433ab1ffb4d40caf4c11bc9b661e91db91124fad4141071", checked := Try.checked }
namespace Rows
def none {H : Type} : Left H := { results := [], args := [] }

/-- 'laws.FnExactDotOfCurves': WHATEVER THE INPUT: true; the input reads as it did. -/
def fnExactDotOfCurvesSpec : ChangeSpec := { name := "fnExactDotOfCurves", fn := fun _ => fun
  | [d1, d2] => { results := [.lit (.bool true)], args := [d1, d2] }
  | _ => none }
def fnExactDotOfCurvesRow : OpenClaim := { program := "ytmgpfleoehldkaa", sum := "f73ea65b7eb651f37433ab1ffb4d40caf4c11bc9b661e91db91124fad4141071", func := "loop.example/g01213/laws.FnExactDotOfCurves", spec := "fnExactDotOfCurves", unfollowed := true, recurses := true, apart := false }
def FnExactDotOfCurvesSaid : Prop := fnExactDotOfCurvesRow.holds Try.pinned (OpenSpec.ofChange fnExactDotOfCurvesSpec)

/-- ITS FALSE NEIGHBOUR: 'it returns false'. Refute it at one input. -/
def fnExactDotOfCurvesWrong : ChangeSpec := { name := "fnExactDotOfCurves", fn := fun _ => fun
  | [d1, d2] => { results := [.lit (.bool false)], args := [d1, d2] }
  | _ => none }
def FnExactDotOfCurvesWrongFalsely : Prop := fnExactDotOfCurvesRow.holds Try.pinned (OpenSpec.ofChange fnExactDotOfCurvesWrong)

/-- 'laws.FnExactEmptyFilm': WHATEVER THE INPUT: true; the input reads as it did. -/
def fnExactEmptyFilmSpec : ChangeSpec := { name := "fnExactEmptyFilm", fn := fun _ => fun
  | [] => { results := [.lit (.bool true)], args := [] }
  | _ => none }
def fnExactEmptyFilmRow : OpenClaim := { program := "ytmgpfleoehldkaa", sum := "f73ea65b7eb651f37433ab1ffb4d40caf4c11bc9b661e91db91124fad4141071", func := "loop.example/g01213/laws.FnExactEmptyFilm", spec := "fnExactEmptyFilm", unfollowed := true, recurses := true, apart := false }
def FnExactEmptyFilmSaid : Prop := fnExactEmptyFilmRow.holds Try.pinned (OpenSpec.ofChange fnExactEmptyFilmSpec)

/-- ITS FALSE NEIGHBOUR: 'it returns false'. Refute it at one input. -/
def fnExactEmptyFilmWrong : ChangeSpec := { name := "fnExactEmptyFilm", fn := fun _ => fun
  | [] => { results := [.lit (.bool false)], args := [] }
  | _ => none }
def FnExactEmptyFilmWrongFalsely : Prop := fnExactEmptyFilmRow.holds Try.pinned (OpenSpec.ofChange fnExactEmptyFilmWrong)

/-- 'laws.FnExactGreatestOf': WHATEVER THE INPUT: true; the input reads as it did. -/
def fnExactGreatestOfSpec : ChangeSpec := { name := "fnExactGreatestOf", fn := fun _ => fun
  | [d] => { results := [.lit (.bool true)], args := [d] }
  | _ => none }
def fnExactGreatestOfRow : OpenClaim := { program := "ytmgpfleoehldkaa", sum := "f73ea65b7eb651f37433ab1ffb4d40caf4c11bc9b661e91db91124fad4141071", func := "loop.example/g01213/laws.FnExactGreatestOf", spec := "fnExactGreatestOf", inPlace := ["math.Float64frombits"], unfollowed := true, recurses := true, apart := false }
def FnExactGreatestOfSaid : Prop := fnExactGreatestOfRow.holds Try.pinned (OpenSpec.ofChange fnExactGreatestOfSpec)

/-- ITS FALSE NEIGHBOUR: 'it returns false'. Refute it at one input. -/
def fnExactGreatestOfWrong : ChangeSpec := { name := "fnExactGreatestOf", fn := fun _ => fun
  | [d] => { results := [.lit (.bool false)], args := [d] }
  | _ => none }
def FnExactGreatestOfWrongFalsely : Prop := fnExactGreatestOfRow.holds Try.pinned (OpenSpec.ofChange fnExactGreatestOfWrong)

/-- 'laws.FnExactLeastOf': WHATEVER THE INPUT: true; the input reads as it did. -/
def fnExactLeastOfSpec : ChangeSpec := { name := "fnExactLeastOf", fn := fun _ => fun
  | [d] => { results := [.lit (.bool true)], args := [d] }
  | _ => none }
def fnExactLeastOfRow : OpenClaim := { program := "ytmgpfleoehldkaa", sum := "f73ea65b7eb651f37433ab1ffb4d40caf4c11bc9b661e91db91124fad4141071", func := "loop.example/g01213/laws.FnExactLeastOf", spec := "fnExactLeastOf", inPlace := ["math.Float64frombits"], unfollowed := true, recurses := true, apart := false }
def FnExactLeastOfSaid : Prop := fnExactLeastOfRow.holds Try.pinned (OpenSpec.ofChange fnExactLeastOfSpec)

/-- ITS FALSE NEIGHBOUR: 'it returns false'. Refute it at one input. -/
def fnExactLeastOfWrong : ChangeSpec := { name := "fnExactLeastOf", fn := fun _ => fun
  | [d] => { results := [.lit (.bool false)], args := [d] }
  | _ => none }
def FnExactLeastOfWrongFalsely : Prop := fnExactLeastOfRow.holds Try.pinned (OpenSpec.ofChange fnExactLeastOfWrong)

/-- 'laws.FnExactSameFilm': WHATEVER THE INPUT: true; the input reads as it did. -/
def fnExactSameFilmSpec : ChangeSpec := { name := "fnExactSameFilm", fn := fun _ => fun
  | [d1, d2] => { results := [.lit (.bool true)], args := [d1, d2] }
  | _ => none }
def fnExactSameFilmRow : OpenClaim := { program := "ytmgpfleoehldkaa", sum := "f73ea65b7eb651f37433ab1ffb4d40caf4c11bc9b661e91db91124fad4141071", func := "loop.example/g01213/laws.FnExactSameFilm", spec := "fnExactSameFilm", inPlace := ["math.Float32bits"], unfollowed := true, recurses := true, apart := false }
def FnExactSameFilmSaid : Prop := fnExactSameFilmRow.holds Try.pinned (OpenSpec.ofChange fnExactSameFilmSpec)

/-- ITS FALSE NEIGHBOUR: 'it returns false'. Refute it at one input. -/
def fnExactSameFilmWrong : ChangeSpec := { name := "fnExactSameFilm", fn := fun _ => fun
  | [d1, d2] => { results := [.lit (.bool false)], args := [d1, d2] }
  | _ => none }
def FnExactSameFilmWrongFalsely : Prop := fnExactSameFilmRow.holds Try.pinned (OpenSpec.ofChange fnExactSameFilmWrong)

/-- 'laws.FnExactSameLayer': WHATEVER THE INPUT: true; the input reads as it did. -/
def fnExactSameLayerSpec : ChangeSpec := { name := "fnExactSameLayer", fn := fun _ => fun
  | [d1, d2] => { results := [.lit (.bool true)], args := [d1, d2] }
  | _ => none }
def fnExactSameLayerRow : OpenClaim := { program := "ytmgpfleoehldkaa", sum := "f73ea65b7eb651f37433ab1ffb4d40caf4c11bc9b661e91db91124fad4141071", func := "loop.example/g01213/laws.FnExactSameLayer", spec := "fnExactSameLayer", inPlace := ["math.Float32bits"], unfollowed := true, recurses := true, apart := false }
def FnExactSameLayerSaid : Prop := fnExactSameLayerRow.holds Try.pinned (OpenSpec.ofChange fnExactSameLayerSpec)

/-- ITS FALSE NEIGHBOUR: 'it returns false'. Refute it at one input. -/
def fnExactSameLayerWrong : ChangeSpec := { name := "fnExactSameLayer", fn := fun _ => fun
  | [d1, d2] => { results := [.lit (.bool false)], args := [d1, d2] }
  | _ => none }
def FnExactSameLayerWrongFalsely : Prop := fnExactSameLayerRow.holds Try.pinned (OpenSpec.ofChange fnExactSameLayerWrong)

/-- 'laws.FnExactIsFiniteCurve': WHATEVER THE INPUT: true; the input reads as it did. -/
def fnExactIsFiniteCurveSpec : ChangeSpec := { name := "fnExactIsFiniteCurve", fn := fun _ => fun
  | [d] => { results := [.lit (.bool true)], args := [d] }
  | _ => none }
def fnExactIsFiniteCurveRow : OpenClaim := { program := "ytmgpfleoehldkaa", sum := "f73ea65b7eb651f37433ab1ffb4d40caf4c11bc9b661e91db91124fad4141071", func := "loop.example/g01213/laws.FnExactIsFiniteCurve", spec := "fnExactIsFiniteCurve", inPlace := ["math.Float64bits", "math.Float64frombits"], unfollowed := true, recurses := true, apart := false }
def FnExactIsFiniteCurveSaid : Prop := fnExactIsFiniteCurveRow.holds Try.pinned (OpenSpec.ofChange fnExactIsFiniteCurveSpec)

/-- ITS FALSE NEIGHBOUR: 'it returns false'. Refute it at one input. -/
def fnExactIsFiniteCurveWrong : ChangeSpec := { name := "fnExactIsFiniteCurve", fn := fun _ => fun
  | [d] => { results := [.lit (.bool false)], args := [d] }
  | _ => none }
def FnExactIsFiniteCurveWrongFalsely : Prop := fnExactIsFiniteCurveRow.holds Try.pinned (OpenSpec.ofChange fnExactIsFiniteCurveWrong)

/-- 'laws.FnExactMirrorFilm': WHATEVER THE INPUT: true; the input reads as it did. -/
def fnExactMirrorFilmSpec : ChangeSpec := { name := "fnExactMirrorFilm", fn := fun _ => fun
  | [d] => { results := [.lit (.bool true)], args := [d] }
  | _ => none }
def fnExactMirrorFilmRow : OpenClaim := { program := "ytmgpfleoehldkaa", sum := "f73ea65b7eb651f37433ab1ffb4d40caf4c11bc9b661e91db91124fad4141071", func := "loop.example/g01213/laws.FnExactMirrorFilm", spec := "fnExactMirrorFilm", unfollowed := true, recurses := true, apart := false }
def FnExactMirrorFilmSaid : Prop := fnExactMirrorFilmRow.holds Try.pinned (OpenSpec.ofChange fnExactMirrorFilmSpec)

/-- ITS FALSE NEIGHBOUR: 'it returns false'. Refute it at one input. -/
def fnExactMirrorFilmWrong : ChangeSpec := { name := "fnExactMirrorFilm", fn := fun _ => fun
  | [d] => { results := [.lit (.bool false)], args := [d] }
  | _ => none }
def FnExactMirrorFilmWrongFalsely : Prop := fnExactMirrorFilmRow.holds Try.pinned (OpenSpec.ofChange fnExactMirrorFilmWrong)

/-- 'laws.FnExactValidFilm': WHATEVER THE INPUT: true; the input reads as it did. -/
def fnExactValidFilmSpec : ChangeSpec := { name := "fnExactValidFilm", fn := fun _ => fun
  | [d] => { results := [.lit (.bool true)], args := [d] }
  | _ => none }
def fnExactValidFilmRow : OpenClaim := { program := "ytmgpfleoehldkaa", sum := "f73ea65b7eb651f37433ab1ffb4d40caf4c11bc9b661e91db91124fad4141071", func := "loop.example/g01213/laws.FnExactValidFilm", spec := "fnExactValidFilm", unfollowed := true, recurses := true, apart := false }
def FnExactValidFilmSaid : Prop := fnExactValidFilmRow.holds Try.pinned (OpenSpec.ofChange fnExactValidFilmSpec)

/-- ITS FALSE NEIGHBOUR: 'it returns false'. Refute it at one input. -/
def fnExactValidFilmWrong : ChangeSpec := { name := "fnExactValidFilm", fn := fun _ => fun
  | [d] => { results := [.lit (.bool false)], args := [d] }
  | _ => none }
def FnExactValidFilmWrongFalsely : Prop := fnExactValidFilmRow.holds Try.pinned (OpenSpec.ofChange fnExactValidFilmWrong)

/-- 'laws.FnExactValidLayer': WHATEVER THE INPUT: true; the input reads as it did. -/
def fnExactValidLayerSpec : ChangeSpec := { name := "fnExactValidLayer", fn := fun _ => fun
  | [d] => { results := [.lit (.bool true)], args := [d] }
  | _ => none }
def fnExactValidLayerRow : OpenClaim := { program := "ytmgpfleoehldkaa", sum := "f73ea65b7eb651f37433ab1ffb4d40caf4c11bc9b661e91db91124fad4141071", func := "loop.example/g01213/laws.FnExactValidLayer", spec := "fnExactValidLayer", inPlace := ["math.Float64bits", "math.Float64frombits"], unfollowed := true, recurses := true, apart := false }
def FnExactValidLayerSaid : Prop := fnExactValidLayerRow.holds Try.pinned (OpenSpec.ofChange fnExactValidLayerSpec)

/-- ITS FALSE NEIGHBOUR: 'it returns false'. Refute it at one input. -/
def fnExactValidLayerWrong : ChangeSpec := { name := "fnExactValidLayer", fn := fun _ => fun
  | [d] => { results := [.lit (.bool false)], args := [d] }
  | _ => none }
def FnExactValidLayerWrongFalsely : Prop := fnExactValidLayerRow.holds Try.pinned (OpenSpec.ofChange fnExactValidLayerWrong)

/-- 'laws.FnExactTurnFilm': WHATEVER THE INPUT: true; the input reads as it did. -/
def fnExactTurnFilmSpec : ChangeSpec := { name := "fnExactTurnFilm", fn := fun _ => fun
  | [d] => { results := [.lit (.bool true)], args := [d] }
  | _ => none }
def fnExactTurnFilmRow : OpenClaim := { program := "ytmgpfleoehldkaa", sum := "f73ea65b7eb651f37433ab1ffb4d40caf4c11bc9b661e91db91124fad4141071", func := "loop.example/g01213/laws.FnExactTurnFilm", spec := "fnExactTurnFilm", unfollowed := true, recurses := true, apart := false }
def FnExactTurnFilmSaid : Prop := fnExactTurnFilmRow.holds Try.pinned (OpenSpec.ofChange fnExactTurnFilmSpec)

/-- ITS FALSE NEIGHBOUR: 'it returns false'. Refute it at one input. -/
def fnExactTurnFilmWrong : ChangeSpec := { name := "fnExactTurnFilm", fn := fun _ => fun
  | [d] => { results := [.lit (.bool false)], args := [d] }
  | _ => none }
def FnExactTurnFilmWrongFalsely : Prop := fnExactTurnFilmRow.holds Try.pinned (OpenSpec.ofChange fnExactTurnFilmWrong)

/-- 'laws.FnExactLayerOf': WHATEVER THE INPUT: true; the input reads as it did. -/
def fnExactLayerOfSpec : ChangeSpec := { name := "fnExactLayerOf", fn := fun _ => fun
  | [d1, d2, d3] => { results := [.lit (.bool true)], args := [d1, d2, d3] }
  | _ => none }
def fnExactLayerOfRow : OpenClaim := { program := "ytmgpfleoehldkaa", sum := "f73ea65b7eb651f37433ab1ffb4d40caf4c11bc9b661e91db91124fad4141071", func := "loop.example/g01213/laws.FnExactLayerOf", spec := "fnExactLayerOf", inPlace := ["math.Float64bits", "math.Float64frombits"], unfollowed := true, recurses := true, apart := false }
def FnExactLayerOfSaid : Prop := fnExactLayerOfRow.holds Try.pinned (OpenSpec.ofChange fnExactLayerOfSpec)

/-- ITS FALSE NEIGHBOUR: 'it returns false'. Refute it at one input. -/
def fnExactLayerOfWrong : ChangeSpec := { name := "fnExactLayerOf", fn := fun _ => fun
  | [d1, d2, d3] => { results := [.lit (.bool false)], args := [d1, d2, d3] }
  | _ => none }
def FnExactLayerOfWrongFalsely : Prop := fnExactLayerOfRow.holds Try.pinned (OpenSpec.ofChange fnExactLayerOfWrong)

/- THE SECOND FORM. 'bulk': how many values and letters a reading holds, each counted each time it is reached (what is shared counts as often as it is met; a slice's spare places count too). A statement '..UptoSaid' is the law's where the arguments, and the package variables that the reading takes, are together of bulk at most 1048576: NARROWER than '..Said'. Prove '..Said' where nothing that the law and all that it calls make is longer than what came in: it says more and counts as full. Else prove '..UptoSaid'. A law counts once. -/
mutual
def uptoBulk {H : Type} : DataW H → Nat
  | .lit (.string bytes) => bytes.length + 1
  | .lit _ => 1
  | .nil => 1
  | .ptr d => uptoBulk d + 1
  | .slice elems spare => uptoBulkAll elems + uptoBulkAll spare + 1
  | .agg parts => uptoBulkAll parts + 1
  | .iface _ d => uptoBulk d + 1
  | .map entries => uptoBulkEntries entries + 1
  | .held _ => 1
def uptoBulkAll {H : Type} : List (DataW H) → Nat
  | [] => 0
  | d :: r => uptoBulk d + uptoBulkAll r
def uptoBulkEntries {H : Type} : List (Lit × DataW H) → Nat
  | [] => 0
  | x :: r => uptoBulkEntry x + uptoBulkEntries r
def uptoBulkEntry {H : Type} : Lit × DataW H → Nat
  | (.string bytes, d) => bytes.length + uptoBulk d + 1
  | (_, d) => uptoBulk d + 1
 end
def uptoSmall : (H : Type) → List (DataW H) → Bool := fun _ ds => decide (uptoBulkAll ds ≤ 1048576)
def OpenSpec.upto (s : _root_.Go.ChangeSpec) : _root_.Go.OpenSpec := { _root_.Go.OpenSpec.ofChange s with cond := some uptoSmall }

/-- 'laws.FnExactDotOfCurves', WHERE WHAT IT READS IS OF BULK AT MOST 1048576: true; the input reads as it did. -/
def fnExactDotOfCurvesUptoRow : OpenClaim := { program := "ytmgpfleoehldkaa", sum := "f73ea65b7eb651f37433ab1ffb4d40caf4c11bc9b661e91db91124fad4141071", func := "loop.example/g01213/laws.FnExactDotOfCurves", spec := "fnExactDotOfCurves", unfollowed := true, recurses := true, apart := false, narrowed := true }
def FnExactDotOfCurvesUptoSaid : Prop := fnExactDotOfCurvesUptoRow.holds Try.pinned (OpenSpec.upto fnExactDotOfCurvesSpec)

/-- 'laws.FnExactEmptyFilm', WHERE WHAT IT READS IS OF BULK AT MOST 1048576: true; the input reads as it did. -/
def fnExactEmptyFilmUptoRow : OpenClaim := { program := "ytmgpfleoehldkaa", sum := "f73ea65b7eb651f37433ab1ffb4d40caf4c11bc9b661e91db91124fad4141071", func := "loop.example/g01213/laws.FnExactEmptyFilm", spec := "fnExactEmptyFilm", unfollowed := true, recurses := true, apart := false, narrowed := true }
def FnExactEmptyFilmUptoSaid : Prop := fnExactEmptyFilmUptoRow.holds Try.pinned (OpenSpec.upto fnExactEmptyFilmSpec)

/-- 'laws.FnExactGreatestOf', WHERE WHAT IT READS IS OF BULK AT MOST 1048576: true; the input reads as it did. -/
def fnExactGreatestOfUptoRow : OpenClaim := { program := "ytmgpfleoehldkaa", sum := "f73ea65b7eb651f37433ab1ffb4d40caf4c11bc9b661e91db91124fad4141071", func := "loop.example/g01213/laws.FnExactGreatestOf", spec := "fnExactGreatestOf", inPlace := ["math.Float64frombits"], unfollowed := true, recurses := true, apart := false, narrowed := true }
def FnExactGreatestOfUptoSaid : Prop := fnExactGreatestOfUptoRow.holds Try.pinned (OpenSpec.upto fnExactGreatestOfSpec)

/-- 'laws.FnExactLeastOf', WHERE WHAT IT READS IS OF BULK AT MOST 1048576: true; the input reads as it did. -/
def fnExactLeastOfUptoRow : OpenClaim := { program := "ytmgpfleoehldkaa", sum := "f73ea65b7eb651f37433ab1ffb4d40caf4c11bc9b661e91db91124fad4141071", func := "loop.example/g01213/laws.FnExactLeastOf", spec := "fnExactLeastOf", inPlace := ["math.Float64frombits"], unfollowed := true, recurses := true, apart := false, narrowed := true }
def FnExactLeastOfUptoSaid : Prop := fnExactLeastOfUptoRow.holds Try.pinned (OpenSpec.upto fnExactLeastOfSpec)

/-- 'laws.FnExactSameFilm', WHERE WHAT IT READS IS OF BULK AT MOST 1048576: true; the input reads as it did. -/
def fnExactSameFilmUptoRow : OpenClaim := { program := "ytmgpfleoehldkaa", sum := "f73ea65b7eb651f37433ab1ffb4d40caf4c11bc9b661e91db91124fad4141071", func := "loop.example/g01213/laws.FnExactSameFilm", spec := "fnExactSameFilm", inPlace := ["math.Float32bits"], unfollowed := true, recurses := true, apart := false, narrowed := true }
def FnExactSameFilmUptoSaid : Prop := fnExactSameFilmUptoRow.holds Try.pinned (OpenSpec.upto fnExactSameFilmSpec)

/-- 'laws.FnExactSameLayer', WHERE WHAT IT READS IS OF BULK AT MOST 1048576: true; the input reads as it did. -/
def fnExactSameLayerUptoRow : OpenClaim := { program := "ytmgpfleoehldkaa", sum := "f73ea65b7eb651f37433ab1ffb4d40caf4c11bc9b661e91db91124fad4141071", func := "loop.example/g01213/laws.FnExactSameLayer", spec := "fnExactSameLayer", inPlace := ["math.Float32bits"], unfollowed := true, recurses := true, apart := false, narrowed := true }
def FnExactSameLayerUptoSaid : Prop := fnExactSameLayerUptoRow.holds Try.pinned (OpenSpec.upto fnExactSameLayerSpec)

/-- 'laws.FnExactIsFiniteCurve', WHERE WHAT IT READS IS OF BULK AT MOST 1048576: true; the input reads as it did. -/
def fnExactIsFiniteCurveUptoRow : OpenClaim := { program := "ytmgpfleoehldkaa", sum := "f73ea65b7eb651f37433ab1ffb4d40caf4c11bc9b661e91db91124fad4141071", func := "loop.example/g01213/laws.FnExactIsFiniteCurve", spec := "fnExactIsFiniteCurve", inPlace := ["math.Float64bits", "math.Float64frombits"], unfollowed := true, recurses := true, apart := false, narrowed := true }
def FnExactIsFiniteCurveUptoSaid : Prop := fnExactIsFiniteCurveUptoRow.holds Try.pinned (OpenSpec.upto fnExactIsFiniteCurveSpec)

/-- 'laws.FnExactMirrorFilm', WHERE WHAT IT READS IS OF BULK AT MOST 1048576: true; the input reads as it did. -/
def fnExactMirrorFilmUptoRow : OpenClaim := { program := "ytmgpfleoehldkaa", sum := "f73ea65b7eb651f37433ab1ffb4d40caf4c11bc9b661e91db91124fad4141071", func := "loop.example/g01213/laws.FnExactMirrorFilm", spec := "fnExactMirrorFilm", unfollowed := true, recurses := true, apart := false, narrowed := true }
def FnExactMirrorFilmUptoSaid : Prop := fnExactMirrorFilmUptoRow.holds Try.pinned (OpenSpec.upto fnExactMirrorFilmSpec)

/-- 'laws.FnExactValidFilm', WHERE WHAT IT READS IS OF BULK AT MOST 1048576: true; the input reads as it did. -/
def fnExactValidFilmUptoRow : OpenClaim := { program := "ytmgpfleoehldkaa", sum := "f73ea65b7eb651f37433ab1ffb4d40caf4c11bc9b661e91db91124fad4141071", func := "loop.example/g01213/laws.FnExactValidFilm", spec := "fnExactValidFilm", unfollowed := true, recurses := true, apart := false, narrowed := true }
def FnExactValidFilmUptoSaid : Prop := fnExactValidFilmUptoRow.holds Try.pinned (OpenSpec.upto fnExactValidFilmSpec)

/-- 'laws.FnExactValidLayer', WHERE WHAT IT READS IS OF BULK AT MOST 1048576: true; the input reads as it did. -/
def fnExactValidLayerUptoRow : OpenClaim := { program := "ytmgpfleoehldkaa", sum := "f73ea65b7eb651f37433ab1ffb4d40caf4c11bc9b661e91db91124fad4141071", func := "loop.example/g01213/laws.FnExactValidLayer", spec := "fnExactValidLayer", inPlace := ["math.Float64bits", "math.Float64frombits"], unfollowed := true, recurses := true, apart := false, narrowed := true }
def FnExactValidLayerUptoSaid : Prop := fnExactValidLayerUptoRow.holds Try.pinned (OpenSpec.upto fnExactValidLayerSpec)

/-- 'laws.FnExactTurnFilm', WHERE WHAT IT READS IS OF BULK AT MOST 1048576: true; the input reads as it did. -/
def fnExactTurnFilmUptoRow : OpenClaim := { program := "ytmgpfleoehldkaa", sum := "f73ea65b7eb651f37433ab1ffb4d40caf4c11bc9b661e91db91124fad4141071", func := "loop.example/g01213/laws.FnExactTurnFilm", spec := "fnExactTurnFilm", unfollowed := true, recurses := true, apart := false, narrowed := true }
def FnExactTurnFilmUptoSaid : Prop := fnExactTurnFilmUptoRow.holds Try.pinned (OpenSpec.upto fnExactTurnFilmSpec)

/-- 'laws.FnExactLayerOf', WHERE WHAT IT READS IS OF BULK AT MOST 1048576: true; the input reads as it did. -/
def fnExactLayerOfUptoRow : OpenClaim := { program := "ytmgpfleoehldkaa", sum := "f73ea65b7eb651f37433ab1ffb4d40caf4c11bc9b661e91db91124fad4141071", func := "loop.example/g01213/laws.FnExactLayerOf", spec := "fnExactLayerOf", inPlace := ["math.Float64bits", "math.Float64frombits"], unfollowed := true, recurses := true, apart := false, narrowed := true }
def FnExactLayerOfUptoSaid : Prop := fnExactLayerOfUptoRow.holds Try.pinned (OpenSpec.upto fnExactLayerOfSpec)

end Rows
end Go.Proofs.Ytmgpfleoehldkaa
