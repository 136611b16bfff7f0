/-
  No cell of these rows narrows 'for every input' (looked for: loops, veiled, ifaces, maps, wideKeys, modest, calm, conditions, laid).
  DERIVED. THE GIVEN ROWS OF THIS SEAT. 8 by the template 'for every input the law returns true; each argument reads behind the call as it read before'; 0 by the template 'total and deterministic' (their statements: YtcmamfpcdhhboaaTotals.lean).
  GIVEN WITH THE SEED: the statements are not yours to turn. If you find one false, say at which input.
  Laid BY PROGRAM, IN A SANDBOX (cutbox-rows.mjs): the forced cells as the released guide's own fill.sh prints them over the translation c773026ea0b0df90… (all of the seat's roots in one cut). By AI agents, Wed Nov 11 2026. No macro, syntax, notation, axiom, sorry.
-/
import Derived.Test.YtcmamfpcdhhboaaChecked
import GoSem.Claim
import GoSem.ClaimJoined
import GoSem.ClaimMapViews
import Derived.JoinedTies
import Derived.KernelRfl
namespace Go.Proofs.Ytcmamfpcdhhboaa
/- THE CELL 'sum', in the pinned program and in every row, IS THE sha256 OF THE DUMP (.gsa) THAT YtcmamfpcdhhboaaProg.lean LOADS. Nothing in Lean hashes anything: it is a label: what it is worth is what the hold of that sum in a sandbox is worth. -/
noncomputable def Try.pinned : Pinned := { name := "ytcmamfpcdhhboaa", sum := "c773026ea0b0df902e4ed3f993e6f10a1f57d0d5b6980c6243a6a2419bb8d8d1", checked := Try.checked }
namespace Rows
def none {H : Type} : Left H := { results := [], args := [] }

/-- 'laws.FnExactOverBacking': WHATEVER THE INPUT: true; the input reads as it did. -/
def fnExactOverBackingSpec : ChangeSpec := { name := "fnExactOverBacking", fn := fun _ => fun
  | [d1, d2] => { results := [.lit (.bool true)], args := [d1, d2] }
  | _ => none }
def fnExactOverBackingRow : OpenClaim := { program := "ytcmamfpcdhhboaa", sum := "c773026ea0b0df902e4ed3f993e6f10a1f57d0d5b6980c6243a6a2419bb8d8d1", func := "loop.example/g01213/laws.FnExactOverBacking", spec := "fnExactOverBacking", inPlace := ["math.Float64bits", "math.Float64frombits"], unfollowed := true, recurses := true, apart := false }
def FnExactOverBackingSaid : Prop := fnExactOverBackingRow.holds Try.pinned (OpenSpec.ofChange fnExactOverBackingSpec)

/-- ITS FALSE NEIGHBOUR: 'it returns false'. Refute it at one input. -/
def fnExactOverBackingWrong : ChangeSpec := { name := "fnExactOverBacking", fn := fun _ => fun
  | [d1, d2] => { results := [.lit (.bool false)], args := [d1, d2] }
  | _ => none }
def FnExactOverBackingWrongFalsely : Prop := fnExactOverBackingRow.holds Try.pinned (OpenSpec.ofChange fnExactOverBackingWrong)

/-- 'laws.FnExactAddFilms': WHATEVER THE INPUT: true; the input reads as it did. -/
def fnExactAddFilmsSpec : ChangeSpec := { name := "fnExactAddFilms", fn := fun _ => fun
  | [d1, d2] => { results := [.lit (.bool true)], args := [d1, d2] }
  | _ => none }
def fnExactAddFilmsRow : OpenClaim := { program := "ytcmamfpcdhhboaa", sum := "c773026ea0b0df902e4ed3f993e6f10a1f57d0d5b6980c6243a6a2419bb8d8d1", func := "loop.example/g01213/laws.FnExactAddFilms", spec := "fnExactAddFilms", inPlace := ["math.Float64bits", "math.Float64frombits"], unfollowed := true, recurses := true, apart := false }
def FnExactAddFilmsSaid : Prop := fnExactAddFilmsRow.holds Try.pinned (OpenSpec.ofChange fnExactAddFilmsSpec)

/-- ITS FALSE NEIGHBOUR: 'it returns false'. Refute it at one input. -/
def fnExactAddFilmsWrong : ChangeSpec := { name := "fnExactAddFilms", fn := fun _ => fun
  | [d1, d2] => { results := [.lit (.bool false)], args := [d1, d2] }
  | _ => none }
def FnExactAddFilmsWrongFalsely : Prop := fnExactAddFilmsRow.holds Try.pinned (OpenSpec.ofChange fnExactAddFilmsWrong)

/-- 'laws.FnExactFilmFromTwo': WHATEVER THE INPUT: true; the input reads as it did. -/
def fnExactFilmFromTwoSpec : ChangeSpec := { name := "fnExactFilmFromTwo", fn := fun _ => fun
  | [d1, d2, d3] => { results := [.lit (.bool true)], args := [d1, d2, d3] }
  | _ => none }
def fnExactFilmFromTwoRow : OpenClaim := { program := "ytcmamfpcdhhboaa", sum := "c773026ea0b0df902e4ed3f993e6f10a1f57d0d5b6980c6243a6a2419bb8d8d1", func := "loop.example/g01213/laws.FnExactFilmFromTwo", spec := "fnExactFilmFromTwo", inPlace := ["math.sqrt"], unfollowed := true, recurses := true, apart := false }
def FnExactFilmFromTwoSaid : Prop := fnExactFilmFromTwoRow.holds Try.pinned (OpenSpec.ofChange fnExactFilmFromTwoSpec)

/-- ITS FALSE NEIGHBOUR: 'it returns false'. Refute it at one input. -/
def fnExactFilmFromTwoWrong : ChangeSpec := { name := "fnExactFilmFromTwo", fn := fun _ => fun
  | [d1, d2, d3] => { results := [.lit (.bool false)], args := [d1, d2, d3] }
  | _ => none }
def FnExactFilmFromTwoWrongFalsely : Prop := fnExactFilmFromTwoRow.holds Try.pinned (OpenSpec.ofChange fnExactFilmFromTwoWrong)

/-- 'laws.FnExactThickOf': WHATEVER THE INPUT: true; the input reads as it did. -/
def fnExactThickOfSpec : ChangeSpec := { name := "fnExactThickOf", fn := fun _ => fun
  | [d1, d2] => { results := [.lit (.bool true)], args := [d1, d2] }
  | _ => none }
def fnExactThickOfRow : OpenClaim := { program := "ytcmamfpcdhhboaa", sum := "c773026ea0b0df902e4ed3f993e6f10a1f57d0d5b6980c6243a6a2419bb8d8d1", func := "loop.example/g01213/laws.FnExactThickOf", spec := "fnExactThickOf", inPlace := ["math.sqrt", "math.Float64bits", "math.Float64frombits"], unfollowed := true, recurses := true, apart := false }
def FnExactThickOfSaid : Prop := fnExactThickOfRow.holds Try.pinned (OpenSpec.ofChange fnExactThickOfSpec)

/-- ITS FALSE NEIGHBOUR: 'it returns false'. Refute it at one input. -/
def fnExactThickOfWrong : ChangeSpec := { name := "fnExactThickOf", fn := fun _ => fun
  | [d1, d2] => { results := [.lit (.bool false)], args := [d1, d2] }
  | _ => none }
def FnExactThickOfWrongFalsely : Prop := fnExactThickOfRow.holds Try.pinned (OpenSpec.ofChange fnExactThickOfWrong)

/-- 'laws.FnExactPaintOver': WHATEVER THE INPUT: true; the input reads as it did. -/
def fnExactPaintOverSpec : ChangeSpec := { name := "fnExactPaintOver", fn := fun _ => fun
  | [d1, d2] => { results := [.lit (.bool true)], args := [d1, d2] }
  | _ => none }
def fnExactPaintOverRow : OpenClaim := { program := "ytcmamfpcdhhboaa", sum := "c773026ea0b0df902e4ed3f993e6f10a1f57d0d5b6980c6243a6a2419bb8d8d1", func := "loop.example/g01213/laws.FnExactPaintOver", spec := "fnExactPaintOver", inPlace := ["math.Float64bits", "math.Float64frombits"], unfollowed := true, recurses := true, apart := false }
def FnExactPaintOverSaid : Prop := fnExactPaintOverRow.holds Try.pinned (OpenSpec.ofChange fnExactPaintOverSpec)

/-- ITS FALSE NEIGHBOUR: 'it returns false'. Refute it at one input. -/
def fnExactPaintOverWrong : ChangeSpec := { name := "fnExactPaintOver", fn := fun _ => fun
  | [d1, d2] => { results := [.lit (.bool false)], args := [d1, d2] }
  | _ => none }
def FnExactPaintOverWrongFalsely : Prop := fnExactPaintOverRow.holds Try.pinned (OpenSpec.ofChange fnExactPaintOverWrong)

/-- 'laws.FnExactStackOf': WHATEVER THE INPUT: true; the input reads as it did. -/
def fnExactStackOfSpec : ChangeSpec := { name := "fnExactStackOf", fn := fun _ => fun
  | [d] => { results := [.lit (.bool true)], args := [d] }
  | _ => none }
def fnExactStackOfRow : OpenClaim := { program := "ytcmamfpcdhhboaa", sum := "c773026ea0b0df902e4ed3f993e6f10a1f57d0d5b6980c6243a6a2419bb8d8d1", func := "loop.example/g01213/laws.FnExactStackOf", spec := "fnExactStackOf", inPlace := ["math.Float64bits", "math.Float64frombits"], unfollowed := true, recurses := true, apart := false }
def FnExactStackOfSaid : Prop := fnExactStackOfRow.holds Try.pinned (OpenSpec.ofChange fnExactStackOfSpec)

/-- ITS FALSE NEIGHBOUR: 'it returns false'. Refute it at one input. -/
def fnExactStackOfWrong : ChangeSpec := { name := "fnExactStackOf", fn := fun _ => fun
  | [d] => { results := [.lit (.bool false)], args := [d] }
  | _ => none }
def FnExactStackOfWrongFalsely : Prop := fnExactStackOfRow.holds Try.pinned (OpenSpec.ofChange fnExactStackOfWrong)

/-- 'laws.FnExactContrastOf': WHATEVER THE INPUT: true; the input reads as it did. -/
def fnExactContrastOfSpec : ChangeSpec := { name := "fnExactContrastOf", fn := fun _ => fun
  | [d] => { results := [.lit (.bool true)], args := [d] }
  | _ => none }
def fnExactContrastOfRow : OpenClaim := { program := "ytcmamfpcdhhboaa", sum := "c773026ea0b0df902e4ed3f993e6f10a1f57d0d5b6980c6243a6a2419bb8d8d1", func := "loop.example/g01213/laws.FnExactContrastOf", spec := "fnExactContrastOf", inPlace := ["math.Float64frombits", "math.Float64bits"], unfollowed := true, recurses := true, apart := false }
def FnExactContrastOfSaid : Prop := fnExactContrastOfRow.holds Try.pinned (OpenSpec.ofChange fnExactContrastOfSpec)

/-- ITS FALSE NEIGHBOUR: 'it returns false'. Refute it at one input. -/
def fnExactContrastOfWrong : ChangeSpec := { name := "fnExactContrastOf", fn := fun _ => fun
  | [d] => { results := [.lit (.bool false)], args := [d] }
  | _ => none }
def FnExactContrastOfWrongFalsely : Prop := fnExactContrastOfRow.holds Try.pinned (OpenSpec.ofChange fnExactContrastOfWrong)

/-- 'laws.FnExactThicknessFor': WHATEVER THE INPUT: true; the input reads as it did. -/
def fnExactThicknessForSpec : ChangeSpec := { name := "fnExactThicknessFor", fn := fun _ => fun
  | [d1, d2, d3] => { results := [.lit (.bool true)], args := [d1, d2, d3] }
  | _ => none }
def fnExactThicknessForRow : OpenClaim := { program := "ytcmamfpcdhhboaa", sum := "c773026ea0b0df902e4ed3f993e6f10a1f57d0d5b6980c6243a6a2419bb8d8d1", func := "loop.example/g01213/laws.FnExactThicknessFor", spec := "fnExactThicknessFor", inPlace := ["math.Float64frombits", "math.Float64bits"], unfollowed := true, recurses := true, apart := false }
def FnExactThicknessForSaid : Prop := fnExactThicknessForRow.holds Try.pinned (OpenSpec.ofChange fnExactThicknessForSpec)

/-- ITS FALSE NEIGHBOUR: 'it returns false'. Refute it at one input. -/
def fnExactThicknessForWrong : ChangeSpec := { name := "fnExactThicknessFor", fn := fun _ => fun
  | [d1, d2, d3] => { results := [.lit (.bool false)], args := [d1, d2, d3] }
  | _ => none }
def FnExactThicknessForWrongFalsely : Prop := fnExactThicknessForRow.holds Try.pinned (OpenSpec.ofChange fnExactThicknessForWrong)

/- THE SECOND FORM. 'bulk': how many values and letters a reading holds, each counted each time it is reached (what is shared counts as often as it is met; a slice's spare places count too). A statement '..UptoSaid' is the law's where the arguments, and the package variables that the reading takes, are together of bulk at most 1048576: NARROWER than '..Said'. Prove '..Said' where nothing that the law and all that it calls make is longer than what came in: it says more and counts as full. Else prove '..UptoSaid'. A law counts once. -/
mutual
def uptoBulk {H : Type} : DataW H → Nat
  | .lit (.string bytes) => bytes.length + 1
  | .lit _ => 1
  | .nil => 1
  | .ptr d => uptoBulk d + 1
  | .slice elems spare => uptoBulkAll elems + uptoBulkAll spare + 1
  | .agg parts => uptoBulkAll parts + 1
  | .iface _ d => uptoBulk d + 1
  | .map entries => uptoBulkEntries entries + 1
  | .held _ => 1
def uptoBulkAll {H : Type} : List (DataW H) → Nat
  | [] => 0
  | d :: r => uptoBulk d + uptoBulkAll r
def uptoBulkEntries {H : Type} : List (Lit × DataW H) → Nat
  | [] => 0
  | x :: r => uptoBulkEntry x + uptoBulkEntries r
def uptoBulkEntry {H : Type} : Lit × DataW H → Nat
  | (.string bytes, d) => bytes.length + uptoBulk d + 1
  | (_, d) => uptoBulk d + 1
 end
def uptoSmall : (H : Type) → List (DataW H) → Bool := fun _ ds => decide (uptoBulkAll ds ≤ 1048576)
def OpenSpec.upto (s : _root_.Go.ChangeSpec) : _root_.Go.OpenSpec := { _root_.Go.OpenSpec.ofChange s with cond := some uptoSmall }

/-- 'laws.FnExactOverBacking', WHERE WHAT IT READS IS OF BULK AT MOST 1048576: true; the input reads as it did. -/
def fnExactOverBackingUptoRow : OpenClaim := { program := "ytcmamfpcdhhboaa", sum := "c773026ea0b0df902e4ed3f993e6f10a1f57d0d5b6980c6243a6a2419bb8d8d1", func := "loop.example/g01213/laws.FnExactOverBacking", spec := "fnExactOverBacking", inPlace := ["math.Float64bits", "math.Float64frombits"], unfollowed := true, recurses := true, apart := false, narrowed := true }
def FnExactOverBackingUptoSaid : Prop := fnExactOverBackingUptoRow.holds Try.pinned (OpenSpec.upto fnExactOverBackingSpec)

/-- 'laws.FnExactAddFilms', WHERE WHAT IT READS IS OF BULK AT MOST 1048576: true; the input reads as it did. -/
def fnExactAddFilmsUptoRow : OpenClaim := { program := "ytcmamfpcdhhboaa", sum := "c773026ea0b0df902e4ed3f993e6f10a1f57d0d5b6980c6243a6a2419bb8d8d1", func := "loop.example/g01213/laws.FnExactAddFilms", spec := "fnExactAddFilms", inPlace := ["math.Float64bits", "math.Float64frombits"], unfollowed := true, recurses := true, apart := false, narrowed := true }
def FnExactAddFilmsUptoSaid : Prop := fnExactAddFilmsUptoRow.holds Try.pinned (OpenSpec.upto fnExactAddFilmsSpec)

/-- 'laws.FnExactFilmFromTwo', WHERE WHAT IT READS IS OF BULK AT MOST 1048576: true; the input reads as it did. -/
def fnExactFilmFromTwoUptoRow : OpenClaim := { program := "ytcmamfpcdhhboaa", sum := "c773026ea0b0df902e4ed3f993e6f10a1f57d0d5b6980c6243a6a2419bb8d8d1", func := "loop.example/g01213/laws.FnExactFilmFromTwo", spec := "fnExactFilmFromTwo", inPlace := ["math.sqrt"], unfollowed := true, recurses := true, apart := false, narrowed := true }
def FnExactFilmFromTwoUptoSaid : Prop := fnExactFilmFromTwoUptoRow.holds Try.pinned (OpenSpec.upto fnExactFilmFromTwoSpec)

/-- 'laws.FnExactThickOf', WHERE WHAT IT READS IS OF BULK AT MOST 1048576: true; the input reads as it did. -/
def fnExactThickOfUptoRow : OpenClaim := { program := "ytcmamfpcdhhboaa", sum := "c773026ea0b0df902e4ed3f993e6f10a1f57d0d5b6980c6243a6a2419bb8d8d1", func := "loop.example/g01213/laws.FnExactThickOf", spec := "fnExactThickOf", inPlace := ["math.sqrt", "math.Float64bits", "math.Float64frombits"], unfollowed := true, recurses := true, apart := false, narrowed := true }
def FnExactThickOfUptoSaid : Prop := fnExactThickOfUptoRow.holds Try.pinned (OpenSpec.upto fnExactThickOfSpec)

/-- 'laws.FnExactPaintOver', WHERE WHAT IT READS IS OF BULK AT MOST 1048576: true; the input reads as it did. -/
def fnExactPaintOverUptoRow : OpenClaim := { program := "ytcmamfpcdhhboaa", sum := "c773026ea0b0df902e4ed3f993e6f10a1f57d0d5b6980c6243a6a2419bb8d8d1", func := "loop.example/g01213/laws.FnExactPaintOver", spec := "fnExactPaintOver", inPlace := ["math.Float64bits", "math.Float64frombits"], unfollowed := true, recurses := true, apart := false, narrowed := true }
def FnExactPaintOverUptoSaid : Prop := fnExactPaintOverUptoRow.holds Try.pinned (OpenSpec.upto fnExactPaintOverSpec)

/-- 'laws.FnExactStackOf', WHERE WHAT IT READS IS OF BULK AT MOST 1048576: true; the input reads as it did. -/
def fnExactStackOfUptoRow : OpenClaim := { program := "ytcmamfpcdhhboaa", sum := "c773026ea0b0df902e4ed3f993e6f10a1f57d0d5b6980c6243a6a2419bb8d8d1", func := "loop.example/g01213/laws.FnExactStackOf", spec := "fnExactStackOf", inPlace := ["math.Float64bits", "math.Float64frombits"], unfollowed := true, recurses := true, apart := false, narrowed := true }
def FnExactStackOfUptoSaid : Prop := fnExactStackOfUptoRow.holds Try.pinned (OpenSpec.upto fnExactStackOfSpec)

/-- 'laws.FnExactContrastOf', WHERE WHAT IT READS IS OF BULK AT MOST 1048576: true; the input reads as it did. -/
def fnExactContrastOfUptoRow : OpenClaim := { program := "ytcmamfpcdhhboaa", sum := "c773026ea0b0df902e4ed3f993e6f10a1f57d0d5b6980c6243a6a2419bb8d8d1", func := "loop.example/g01213/laws.FnExactContrastOf", spec := "fnExactContrastOf", inPlace := ["math.Float64frombits", "math.Float64bits"], unfollowed := true, recurses := true, apart := false, narrowed := true }
def FnExactContrastOfUptoSaid : Prop := fnExactContrastOfUptoRow.holds Try.pinned (OpenSpec.upto fnExactContrastOfSpec)

/-- 'laws.FnExactThicknessFor', WHERE WHAT IT READS IS OF BULK AT MOST 1048576: true; the input reads as it did. -/
def fnExactThicknessForUptoRow : OpenClaim := { program := "ytcmamfpcdhhboaa", sum := "c773026ea0b0df902e4ed3f993e6f10a1f57d0d5b6980c6243a6a2419bb8d8d1", func := "loop.example/g01213/laws.FnExactThicknessFor", spec := "fnExactThicknessFor", inPlace := ["math.Float64frombits", "math.Float64bits"], unfollowed := true, recurses := true, apart := false, narrowed := true }
def FnExactThicknessForUptoSaid : Prop := fnExactThicknessForUptoRow.holds Try.pinned (OpenSpec.upto fnExactThicknessForSpec)

end Rows
end Go.Proofs.Ytcmamfpcdhhboaa
