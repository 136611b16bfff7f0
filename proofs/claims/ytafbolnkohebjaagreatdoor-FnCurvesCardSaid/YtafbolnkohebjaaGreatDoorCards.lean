/-
  DERIVED. GIVEN WITH THE SEED: THE CARDS: each row of YtafbolnkohebjaaGreatDoorRows.lean that lists a variable, with what it lists TIED to the program's text (the seventh form; the later family's looks); each row that meets fmt, with fmt's text TOLD by the authors' own Lean function (tested against real Go, not proved from fmt's source: count such statements apart). THE CARD IS WHAT COUNTS. Prove the row's statement (the work); the ties are given (YtafbolnkohebjaaGreatDoorTie.lean); close each card by the builder's one call (the guide's Derived/Test/ToyasCard.lean, 'card_holds'). Laid BY PROGRAM, IN A SANDBOX (cutbox-door.mjs). By AI agents, Wed Nov 11 2026. No macro, syntax, notation, axiom, sorry.
-/
import Derived.Test.YtafbolnkohebjaaGreatDoorRows
import GoSem.ClaimSeven
namespace Go.Proofs.YtafbolnkohebjaaGreatDoor
namespace Rows

/-- THE TIED CARD OF 'laws.FnCurves'. -/
def fnCurvesCard : Claim7 := { stood := { row := fnCurvesRow, standIns := [], harness := (true, "d27d9a2cb638370fcf8d9b7315656a5d20abbb79fca7a73f21fbde520d414acf"), looks := true }, kinds := [], alts := [], laidByText := true, laidKinds := [.data, .data, .data, .data, .sentinel, .sentinel, .pinned], laidTests := true, laidLooks := .later }
def FnCurvesCardSaid : Prop := Claim7.holds Tryz.pinned (.plain (OpenSpec.ofChange fnCurvesSpec)) fnCurvesCard

/-- THE SECOND FORM's CARD OF 'laws.FnCurves'. -/
def fnCurvesUptoCard : Claim7 := { stood := { row := fnCurvesUptoRow, standIns := [], harness := (true, "d27d9a2cb638370fcf8d9b7315656a5d20abbb79fca7a73f21fbde520d414acf"), looks := true }, kinds := [], alts := [], laidByText := true, laidKinds := [.data, .data, .data, .data, .sentinel, .sentinel, .pinned], laidTests := true, laidLooks := .later }
def FnCurvesUptoCardSaid : Prop := Claim7.holds Tryz.pinned (.plain (OpenSpec.upto fnCurvesSpec)) fnCurvesUptoCard
end Rows
end Go.Proofs.YtafbolnkohebjaaGreatDoor
