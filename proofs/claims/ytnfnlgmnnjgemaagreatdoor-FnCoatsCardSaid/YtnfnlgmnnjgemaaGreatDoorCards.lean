/-
  DERIVED. GIVEN WITH THE SEED: THE CARDS: each row of YtnfnlgmnnjgemaaGreatDoorRows.lean that lists a variable, with what it lists TIED to the program's text (the seventh form; the later family's looks); each row that meets fmt, with fmt's text TOLD by the authors' own Lean function (tested against real Go, not proved from fmt's source: count such statements apart). THE CARD IS WHAT COUNTS. Prove the row's statement (the work); the ties are given (YtnfnlgmnnjgemaaGreatDoorTie.lean); close each card by the builder's one call (the guide's Derived/Test/ToyasCard.lean, 'card_holds'). Laid BY PROGRAM, IN A SANDBOX (cutbox-door.mjs). By AI agents, Wed Nov 11 2026. No macro, syntax, notation, axiom, sorry.
-/
import Derived.Test.YtnfnlgmnnjgemaaGreatDoorRows
import GoSem.ClaimSeven
namespace Go.Proofs.YtnfnlgmnnjgemaaGreatDoor
namespace Rows

/-- THE TIED CARD OF 'laws.FnCoats'. -/
def fnCoatsCard : Claim7 := { stood := { row := fnCoatsRow, standIns := [], harness := (true, "73a6dc3a5c0445a8b60ec1055951e03278d3dfe110d66bca820e153d630d1d41"), looks := true }, kinds := [], alts := [], laidByText := true, laidKinds := [.data, .data, .data, .data, .sentinel, .sentinel, .pinned], laidTests := true, laidLooks := .later }
def FnCoatsCardSaid : Prop := Claim7.holds Tryz.pinned (.plain (OpenSpec.ofChange fnCoatsSpec)) fnCoatsCard

/-- THE SECOND FORM's CARD OF 'laws.FnCoats'. -/
def fnCoatsUptoCard : Claim7 := { stood := { row := fnCoatsUptoRow, standIns := [], harness := (true, "73a6dc3a5c0445a8b60ec1055951e03278d3dfe110d66bca820e153d630d1d41"), looks := true }, kinds := [], alts := [], laidByText := true, laidKinds := [.data, .data, .data, .data, .sentinel, .sentinel, .pinned], laidTests := true, laidLooks := .later }
def FnCoatsUptoCardSaid : Prop := Claim7.holds Tryz.pinned (.plain (OpenSpec.upto fnCoatsSpec)) fnCoatsUptoCard
end Rows
end Go.Proofs.YtnfnlgmnnjgemaaGreatDoor
