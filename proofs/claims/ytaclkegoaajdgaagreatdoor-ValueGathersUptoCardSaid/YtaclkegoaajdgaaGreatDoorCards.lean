/-
  DERIVED. GIVEN WITH THE SEED: THE CARDS: each row of YtaclkegoaajdgaaGreatDoorRows.lean that lists a variable, with what it lists TIED to the program's text (the seventh form; the later family's looks); each row that meets fmt, with fmt's text TOLD by the authors' own Lean function (tested against real Go, not proved from fmt's source: count such statements apart). THE CARD IS WHAT COUNTS. Prove the row's statement (the work); the ties are given (YtaclkegoaajdgaaGreatDoorTie.lean); close each card by the builder's one call (the guide's Derived/Test/ToyasCard.lean, 'card_holds'). Laid BY PROGRAM, IN A SANDBOX (cutbox-door.mjs). By AI agents, Wed Nov 11 2026. No macro, syntax, notation, axiom, sorry.
-/
import Derived.Test.YtaclkegoaajdgaaGreatDoorRows
import GoSem.ClaimSeven
namespace Go.Proofs.YtaclkegoaajdgaaGreatDoor
namespace Rows

/-- THE TIED CARD OF 'proctorlaw1.ValueGathers'. -/
def valueGathersCard : Claim7 := { stood := { row := valueGathersRow, standIns := [], harness := (true, "12eb9ab0bac644753d12104ab1fd4decb591cd7717151aca4a6e3d36a2d5c796"), looks := false }, kinds := [], alts := [], laidByText := true, laidKinds := [.data, .data, .data], laidTests := true, laidLooks := .later }
def ValueGathersCardSaid : Prop := Claim7.holds Tryz.pinned (.plain (OpenSpec.ofChange valueGathersSpec)) valueGathersCard

/-- THE SECOND FORM's CARD OF 'proctorlaw1.ValueGathers'. -/
def valueGathersUptoCard : Claim7 := { stood := { row := valueGathersUptoRow, standIns := [], harness := (true, "12eb9ab0bac644753d12104ab1fd4decb591cd7717151aca4a6e3d36a2d5c796"), looks := false }, kinds := [], alts := [], laidByText := true, laidKinds := [.data, .data, .data], laidTests := true, laidLooks := .later }
def ValueGathersUptoCardSaid : Prop := Claim7.holds Tryz.pinned (.plain (OpenSpec.upto valueGathersSpec)) valueGathersUptoCard
end Rows
end Go.Proofs.YtaclkegoaajdgaaGreatDoor
