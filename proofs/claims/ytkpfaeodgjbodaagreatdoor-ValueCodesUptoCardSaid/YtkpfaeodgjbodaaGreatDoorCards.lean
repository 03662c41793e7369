/-
  DERIVED. GIVEN WITH THE SEED: THE CARDS: each row of YtkpfaeodgjbodaaGreatDoorRows.lean that lists a variable, with what it lists TIED to the program's text (the seventh form; the later family's looks); each row that meets fmt, with fmt's text TOLD by the authors' own Lean function (tested against real Go, not proved from fmt's source: count such statements apart). THE CARD IS WHAT COUNTS. Prove the row's statement (the work); the ties are given (YtkpfaeodgjbodaaGreatDoorTie.lean); close each card by the builder's one call (the guide's Derived/Test/ToyasCard.lean, 'card_holds'). Laid BY PROGRAM, IN A SANDBOX (cutbox-door.mjs). By AI agents, Wed Nov 11 2026. No macro, syntax, notation, axiom, sorry.
-/
import Derived.Test.YtkpfaeodgjbodaaGreatDoorRows
import GoSem.ClaimSeven
namespace Go.Proofs.YtkpfaeodgjbodaaGreatDoor
namespace Rows

/-- THE TIED CARD OF 'proctorlaw1.ValueCodes'. -/
def valueCodesCard : Claim7 := { stood := { row := valueCodesRow, standIns := [], harness := (true, "debe935d495d3f41eafdb066cfd5c9f2fa1336b4e2da1d568942a533f37d90c5"), looks := false }, kinds := [], alts := [], laidByText := true, laidKinds := [.data, .data, .data], laidTests := true, laidLooks := .later }
def ValueCodesCardSaid : Prop := Claim7.holds Tryz.pinned (.plain (OpenSpec.ofChange valueCodesSpec)) valueCodesCard

/-- THE SECOND FORM's CARD OF 'proctorlaw1.ValueCodes'. -/
def valueCodesUptoCard : Claim7 := { stood := { row := valueCodesUptoRow, standIns := [], harness := (true, "debe935d495d3f41eafdb066cfd5c9f2fa1336b4e2da1d568942a533f37d90c5"), looks := false }, kinds := [], alts := [], laidByText := true, laidKinds := [.data, .data, .data], laidTests := true, laidLooks := .later }
def ValueCodesUptoCardSaid : Prop := Claim7.holds Tryz.pinned (.plain (OpenSpec.upto valueCodesSpec)) valueCodesUptoCard
end Rows
end Go.Proofs.YtkpfaeodgjbodaaGreatDoor
