/-
  DERIVED. GIVEN WITH THE SEED: THE CARDS: each row of YthfnecldbfnbfaaGreatDoorRows.lean that lists a variable, with what it lists TIED to the program's text (the seventh form; the later family's looks); each row that meets fmt, with fmt's text TOLD by the authors' own Lean function (tested against real Go, not proved from fmt's source: count such statements apart). THE CARD IS WHAT COUNTS. Prove the row's statement (the work); the ties are given (YthfnecldbfnbfaaGreatDoorTie.lean); close each card by the builder's one call (the guide's Derived/Test/ToyasCard.lean, 'card_holds'). Laid BY PROGRAM, IN A SANDBOX (cutbox-door.mjs). By AI agents, Wed Nov 11 2026. No macro, syntax, notation, axiom, sorry.
-/
import Derived.Test.YthfnecldbfnbfaaGreatDoorRows
import GoSem.ClaimSeven
namespace Go.Proofs.YthfnecldbfnbfaaGreatDoor
namespace Rows

/-- THE TIED CARD OF 'proctorlaw1.ValueApplies'. -/
def valueAppliesCard : Claim7 := { stood := { row := valueAppliesRow, standIns := [], harness := (true, "cfd0702cb85cdee20760dfb172592a11c1436fed48d474aac48119c10dbd1339"), looks := false }, kinds := [], alts := [], laidByText := true, laidKinds := [.data, .data, .data], laidTests := true, laidLooks := .later }
def ValueAppliesCardSaid : Prop := Claim7.holds Tryz.pinned (.plain (OpenSpec.ofChange valueAppliesSpec)) valueAppliesCard

/-- THE SECOND FORM's CARD OF 'proctorlaw1.ValueApplies'. -/
def valueAppliesUptoCard : Claim7 := { stood := { row := valueAppliesUptoRow, standIns := [], harness := (true, "cfd0702cb85cdee20760dfb172592a11c1436fed48d474aac48119c10dbd1339"), looks := false }, kinds := [], alts := [], laidByText := true, laidKinds := [.data, .data, .data], laidTests := true, laidLooks := .later }
def ValueAppliesUptoCardSaid : Prop := Claim7.holds Tryz.pinned (.plain (OpenSpec.upto valueAppliesSpec)) valueAppliesUptoCard
end Rows
end Go.Proofs.YthfnecldbfnbfaaGreatDoor
