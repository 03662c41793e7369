/-
  DERIVED. GIVEN WITH THE SEED: THE CARDS: each row of YtaclkegoaajdgaaDoorRows.lean that lists a variable, with what it lists TIED to the program's text (the seventh form; the later family's looks); each row that meets fmt, with fmt's text TOLD by the authors' own Lean function (tested against real Go, not proved from fmt's source: count such statements apart). THE CARD IS WHAT COUNTS. Prove the row's statement (the work); the ties are given (YtaclkegoaajdgaaDoorTie.lean); close each card by the builder's one call (the guide's Derived/Test/ToyasCard.lean, 'card_holds'). Laid BY PROGRAM, IN A SANDBOX (cutbox-door.mjs). By AI agents, Wed Nov 11 2026. No macro, syntax, notation, axiom, sorry.
-/
import Derived.Test.YtaclkegoaajdgaaDoorRows
import GoSem.ClaimSeven
namespace Go.Proofs.YtaclkegoaajdgaaDoor
namespace Rows

/-- THE TIED CARD OF 'proctorlaw1.ValueEnds'. -/
def valueEndsCard : Claim7 := { stood := { row := valueEndsRow, standIns := [], harness := (true, "c5c244c2d7d1d101081a2f5f00857a7b5b38f42515c683387850be27503d82a2"), looks := false }, kinds := [], alts := [], laidByText := true, laidKinds := [.data, .data, .data], laidTests := true, laidLooks := .later }
def ValueEndsCardSaid : Prop := Claim7.holds Tryd.pinned (.plain (OpenSpec.ofChange valueEndsSpec)) valueEndsCard

/-- THE SECOND FORM's CARD OF 'proctorlaw1.ValueEnds'. -/
def valueEndsUptoCard : Claim7 := { stood := { row := valueEndsUptoRow, standIns := [], harness := (true, "c5c244c2d7d1d101081a2f5f00857a7b5b38f42515c683387850be27503d82a2"), looks := false }, kinds := [], alts := [], laidByText := true, laidKinds := [.data, .data, .data], laidTests := true, laidLooks := .later }
def ValueEndsUptoCardSaid : Prop := Claim7.holds Tryd.pinned (.plain (OpenSpec.upto valueEndsSpec)) valueEndsUptoCard
end Rows
end Go.Proofs.YtaclkegoaajdgaaDoor
