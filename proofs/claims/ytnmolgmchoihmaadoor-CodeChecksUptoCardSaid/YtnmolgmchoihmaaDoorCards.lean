/-
  DERIVED. GIVEN WITH THE SEED: THE CARDS: each row of YtnmolgmchoihmaaDoorRows.lean that lists a variable, with what it lists TIED to the program's text (the seventh form; the later family's looks); each row that meets fmt, with fmt's text TOLD by the authors' own Lean function (tested against real Go, not proved from fmt's source: count such statements apart). THE CARD IS WHAT COUNTS. Prove the row's statement (the work); the ties are given (YtnmolgmchoihmaaDoorTie.lean); close each card by the builder's one call (the guide's Derived/Test/ToyasCard.lean, 'card_holds'). Laid BY PROGRAM, IN A SANDBOX (cutbox-door.mjs). By AI agents, Wed Nov 11 2026. No macro, syntax, notation, axiom, sorry.
-/
import Derived.Test.YtnmolgmchoihmaaDoorRows
import GoSem.ClaimSeven
namespace Go.Proofs.YtnmolgmchoihmaaDoor
namespace Rows

/-- THE TIED CARD OF 'proctorlaw10.CodeExact'. -/
def codeExactCard : Claim7 := { stood := { row := codeExactRow, standIns := [], harness := (true, "0bfd973def222cfbaa7ba532d2659ed79afd2f194cd5836e909336d197dfa5e0"), looks := false }, kinds := [], alts := [], laidByText := true, laidKinds := [.data, .data, .data], laidTests := true, laidLooks := .later }
def CodeExactCardSaid : Prop := Claim7.holds Tryd.pinned (.plain (OpenSpec.ofChange codeExactSpec)) codeExactCard

/-- THE TIED CARD OF 'proctorlaw10.CodeChecks'. -/
def codeChecksCard : Claim7 := { stood := { row := codeChecksRow, standIns := [], harness := (true, "0bfd973def222cfbaa7ba532d2659ed79afd2f194cd5836e909336d197dfa5e0"), looks := false }, kinds := [], alts := [], laidByText := true, laidKinds := [.data, .data, .data], laidTests := true, laidLooks := .later }
def CodeChecksCardSaid : Prop := Claim7.holds Tryd.pinned (.plain (OpenSpec.ofChange codeChecksSpec)) codeChecksCard

/-- THE TIED CARD OF 'proctorlaw10.CodeUnlike'. -/
def codeUnlikeCard : Claim7 := { stood := { row := codeUnlikeRow, standIns := [], harness := (true, "0bfd973def222cfbaa7ba532d2659ed79afd2f194cd5836e909336d197dfa5e0"), looks := false }, kinds := [], alts := [], laidByText := true, laidKinds := [.data, .data, .data], laidTests := true, laidLooks := .later }
def CodeUnlikeCardSaid : Prop := Claim7.holds Tryd.pinned (.plain (OpenSpec.ofChange codeUnlikeSpec)) codeUnlikeCard

/-- THE TIED CARD OF 'proctorlaw10.CodeMost'. -/
def codeMostCard : Claim7 := { stood := { row := codeMostRow, standIns := [], harness := (true, "0bfd973def222cfbaa7ba532d2659ed79afd2f194cd5836e909336d197dfa5e0"), looks := false }, kinds := [], alts := [], laidByText := true, laidKinds := [.data, .data, .data], laidTests := true, laidLooks := .later }
def CodeMostCardSaid : Prop := Claim7.holds Tryd.pinned (.plain (OpenSpec.ofChange codeMostSpec)) codeMostCard

/-- THE SECOND FORM's CARD OF 'proctorlaw10.CodeExact'. -/
def codeExactUptoCard : Claim7 := { stood := { row := codeExactUptoRow, standIns := [], harness := (true, "0bfd973def222cfbaa7ba532d2659ed79afd2f194cd5836e909336d197dfa5e0"), looks := false }, kinds := [], alts := [], laidByText := true, laidKinds := [.data, .data, .data], laidTests := true, laidLooks := .later }
def CodeExactUptoCardSaid : Prop := Claim7.holds Tryd.pinned (.plain (OpenSpec.upto codeExactSpec)) codeExactUptoCard

/-- THE SECOND FORM's CARD OF 'proctorlaw10.CodeChecks'. -/
def codeChecksUptoCard : Claim7 := { stood := { row := codeChecksUptoRow, standIns := [], harness := (true, "0bfd973def222cfbaa7ba532d2659ed79afd2f194cd5836e909336d197dfa5e0"), looks := false }, kinds := [], alts := [], laidByText := true, laidKinds := [.data, .data, .data], laidTests := true, laidLooks := .later }
def CodeChecksUptoCardSaid : Prop := Claim7.holds Tryd.pinned (.plain (OpenSpec.upto codeChecksSpec)) codeChecksUptoCard

/-- THE SECOND FORM's CARD OF 'proctorlaw10.CodeUnlike'. -/
def codeUnlikeUptoCard : Claim7 := { stood := { row := codeUnlikeUptoRow, standIns := [], harness := (true, "0bfd973def222cfbaa7ba532d2659ed79afd2f194cd5836e909336d197dfa5e0"), looks := false }, kinds := [], alts := [], laidByText := true, laidKinds := [.data, .data, .data], laidTests := true, laidLooks := .later }
def CodeUnlikeUptoCardSaid : Prop := Claim7.holds Tryd.pinned (.plain (OpenSpec.upto codeUnlikeSpec)) codeUnlikeUptoCard

/-- THE SECOND FORM's CARD OF 'proctorlaw10.CodeMost'. -/
def codeMostUptoCard : Claim7 := { stood := { row := codeMostUptoRow, standIns := [], harness := (true, "0bfd973def222cfbaa7ba532d2659ed79afd2f194cd5836e909336d197dfa5e0"), looks := false }, kinds := [], alts := [], laidByText := true, laidKinds := [.data, .data, .data], laidTests := true, laidLooks := .later }
def CodeMostUptoCardSaid : Prop := Claim7.holds Tryd.pinned (.plain (OpenSpec.upto codeMostSpec)) codeMostUptoCard
end Rows
end Go.Proofs.YtnmolgmchoihmaaDoor
