/-
  No block but one is written. Conditions: none.
-/
import Derived.Test.YtkpfaeodgjbodaaGreatDoorMO
namespace Go.Proofs.YtkpfaeodgjbodaaGreatDoor
open Go Go.RowKit
set_option linter.unusedVariables false
/-- no block but g is written -/
def Kg (g : Nat) (w w' : World) : Prop := w'.os = w.os ∧ w'.tape = w.tape ∧ w'.output = w.output ∧ w.heap.size ≤ w'.heap.size ∧ ∀ b, b < w.heap.size → b ≠ g → w'.heap[b]? = w.heap[b]?
theorem Kg.refl (g : Nat) (w : World) : Kg g w w := ⟨rfl, rfl, rfl, Nat.le_refl _, fun _ _ _ => rfl⟩
theorem Kg.below {g : Nat} {w w1 w2 : World} (h : Kg g w w1) (hb : Below w1.heap.size w1 w2) : Kg g w w2 :=
  ⟨hb.os.trans h.1, hb.tape.trans h.2.1, hb.output.trans h.2.2.1, Nat.le_trans h.2.2.2.1 hb.size, fun b h1 h2 => (hb.block b (Nat.lt_of_lt_of_le h1 h.2.2.2.1)).trans (h.2.2.2.2 b h1 h2)⟩
theorem Kg.set {g o : Nat} {w w1 : World} {v : Value} (h : Kg g w w1) : Kg g w (w1.setCell ⟨g, o, none⟩ v) :=
  ⟨h.1, h.2.1, h.2.2.1, by simpa [World.setCell] using h.2.2.2.1, fun b h1 h2 => (Below.heap_setCell _ _ _ _ h2).trans (h.2.2.2.2 b h1 h2)⟩
theorem Kg.drew {g : Nat} {w w1 : World} (h : Kg g w w1) : Kg g w w1.drew := h
theorem Kg.trans {g : Nat} {w w1 w2 : World} (h : Kg g w w1) (k : Kg g w1 w2) : Kg g w w2 :=
  ⟨k.1.trans h.1, k.2.1.trans h.2.1, k.2.2.1.trans h.2.2.1, Nat.le_trans h.2.2.2.1 k.2.2.2.1, fun b h1 h2 => (k.2.2.2.2 b (Nat.lt_of_lt_of_le h1 h.2.2.2.1) h2).trans (h.2.2.2.2 b h1 h2)⟩
end Go.Proofs.YtkpfaeodgjbodaaGreatDoor
