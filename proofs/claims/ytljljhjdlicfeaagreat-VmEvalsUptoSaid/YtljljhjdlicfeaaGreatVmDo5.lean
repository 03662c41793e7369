/-
  The machine's do: any instruction but a jump. Conditions: fewer than 2^31 values on the stack.
-/
import Derived.Test.YtljljhjdlicfeaaGreatNP
import Derived.Test.YtljljhjdlicfeaaGreatVmDo4
namespace Go.Proofs.YtljljhjdlicfeaaGreat
open Go Go.RowKit
set_option maxRecDepth 100000
set_option linter.unusedVariables false
theorem do_any (E : EP) (fE : E.fit) (ev : Value) (B0 : Nat) (x : GI) (fx : x.v.fit) (hok : okOf x = true) (hj : ¬ (x.op = 7 ∨ x.op = 8)) : DoneC E ev B0 x := by
  have hop := okOf_op hok
  have hoff := okOf_off hok
  obtain ⟨op, arg, sx, vx⟩ := x
  dsimp only at fx hop hj
  have h : op = 0 ∨ op = 1 ∨ op = 2 ∨ op = 3 ∨ op = 4 ∨ op = 5 ∨ op = 6 := by omega
  rcases h with rfl | rfl | rfl | rfl | rfl | rfl | rfl
  · exact do_0 E fE ev B0 arg sx vx fx
  · exact do_1 E fE ev B0 arg sx vx fx
  · exact do_2 E fE ev B0 arg sx vx fx
  · exact do_3 E fE ev B0 arg sx vx fx
  · obtain ⟨k, rfl⟩ : ∃ k : Nat, arg = (k : Int) := ⟨arg.toNat, by simp [offOf] at hoff; omega⟩
    exact do_4 E fE ev B0 0 sx vx fx k
  · by_cases h6 : arg = 6
    · subst h6; exact do_5a E fE ev B0 0 sx vx fx
    by_cases h7 : arg = 7
    · subst h7; exact do_5b E fE ev B0 0 sx vx fx
    by_cases h21 : arg = 21
    · subst h21; exact do_5c E fE ev B0 0 sx vx fx
    exact do_5d E fE ev B0 arg sx vx fx h6 h7 h21
  · exact do_6 E fE ev B0 arg sx vx fx
end Go.Proofs.YtljljhjdlicfeaaGreat
