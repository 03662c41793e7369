/-
  Whether what is handed to a law of values is light. Conditions: lists and texts shorter than 2^31, bulk at most 2^40.
-/
import Derived.Test.YtkpfaeodgjbodaaDoorMA
import Derived.Test.YtkpfaeodgjbodaaDoorMD
namespace Go.Proofs.YtkpfaeodgjbodaaDoor
open Go Go.RowKit
set_option maxRecDepth 100000
set_option linter.unusedVariables false
theorem light_any (l : List GV) (hb : bulkL l ≤ 1099511627776) (s : Value) (w : World) (B : Nat) (hB : B ≤ w.heap.size) (hs : isL w 0 B s l) :
    Calls Tryd.prog 4 #[.agg #[s]] w fun e w' => e = .returned (.bool (decide (vsize l ≤ 9000))) ∧ Below w.heap.size w w' := by
  have HS := Lib.hid hs
  obtain ⟨a, c, rfl⟩ := isL_form hs
  have hb0 := (Below.refl w.heap.size w).alloc (Nat.le_refl _) (.cells #[.slice a l.length c] 24)
  have HC := Lib.hid (Size_any l hb (.slice a l.length c) _ B (Nat.le_trans hB hb0.size) (isL_below HS.out hb0 hB))
  have HB0 := Lib.hid hb0
  clear hs hb0 hb
  go_enter Tryd.func4, Tryd.ntmps4
  go_wp2_with fail
  refine HC.out.mono ?_
  rintro e w1 ⟨rfl, hb1⟩
  go_wp2_with fail
  go_ret
  exact ⟨ret_bool (by simp; omega), below_down HB0.out hb1 (Nat.le_refl _)⟩
end Go.Proofs.YtkpfaeodgjbodaaDoor
