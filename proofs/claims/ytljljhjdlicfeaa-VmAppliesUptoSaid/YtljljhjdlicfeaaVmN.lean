/-
  need: it returns, or panics with a fault. Conditions: none.
-/
import Derived.Test.YtljljhjdlicfeaaMA
import Derived.Test.YtljljhjdlicfeaaProg
import Derived.WalkLawsBesides
import Derived.Deep.QuietTactic
import Derived.BigQuiet
import Derived.Outline
namespace Go.Proofs.Ytljljhjdlicfeaa
open Go Go.RowKit
set_option maxRecDepth 100000
set_option linter.unusedVariables false
def faultE (k : Int) : Ending := .panicked [{ v := .iface 93 (.agg #[.int .i64 k]), recovered := false }]
theorem need_ok (k : Int) (w : World) : Calls Try.prog 62 #[.bool true, .int .i64 k] w fun e w' => e = .returned (.tuple #[]) ∧ w' = w := by
  go_enter Try.func62, Try.ntmps62
  go_wp2_with fail
  go_end0
  exact ⟨rfl, rfl⟩
theorem need_no (k : Int) (w : World) : Calls Try.prog 62 #[.bool false, .int .i64 k] w fun e w' => e = faultE k ∧ w' = w := by
  go_enter Try.func62, Try.ntmps62
  go_wp2_with fail
  exact ⟨rfl, rfl, rfl⟩
end Go.Proofs.Ytljljhjdlicfeaa
