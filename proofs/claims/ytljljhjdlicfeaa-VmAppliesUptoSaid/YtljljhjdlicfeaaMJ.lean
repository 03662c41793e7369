/-
  A lookup in the table of operations. Conditions: none.
-/
import Derived.Test.YtljljhjdlicfeaaMI
import Derived.Test.YtljljhjdlicfeaaContains
import Derived.Test.YtljljhjdlicfeaaMG
import Derived.StillTailTactics
namespace Go.Proofs.Ytljljhjdlicfeaa
open Go Go.RowKit
set_option maxRecDepth 100000
set_option linter.unusedVariables false
theorem lookup_run (w : World) (b : Nat) (es : Array MapEntry) (clock : Nat) (hh : w.heap[b]? = some (.map es clock)) (n : Int) (i : Nat) (v : Value) (hf : Instr.findNow (.int .i64) (.int .i64 n) es.toList 0 = some (some (i, v))) :
    (Instr.lookup 74 (.map (some b)) (.int .i64 n) true).run Try.prog w = .ok (.tuple #[v, .bool true]) w := by
  have hc : ∀ e, (Instr.checkKey e 10000 3 (.int .i64 n)).run Try.prog w = .ok () w := fun e => MapKept.run_checkKey (k := .int .i64 n) Try.underlying3 (by simp [MapKept.IsKey]) e 9999
  simp [Instr.lookup, run_underlying Try.underlying74, MapKept.run_getObj_map hh, hc, MapKept.run_findKey Try.underlying3 hf, Result.andThen]
end Go.Proofs.Ytljljhjdlicfeaa
