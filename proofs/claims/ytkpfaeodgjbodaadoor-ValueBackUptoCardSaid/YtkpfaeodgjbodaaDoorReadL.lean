/-
  What the reading of a struct of one list of values gives: plain values in memory, bounded by the reading's bulk. Conditions: none.
-/
import Derived.Test.YtkpfaeodgjbodaaDoorMK
namespace Go.Proofs.YtkpfaeodgjbodaaDoor
open Go Go.ChangeShapes Go.WideShapes Go.ChangeAt Go.RowKit
set_option maxRecDepth 100000
set_option linter.unusedVariables false
section
variable {H : Type} {enc : TypeId × Value → H} {W : World}
theorem read_vals {v : Value} {d : DataW H} {p : List MemPlace} (hv : ∃ cs, v = .agg cs ∧ cs.size = Tryd.prog.cellsOf 24) (h : DataW.Trod enc Tryd.prog W 0 (fun _ => true) true 24 v d p) :
    ∃ (s : Value) (l : List GV), v = .agg #[s] ∧ isL W 0 W.heap.size s l ∧ wfIL l ∧ bulkL l ≤ Rows.uptoBulk d := by
  obtain ⟨cs, rfl, hc⟩ := hv
  obtain ⟨fuel, h⟩ := h
  obtain ⟨y0, n, e, hl, hy⟩ := trod_struct1 Tryd.underlying24 h
  have hy' : DataW.trod enc Tryd.prog W 0 (fun _ => true) true n 22 (((Value.agg cs).cells.toList.drop 0).take (Tryd.prog.cellsOf 22)) = some y0 := hy
  rw [cSV] at hy'
  obtain ⟨s, l, e1, hs, hw, hb⟩ := read_slice n (fun m _ => read_value m) _ _ hy'
  have hc1 : cs.size = 1 := by rw [hc]; kernel_rfl
  have ee : cs = #[s] := by
    apply Array.ext'
    match hcs : cs.toList, (show cs.toList.length = 1 from hc1) with
    | [u], _ =>
      simp [Value.cells, hcs] at e1
      rw [e1]
  refine ⟨s, l, by rw [ee], hs, hw, ?_⟩
  simp only [Prod.mk.injEq] at e
  rw [e.1]
  simp only [Rows.uptoBulk, Rows.uptoBulkAll]
  omega
end
end Go.Proofs.YtkpfaeodgjbodaaDoor
