/-
  What the reading of a struct of one list of whole numbers gives: plain numbers in memory. Conditions: none.
-/
import Derived.Test.YtlmbjihhpljbkaaDoorMK
import Derived.Test.YtlmbjihhpljbkaaDoorVNum
namespace Go.Proofs.YtlmbjihhpljbkaaDoor
open Go Go.ChangeShapes Go.WideShapes Go.ChangeAt Go.RowKit
set_option maxRecDepth 100000
set_option linter.unusedVariables false
section
variable {H : Type} {enc : TypeId × Value → H} {W : World}
theorem cSI : Tryd.prog.cellsOf 22 = 1 := by kernel_rfl
theorem read_ints (fuel : Nat) (cs : List Value) (x : DataW H × List MemPlace) (h : DataW.trod enc Tryd.prog W 0 (fun _ => true) true fuel 22 cs = some x) :
    ∃ (s : Value) (l : List Int), cs = [s] ∧ isI W W.heap.size s l ∧ ∀ n ∈ l, inI n := by
  rcases DataW.trod_slice Tryd.underlying22 h with ⟨rfl, rfl⟩ | ⟨a, len, cap, elems, rest, n, rfl, rfl, rfl, _, hl, _, hlen, hel, _, _⟩
  · exact ⟨_, [], rfl, ⟨none, 0, 0, 0, rfl, Nat.le_refl _, fun h => absurd h (by simp), fun i h => absurd h (by simp)⟩, fun n h => absurd h (by simp)⟩
  · have each : ∀ i : Fin len, ∃ g : Int, W.cells? 0 (a.add (i * 1)) 1 = some [.int .i64 g] ∧ inI g := by
      intro ⟨i, hi⟩
      have h1 := hel i hi
      rw [c64, List.getElem?_eq_getElem (by omega)] at h1
      obtain ⟨cs', hc, ht⟩ := Option.bind_eq_some_iff.1 h1
      obtain ⟨m, rfl, _, w0⟩ := DataW.trod_int Tryd.underlying2 ht
      exact ⟨m, hc, wf_i64 w0⟩
    obtain ⟨f, hf⟩ := Classical.axiomOfChoice each
    have hlf : (List.ofFn f).length = len := by simp
    have ha : 0 < len → a = ⟨a.block, a.off, none⟩ ∧ a.block < W.heap.size := fun h0 => by
      obtain ⟨hc, _⟩ := hf ⟨0, h0⟩
      obtain ⟨_, _, hcell⟩ := World.cells?_some hc
      have hc0 := hcell 0 (by omega)
      refine ⟨?_, ?_⟩
      · have := no_spot (a := (a.add (0 * 1)).add 0) (by rw [hc0]; rfl)
        simpa [Addr.add] using this
      · have := World.cells?_block hc (by omega)
        simpa [Addr.add] using this
    refine ⟨_, List.ofFn f, rfl, ⟨some a, cap, a.block, a.off, by rw [hlf], by rw [hlf]; exact hl, fun h0 => ?_, fun i hi => ?_⟩, fun y hy => by obtain ⟨i, rfl⟩ := List.mem_ofFn.1 hy; exact (hf i).2⟩
    · rw [hlf] at h0
      exact ⟨congrArg some (ha h0).1, (ha h0).2⟩
    · have hi' : i < len := by rw [hlf] at hi; exact hi
      obtain ⟨hc, _⟩ := hf ⟨i, hi'⟩
      obtain ⟨_, _, hcell⟩ := World.cells?_some hc
      have h1 : W.cell? ((a.add (i * 1)).add 0) = some (.int .i64 (f ⟨i, hi'⟩)) := hcell 0 (by omega)
      rw [(ha (by omega)).1] at h1
      rw [List.getElem_ofFn]
      simpa only [add_off, Nat.mul_one, Nat.add_zero] using h1
theorem read_numbers {v : Value} {d : DataW H} {p : List MemPlace} (hv : ∃ cs, v = .agg cs ∧ cs.size = Tryd.prog.cellsOf 24) (h : DataW.Trod enc Tryd.prog W 0 (fun _ => true) true 24 v d p) :
    ∃ (s : Value) (l : List Int), v = .agg #[s] ∧ isI W W.heap.size s l ∧ ∀ n ∈ l, inI n := by
  obtain ⟨cs, rfl, hc⟩ := hv
  obtain ⟨fuel, h⟩ := h
  obtain ⟨y0, n, e, hl, hy⟩ := trod_struct1 Tryd.underlying24 h
  have hy' : DataW.trod enc Tryd.prog W 0 (fun _ => true) true n 22 (((Value.agg cs).cells.toList.drop 0).take (Tryd.prog.cellsOf 22)) = some y0 := hy
  rw [cSI] at hy'
  obtain ⟨s, l, e1, hs, hw⟩ := read_ints n _ _ hy'
  have hc1 : cs.size = 1 := by rw [hc]; kernel_rfl
  have ee : cs = #[s] := by
    apply Array.ext'
    match hcs : cs.toList, (show cs.toList.length = 1 from hc1) with
    | [u], _ =>
      simp [Value.cells, hcs] at e1
      rw [e1]
  exact ⟨s, l, by rw [ee], hs, hw⟩
end
end Go.Proofs.YtlmbjihhpljbkaaDoor
