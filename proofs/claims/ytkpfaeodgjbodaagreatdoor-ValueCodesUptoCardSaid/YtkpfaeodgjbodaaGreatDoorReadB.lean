/-
  What the reading of a struct of a list of values and a list of lists of bytes gives: plain values and bytes in memory. Conditions: none.
-/
import Derived.Test.YtkpfaeodgjbodaaGreatDoorMK
import Derived.Test.YtkpfaeodgjbodaaGreatDoorNum8
namespace Go.Proofs.YtkpfaeodgjbodaaGreatDoor
open Go Go.ChangeShapes Go.WideShapes Go.ChangeAt Go.RowKit
set_option maxRecDepth 100000
set_option linter.unusedVariables false
/-- s is a slice that reads as these bytes -/
def isBs (W : World) (hi : Nat) (s : Value) (bs : List Nat) : Prop := ∃ a c, s = .slice a bs.length c ∧ bs.length ≤ c ∧ isB W hi a bs ∧ ∀ b ∈ bs, b < 256
/-- s is a slice of slices that read as these lists of bytes -/
def isBB (W : World) (hi : Nat) (s : Value) (ls : List (List Nat)) : Prop :=
  ∃ a c b off, s = .slice a ls.length c ∧ ls.length ≤ c ∧ (0 < ls.length → a = some ⟨b, off, none⟩ ∧ b < hi) ∧ ∀ i (h : i < ls.length), ∃ u, W.cell? ⟨b, off + i, none⟩ = some u ∧ isBs W hi u ls[i]
theorem wf_u8 {n : Int} (h : (Lit.int .u8 n).wf = true) : 0 ≤ n ∧ n ≤ 255 := by
  simp only [Lit.wf, Bool.and_eq_true, decide_eq_true_eq] at h
  have e1 : IntKind.u8.min = 0 := by decide
  have e2 : IntKind.u8.max = 255 := by decide
  rw [e1, e2] at h
  exact h
section
variable {H : Type} {enc : TypeId × Value → H} {W : World}
theorem cSB : Tryz.prog.cellsOf 28 = 1 := by kernel_rfl
theorem cU8 : Tryz.prog.cellsOf 5 = 1 := by kernel_rfl
theorem cSBB : Tryz.prog.cellsOf 23 = 1 := by kernel_rfl
theorem read_bytes (fuel : Nat) (cs : List Value) (x : DataW H × List MemPlace) (h : DataW.trod enc Tryz.prog W 0 (fun _ => true) true fuel 28 cs = some x) :
    ∃ (s : Value) (l : List Nat), cs = [s] ∧ isBs W W.heap.size s l := by
  rcases DataW.trod_slice Tryz.underlying28 h with ⟨rfl, rfl⟩ | ⟨a, len, cap, elems, rest, n, rfl, rfl, rfl, _, hl, _, hlen, hel, _, _⟩
  · exact ⟨_, [], rfl, none, 0, rfl, Nat.le_refl _, fun h => absurd h (by simp), fun b h => absurd h (by simp)⟩
  · have each : ∀ i : Fin len, ∃ g : Nat, W.cells? 0 (a.add (i * 1)) 1 = some [.int .u8 (g : Int)] ∧ g < 256 := by
      intro ⟨i, hi⟩
      have h1 := hel i hi
      rw [cU8, List.getElem?_eq_getElem (by omega)] at h1
      obtain ⟨cs', hc, ht⟩ := Option.bind_eq_some_iff.1 h1
      obtain ⟨m, rfl, _, w0⟩ := DataW.trod_int Tryz.underlying5 ht
      have w1 := wf_u8 w0
      exact ⟨m.toNat, by rw [hc, Int.toNat_of_nonneg w1.1], by omega⟩
    obtain ⟨f, hf⟩ := Classical.axiomOfChoice each
    have hlf : (List.ofFn f).length = len := by simp
    have ha : 0 < len → a = ⟨a.block, a.off, none⟩ ∧ a.block < W.heap.size := fun h0 => by
      obtain ⟨hc, _⟩ := hf ⟨0, h0⟩
      obtain ⟨_, _, hcell⟩ := World.cells?_some hc
      have hc0 := hcell 0 (by omega)
      refine ⟨?_, ?_⟩
      · have := no_spot (a := (a.add (0 * 1)).add 0) (by rw [hc0]; rfl)
        simpa [Addr.add] using this
      · have := World.cells?_block hc (by omega)
        simpa [Addr.add] using this
    refine ⟨_, List.ofFn f, rfl, some a, cap, by rw [hlf], by rw [hlf]; exact hl, fun h0 => ⟨a.block, a.off, ?_, ?_, fun i hi => ?_⟩, fun y hy => by obtain ⟨i, rfl⟩ := List.mem_ofFn.1 hy; exact (hf i).2⟩
    · rw [hlf] at h0
      exact congrArg some (ha h0).1
    · rw [hlf] at h0
      exact (ha h0).2
    · have hi' : i < len := by rw [hlf] at hi; exact hi
      obtain ⟨hc, _⟩ := hf ⟨i, hi'⟩
      obtain ⟨_, _, hcell⟩ := World.cells?_some hc
      have h1 : W.cell? ((a.add (i * 1)).add 0) = some (.int .u8 (f ⟨i, hi'⟩ : Int)) := hcell 0 (by omega)
      rw [(ha (by omega)).1] at h1
      rw [List.getElem_ofFn]
      simpa only [add_off, Nat.mul_one, Nat.add_zero] using h1
theorem read_bytess (fuel : Nat) (cs : List Value) (x : DataW H × List MemPlace) (h : DataW.trod enc Tryz.prog W 0 (fun _ => true) true fuel 23 cs = some x) :
    ∃ (s : Value) (l : List (List Nat)), cs = [s] ∧ isBB W W.heap.size s l := by
  rcases DataW.trod_slice Tryz.underlying23 h with ⟨rfl, rfl⟩ | ⟨a, len, cap, elems, rest, n, rfl, rfl, rfl, _, hl, _, hlen, hel, _, _⟩
  · exact ⟨_, [], rfl, none, 0, 0, 0, rfl, Nat.le_refl _, fun h => absurd h (by simp), fun i h => absurd h (by simp)⟩
  · have each : ∀ i : Fin len, ∃ g : List Nat, ∃ s, W.cells? 0 (a.add (i * 1)) 1 = some [s] ∧ isBs W W.heap.size s g := by
      intro ⟨i, hi⟩
      have h1 := hel i hi
      rw [cSB, List.getElem?_eq_getElem (by omega)] at h1
      obtain ⟨cs', hc, ht⟩ := Option.bind_eq_some_iff.1 h1
      obtain ⟨s, g, rfl, hs⟩ := read_bytes n _ _ ht
      exact ⟨g, s, hc, hs⟩
    obtain ⟨f, hf⟩ := Classical.axiomOfChoice each
    have hlf : (List.ofFn f).length = len := by simp
    have ha : 0 < len → a = ⟨a.block, a.off, none⟩ ∧ a.block < W.heap.size := fun h0 => by
      obtain ⟨s, hc, _⟩ := hf ⟨0, h0⟩
      obtain ⟨_, _, hcell⟩ := World.cells?_some hc
      have hc0 := hcell 0 (by omega)
      refine ⟨?_, ?_⟩
      · have := no_spot (a := (a.add (0 * 1)).add 0) (by rw [hc0]; rfl)
        simpa [Addr.add] using this
      · have := World.cells?_block hc (by omega)
        simpa [Addr.add] using this
    refine ⟨_, List.ofFn f, rfl, some a, cap, a.block, a.off, by rw [hlf], by rw [hlf]; exact hl, fun h0 => ?_, fun i hi => ?_⟩
    · rw [hlf] at h0
      exact ⟨congrArg some (ha h0).1, (ha h0).2⟩
    · have hi' : i < len := by rw [hlf] at hi; exact hi
      obtain ⟨s, hc, hs⟩ := hf ⟨i, hi'⟩
      obtain ⟨_, _, hcell⟩ := World.cells?_some hc
      have h1 : W.cell? ((a.add (i * 1)).add 0) = some s := hcell 0 (by omega)
      rw [(ha (by omega)).1] at h1
      rw [List.getElem_ofFn]
      exact ⟨s, by simpa only [add_off, Nat.mul_one, Nat.add_zero] using h1, hs⟩
theorem read_codes {v : Value} {d : DataW H} {p : List MemPlace} (hv : ∃ cs, v = .agg cs ∧ cs.size = Tryz.prog.cellsOf 25) (h : DataW.Trod enc Tryz.prog W 0 (fun _ => true) true 25 v d p) :
    ∃ (s : Value) (l : List GV) (t : Value) (m : List (List Nat)), v = .agg #[s, t] ∧ isL W 0 W.heap.size s l ∧ wfIL l ∧ bulkL l ≤ Rows.uptoBulk d ∧ isBB W W.heap.size t m := by
  obtain ⟨cs, rfl, hc⟩ := hv
  obtain ⟨fuel, h⟩ := h
  obtain ⟨y0, y1, n, e, hl, hy, hz⟩ := trod_struct2 Tryz.underlying25 h
  have hy' : DataW.trod enc Tryz.prog W 0 (fun _ => true) true n 22 (((Value.agg cs).cells.toList.drop 0).take (Tryz.prog.cellsOf 22)) = some y0 := hy
  have hz' : DataW.trod enc Tryz.prog W 0 (fun _ => true) true n 23 (((Value.agg cs).cells.toList.drop 1).take (Tryz.prog.cellsOf 23)) = some y1 := hz
  rw [cSV] at hy'
  rw [cSBB] at hz'
  obtain ⟨s, l, e1, hs, hw, hb⟩ := read_slice n (fun m _ => read_value m) _ _ hy'
  obtain ⟨t, m, e2, ht⟩ := read_bytess n _ _ hz'
  have hc1 : cs.size = 2 := by rw [hc]; kernel_rfl
  have ee : cs = #[s, t] := by
    apply Array.ext'
    match hcs : cs.toList, (show cs.toList.length = 2 from hc1) with
    | [u, u2], _ =>
      simp [Value.cells, hcs] at e1 e2
      rw [e1, e2]
  refine ⟨s, l, t, m, by rw [ee], hs, hw, ?_, ht⟩
  simp only [Prod.mk.injEq] at e
  rw [e.1]
  simp only [Rows.uptoBulk, Rows.uptoBulkAll]
  omega
end
end Go.Proofs.YtkpfaeodgjbodaaGreatDoor
