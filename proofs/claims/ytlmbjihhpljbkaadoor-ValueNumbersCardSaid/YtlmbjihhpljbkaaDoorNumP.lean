/-
  Rows of numbers that the call has made: appended one behind, one ahead. Conditions: none.
-/
import Derived.Test.YtlmbjihhpljbkaaDoorAggN
import Derived.Test.YtlmbjihhpljbkaaDoorMD
namespace Go.Proofs.YtlmbjihhpljbkaaDoor
open Go Go.RowKit Go.Lib
set_option maxRecDepth 100000
set_option linter.unusedVariables false
def numsF : List Int → List Value
  | [] => []
  | n :: r => .int .i64 2 :: .bool false :: .int .i64 n :: .string { data := #[] } :: .slice none 0 0 :: numsF r
theorem numsF_length : ∀ l, (numsF l).length = l.length * 5
  | [] => rfl
  | n :: r => by simp only [numsF, List.length_cons, numsF_length r]; omega
theorem numsF_app : ∀ l m, numsF (l ++ m) = numsF l ++ numsF m
  | [], m => rfl
  | n :: r, m => by simp [numsF, numsF_app r m]
theorem numsF_one : ∀ l, ∀ u ∈ numsF l, u.oneCell' = true
  | [], u, hu => by simp [numsF] at hu
  | n :: r, u, hu => by
    simp only [numsF, List.mem_cons] at hu
    rcases hu with rfl | rfl | rfl | rfl | rfl | hu
    · rfl
    · rfl
    · rfl
    · rfl
    · rfl
    · exact numsF_one r u hu
theorem numsF_get : ∀ (l : List Int) (i : Nat) (h : i < l.length), (numsF l)[i * 5]? = some (.int .i64 2) ∧ (numsF l)[i * 5 + 1]? = some (.bool false) ∧ (numsF l)[i * 5 + 2]? = some (.int .i64 l[i]) ∧ (numsF l)[i * 5 + 3]? = some (.string { data := #[] }) ∧ (numsF l)[i * 5 + 4]? = some (.slice none 0 0)
  | n :: r, 0, _ => ⟨rfl, rfl, rfl, rfl, rfl⟩
  | n :: r, i + 1, h => by
    have := numsF_get r i (by simpa using h)
    have e : ∀ j, (numsF (n :: r))[(i + 1) * 5 + j]? = (numsF r)[i * 5 + j]? := fun j => by
      rw [show (i + 1) * 5 + j = i * 5 + j + 5 by omega]
      simp only [numsF, List.getElem?_cons_succ]
    exact ⟨(e 0).trans this.1, (e 1).trans this.2.1, (e 2).trans this.2.2.1, (e 3).trans this.2.2.2.1, (e 4).trans this.2.2.2.2⟩
/-- v is a row of numbers that the call has made, from block base on -/
def ownN (w : World) (base : Nat) (v : Value) (l : List Int) : Prop := w.ownsRow base 27 5 v l.length (numsF l)
theorem ownN_keep {w w' : World} {base : Nat} {v : Value} {l : List Int} (h : ownN w base v l) (hg : ∀ g, v.ownBlock = some g → w'.heap[g]? = w.heap[g]?) : ownN w' base v l := by
  refine ⟨h.1, ?_⟩
  rcases h.2 with hn | ⟨g, cap, cur, rfl, hb, hgg, rest⟩
  · exact .inl hn
  · exact .inr ⟨g, cap, cur, rfl, hb, (hg g rfl).trans hgg, rest⟩
theorem ownN_below {w w' : World} {base : Nat} {v : Value} {l : List Int} (h : ownN w base v l) (hb : Below w.heap.size w w') : ownN w' base v l := ownN_keep h (fun g hg => hb.block g (h.lt g hg).2)
theorem ownN_form {w : World} {base : Nat} {v : Value} {l : List Int} (h : ownN w base v l) : ∃ a c, v = .slice a l.length c ∧ (a = none → c = 0) := by
  rcases h.2 with ⟨rfl, h0⟩ | ⟨g, cap, cur, rfl, _⟩
  · exact ⟨none, 0, by rw [h0], fun _ => rfl⟩
  · exact ⟨_, cap, rfl, fun h => by simp at h⟩
theorem ownN_cell {w : World} {base g c : Nat} {l : List Int} (h : ownN w base (.slice (some ⟨g, 0, none⟩) l.length c) l) (i : Nat) (hi : i < l.length) :
    g < w.heap.size ∧ l.length ≤ c ∧ w.cell? ⟨g, i * 5, none⟩ = some (.int .i64 2) ∧ w.cell? ⟨g, i * 5 + 1, none⟩ = some (.bool false) ∧ w.cell? ⟨g, i * 5 + 2, none⟩ = some (.int .i64 l[i]) ∧ w.cell? ⟨g, i * 5 + 3, none⟩ = some (.string { data := #[] }) ∧ w.cell? ⟨g, i * 5 + 4, none⟩ = some (.slice none 0 0) := by
  rcases h.2 with ⟨h1, _⟩ | ⟨g', cap, cur, h1, hb, hh, hn, hcap, hsz, htk⟩
  · cases h1
  · cases h1
    obtain ⟨a0, a1, a2, a3, a4⟩ := numsF_get l i hi
    have k : ∀ j, j < l.length * 5 → cur[j]? = (numsF l)[j]? := fun j hj => by
      rw [← htk, List.getElem?_take, if_pos hj]; simp
    have q := fun o => cell_of hh o
    refine ⟨(Array.getElem?_eq_some_iff.1 hh).1, hn, ?_⟩
    exact ⟨(q _).trans ((k _ (by omega)).trans a0), (q _).trans ((k _ (by omega)).trans a1), (q _).trans ((k _ (by omega)).trans a2), (q _).trans ((k _ (by omega)).trans a3), (q _).trans ((k _ (by omega)).trans a4)⟩
theorem ownN_isL {w : World} {base : Nat} {v : Value} {l : List Int} (h : ownN w base v l) : isL w 0 w.heap.size v (l.map numG) := by
  rcases h.2 with ⟨rfl, h0⟩ | ⟨g, cap, cur, rfl, hb, hh, hn, hcap, hsz, htk⟩
  · obtain rfl := List.eq_nil_of_length_eq_zero h0
    exact isL_nil none 0
  · have hlm : (l.map numG).length = l.length := by simp
    have := isL_mk (w := w) (lo := 0) (hi := w.heap.size) (l := l.map numG) (a := some ⟨g, 0, none⟩) (cap := cap) (b := g) (off := 0) (by simpa using hn) (fun _ => ⟨rfl, Nat.zero_le _, (Array.getElem?_eq_some_iff.1 hh).1⟩) (fun i hi => by
      have hi' : i < l.length := by simpa using hi
      obtain ⟨_, _, c0, c1, c2, c3, c4⟩ := ownN_cell h i hi'
      rw [Nat.zero_add]
      refine cellsV_mk (s := .slice none 0 0) ?_ ?_ ?_ ?_ ?_ ?_
      · simpa [numG] using c0
      · simpa [numG] using c1
      · simpa [numG] using c2
      · simpa [numG] using c3
      · simpa [numG] using c4
      · simpa [numG] using isL_nil none 0)
    rwa [hlm] at this
theorem one_cells (w : World) (n : Int) (T : TypeId) (j : Nat) (u : Value) (h : (numsF [n])[j]? = some u) : (w.alloc (.cells #[.int .i64 2, .bool false, .int .i64 n, .string { data := #[] }, .slice none 0 0] T)).cell? ((⟨w.heap.size, 0, none⟩ : Addr).add j) = some u := by
  rw [addr_add, Nat.zero_add, cell_last]
  rw [← h]
  simp [numsF]
theorem app_last {w : World} {base : Nat} {v : Value} {l : List Int} (ty : TypeId) (h : ownN w base v l) (hl : l.length ≤ 4096) (hb : base ≤ w.heap.size) (n : Int) :
    ∃ v' w', (Builtin.append_ #[25, 25] ty #[v, .slice (some ⟨w.heap.size, 0, none⟩) 1 1]).run Tryd.prog (w.alloc (.cells #[.int .i64 2, .bool false, .int .i64 n, .string { data := #[] }, .slice none 0 0] 27)) = .ok v' w' ∧ ownN w' base v' (l ++ [n]) ∧
      Below base w w' ∧ (∀ g, g < w.heap.size → v.ownBlock ≠ some g → w'.heap[g]? = w.heap[g]?) ∧ (∀ g, v'.ownBlock = some g → v.ownBlock = some g ∨ w.heap.size ≤ g) := by
  obtain ⟨i0, hi, hz0, hz1, hz2⟩ := info_parts vinfo
  have h1 : (w.alloc (.cells #[.int .i64 2, .bool false, .int .i64 n, .string { data := #[] }, .slice none 0 0] 27)).ownsRow base 27 5 v l.length (numsF l) := h.alloc _
  obtain ⟨v', w', hr, h2, h3, _, h5⟩ := run_append_own_at (P := Tryd.prog) (w.alloc (.cells #[.int .i64 2, .bool false, .int .i64 n, .string { data := #[] }, .slice none 0 0] 27)) base 25 ty 27 i0 _ 5 64 Tryd.underlying25 hi hz0 hz1 hz2 rfl (by decide) v l.length (numsF l) h1 ⟨w.heap.size, 0, none⟩ 1 1 (numsF [n]) rfl (fun j u hj => one_cells w n _ j u hj) (numsF_one _) (by unfold maxLen; omega) (by omega) (by simp; omega)
  have hg : w.grownBy w' v.ownBlock := (World.grownBy_alloc w _ _).trans h3
  refine ⟨v', w', hr, ?_, ⟨hg.os, hg.tape, hg.output, hg.size, fun b hb2 => hg.block b (by omega) (fun e => ?_)⟩, fun g hg1 hg2 => hg.block g hg1 (fun e => hg2 e.symm), fun g hg1 => ?_⟩
  · unfold ownN
    rw [numsF_app]
    simpa using h2
  · have := (h.lt b e.symm).1; omega
  · rcases h5 with h5 | h5
    · exact .inl (h5.symm.trans hg1)
    · rw [h5] at hg1; cases hg1; right; simp
theorem app_first {w : World} {base : Nat} {v : Value} {l : List Int} (ty : TypeId) (h : ownN w base v l) (hl : l.length ≤ 4096) (hb : base ≤ w.heap.size) (n : Int) :
    ∃ v' w', (Builtin.append_ #[25, 25] ty #[.slice (some ⟨w.heap.size, 0, none⟩) 1 1, v]).run Tryd.prog (w.alloc (.cells #[.int .i64 2, .bool false, .int .i64 n, .string { data := #[] }, .slice none 0 0] 27)) = .ok v' w' ∧ ownN w' base v' (n :: l) ∧
      Below w.heap.size w w' ∧ (∀ g, v'.ownBlock = some g → w.heap.size ≤ g) := by
  obtain ⟨i0, hi, hz0, hz1, hz2⟩ := info_parts vinfo
  have hv1 : (w.alloc (.cells #[.int .i64 2, .bool false, .int .i64 n, .string { data := #[] }, .slice none 0 0] 27)).ownsRow base 27 5 (.slice (some ⟨w.heap.size, 0, none⟩) 1 1) 1 (numsF [n]) :=
    ⟨rfl, .inr ⟨w.heap.size, 1, _, rfl, hb, heap_last, Nat.le_refl _, by unfold maxLen; omega, rfl, rfl⟩⟩
  have hbo : ∀ w' : World, (w.alloc (.cells #[.int .i64 2, .bool false, .int .i64 n, .string { data := #[] }, .slice none 0 0] 27)).grownBy w' (some w.heap.size) → Below w.heap.size w w' := fun w' h3 => by
    have hg : w.grownBy w' (some w.heap.size) := (World.grownBy_alloc w _ _).trans h3
    exact ⟨hg.os, hg.tape, hg.output, hg.size, fun b hb2 => hg.block b hb2 (fun e => by cases e; omega)⟩
  rcases h.2 with ⟨rfl, h0⟩ | ⟨g, cap, cur, rfl, hb0, hh, hn, hcap, hsz, htk⟩
  · obtain rfl := List.eq_nil_of_length_eq_zero h0
    refine ⟨.slice (some ⟨w.heap.size, 0, none⟩) 1 1, _, ?_, hv1, hbo _ ⟨rfl, rfl, rfl, Nat.le_refl _, fun _ _ _ => rfl⟩, fun g hg => by cases hg; exact Nat.le_refl _⟩
    simp [Builtin.append_, run_underlying Tryd.underlying25, sizeOf, typeInfo, hi, Builtin.lenOf, Builtin.firstCells, storeCells, loadCells]
  · have hgl := (Array.getElem?_eq_some_iff.1 hh).1
    have hnews : ∀ j u, (numsF l)[j]? = some u → (w.alloc (.cells #[.int .i64 2, .bool false, .int .i64 n, .string { data := #[] }, .slice none 0 0] 27)).cell? ((⟨g, 0, none⟩ : Addr).add j) = some u := by
      intro j u hj
      have hj5 : j < l.length * 5 := by
        have := (List.getElem?_eq_some_iff.1 hj).1
        rwa [numsF_length] at this
      have hc : cur[j]? = some u := by
        rw [← hj, ← htk, List.getElem?_take, if_pos hj5]; simp
      rw [addr_add, Nat.zero_add]
      have hal : (w.alloc (.cells #[.int .i64 2, .bool false, .int .i64 n, .string { data := #[] }, .slice none 0 0] 27)).heap[g]? = some (.cells cur 27 (0, 0)) := ((Below.refl w.heap.size w).alloc (Nat.le_refl _) _).block g hgl |>.trans hh
      exact (cell_of hal j).trans hc
    obtain ⟨v', w', hr, h2, h3, _, h5⟩ := run_append_own_at (P := Tryd.prog) (w.alloc (.cells #[.int .i64 2, .bool false, .int .i64 n, .string { data := #[] }, .slice none 0 0] 27)) base 25 ty 27 i0 _ 5 64 Tryd.underlying25 hi hz0 hz1 hz2 rfl (by decide) (.slice (some ⟨w.heap.size, 0, none⟩) 1 1) 1 (numsF [n]) hv1 ⟨g, 0, none⟩ l.length cap (numsF l) (numsF_length l) hnews (numsF_one _) (by unfold maxLen; omega) (by omega) (by simp; omega)
    · refine ⟨v', w', hr, ?_, hbo _ h3, fun g hg1 => ?_⟩
      · unfold ownN
        rw [List.length_cons, Nat.add_comm]
        exact h2
      · rcases h5 with h5 | h5 <;> (rw [h5] at hg1; cases hg1; simp)
end Go.Proofs.YtlmbjihhpljbkaaDoor
