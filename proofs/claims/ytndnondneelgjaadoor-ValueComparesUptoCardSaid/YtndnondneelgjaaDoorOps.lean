/-
  The table that value.operations makes: what each operation takes, its function, the blocks that this has captured. Conditions: none.
-/
import Derived.Test.YtndnondneelgjaaDoorMaker
namespace Go.Proofs.YtndnondneelgjaaDoor
open Go Go.RowKit
set_option maxRecDepth 100000
set_option linter.unusedVariables false
/-- the table's entries; h: the block of the map -/
def opsE (h : Nat) : List MapEntry := [{ key := .int .i64 6, val := .agg #[.int .i64 1, fn2 87 (h + 1) (h + 2)], born := 0 },
  { key := .int .i64 7, val := .agg #[.int .i64 1, fn2 87 (h + 4) (h + 5)], born := 1 },
  { key := .int .i64 10, val := .agg #[.int .i64 2, fn0 63], born := 2 },
  { key := .int .i64 11, val := .agg #[.int .i64 2, fn0 64], born := 3 },
  { key := .int .i64 12, val := .agg #[.int .i64 2, fn1 90 (h + 7)], born := 4 },
  { key := .int .i64 13, val := .agg #[.int .i64 2, fn1 90 (h + 9)], born := 5 },
  { key := .int .i64 14, val := .agg #[.int .i64 2, fn1 90 (h + 11)], born := 6 },
  { key := .int .i64 15, val := .agg #[.int .i64 2, fn1 90 (h + 13)], born := 7 },
  { key := .int .i64 16, val := .agg #[.int .i64 2, fn0 70], born := 8 },
  { key := .int .i64 17, val := .agg #[.int .i64 2, fn1 88 (h + 15)], born := 9 },
  { key := .int .i64 18, val := .agg #[.int .i64 2, fn1 88 (h + 17)], born := 10 },
  { key := .int .i64 19, val := .agg #[.int .i64 2, fn1 88 (h + 19)], born := 11 },
  { key := .int .i64 20, val := .agg #[.int .i64 2, fn1 88 (h + 21)], born := 12 },
  { key := .int .i64 21, val := .agg #[.int .i64 1, fn0 74], born := 13 },
  { key := .int .i64 22, val := .agg #[.int .i64 2, fn0 76], born := 14 }]
/-- the blocks that the functions have captured, counted from the map's -/
def opsL : List (Nat × Value × TypeId) := [(1, .int .i64 2, 3), (2, fn0 58, 86), (4, .int .i64 1, 3), (5, fn0 61, 86), (7, fn0 66, 80), (9, fn0 67, 80), (11, fn0 68, 80), (13, fn0 69, 80), (15, fn0 60, 85), (17, fn0 71, 85), (19, fn0 72, 85), (21, fn0 73, 85)]
set_option maxHeartbeats 3200000 in
theorem operations_any (w : World) : Calls Tryd.prog 41 #[] w fun e w' => e = .returned (.map (some w.heap.size)) ∧ Tbl w w' 23 (opsE w.heap.size) opsL := by
  have hmm := @run_makeMap Tryd.prog
  have S : Tbl w (w.alloc (.map #[] 0)) 1 [] [] := ⟨(Below.refl _ _).alloc (Nat.le_refl _) _, heap_last, by simp, fun p hp => by simp at hp⟩
  go_enter Tryd.func41, Tryd.ntmps41
  go_wp2_with fail
  refine (of_any 2 58 _).mono ?_
  rintro e w1 ⟨rfl, hb, hl1, hl2, hz⟩
  rw [S.size] at hl1 hl2 ⊢
  have S := S.call (L' := [(1, .int .i64 2, 3), (2, fn0 58, 86)]) hb hz (by omega) (by intro p hp; simp only [List.mem_cons, List.not_mem_nil, or_false] at hp; rcases hp with rfl | rfl; exact ⟨by simp, hl1⟩; exact ⟨by simp, hl2⟩)
  clear hb hz hl1 hl2
  go_wp2_with (refine wpList_insert _ rfl _ _ _ 63 rfl 3 61 Tryd.underlying63 Tryd.underlying3 w.heap.size _ _ rfl S.map 6 rfl (.agg #[.int .i64 1, fn2 87 (w.heap.size + 1) (w.heap.size + 2)]) rfl ?c1 ?_)
  case c1 => rfl
  intro v0 hv
  have S := S.ins (.int .i64 6) (.agg #[.int .i64 1, fn2 87 (w.heap.size + 1) (w.heap.size + 2)]) hv rfl
  clear hv
  go_wp2_with fail
  refine (of_any 1 61 _).mono ?_
  rintro e w2 ⟨rfl, hb, hl1, hl2, hz⟩
  rw [S.size] at hl1 hl2 ⊢
  have S := S.call (L' := [(4, .int .i64 1, 3), (5, fn0 61, 86)]) hb hz (by omega) (by intro p hp; simp only [List.mem_cons, List.not_mem_nil, or_false] at hp; rcases hp with rfl | rfl; exact ⟨by simp, hl1⟩; exact ⟨by simp, hl2⟩)
  clear hb hz hl1 hl2
  go_wp2_with (refine wpList_insert _ rfl _ _ _ 63 rfl 3 61 Tryd.underlying63 Tryd.underlying3 w.heap.size _ _ rfl S.map 7 rfl (.agg #[.int .i64 1, fn2 87 (w.heap.size + 4) (w.heap.size + 5)]) rfl ?c1 ?_)
  case c1 => rfl
  intro v1 hv
  have S := S.ins (.int .i64 7) (.agg #[.int .i64 1, fn2 87 (w.heap.size + 4) (w.heap.size + 5)]) hv rfl
  clear hv
  go_wp2_with (refine wpList_insert _ rfl _ _ _ 63 rfl 3 61 Tryd.underlying63 Tryd.underlying3 w.heap.size _ _ rfl S.map 10 rfl (.agg #[.int .i64 2, fn0 63]) rfl ?c1 ?_)
  case c1 => rfl
  intro v2 hv
  have S := S.ins (.int .i64 10) (.agg #[.int .i64 2, fn0 63]) hv rfl
  clear hv
  go_wp2_with (refine wpList_insert _ rfl _ _ _ 63 rfl 3 61 Tryd.underlying63 Tryd.underlying3 w.heap.size _ _ rfl S.map 11 rfl (.agg #[.int .i64 2, fn0 64]) rfl ?c1 ?_)
  case c1 => rfl
  intro v3 hv
  have S := S.ins (.int .i64 11) (.agg #[.int .i64 2, fn0 64]) hv rfl
  clear hv
  go_wp2_with fail
  refine (compares_any 66 _).mono ?_
  rintro e w5 ⟨rfl, hb, hl1, hz⟩
  rw [S.size] at hl1 ⊢
  have S := S.call (L' := [(7, fn0 66, 80)]) hb hz (by omega) (by intro p hp; simp only [List.mem_cons, List.not_mem_nil, or_false] at hp; subst hp; exact ⟨by simp, hl1⟩)
  clear hb hz hl1
  go_wp2_with (refine wpList_insert _ rfl _ _ _ 63 rfl 3 61 Tryd.underlying63 Tryd.underlying3 w.heap.size _ _ rfl S.map 12 rfl (.agg #[.int .i64 2, fn1 90 (w.heap.size + 7)]) rfl ?c1 ?_)
  case c1 => rfl
  intro v4 hv
  have S := S.ins (.int .i64 12) (.agg #[.int .i64 2, fn1 90 (w.heap.size + 7)]) hv rfl
  clear hv
  go_wp2_with fail
  refine (compares_any 67 _).mono ?_
  rintro e w6 ⟨rfl, hb, hl1, hz⟩
  rw [S.size] at hl1 ⊢
  have S := S.call (L' := [(9, fn0 67, 80)]) hb hz (by omega) (by intro p hp; simp only [List.mem_cons, List.not_mem_nil, or_false] at hp; subst hp; exact ⟨by simp, hl1⟩)
  clear hb hz hl1
  go_wp2_with (refine wpList_insert _ rfl _ _ _ 63 rfl 3 61 Tryd.underlying63 Tryd.underlying3 w.heap.size _ _ rfl S.map 13 rfl (.agg #[.int .i64 2, fn1 90 (w.heap.size + 9)]) rfl ?c1 ?_)
  case c1 => rfl
  intro v5 hv
  have S := S.ins (.int .i64 13) (.agg #[.int .i64 2, fn1 90 (w.heap.size + 9)]) hv rfl
  clear hv
  go_wp2_with fail
  refine (compares_any 68 _).mono ?_
  rintro e w7 ⟨rfl, hb, hl1, hz⟩
  rw [S.size] at hl1 ⊢
  have S := S.call (L' := [(11, fn0 68, 80)]) hb hz (by omega) (by intro p hp; simp only [List.mem_cons, List.not_mem_nil, or_false] at hp; subst hp; exact ⟨by simp, hl1⟩)
  clear hb hz hl1
  go_wp2_with (refine wpList_insert _ rfl _ _ _ 63 rfl 3 61 Tryd.underlying63 Tryd.underlying3 w.heap.size _ _ rfl S.map 14 rfl (.agg #[.int .i64 2, fn1 90 (w.heap.size + 11)]) rfl ?c1 ?_)
  case c1 => rfl
  intro v6 hv
  have S := S.ins (.int .i64 14) (.agg #[.int .i64 2, fn1 90 (w.heap.size + 11)]) hv rfl
  clear hv
  go_wp2_with fail
  refine (compares_any 69 _).mono ?_
  rintro e w8 ⟨rfl, hb, hl1, hz⟩
  rw [S.size] at hl1 ⊢
  have S := S.call (L' := [(13, fn0 69, 80)]) hb hz (by omega) (by intro p hp; simp only [List.mem_cons, List.not_mem_nil, or_false] at hp; subst hp; exact ⟨by simp, hl1⟩)
  clear hb hz hl1
  go_wp2_with (refine wpList_insert _ rfl _ _ _ 63 rfl 3 61 Tryd.underlying63 Tryd.underlying3 w.heap.size _ _ rfl S.map 15 rfl (.agg #[.int .i64 2, fn1 90 (w.heap.size + 13)]) rfl ?c1 ?_)
  case c1 => rfl
  intro v7 hv
  have S := S.ins (.int .i64 15) (.agg #[.int .i64 2, fn1 90 (w.heap.size + 13)]) hv rfl
  clear hv
  go_wp2_with (refine wpList_insert _ rfl _ _ _ 63 rfl 3 61 Tryd.underlying63 Tryd.underlying3 w.heap.size _ _ rfl S.map 16 rfl (.agg #[.int .i64 2, fn0 70]) rfl ?c1 ?_)
  case c1 => rfl
  intro v8 hv
  have S := S.ins (.int .i64 16) (.agg #[.int .i64 2, fn0 70]) hv rfl
  clear hv
  go_wp2_with fail
  refine (reckons_any 60 _).mono ?_
  rintro e w10 ⟨rfl, hb, hl1, hz⟩
  rw [S.size] at hl1 ⊢
  have S := S.call (L' := [(15, fn0 60, 85)]) hb hz (by omega) (by intro p hp; simp only [List.mem_cons, List.not_mem_nil, or_false] at hp; subst hp; exact ⟨by simp, hl1⟩)
  clear hb hz hl1
  go_wp2_with (refine wpList_insert _ rfl _ _ _ 63 rfl 3 61 Tryd.underlying63 Tryd.underlying3 w.heap.size _ _ rfl S.map 17 rfl (.agg #[.int .i64 2, fn1 88 (w.heap.size + 15)]) rfl ?c1 ?_)
  case c1 => rfl
  intro v9 hv
  have S := S.ins (.int .i64 17) (.agg #[.int .i64 2, fn1 88 (w.heap.size + 15)]) hv rfl
  clear hv
  go_wp2_with fail
  refine (reckons_any 71 _).mono ?_
  rintro e w11 ⟨rfl, hb, hl1, hz⟩
  rw [S.size] at hl1 ⊢
  have S := S.call (L' := [(17, fn0 71, 85)]) hb hz (by omega) (by intro p hp; simp only [List.mem_cons, List.not_mem_nil, or_false] at hp; subst hp; exact ⟨by simp, hl1⟩)
  clear hb hz hl1
  go_wp2_with (refine wpList_insert _ rfl _ _ _ 63 rfl 3 61 Tryd.underlying63 Tryd.underlying3 w.heap.size _ _ rfl S.map 18 rfl (.agg #[.int .i64 2, fn1 88 (w.heap.size + 17)]) rfl ?c1 ?_)
  case c1 => rfl
  intro v10 hv
  have S := S.ins (.int .i64 18) (.agg #[.int .i64 2, fn1 88 (w.heap.size + 17)]) hv rfl
  clear hv
  go_wp2_with fail
  refine (reckons_any 72 _).mono ?_
  rintro e w12 ⟨rfl, hb, hl1, hz⟩
  rw [S.size] at hl1 ⊢
  have S := S.call (L' := [(19, fn0 72, 85)]) hb hz (by omega) (by intro p hp; simp only [List.mem_cons, List.not_mem_nil, or_false] at hp; subst hp; exact ⟨by simp, hl1⟩)
  clear hb hz hl1
  go_wp2_with (refine wpList_insert _ rfl _ _ _ 63 rfl 3 61 Tryd.underlying63 Tryd.underlying3 w.heap.size _ _ rfl S.map 19 rfl (.agg #[.int .i64 2, fn1 88 (w.heap.size + 19)]) rfl ?c1 ?_)
  case c1 => rfl
  intro v11 hv
  have S := S.ins (.int .i64 19) (.agg #[.int .i64 2, fn1 88 (w.heap.size + 19)]) hv rfl
  clear hv
  go_wp2_with fail
  refine (reckons_any 73 _).mono ?_
  rintro e w13 ⟨rfl, hb, hl1, hz⟩
  rw [S.size] at hl1 ⊢
  have S := S.call (L' := [(21, fn0 73, 85)]) hb hz (by omega) (by intro p hp; simp only [List.mem_cons, List.not_mem_nil, or_false] at hp; subst hp; exact ⟨by simp, hl1⟩)
  clear hb hz hl1
  go_wp2_with (refine wpList_insert _ rfl _ _ _ 63 rfl 3 61 Tryd.underlying63 Tryd.underlying3 w.heap.size _ _ rfl S.map 20 rfl (.agg #[.int .i64 2, fn1 88 (w.heap.size + 21)]) rfl ?c1 ?_)
  case c1 => rfl
  intro v12 hv
  have S := S.ins (.int .i64 20) (.agg #[.int .i64 2, fn1 88 (w.heap.size + 21)]) hv rfl
  clear hv
  go_wp2_with (refine wpList_insert _ rfl _ _ _ 63 rfl 3 61 Tryd.underlying63 Tryd.underlying3 w.heap.size _ _ rfl S.map 21 rfl (.agg #[.int .i64 1, fn0 74]) rfl ?c1 ?_)
  case c1 => rfl
  intro v13 hv
  have S := S.ins (.int .i64 21) (.agg #[.int .i64 1, fn0 74]) hv rfl
  clear hv
  go_wp2_with (refine wpList_insert _ rfl _ _ _ 63 rfl 3 61 Tryd.underlying63 Tryd.underlying3 w.heap.size _ _ rfl S.map 22 rfl (.agg #[.int .i64 2, fn0 76]) rfl ?c1 ?_)
  case c1 => rfl
  intro v14 hv
  have S := S.ins (.int .i64 22) (.agg #[.int .i64 2, fn0 76]) hv rfl
  clear hv
  go_wp2_with fail
  go_ret
  exact ⟨rfl, S⟩
end Go.Proofs.YtndnondneelgjaaDoor
