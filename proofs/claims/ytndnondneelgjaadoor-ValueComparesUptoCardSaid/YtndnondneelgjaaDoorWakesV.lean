/-
  proctorlaw1's wakes tells true. Conditions: the table of the digits lies.
-/
import Derived.Test.YtndnondneelgjaaDoorApply2
namespace Go.Proofs.YtndnondneelgjaaDoor
open Go Go.RowKit
set_option maxRecDepth 100000
set_option linter.unusedVariables false
theorem ord12 : ordV (numG 1) (numG 2) = -1 := by rw [ordV_eq]; decide
theorem text5 : vtext (numG 5) = { data := #[53] } := by
  rw [vtext, vtx_eq, numG_may]
  simp [numG, Lib.itoa, Lib.decDigits]
set_option maxHeartbeats 3200000 in
theorem wakesV_any (w : World) (ht : tabOk w) : Calls Tryd.prog 9 #[] w fun e w' => e = .returned (.bool true) ∧ Below w.heap.size w w' := by
  have HT := Lib.hid ht
  clear ht
  go_enter Tryd.func9, Tryd.ntmps9
  go_wp2_with fail
  refine (num_any 2 _).mono ?_
  rintro e w1 ⟨rfl, hb1⟩
  have HB1 := Lib.hid hb1
  unfold numA
  clear hb1
  go_wp2_with fail
  refine (num_any 3 _).mono ?_
  rintro e w2 ⟨rfl, hb2⟩
  have HB2 := Lib.hid (below_down HB1.out hb2 (Nat.le_refl _))
  unfold numA
  clear hb2
  go_wp2_with fail
  have hb3 := HB2.out.alloc HB2.out.size (.cells #[.int .i64 2, .bool false, .int .i64 2, .string { data := #[] }, .slice none 0 0, .int .i64 2, .bool false, .int .i64 3, .string { data := #[] }, .slice none 0 0] 28)
  refine (apply23 w2.heap.size _ heap_last).mono ?_
  rintro e w3 ⟨rfl, hb4⟩
  have HB3 := Lib.hid (below_down hb3 hb4 (Nat.le_refl _))
  unfold numA
  clear hb3 hb4
  go_wp2_with fail
  obtain ⟨w4, hw4⟩ : ∃ w4, w4 = w3.alloc (.cells #[.int .i64 2, .bool false, .int .i64 5, .string { data := #[] }, .slice none 0 0] 28) := ⟨_, rfl⟩
  have hb4 : Below w3.heap.size w3 w4 := by rw [hw4]; exact (Below.refl _ _).alloc (Nat.le_refl _) _
  have hx4 : w4.heap[w3.heap.size]? = some (.cells #[.int .i64 2, .bool false, .int .i64 5, .string { data := #[] }, .slice none 0 0] 28 (0, 0)) := by rw [hw4]; exact heap_last
  have hs4 : w3.heap.size < w4.heap.size := by rw [hw4]; simp
  rw [← hw4]
  have HB4 := Lib.hid (below_down HB3.out hb4 (Nat.le_refl _))
  have HX4 := Lib.hid hx4
  clear hw4 hb4 hx4
  refine (num_any (-1) _).mono ?_
  rintro e w5 ⟨rfl, hb5⟩
  have HB5 := Lib.hid (below_down HB4.out hb5 (Nat.le_refl _))
  have HX5 := Lib.hid ((hb5.block w3.heap.size hs4).trans HX4.out)
  have hs5 : w3.heap.size < w5.heap.size := by have := hb5.size; omega
  clear hb5
  go_wp2_with fail
  refine (encode_num (-1) (by omega) (by omega) _).mono ?_
  rintro e w6 ⟨⟨g6, cap6, rfl⟩, hb6⟩
  have HB6 := Lib.hid (below_down HB5.out hb6 (Nat.le_refl _))
  have hx6 := (hb6.block w3.heap.size hs5).trans HX5.out
  have HX6 := Lib.hid hx6
  have hs6 : w3.heap.size < w6.heap.size := by have := hb6.size; omega
  have q6 := fun o => cell_of hx6 o
  clear hb6 hx6
  go_wp2_with fail
  refine (vCheck_any (numG 5) (numG_fit 5 (by omega) (by omega)) (.slice none 0 0) _ 0 (Nat.zero_le _) (isL_nil _ _)).mono ?_
  rintro e w7 ⟨rfl, hb7⟩
  rw [numG_may]
  have HB7 := Lib.hid (below_down HB6.out hb7 (Nat.le_refl _))
  have HX7 := Lib.hid ((hb7.block w3.heap.size hs6).trans HX6.out)
  have hs7 : w3.heap.size < w7.heap.size := by have := hb7.size; omega
  clear hb7 q6
  go_wp2_with fail
  refine (num_any 1 _).mono ?_
  rintro e w8 ⟨rfl, hb8⟩
  have HB8 := Lib.hid (below_down HB7.out hb8 (Nat.le_refl _))
  have HX8 := Lib.hid ((hb8.block w3.heap.size hs7).trans HX7.out)
  have hs8 : w3.heap.size < w8.heap.size := by have := hb8.size; omega
  clear hb8
  go_wp2_with fail
  refine (num_any 2 _).mono ?_
  rintro e w9 ⟨rfl, hb9⟩
  have HB9 := Lib.hid (below_down HB8.out hb9 (Nat.le_refl _))
  have HX9 := Lib.hid ((hb9.block w3.heap.size hs8).trans HX8.out)
  have hs9 : w3.heap.size < w9.heap.size := by have := hb9.size; omega
  clear hb9
  go_wp2_with fail
  refine (vOrder_any (numG 1) (numG 2) (numG_fit 1 (by omega) (by omega)) (numG_fit 2 (by omega) (by omega)) (.slice none 0 0) (.slice none 0 0) _ 0 (Nat.zero_le _) (isL_nil _ _) (isL_nil _ _)).mono ?_
  rintro e w10 ⟨rfl, hb10⟩
  rw [ord12]
  have HB10 := Lib.hid (below_down HB9.out hb10 (Nat.le_refl _))
  have hx10 := (hb10.block w3.heap.size hs9).trans HX9.out
  have hs10 : w3.heap.size < w10.heap.size := by have := hb10.size; omega
  have q10 := fun o => cell_of hx10 o
  clear hb10 hx10
  go_wp2_with fail
  refine (vText_any (numG 5) (numG_fit 5 (by omega) (by omega)) (by simp [bulk_eq, numG, bulkL]; decide) (.slice none 0 0) _ 0 (Nat.zero_le _) (tabOk_below HT.out HB10.out) (isL_nil _ _)).mono ?_
  rintro e w11 ⟨rfl, hb11⟩
  rw [text5]
  go_wp2_with fail
  go_ret
  exact ⟨rfl, below_down HB10.out hb11 (Nat.le_refl _)⟩
end Go.Proofs.YtndnondneelgjaaDoor
