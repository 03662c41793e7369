/-
  What value.Apply tells of 2 + 3; proctorlaw1's wakes. Conditions: the table of the digits lies.
-/
import Derived.Test.YtkpfaeodgjbodaaGreatDoorMI
import Derived.Test.YtkpfaeodgjbodaaGreatDoorContains
import Derived.Test.YtkpfaeodgjbodaaGreatDoorMG
import Derived.Test.YtkpfaeodgjbodaaGreatDoorMF
import Derived.StillTailTactics
namespace Go.Proofs.YtkpfaeodgjbodaaGreatDoor
open Go Go.RowKit
set_option maxRecDepth 100000
set_option linter.unusedVariables false
theorem lookup_run (w : World) (b : Nat) (es : Array MapEntry) (clock : Nat) (hh : w.heap[b]? = some (.map es clock)) (n : Int) (i : Nat) (v : Value) (hf : Instr.findNow (.int .i64) (.int .i64 n) es.toList 0 = some (some (i, v))) :
    (Instr.lookup 60 (.map (some b)) (.int .i64 n) true).run Tryz.prog w = .ok (.tuple #[v, .bool true]) w := by
  have hc : ∀ e, (Instr.checkKey e 10000 3 (.int .i64 n)).run Tryz.prog w = .ok () w := fun e => MapKept.run_checkKey (k := .int .i64 n) Tryz.underlying3 (by simp [MapKept.IsKey]) e 9999
  simp [Instr.lookup, run_underlying Tryz.underlying60, MapKept.run_getObj_map hh, hc, MapKept.run_findKey Tryz.underlying3 hf, Result.andThen]
set_option maxHeartbeats 1600000 in
theorem apply23 (g : Nat) (w : World) (hg : w.heap[g]? = some (.cells #[.int .i64 2, .bool false, .int .i64 2, .string { data := #[] }, .slice none 0 0, .int .i64 2, .bool false, .int .i64 3, .string { data := #[] }, .slice none 0 0] 33 (0, 0))) :
    Calls Tryz.prog 13 #[.int .i64 16, .slice (some ⟨g, 0, none⟩) 2 2] w fun e w' => e = .returned (.tuple #[numA 5, .int .i64 0]) ∧ Below w.heap.size w w' := by
  have hlt : g < w.heap.size := (Array.getElem?_eq_some_iff.1 hg).1
  have HG := Lib.hid hg
  have hsl : isL w 0 (g + 1) (.slice (some ⟨g, 0, none⟩) 2 2) [numG 2, numG 3] := by
    have q := fun o => cell_of hg o
    refine isL_mk (l := [numG 2, numG 3]) (cap := 2) (b := g) (off := 0) (by simp) (fun _ => ⟨rfl, Nat.zero_le _, by omega⟩) ?_
    intro i hi
    have hi' : i = 0 ∨ i = 1 := by simp at hi; omega
    rcases hi' with rfl | rfl
    · exact cellsV_mk (s := .slice none 0 0) ((q _).trans rfl) ((q _).trans rfl) ((q _).trans rfl) ((q _).trans rfl) ((q _).trans rfl) (isL_nil _ _)
    · exact cellsV_mk (s := .slice none 0 0) ((q _).trans rfl) ((q _).trans rfl) ((q _).trans rfl) ((q _).trans rfl) ((q _).trans rfl) (isL_nil _ _)
  have HSL := Lib.hid hsl
  have hbad : badL [numG 2, numG 3] = false := by simp [badL, numG_may]
  have HBAD := Lib.hid hbad
  clear hg hsl hbad
  go_enter Tryz.func13, Tryz.ntmps13
  go_wp2_with fail
  obtain ⟨w0, hw0⟩ : ∃ w0, w0 = w.alloc (.cells #[.int .i64 0, .bool false, .int .i64 0, .string { data := #[] }, .slice none 0 0] 33) := ⟨_, rfl⟩
  have hb0 : Below w.heap.size w w0 := by rw [hw0]; exact (Below.refl _ _).alloc (Nat.le_refl _) _
  have hz0 : w0.heap[w.heap.size]? = some (.cells #[.int .i64 0, .bool false, .int .i64 0, .string { data := #[] }, .slice none 0 0] 33 (0, 0)) := by rw [hw0]; exact heap_last
  have hs0 : w0.heap.size = w.heap.size + 1 := by rw [hw0]; simp
  rw [← hw0]
  have HB0 := Lib.hid hb0
  have HZ0 := Lib.hid hz0
  clear hw0 hb0 hz0
  refine (operations_any w0).mono ?_
  rintro e w1 ⟨rfl, S⟩
  have hlk := lookup_run w1 w0.heap.size _ _ S.map 16 8 (.agg #[.int .i64 2, fn0 59]) rfl
  have HB1 := Lib.hid (below_down HB0.out S.below (Nat.le_refl _))
  have HZ1 := Lib.hid ((S.below.block w.heap.size (by omega)).trans HZ0.out)
  have hs1 := S.size
  unfold fn0 at hlk
  rw [hs0] at hlk
  clear S
  go_wp2_with fail
  obtain ⟨w2, hw2⟩ : ∃ w2, w2 = w1.alloc (.cells #[.int .i64 2, .func (.func 59) #[] #[]] 58) := ⟨_, rfl⟩
  have hb2 : Below w1.heap.size w1 w2 := by rw [hw2]; exact (Below.refl _ _).alloc (Nat.le_refl _) _
  have ho2 : w2.heap[w.heap.size + 1 + 23]? = some (.cells #[.int .i64 2, .func (.func 59) #[] #[]] 58 (0, 0)) := by
    rw [hw2, ← hs0, ← hs1]; exact heap_last
  have hs2 : w2.heap.size = w.heap.size + 1 + 23 + 1 := by rw [hw2]; simp; omega
  rw [← hw2]
  have HB2 := Lib.hid (below_down HB1.out hb2 (Nat.le_refl _))
  have HZ2 := Lib.hid ((hb2.block w.heap.size (by omega)).trans HZ1.out)
  have HO2 := Lib.hid ho2
  clear hw2 hb2 ho2 hlk
  refine (contains_any [numG 2, numG 3] (by simp) ⟨numG_fit 2 (by omega) (by omega), numG_fit 3 (by omega) (by omega), trivial⟩ (.slice (some ⟨g, 0, none⟩) 2 2) w2 (g + 1) (by omega) (isL_below HSL.out HB2.out (by omega))).mono ?_
  rintro e w3 ⟨rfl, hb3⟩
  rw [HBAD.out]
  have HB3 := Lib.hid (below_down HB2.out hb3 (Nat.le_refl _))
  have HZ3 := Lib.hid ((hb3.block w.heap.size (by omega)).trans HZ2.out)
  have ho3 := (hb3.block (w.heap.size + 1 + 23) (by omega)).trans HO2.out
  have hg3 := (HB3.out.block g hlt).trans HG.out
  have hs3 := hb3.size
  have qo := fun o => cell_of ho3 o
  have qg := fun o => cell_of hg3 o
  have z1 : g < w3.heap.size := by omega
  have z2 : w.heap.size + 1 + 23 < w3.heap.size := by omega
  clear hb3 ho3 hg3 hs0 hs1 hs2
  have hw1 : IntKind.i64.wrap 1 = 1 := by decide
  go_wp2_with fail
  go_region_law (first
    | (go_simp
       go_at_call 59
       refine (plus23 _).mono ?_
       rintro e w5 ⟨rfl, hb5⟩
       have hb5' : Below w3.heap.size w3 w5 := (Below.refl w3.heap.size w3).drew.trans hb5
       have hz5 := (hb5'.block w.heap.size (by omega)).trans HZ3.out
       have HB5 := Lib.hid (below_down HB3.out hb5' (Nat.le_refl _))
       have q5 := fun o => cell_of hz5 o
       have f5 := fun o => frozen_of hz5 o
       have hs5 : w.heap.size < w5.heap.size := by have := hb5'.size; omega
       unfold numA
       clear hb5 hb5' hz5))
  all_goals
    go_wp2_with fail
    refine bodyPost_ret (v := .tuple #[.agg #[.int .i64 2, .bool false, .int .i64 5, .string { data := #[] }, .slice none 0 0], .int .i64 0]) (by simp [results, Tryz.results13, go_sem, q5]) rfl ⟨rfl, ?_⟩
    refine ((((HB5.out.setCell ?_ _).setCell ?_ _).setCell ?_ _).setCell ?_ _).setCell ?_ _
    all_goals simp
end Go.Proofs.YtkpfaeodgjbodaaGreatDoor
/-
  proctorlaw1's wakes tells true. Conditions: the table of the digits lies.
-/
namespace Go.Proofs.YtkpfaeodgjbodaaGreatDoor
open Go Go.RowKit
set_option maxRecDepth 100000
set_option linter.unusedVariables false
theorem ord12 : ordV (numG 1) (numG 2) = -1 := by rw [ordV_eq]; decide
theorem text5 : vtext (numG 5) = { data := #[53] } := by
  rw [vtext, vtx_eq, numG_may]
  simp [numG, Lib.itoa, Lib.decDigits]
set_option maxHeartbeats 3200000 in
theorem wakesV_any (w : World) (ht : tabOk w) : Calls Tryz.prog 5 #[] w fun e w' => e = .returned (.bool true) ∧ Below w.heap.size w w' := by
  have HT := Lib.hid ht
  clear ht
  go_enter Tryz.func5, Tryz.ntmps5
  go_wp2_with fail
  refine (num_any 2 _).mono ?_
  rintro e w1 ⟨rfl, hb1⟩
  have HB1 := Lib.hid hb1
  unfold numA
  clear hb1
  go_wp2_with fail
  refine (num_any 3 _).mono ?_
  rintro e w2 ⟨rfl, hb2⟩
  have HB2 := Lib.hid (below_down HB1.out hb2 (Nat.le_refl _))
  unfold numA
  clear hb2
  go_wp2_with fail
  have hb3 := HB2.out.alloc HB2.out.size (.cells #[.int .i64 2, .bool false, .int .i64 2, .string { data := #[] }, .slice none 0 0, .int .i64 2, .bool false, .int .i64 3, .string { data := #[] }, .slice none 0 0] 33)
  refine (apply23 w2.heap.size _ heap_last).mono ?_
  rintro e w3 ⟨rfl, hb4⟩
  have HB3 := Lib.hid (below_down hb3 hb4 (Nat.le_refl _))
  unfold numA
  clear hb3 hb4
  go_wp2_with fail
  obtain ⟨w4, hw4⟩ : ∃ w4, w4 = w3.alloc (.cells #[.int .i64 2, .bool false, .int .i64 5, .string { data := #[] }, .slice none 0 0] 33) := ⟨_, rfl⟩
  have hb4 : Below w3.heap.size w3 w4 := by rw [hw4]; exact (Below.refl _ _).alloc (Nat.le_refl _) _
  have hx4 : w4.heap[w3.heap.size]? = some (.cells #[.int .i64 2, .bool false, .int .i64 5, .string { data := #[] }, .slice none 0 0] 33 (0, 0)) := by rw [hw4]; exact heap_last
  have hs4 : w3.heap.size < w4.heap.size := by rw [hw4]; simp
  rw [← hw4]
  have HB4 := Lib.hid (below_down HB3.out hb4 (Nat.le_refl _))
  have HX4 := Lib.hid hx4
  clear hw4 hb4 hx4
  refine (num_any (-1) _).mono ?_
  rintro e w5 ⟨rfl, hb5⟩
  have HB5 := Lib.hid (below_down HB4.out hb5 (Nat.le_refl _))
  have HX5 := Lib.hid ((hb5.block w3.heap.size hs4).trans HX4.out)
  have hs5 : w3.heap.size < w5.heap.size := by have := hb5.size; omega
  clear hb5
  go_wp2_with fail
  refine (encode_num (-1) (by omega) (by omega) _).mono ?_
  rintro e w6 ⟨⟨g6, cap6, rfl⟩, hb6⟩
  have HB6 := Lib.hid (below_down HB5.out hb6 (Nat.le_refl _))
  have hx6 := (hb6.block w3.heap.size hs5).trans HX5.out
  have HX6 := Lib.hid hx6
  have hs6 : w3.heap.size < w6.heap.size := by have := hb6.size; omega
  have q6 := fun o => cell_of hx6 o
  clear hb6 hx6
  go_wp2_with fail
  refine (vCheck_any (numG 5) (numG_fit 5 (by omega) (by omega)) (.slice none 0 0) _ 0 (Nat.zero_le _) (isL_nil _ _)).mono ?_
  rintro e w7 ⟨rfl, hb7⟩
  rw [numG_may]
  have HB7 := Lib.hid (below_down HB6.out hb7 (Nat.le_refl _))
  have HX7 := Lib.hid ((hb7.block w3.heap.size hs6).trans HX6.out)
  have hs7 : w3.heap.size < w7.heap.size := by have := hb7.size; omega
  clear hb7 q6
  go_wp2_with fail
  refine (num_any 1 _).mono ?_
  rintro e w8 ⟨rfl, hb8⟩
  have HB8 := Lib.hid (below_down HB7.out hb8 (Nat.le_refl _))
  have HX8 := Lib.hid ((hb8.block w3.heap.size hs7).trans HX7.out)
  have hs8 : w3.heap.size < w8.heap.size := by have := hb8.size; omega
  clear hb8
  go_wp2_with fail
  refine (num_any 2 _).mono ?_
  rintro e w9 ⟨rfl, hb9⟩
  have HB9 := Lib.hid (below_down HB8.out hb9 (Nat.le_refl _))
  have HX9 := Lib.hid ((hb9.block w3.heap.size hs8).trans HX8.out)
  have hs9 : w3.heap.size < w9.heap.size := by have := hb9.size; omega
  clear hb9
  go_wp2_with fail
  refine (vOrder_any (numG 1) (numG 2) (numG_fit 1 (by omega) (by omega)) (numG_fit 2 (by omega) (by omega)) (.slice none 0 0) (.slice none 0 0) _ 0 (Nat.zero_le _) (isL_nil _ _) (isL_nil _ _)).mono ?_
  rintro e w10 ⟨rfl, hb10⟩
  rw [ord12]
  have HB10 := Lib.hid (below_down HB9.out hb10 (Nat.le_refl _))
  have hx10 := (hb10.block w3.heap.size hs9).trans HX9.out
  have hs10 : w3.heap.size < w10.heap.size := by have := hb10.size; omega
  have q10 := fun o => cell_of hx10 o
  clear hb10 hx10
  go_wp2_with fail
  refine (vText_any (numG 5) (numG_fit 5 (by omega) (by omega)) (by simp [bulk_eq, numG, bulkL]; decide) (.slice none 0 0) _ 0 (Nat.zero_le _) (tabOk_below HT.out HB10.out) (isL_nil _ _)).mono ?_
  rintro e w11 ⟨rfl, hb11⟩
  rw [text5]
  go_wp2_with fail
  go_ret
  exact ⟨rfl, below_down HB10.out hb11 (Nat.le_refl _)⟩
end Go.Proofs.YtkpfaeodgjbodaaGreatDoor
