/-
  proctorlaw11.wakes answers true. Conditions: none.
-/
import Derived.Test.YtljljhjdlicfeaaGreatPAE
import Derived.Test.YtljljhjdlicfeaaGreatNK
import Derived.Test.YtljljhjdlicfeaaGreatNJ
namespace Go.Proofs.YtljljhjdlicfeaaGreat
open Go Go.RowKit
set_option maxRecDepth 100000
set_option linter.unusedVariables false
def sumE : GE := twoE 16 (litE (numV 2)) (litE (numV 3))
def W0 : WV := ⟨[], [], [], []⟩
theorem sum_may : emay sumE = true := by kernel_rfl
theorem sum_err : errOf sumE = 0 := by rw [errOf, if_pos sum_may]
theorem sum_code : codeOf sumE = [⟨0, 0, ByteArray.empty, numV 2⟩, ⟨0, 0, ByteArray.empty, numV 3⟩, ⟨5, 16, ByteArray.empty, noV⟩] := by
  rw [codeOf, if_pos sum_may]; kernel_rfl
theorem numV_fit {n : Int} (h1 : -9223372036854775808 ≤ n) (h2 : n ≤ 9223372036854775807) : (numV n).fit := by
  simp only [numV, GV.fit, fitL]
  refine ⟨by omega, by omega, by omega, by omega, by decide, by simp, trivial⟩
theorem sum_fit : sumE.fit := by
  have h0 : noV.fit := noV_fit
  have h2 := numV_fit (n := 2) (by omega) (by omega)
  have h3 := numV_fit (n := 3) (by omega) (by omega)
  simp only [sumE, twoE, litE, GE.fit, fitE]
  refine ⟨by omega, by omega, by decide, h0, by simp, ⟨by omega, by omega, by decide, h2, by simp, trivial⟩, ⟨by omega, by omega, by decide, h3, by simp, trivial⟩, trivial⟩
theorem W0_fit : W0.fit := ⟨by simp [W0], by simp [W0], by simp [W0]⟩
theorem run_three : RunP (envP W0) (codeOf sumE) 3 = (numV 5, 3, 0) := by rw [sum_code]; kernel_rfl
theorem run_two : RunP (envP W0) (codeOf sumE) 2 = (nullG, 2, 6) := by rw [sum_code]; kernel_rfl
theorem env0_ok {w : World} {g : Nat} (h : w.heap[g]? = some (.cells #[.slice none 0 0, .slice none 0 0, .slice none 0 0, .slice none 0 0] 64 (0, 0))) (hg : g + 1 ≤ w.heap.size) : EnvOk (envP W0) (.agg #[.pointer (some ⟨g, 0, none⟩)]) (g + 1) w :=
  env_ok g (g + 1) W0 W0_fit (by simp [W0]) w ⟨Nat.lt_succ_self g, hg, by simp [W0], by simp [W0], by simp [W0], by simp [W0], by simp [W0], _, _, _, _, h, isG_nil _ _ _ _, isG_nil _ _ _ _, isG_nil _ _ _ _, isG_nil _ _ _ _⟩
set_option maxHeartbeats 1600000 in
theorem vwakes_any (w : World) : Calls Tryz.prog 5 #[] w fun e w' => e = .returned (.bool true) ∧ Below w.heap.size w w' := by
  go_enter Tryz.func5, Tryz.ntmps5
  go_wp2_with fail
  refine (num_any 2 w).mono ?_
  rintro e w1 ⟨rfl, hb1⟩
  have HB1 := Lib.hid hb1
  clear hb1
  go_wp2_with fail
  refine (num_any 3 w1).mono ?_
  rintro e w2 ⟨rfl, hb2⟩
  have HB2 := Lib.hid (below_down HB1.out hb2 (Nat.le_refl _))
  clear hb2
  go_wp2_with fail
  refine (two_any 16 (litE (numV 2)) (litE (numV 3)) (.slice none 0 0) (.slice none 0 0) (.slice none 0 0) (.slice none 0 0) w2 w2.heap.size (Nat.le_refl _) (isL_nil _ _) (isX_nil5 _ _) (isL_nil _ _) (isX_nil5 _ _)).mono ?_
  rintro e w3 ⟨g, rfl, hx3, hb3⟩
  have HB3 := Lib.hid (below_down HB2.out hb3 (Nat.le_refl _))
  have HX3 := Lib.hid hx3
  clear hx3 hb3
  go_wp2_with fail
  refine (Compile_any sumE sum_fit (.slice none 0 0) (.slice (some ⟨g, 0, none⟩) 2 2) w3 w3.heap.size (Nat.le_refl _) (isL_nil _ _) HX3.out).mono ?_
  rintro e w4 ⟨v, rfl, hown, hb4⟩
  have HI4 := Lib.hid (ownI_isI hown)
  obtain ⟨a4, c4, rfl⟩ := isI_form HI4.out
  have HB4 := Lib.hid (below_down HB3.out hb4 (Nat.le_refl _))
  rw [sum_err]
  clear hown hb4
  go_wp2_with fail
  have hb5 : Below w4.heap.size w4 (w4.alloc (.cells #[.slice none 0 0, .slice none 0 0, .slice none 0 0, .slice none 0 0] 64)) := (Below.refl _ _).alloc (Nat.le_refl _) _
  have HI5 := Lib.hid (isI_below HI4.out hb5 (Nat.le_refl _))
  have HB5 := Lib.hid (below_down HB4.out hb5 (Nat.le_refl _))
  have HE5 := Lib.hid (env0_ok (w := w4.alloc (.cells #[.slice none 0 0, .slice none 0 0, .slice none 0 0, .slice none 0 0] 64)) heap_last (by simp))
  clear hb5
  refine (vrun_any (envP W0) (envP_fit W0_fit) _ (w4.heap.size + 1) (codeOf sumE) (by have := codeOf_len sumE; omega) (codeOf_fit sumE sum_fit) 3 _ _ w4.heap.size (by simp) (by simp) HI5.out HE5.out).mono ?_
  rw [run_three]
  rintro e w6 ⟨a6, c6, rfl, hr6, hb6⟩
  have HI6 := Lib.hid (isI_below HI5.out hb6 (by simp))
  have HB6 := Lib.hid (below_down HB5.out hb6 (Nat.le_refl _))
  have HZ6 := Lib.hid hb6.size
  clear hr6 hb6
  simp only [GV.agg, numV]
  go_wp2_with fail
  obtain ⟨w7, hw7⟩ : ∃ u, u = (w6.alloc (.cells #[.int .i64 2, .bool false, .int .i64 5, .string ByteArray.empty, .slice a6 0 c6] 36)).alloc (.cells #[.slice none 0 0, .slice none 0 0, .slice none 0 0, .slice none 0 0] 64) := ⟨_, rfl⟩
  have hb7 : Below w6.heap.size w6 w7 := by rw [hw7]; exact ((Below.refl _ _).alloc (Nat.le_refl _) _).alloc (by simp) _
  have hv7 : w7.heap[w6.heap.size]? = some (.cells #[.int .i64 2, .bool false, .int .i64 5, .string ByteArray.empty, .slice a6 0 c6] 36 (0, 0)) := by rw [hw7]; exact heap_two
  have he7 : w7.heap[w6.heap.size + 1]? = some (.cells #[.slice none 0 0, .slice none 0 0, .slice none 0 0, .slice none 0 0] 64 (0, 0)) := by rw [hw7]; exact heap_second
  have hz7 : w7.heap.size = w6.heap.size + 2 := by rw [hw7]; simp
  rw [← hw7]
  clear hw7
  have hz6 : w4.heap.size ≤ w6.heap.size := by have := HZ6.out; simp at this; omega
  have HE7 := Lib.hid (env0_ok he7 (by omega))
  have HI7 := Lib.hid (isI_below HI6.out hb7 hz6)
  have HB7 := Lib.hid (below_down HB6.out hb7 (Nat.le_refl _))
  have HV7 := Lib.hid hv7
  have lv : w6.heap.size < w7.heap.size := by omega
  clear hb7 hv7 he7
  refine (vrun_any (envP W0) (envP_fit W0_fit) _ (w6.heap.size + 1 + 1) (codeOf sumE) (by have := codeOf_len sumE; omega) (codeOf_fit sumE sum_fit) 2 _ w7 w4.heap.size (by omega) (by omega) HI7.out HE7.out).mono ?_
  rw [run_two]
  rintro e w8 ⟨a8, c8, rfl, hr8, hb8⟩
  have HB8 := Lib.hid (below_down HB7.out hb8 (Nat.le_refl _))
  have hv8 := (hb8.block w6.heap.size lv).trans HV7.out
  have qv := fun o => cell_of hv8 o
  have hz8 := hb8.size
  have nv : w6.heap.size ≠ w8.heap.size := by omega
  have lv8 : w6.heap.size < w8.heap.size := by omega
  clear hr8 hb8
  simp only [GV.agg, nullG]
  go_wp2_with fail
  refine bodyPost_ret (v := .bool true) (by simp [results, Tryz.results5, go_sem]) rfl ⟨rfl, HB8.out.alloc HB8.out.size _⟩
end Go.Proofs.YtljljhjdlicfeaaGreat
