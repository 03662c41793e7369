/-
  A sum of two numbers by value's own functions: number, no, add, what reckons makes of it, plus. Conditions: none.
-/
import Derived.Test.YtljljhjdlicfeaaMH
import Derived.Deep.RegionLaw
import Derived.Deep.DeepCutAuto
import Derived.Deep.CutRange
import Derived.Test.YtljljhjdlicfeaaMD
import Derived.Test.YtljljhjdlicfeaaMC
namespace Go.Proofs.Ytljljhjdlicfeaa
open Go Go.RowKit
set_option maxRecDepth 100000
set_option linter.unusedVariables false
/-- a number as a value -/
def numA (n : Int) : Value := .agg #[.int .i64 2, .bool false, .int .i64 n, .string { data := #[] }, .slice none 0 0]
theorem number_v (n : Int) (w : World) : Calls Try.prog 51 #[.int .i64 n] w fun e w' => e = .returned (.tuple #[numA n, .int .i64 0]) ∧ Below w.heap.size w w' := by
  unfold numA
  go_enter Try.func51, Try.ntmps51
  go_wp2_with fail
  refine bodyPost_ret (v := .tuple #[.agg #[.int .i64 2, .bool false, .int .i64 n, .string { data := #[] }, .slice none 0 0], .int .i64 0]) (by simp [results, Try.results51, go_sem]) rfl ⟨rfl, ?_⟩
  exact (Below.refl _ _).alloc (Nat.le_refl _) _
theorem no_v (n : Int) (w : World) : Calls Try.prog 24 #[.int .i64 n] w fun e w' => e = .returned (.tuple #[.agg #[.int .i64 0, .bool false, .int .i64 0, .string { data := #[] }, .slice none 0 0], .int .i64 n]) ∧ Below w.heap.size w w' := by
  go_enter Try.func24, Try.ntmps24
  go_wp2_with fail
  refine bodyPost_ret (v := .tuple #[.agg #[.int .i64 0, .bool false, .int .i64 0, .string { data := #[] }, .slice none 0 0], .int .i64 n]) (by simp [results, Try.results24, go_sem]) rfl ⟨rfl, ?_⟩
  exact (Below.refl _ _).alloc (Nat.le_refl _) _
theorem within_v (n : Int) (b : Bool) (w : World) : Calls Try.prog 67 #[.int .i64 n, .bool b] w fun e w' => e = .returned (.tuple #[.int .i64 (if b = true then n else 0), .int .i64 (if b = true then 0 else 2)]) ∧ w' = w := by
  cases b
  all_goals
    go_enter Try.func67, Try.ntmps67
    go_wp2_with fail
    go_ret2
    exact ⟨rfl, rfl⟩
theorem add23 (w : World) : Calls Try.prog 71 #[.int .i64 2, .int .i64 3] w fun e w' => e = .returned (.tuple #[.int .i64 5, .int .i64 0]) ∧ w' = w := by
  go_enter Try.func71, Try.ntmps71
  go_wp2_with fail
  refine (within_v 5 true _).mono ?_
  rintro e w1 ⟨rfl, rfl⟩
  go_wp2_with fail
  go_ret2
  exact ⟨rfl, rfl⟩
set_option maxHeartbeats 800000 in
theorem reck23 (b : Nat) (w : World) (hl : lies w b (fn0 71) 98) :
    Calls Try.prog 66 #[numA 2, numA 3, .pointer (some ⟨b, 0, none⟩)] w fun e w' => e = .returned (.tuple #[numA 5, .int .i64 0]) ∧ Below w.heap.size w w' := by
  unfold numA
  have HL := Lib.hid hl
  have hlt := lies_lt hl
  clear hl
  go_enter Try.func66, Try.ntmps66
  go_upto_region 1 with fail
  obtain ⟨wA, hwA⟩ : ∃ wA, wA = ((w.alloc (.cells #[.int .i64 2, .bool false, .int .i64 2, .string { data := #[] }, .slice none 0 0] 35)).alloc (.cells #[.int .i64 2, .bool false, .int .i64 3, .string { data := #[] }, .slice none 0 0] 35)).alloc (.cells #[.int .i64 0, .bool false, .int .i64 0, .string { data := #[] }, .slice none 0 0] 35) := ⟨_, rfl⟩
  have hb0 : Below w.heap.size w wA := by rw [hwA]; exact (((Below.refl _ _).alloc (Nat.le_refl _) _).alloc (by simp) _).alloc (by simp; omega) _
  have hx : wA.heap[w.heap.size]? = some (.cells #[.int .i64 2, .bool false, .int .i64 2, .string { data := #[] }, .slice none 0 0] 35 (0, 0)) := by rw [hwA]; exact heap_three
  have hy : wA.heap[w.heap.size + 1]? = some (.cells #[.int .i64 2, .bool false, .int .i64 3, .string { data := #[] }, .slice none 0 0] 35 (0, 0)) := by rw [hwA]; exact heap_three2
  have hz : wA.heap[w.heap.size + 2]? = some (.cells #[.int .i64 0, .bool false, .int .i64 0, .string { data := #[] }, .slice none 0 0] 35 (0, 0)) := by
    rw [hwA]
    have := @heap_last ((w.alloc (.cells #[.int .i64 2, .bool false, .int .i64 2, .string { data := #[] }, .slice none 0 0] 35)).alloc (.cells #[.int .i64 2, .bool false, .int .i64 3, .string { data := #[] }, .slice none 0 0] 35)) (.cells #[.int .i64 0, .bool false, .int .i64 0, .string { data := #[] }, .slice none 0 0] 35)
    rwa [show ((w.alloc (.cells #[.int .i64 2, .bool false, .int .i64 2, .string { data := #[] }, .slice none 0 0] 35)).alloc (.cells #[.int .i64 2, .bool false, .int .i64 3, .string { data := #[] }, .slice none 0 0] 35)).heap.size = w.heap.size + 2 from by simp] at this
  have hsz : wA.heap.size = w.heap.size + 3 := by rw [hwA]; simp
  have hcz : wA.cell? ⟨b, 0, none⟩ = some (.func (.func 71) #[] #[]) := (hb0.cell (p := ⟨b, 0, none⟩) hlt).trans ((cell_of HL.out 0).trans rfl)
  have HB0 := Lib.hid hb0
  have HZ := Lib.hid hz
  have qx := fun o => cell_of hx o
  have qy := fun o => cell_of hy o
  have qz := fun o => cell_of hz o
  have fz := fun o => frozen_of hz o
  rw [← hwA]
  have s0 : w.heap.size < wA.heap.size := by omega
  have s1 : w.heap.size + 1 < wA.heap.size := by omega
  have s2 : w.heap.size + 2 < wA.heap.size := by omega
  have s3 : b < wA.heap.size := by omega
  clear hwA hb0 hx hy hz hsz
  go_wp2_with fail
  refine (add23 _).mono ?_
  rintro e w1 ⟨rfl, rfl⟩
  go_wp2_with fail
  refine (number_v 5 _).mono ?_
  rintro e w2 ⟨rfl, hb2⟩
  have HB2 := Lib.hid (below_down HB0.out hb2 (Nat.le_refl _))
  have hz2 := (hb2.block (w.heap.size + 2) s2).trans HZ.out
  have s4 : w.heap.size + 2 < w2.heap.size := by have := hb2.size; omega
  have qz2 := fun o => cell_of hz2 o
  have fz2 := fun o => frozen_of hz2 o
  have HZ2 := Lib.hid hz2
  clear hb2 hz2 qx qy qz fz hcz
  unfold numA
  go_wp2_with fail
  refine bodyPost_ret (v := .tuple #[.agg #[.int .i64 2, .bool false, .int .i64 5, .string { data := #[] }, .slice none 0 0], .int .i64 0]) (by simp [results, Try.results66, go_sem, qz2]) rfl ⟨rfl, ?_⟩
  refine ((((HB2.out.setCell ?_ _).setCell ?_ _).setCell ?_ _).setCell ?_ _).setCell ?_ _
  all_goals (simp; try omega)
theorem field_do (n c : Value) (w : World) : (Instr.field 72 (.agg #[n, c]) 1).run Try.prog w = .ok c w := by
  have h := Try.isAgg70 w
  simp [Instr.field, run_underlying Try.underlying72, part, h, Result.andThen, asAgg]
theorem set5_far {w : World} {g b o : Nat} (h : b ≠ g) (a0 a1 a2 a3 a4 : Value) : (((((w.setCell ⟨g, 0, none⟩ a0).setCell ⟨g, 1, none⟩ a1).setCell ⟨g, 2, none⟩ a2).setCell ⟨g, 3, none⟩ a3).setCell ⟨g, 4, none⟩ a4).cell? ⟨b, o, none⟩ = w.cell? ⟨b, o, none⟩ := by
  have k : ∀ (w : World) (i : Nat) (a : Value), (w.setCell ⟨g, i, none⟩ a).heap[b]? = w.heap[b]? := fun w i a => Below.heap_setCell _ _ _ _ h
  exact World.cell?_of_block (a := ⟨b, o, none⟩) ((k _ _ _).trans ((k _ _ _).trans ((k _ _ _).trans ((k _ _ _).trans (k _ _ _)))))
theorem sz5 {w : World} {g n : Nat} {a0 a1 a2 a3 a4 : Value} (h : n < w.heap.size) : n < (((((w.setCell ⟨g, 0, none⟩ a0).setCell ⟨g, 1, none⟩ a1).setCell ⟨g, 2, none⟩ a2).setCell ⟨g, 3, none⟩ a3).setCell ⟨g, 4, none⟩ a4).heap.size := by simpa using h
set_option maxHeartbeats 1600000 in
theorem plus23 (w : World) : Calls Try.prog 46 #[numA 2, numA 3] w fun e w' => e = .returned (.tuple #[numA 5, .int .i64 0]) ∧ Below w.heap.size w w' := by
  unfold numA
  go_enter Try.func46, Try.ntmps46
  go_upto_region 1 with fail
  obtain ⟨wA, hwA⟩ : ∃ wA, wA = ((w.alloc (.cells #[.int .i64 2, .bool false, .int .i64 2, .string { data := #[] }, .slice none 0 0] 35)).alloc (.cells #[.int .i64 2, .bool false, .int .i64 3, .string { data := #[] }, .slice none 0 0] 35)).alloc (.cells #[.int .i64 0, .bool false, .int .i64 0, .string { data := #[] }, .slice none 0 0] 35) := ⟨_, rfl⟩
  have hb0 : Below w.heap.size w wA := by rw [hwA]; exact (((Below.refl _ _).alloc (Nat.le_refl _) _).alloc (by simp) _).alloc (by simp; omega) _
  have hx : wA.heap[w.heap.size]? = some (.cells #[.int .i64 2, .bool false, .int .i64 2, .string { data := #[] }, .slice none 0 0] 35 (0, 0)) := by rw [hwA]; exact heap_three
  have hy : wA.heap[w.heap.size + 1]? = some (.cells #[.int .i64 2, .bool false, .int .i64 3, .string { data := #[] }, .slice none 0 0] 35 (0, 0)) := by rw [hwA]; exact heap_three2
  have hz : wA.heap[w.heap.size + 2]? = some (.cells #[.int .i64 0, .bool false, .int .i64 0, .string { data := #[] }, .slice none 0 0] 35 (0, 0)) := by
    rw [hwA]
    have := @heap_last ((w.alloc (.cells #[.int .i64 2, .bool false, .int .i64 2, .string { data := #[] }, .slice none 0 0] 35)).alloc (.cells #[.int .i64 2, .bool false, .int .i64 3, .string { data := #[] }, .slice none 0 0] 35)) (.cells #[.int .i64 0, .bool false, .int .i64 0, .string { data := #[] }, .slice none 0 0] 35)
    rwa [show ((w.alloc (.cells #[.int .i64 2, .bool false, .int .i64 2, .string { data := #[] }, .slice none 0 0] 35)).alloc (.cells #[.int .i64 2, .bool false, .int .i64 3, .string { data := #[] }, .slice none 0 0] 35)).heap.size = w.heap.size + 2 from by simp] at this
  have hsz : wA.heap.size = w.heap.size + 3 := by rw [hwA]; simp
  have HB0 := Lib.hid hb0
  have HX := Lib.hid hx
  have HY := Lib.hid hy
  have HZ := Lib.hid hz
  have qx := fun o => cell_of hx o
  have qy := fun o => cell_of hy o
  rw [← hwA]
  have s0 : w.heap.size < wA.heap.size := by omega
  have s1 : w.heap.size + 1 < wA.heap.size := by omega
  have s2 : w.heap.size + 2 < wA.heap.size := by omega
  clear hwA hb0 hx hy hz hsz
  go_upto_region 2 with fail
  have p0 : wA.cell? ⟨w.heap.size, 0, none⟩ = some (.int .i64 2) := (qx 0).trans rfl
  have p1 : wA.cell? ⟨w.heap.size, 1, none⟩ = some (.bool false) := (qx 1).trans rfl
  have p2 : wA.cell? ⟨w.heap.size, 2, none⟩ = some (.int .i64 2) := (qx 2).trans rfl
  have p3 : wA.cell? ⟨w.heap.size, 3, none⟩ = some (.string { data := #[] }) := (qx 3).trans rfl
  have p4 : wA.cell? ⟨w.heap.size, 4, none⟩ = some (.slice none 0 0) := (qx 4).trans rfl
  have r0 : wA.cell? ⟨w.heap.size + 1, 0, none⟩ = some (.int .i64 2) := (qy 0).trans rfl
  have r1 : wA.cell? ⟨w.heap.size + 1, 1, none⟩ = some (.bool false) := (qy 1).trans rfl
  have r2 : wA.cell? ⟨w.heap.size + 1, 2, none⟩ = some (.int .i64 3) := (qy 2).trans rfl
  have r3 : wA.cell? ⟨w.heap.size + 1, 3, none⟩ = some (.string { data := #[] }) := (qy 3).trans rfl
  have r4 : wA.cell? ⟨w.heap.size + 1, 4, none⟩ = some (.slice none 0 0) := (qy 4).trans rfl
  have HR : Hid (∀ w2, Calls Try.prog 34 #[.func (.func 71) #[] #[]] w2 fun e w' => e = .returned (.agg #[.int .i64 2, .func (.func 66) #[] #[.pointer (some ⟨w2.heap.size, 0, none⟩)]]) ∧ Below w2.heap.size w2 w' ∧ lies w' w2.heap.size (fn0 71) 98 ∧ w'.heap.size = w2.heap.size + 2) := fun w2 => reckons_any _ w2
  have HRK : Hid (∀ (b : Nat) (w2 : World), lies w2 b (fn0 71) 98 → Calls Try.prog 66 #[.agg #[.int .i64 2, .bool false, .int .i64 2, .string { data := #[] }, .slice none 0 0], .agg #[.int .i64 2, .bool false, .int .i64 3, .string { data := #[] }, .slice none 0 0], .pointer (some ⟨b, 0, none⟩)] w2 fun e w' => e = .returned (.tuple #[.agg #[.int .i64 2, .bool false, .int .i64 5, .string { data := #[] }, .slice none 0 0], .int .i64 0]) ∧ Below w2.heap.size w2 w') := fun b w2 h => reck23 b w2 h
  have hfld := field_do
  have ne0 : w.heap.size ≠ w.heap.size + 1 + 1 := by omega
  have ne1 : w.heap.size + 1 ≠ w.heap.size + 1 + 1 := by omega
  go_region_law (first
    | (go_simp
       go_at_call 34
       refine (HR.out _).mono ?_
       rintro e w6 ⟨rfl, hb6, hl6, hsz6⟩
       have hb6' : Below wA.heap.size wA w6 := (Below.refl wA.heap.size wA).drew.trans hb6
       have HB6 := Lib.hid hb6'
       have HL6 := Lib.hid hl6
       have hx6 := (hb6'.block w.heap.size s0).trans HX.out
       have hy6 := (hb6'.block (w.heap.size + 1) s1).trans HY.out
       have t0 := fun o => cell_of hx6 o
       have t1 := fun o => cell_of hy6 o
       have hz6 := hb6'.size
       have z0 : w.heap.size < w6.heap.size := by omega
       have z1 : w.heap.size + 1 < w6.heap.size := by omega
       clear hb6 hl6 hsz6 hz6 hb6' hx6 hy6)
    | (go_simp
       go_at_call 66
       refine (HRK.out _ _ HL6.out).mono ?_
       rintro e w7 ⟨rfl, hb7⟩
       have hb7' := below_down HB6.out hb7 (Nat.le_refl _)
       have HB7 := Lib.hid (below_down HB0.out hb7' (Nat.le_refl _))
       have hz7 := (hb7'.block (w.heap.size + 2) s2).trans HZ.out
       have q7 := fun o => cell_of hz7 o
       have f7 := fun o => frozen_of hz7 o
       have hs7 := hb7'.size
       have z2 : w.heap.size + 2 < w7.heap.size := by omega
       clear hb7 hs7 hb7' hz7))
  all_goals
    go_wp2_with fail
    refine bodyPost_ret (v := .tuple #[.agg #[.int .i64 2, .bool false, .int .i64 5, .string { data := #[] }, .slice none 0 0], .int .i64 0]) (by simp [results, Try.results46, go_sem, q7]) rfl ⟨rfl, ?_⟩
    refine ((((HB7.out.setCell ?_ _).setCell ?_ _).setCell ?_ _).setCell ?_ _).setCell ?_ _
    all_goals (simp; try omega)
end Go.Proofs.Ytljljhjdlicfeaa
/-
  A number as a value. Conditions: none.
-/
namespace Go.Proofs.Ytljljhjdlicfeaa
open Go Go.RowKit
set_option maxRecDepth 100000
set_option linter.unusedVariables false
def numG (n : Int) : GV := ⟨2, false, n, { data := #[] }, []⟩
theorem numG_fit (n : Int) (h0 : -9223372036854775808 ≤ n) (h1 : n ≤ 9223372036854775807) : (numG n).fit := by
  simp only [numG, GV.fit]
  exact ⟨by omega, by omega, h0, h1, by decide, by simp, trivial⟩
theorem numG_may (n : Int) : vmay (numG n) = true := by
  have : ({ data := #[] } : ByteArray).toList = [] := by rw [toList_nil]; rfl
  simp [vmay, chk_eq, numG, chkFlat, this]
end Go.Proofs.Ytljljhjdlicfeaa
