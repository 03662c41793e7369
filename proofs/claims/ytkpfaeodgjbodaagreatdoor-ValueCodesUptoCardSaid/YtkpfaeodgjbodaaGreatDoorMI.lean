/-
  A sum of two numbers by value's own functions: number, no, add, what reckons makes of it, plus. Conditions: none.
-/
import Derived.Test.YtkpfaeodgjbodaaGreatDoorMH
import Derived.Deep.RegionLaw
import Derived.Deep.DeepCutAuto
import Derived.Deep.CutRange
import Derived.Test.YtkpfaeodgjbodaaGreatDoorMF
import Derived.Test.YtkpfaeodgjbodaaGreatDoorMD
import Derived.Test.YtkpfaeodgjbodaaGreatDoorMC
namespace Go.Proofs.YtkpfaeodgjbodaaGreatDoor
open Go Go.RowKit
set_option maxRecDepth 100000
set_option linter.unusedVariables false
/-- a number as a value -/
def numA (n : Int) : Value := .agg #[.int .i64 2, .bool false, .int .i64 n, .string { data := #[] }, .slice none 0 0]
theorem num_any (n : Int) (w : World) : Calls Tryz.prog 14 #[.int .i64 n] w fun e w' => e = .returned (numA n) ∧ Below w.heap.size w w' := by
  unfold numA
  go_enter Tryz.func14, Tryz.ntmps14
  go_wp2_with fail
  refine bodyPost_ret (v := .agg #[.int .i64 2, .bool false, .int .i64 n, .string { data := #[] }, .slice none 0 0]) (by simp [results, Tryz.results14, go_sem]) rfl ⟨rfl, ?_⟩
  exact (Below.refl _ _).alloc (Nat.le_refl _) _
theorem number_v (n : Int) (w : World) : Calls Tryz.prog 64 #[.int .i64 n] w fun e w' => e = .returned (.tuple #[numA n, .int .i64 0]) ∧ Below w.heap.size w w' := by
  unfold numA
  go_enter Tryz.func64, Tryz.ntmps64
  go_wp2_with fail
  refine bodyPost_ret (v := .tuple #[.agg #[.int .i64 2, .bool false, .int .i64 n, .string { data := #[] }, .slice none 0 0], .int .i64 0]) (by simp [results, Tryz.results64, go_sem]) rfl ⟨rfl, ?_⟩
  exact (Below.refl _ _).alloc (Nat.le_refl _) _
theorem no_v (n : Int) (w : World) : Calls Tryz.prog 28 #[.int .i64 n] w fun e w' => e = .returned (.tuple #[.agg #[.int .i64 0, .bool false, .int .i64 0, .string { data := #[] }, .slice none 0 0], .int .i64 n]) ∧ Below w.heap.size w w' := by
  go_enter Tryz.func28, Tryz.ntmps28
  go_wp2_with fail
  refine bodyPost_ret (v := .tuple #[.agg #[.int .i64 0, .bool false, .int .i64 0, .string { data := #[] }, .slice none 0 0], .int .i64 n]) (by simp [results, Tryz.results28, go_sem]) rfl ⟨rfl, ?_⟩
  exact (Below.refl _ _).alloc (Nat.le_refl _) _
theorem within_v (n : Int) (b : Bool) (w : World) : Calls Tryz.prog 80 #[.int .i64 n, .bool b] w fun e w' => e = .returned (.tuple #[.int .i64 (if b = true then n else 0), .int .i64 (if b = true then 0 else 2)]) ∧ w' = w := by
  cases b
  all_goals
    go_enter Tryz.func80, Tryz.ntmps80
    go_wp2_with fail
    go_ret2
    exact ⟨rfl, rfl⟩
theorem add23 (w : World) : Calls Tryz.prog 83 #[.int .i64 2, .int .i64 3] w fun e w' => e = .returned (.tuple #[.int .i64 5, .int .i64 0]) ∧ w' = w := by
  go_enter Tryz.func83, Tryz.ntmps83
  go_wp2_with fail
  refine (within_v 5 true _).mono ?_
  rintro e w1 ⟨rfl, rfl⟩
  go_wp2_with fail
  go_ret2
  exact ⟨rfl, rfl⟩
set_option maxHeartbeats 800000 in
theorem reck23 (b : Nat) (w : World) (hl : lies w b (fn0 83) 82) :
    Calls Tryz.prog 79 #[numA 2, numA 3, .pointer (some ⟨b, 0, none⟩)] w fun e w' => e = .returned (.tuple #[numA 5, .int .i64 0]) ∧ Below w.heap.size w w' := by
  unfold numA
  have HL := Lib.hid hl
  have hlt := lies_lt hl
  clear hl
  go_enter Tryz.func79, Tryz.ntmps79
  go_upto_region 1 with fail
  obtain ⟨wA, hwA⟩ : ∃ wA, wA = ((w.alloc (.cells #[.int .i64 2, .bool false, .int .i64 2, .string { data := #[] }, .slice none 0 0] 33)).alloc (.cells #[.int .i64 2, .bool false, .int .i64 3, .string { data := #[] }, .slice none 0 0] 33)).alloc (.cells #[.int .i64 0, .bool false, .int .i64 0, .string { data := #[] }, .slice none 0 0] 33) := ⟨_, rfl⟩
  have hb0 : Below w.heap.size w wA := by rw [hwA]; exact (((Below.refl _ _).alloc (Nat.le_refl _) _).alloc (by simp) _).alloc (by simp; omega) _
  have hx : wA.heap[w.heap.size]? = some (.cells #[.int .i64 2, .bool false, .int .i64 2, .string { data := #[] }, .slice none 0 0] 33 (0, 0)) := by rw [hwA]; exact heap_three
  have hy : wA.heap[w.heap.size + 1]? = some (.cells #[.int .i64 2, .bool false, .int .i64 3, .string { data := #[] }, .slice none 0 0] 33 (0, 0)) := by rw [hwA]; exact heap_three2
  have hz : wA.heap[w.heap.size + 2]? = some (.cells #[.int .i64 0, .bool false, .int .i64 0, .string { data := #[] }, .slice none 0 0] 33 (0, 0)) := by
    rw [hwA]
    have := @heap_last ((w.alloc (.cells #[.int .i64 2, .bool false, .int .i64 2, .string { data := #[] }, .slice none 0 0] 33)).alloc (.cells #[.int .i64 2, .bool false, .int .i64 3, .string { data := #[] }, .slice none 0 0] 33)) (.cells #[.int .i64 0, .bool false, .int .i64 0, .string { data := #[] }, .slice none 0 0] 33)
    rwa [show ((w.alloc (.cells #[.int .i64 2, .bool false, .int .i64 2, .string { data := #[] }, .slice none 0 0] 33)).alloc (.cells #[.int .i64 2, .bool false, .int .i64 3, .string { data := #[] }, .slice none 0 0] 33)).heap.size = w.heap.size + 2 from by simp] at this
  have hsz : wA.heap.size = w.heap.size + 3 := by rw [hwA]; simp
  have hcz : wA.cell? ⟨b, 0, none⟩ = some (.func (.func 83) #[] #[]) := (hb0.cell (p := ⟨b, 0, none⟩) hlt).trans ((cell_of HL.out 0).trans rfl)
  have HB0 := Lib.hid hb0
  have HZ := Lib.hid hz
  have qx := fun o => cell_of hx o
  have qy := fun o => cell_of hy o
  have qz := fun o => cell_of hz o
  have fz := fun o => frozen_of hz o
  rw [← hwA]
  have s0 : w.heap.size < wA.heap.size := by omega
  have s1 : w.heap.size + 1 < wA.heap.size := by omega
  have s2 : w.heap.size + 2 < wA.heap.size := by omega
  have s3 : b < wA.heap.size := by omega
  clear hwA hb0 hx hy hz hsz
  go_wp2_with fail
  refine (add23 _).mono ?_
  rintro e w1 ⟨rfl, rfl⟩
  go_wp2_with fail
  refine (number_v 5 _).mono ?_
  rintro e w2 ⟨rfl, hb2⟩
  have HB2 := Lib.hid (below_down HB0.out hb2 (Nat.le_refl _))
  have hz2 := (hb2.block (w.heap.size + 2) s2).trans HZ.out
  have s4 : w.heap.size + 2 < w2.heap.size := by have := hb2.size; omega
  have qz2 := fun o => cell_of hz2 o
  have fz2 := fun o => frozen_of hz2 o
  have HZ2 := Lib.hid hz2
  clear hb2 hz2 qx qy qz fz hcz
  unfold numA
  go_wp2_with fail
  refine bodyPost_ret (v := .tuple #[.agg #[.int .i64 2, .bool false, .int .i64 5, .string { data := #[] }, .slice none 0 0], .int .i64 0]) (by simp [results, Tryz.results79, go_sem, qz2]) rfl ⟨rfl, ?_⟩
  refine ((((HB2.out.setCell ?_ _).setCell ?_ _).setCell ?_ _).setCell ?_ _).setCell ?_ _
  all_goals (simp; try omega)
theorem field_do (n c : Value) (w : World) : (Instr.field 58 (.agg #[n, c]) 1).run Tryz.prog w = .ok c w := by
  have h := Tryz.isAgg56 w
  simp [Instr.field, run_underlying Tryz.underlying58, part, h, Result.andThen, asAgg]
theorem set5_far {w : World} {g b o : Nat} (h : b ≠ g) (a0 a1 a2 a3 a4 : Value) : (((((w.setCell ⟨g, 0, none⟩ a0).setCell ⟨g, 1, none⟩ a1).setCell ⟨g, 2, none⟩ a2).setCell ⟨g, 3, none⟩ a3).setCell ⟨g, 4, none⟩ a4).cell? ⟨b, o, none⟩ = w.cell? ⟨b, o, none⟩ := by
  have k : ∀ (w : World) (i : Nat) (a : Value), (w.setCell ⟨g, i, none⟩ a).heap[b]? = w.heap[b]? := fun w i a => Below.heap_setCell _ _ _ _ h
  exact World.cell?_of_block (a := ⟨b, o, none⟩) ((k _ _ _).trans ((k _ _ _).trans ((k _ _ _).trans ((k _ _ _).trans (k _ _ _)))))
theorem sz5 {w : World} {g n : Nat} {a0 a1 a2 a3 a4 : Value} (h : n < w.heap.size) : n < (((((w.setCell ⟨g, 0, none⟩ a0).setCell ⟨g, 1, none⟩ a1).setCell ⟨g, 2, none⟩ a2).setCell ⟨g, 3, none⟩ a3).setCell ⟨g, 4, none⟩ a4).heap.size := by simpa using h
set_option maxHeartbeats 1600000 in
theorem plus23 (w : World) : Calls Tryz.prog 59 #[numA 2, numA 3] w fun e w' => e = .returned (.tuple #[numA 5, .int .i64 0]) ∧ Below w.heap.size w w' := by
  unfold numA
  go_enter Tryz.func59, Tryz.ntmps59
  go_upto_region 1 with fail
  obtain ⟨wA, hwA⟩ : ∃ wA, wA = ((w.alloc (.cells #[.int .i64 2, .bool false, .int .i64 2, .string { data := #[] }, .slice none 0 0] 33)).alloc (.cells #[.int .i64 2, .bool false, .int .i64 3, .string { data := #[] }, .slice none 0 0] 33)).alloc (.cells #[.int .i64 0, .bool false, .int .i64 0, .string { data := #[] }, .slice none 0 0] 33) := ⟨_, rfl⟩
  have hb0 : Below w.heap.size w wA := by rw [hwA]; exact (((Below.refl _ _).alloc (Nat.le_refl _) _).alloc (by simp) _).alloc (by simp; omega) _
  have hx : wA.heap[w.heap.size]? = some (.cells #[.int .i64 2, .bool false, .int .i64 2, .string { data := #[] }, .slice none 0 0] 33 (0, 0)) := by rw [hwA]; exact heap_three
  have hy : wA.heap[w.heap.size + 1]? = some (.cells #[.int .i64 2, .bool false, .int .i64 3, .string { data := #[] }, .slice none 0 0] 33 (0, 0)) := by rw [hwA]; exact heap_three2
  have hz : wA.heap[w.heap.size + 2]? = some (.cells #[.int .i64 0, .bool false, .int .i64 0, .string { data := #[] }, .slice none 0 0] 33 (0, 0)) := by
    rw [hwA]
    have := @heap_last ((w.alloc (.cells #[.int .i64 2, .bool false, .int .i64 2, .string { data := #[] }, .slice none 0 0] 33)).alloc (.cells #[.int .i64 2, .bool false, .int .i64 3, .string { data := #[] }, .slice none 0 0] 33)) (.cells #[.int .i64 0, .bool false, .int .i64 0, .string { data := #[] }, .slice none 0 0] 33)
    rwa [show ((w.alloc (.cells #[.int .i64 2, .bool false, .int .i64 2, .string { data := #[] }, .slice none 0 0] 33)).alloc (.cells #[.int .i64 2, .bool false, .int .i64 3, .string { data := #[] }, .slice none 0 0] 33)).heap.size = w.heap.size + 2 from by simp] at this
  have hsz : wA.heap.size = w.heap.size + 3 := by rw [hwA]; simp
  have HB0 := Lib.hid hb0
  have HX := Lib.hid hx
  have HY := Lib.hid hy
  have HZ := Lib.hid hz
  have qx := fun o => cell_of hx o
  have qy := fun o => cell_of hy o
  rw [← hwA]
  have s0 : w.heap.size < wA.heap.size := by omega
  have s1 : w.heap.size + 1 < wA.heap.size := by omega
  have s2 : w.heap.size + 2 < wA.heap.size := by omega
  clear hwA hb0 hx hy hz hsz
  go_upto_region 2 with fail
  have p0 : wA.cell? ⟨w.heap.size, 0, none⟩ = some (.int .i64 2) := (qx 0).trans rfl
  have p1 : wA.cell? ⟨w.heap.size, 1, none⟩ = some (.bool false) := (qx 1).trans rfl
  have p2 : wA.cell? ⟨w.heap.size, 2, none⟩ = some (.int .i64 2) := (qx 2).trans rfl
  have p3 : wA.cell? ⟨w.heap.size, 3, none⟩ = some (.string { data := #[] }) := (qx 3).trans rfl
  have p4 : wA.cell? ⟨w.heap.size, 4, none⟩ = some (.slice none 0 0) := (qx 4).trans rfl
  have r0 : wA.cell? ⟨w.heap.size + 1, 0, none⟩ = some (.int .i64 2) := (qy 0).trans rfl
  have r1 : wA.cell? ⟨w.heap.size + 1, 1, none⟩ = some (.bool false) := (qy 1).trans rfl
  have r2 : wA.cell? ⟨w.heap.size + 1, 2, none⟩ = some (.int .i64 3) := (qy 2).trans rfl
  have r3 : wA.cell? ⟨w.heap.size + 1, 3, none⟩ = some (.string { data := #[] }) := (qy 3).trans rfl
  have r4 : wA.cell? ⟨w.heap.size + 1, 4, none⟩ = some (.slice none 0 0) := (qy 4).trans rfl
  have HR : Hid (∀ w2, Calls Tryz.prog 47 #[.func (.func 83) #[] #[]] w2 fun e w' => e = .returned (.agg #[.int .i64 2, .func (.func 79) #[] #[.pointer (some ⟨w2.heap.size, 0, none⟩)]]) ∧ Below w2.heap.size w2 w' ∧ lies w' w2.heap.size (fn0 83) 82 ∧ w'.heap.size = w2.heap.size + 2) := fun w2 => reckons_any _ w2
  have HRK : Hid (∀ (b : Nat) (w2 : World), lies w2 b (fn0 83) 82 → Calls Tryz.prog 79 #[.agg #[.int .i64 2, .bool false, .int .i64 2, .string { data := #[] }, .slice none 0 0], .agg #[.int .i64 2, .bool false, .int .i64 3, .string { data := #[] }, .slice none 0 0], .pointer (some ⟨b, 0, none⟩)] w2 fun e w' => e = .returned (.tuple #[.agg #[.int .i64 2, .bool false, .int .i64 5, .string { data := #[] }, .slice none 0 0], .int .i64 0]) ∧ Below w2.heap.size w2 w') := fun b w2 h => reck23 b w2 h
  have hfld := field_do
  have ne0 : w.heap.size ≠ w.heap.size + 1 + 1 := by omega
  have ne1 : w.heap.size + 1 ≠ w.heap.size + 1 + 1 := by omega
  go_region_law (first
    | (go_simp
       go_at_call 47
       refine (HR.out _).mono ?_
       rintro e w6 ⟨rfl, hb6, hl6, hsz6⟩
       have hb6' : Below wA.heap.size wA w6 := (Below.refl wA.heap.size wA).drew.trans hb6
       have HB6 := Lib.hid hb6'
       have HL6 := Lib.hid hl6
       have hx6 := (hb6'.block w.heap.size s0).trans HX.out
       have hy6 := (hb6'.block (w.heap.size + 1) s1).trans HY.out
       have t0 := fun o => cell_of hx6 o
       have t1 := fun o => cell_of hy6 o
       have hz6 := hb6'.size
       have z0 : w.heap.size < w6.heap.size := by omega
       have z1 : w.heap.size + 1 < w6.heap.size := by omega
       clear hb6 hl6 hsz6 hz6 hb6' hx6 hy6)
    | (go_simp
       go_at_call 79
       refine (HRK.out _ _ HL6.out).mono ?_
       rintro e w7 ⟨rfl, hb7⟩
       have hb7' := below_down HB6.out hb7 (Nat.le_refl _)
       have HB7 := Lib.hid (below_down HB0.out hb7' (Nat.le_refl _))
       have hz7 := (hb7'.block (w.heap.size + 2) s2).trans HZ.out
       have q7 := fun o => cell_of hz7 o
       have f7 := fun o => frozen_of hz7 o
       have hs7 := hb7'.size
       have z2 : w.heap.size + 2 < w7.heap.size := by omega
       clear hb7 hs7 hb7' hz7))
  all_goals
    go_wp2_with fail
    refine bodyPost_ret (v := .tuple #[.agg #[.int .i64 2, .bool false, .int .i64 5, .string { data := #[] }, .slice none 0 0], .int .i64 0]) (by simp [results, Tryz.results59, go_sem, q7]) rfl ⟨rfl, ?_⟩
    refine ((((HB7.out.setCell ?_ _).setCell ?_ _).setCell ?_ _).setCell ?_ _).setCell ?_ _
    all_goals (simp; try omega)
end Go.Proofs.YtkpfaeodgjbodaaGreatDoor
/-
  How many bytes value.Encode tells of a number. Conditions: none.
-/
namespace Go.Proofs.YtkpfaeodgjbodaaGreatDoor
open Go Go.RowKit
set_option maxRecDepth 100000
set_option linter.unusedVariables false
theorem binfo : (Tryz.prog.info? 5).map (fun i => (i.zero, i.size, i.bytes)) = some (some (.int .u8 0), 1, 1) := by kernel_rfl
/-- v is a slice of n bytes that the call has made, from block base on -/
def bytesN (w : World) (base : Nat) (v : Value) (n : Nat) : Prop := ∃ xs, w.ownsRow base 5 1 v n xs
set_option maxHeartbeats 1600000 in
theorem big_any (m : Int) (base n width : Nat) (hn : n ≤ 1099511627776) (hw : width ≤ 8) (v : Value) (w : World) (hb : base ≤ w.heap.size) (hv : bytesN w base v n) :
    Calls Tryz.prog 39 #[v, .int .u64 m, .int .i64 width] w fun e w' => (∃ v', e = .returned v' ∧ bytesN w' base v' (n + width)) ∧ Below base w w' := by
  obtain ⟨i0, hi, hz0, hz1, hz2⟩ := info_parts binfo
  have HI := Lib.hid (And.intro hi (And.intro hz0 (And.intro hz1 hz2)))
  have HV := Lib.hid hv
  clear hi hz0 hz1 hz2 hv
  go_enter Tryz.func39, Tryz.ntmps39
  go_wp2_with fail
  go_loopw [0, 7] (fun u i wr => ∃ (k : Nat), k ≤ width ∧ i = .int .i64 ((width : Int) - 1 - k) ∧ Below base w wr ∧ Hid (bytesN wr base u (n + k))) (fun _ i _ => (intOf i + 1).toNat)
  case atStart => exact ⟨0, Nat.zero_le _, by simp, Below.refl _ _, HV⟩
  case round =>
    obtain ⟨k, hk, rfl, hbel, hU⟩ := hrel
    obtain ⟨xs, hown⟩ := hU.out
    have HO := Lib.hid hown
    have HB := Lib.hid hbel
    have hbz := hbel.size
    clear hbel hown
    by_cases hlt : k < width
    · have hd : decide (0 ≤ (width : Int) - 1 - k) = true := by simp; omega
      go_wp2_with (at_builtin; refine wpList_append_own_at _ rfl _ _ 28 rfl base 5 i0 (.int .u8 0) 1 1 Tryz.underlying28 HI.out.1 HI.out.2.1 HI.out.2.2.1 HI.out.2.2.2 rfl (by decide) _ _ _ rfl (HO.out.alloc _) ⟨wr.heap.size, 0, none⟩ 1 1 [.int .u8 (m / 2 ^ (8 * (width - 1 - k)) % 256)] rfl rfl ?c1 ?c2 ?c3 ?c4 ?c5 ?_)
      case c1 => exact fun j u hj => news_last hj
      case c2 => intro u hu; simp only [List.mem_cons, List.not_mem_nil, or_false] at hu; subst hu; rfl
      case c3 => unfold maxLen; omega
      case c4 => omega
      case c5 => simp; omega
      intro v' w2 hown2 hgrow _ hat
      have hb2 : Below base w w2 := (HB.out.alloc (by omega) (.cells #[.int .u8 (m / 2 ^ (8 * (width - 1 - k)) % 256)] 5)).grown hgrow (by simp; omega) (fun g hg => (ownBlock_lt HO.out hg).1)
      have HU2 : Hid (bytesN w2 base v' (n + (k + 1))) := ⟨_, hown2⟩
      clear hown2 hgrow hat
      go_wp2_with fail
      go_roundw
      case rel => exact ⟨k + 1, by omega, by simp; omega, hb2, HU2⟩
      case measure => simp [intOf]; omega
    · obtain rfl : k = width := by omega
      have hd : decide (0 ≤ (k : Int) - 1 - k) = false := by simp; omega
      go_wp2_with fail
      go_ret
      exact ⟨⟨_, rfl, hU.out⟩, HB.out⟩
set_option maxHeartbeats 1600000 in
theorem lay_num (n : Int) (w : World) : Calls Tryz.prog 18 #[.slice none 0 0, numA n] w fun e w' => (∃ v', e = .returned v' ∧ bytesN w' w.heap.size v' 9) ∧ Below w.heap.size w w' := by
  obtain ⟨i0, hi, hz0, hz1, hz2⟩ := info_parts binfo
  have HI := Lib.hid (And.intro hi (And.intro hz0 (And.intro hz1 hz2)))
  clear hi hz0 hz1 hz2
  unfold numA
  have hbx := (Below.refl w.heap.size w).alloc (Nat.le_refl _) (.cells #[.int .i64 2, .bool false, .int .i64 n, .string { data := #[] }, .slice none 0 0] 33)
  have HBX := Lib.hid hbx
  have hown0 : (w.alloc (.cells #[.int .i64 2, .bool false, .int .i64 n, .string { data := #[] }, .slice none 0 0] 33)).ownsRow (w.heap.size + 1) 5 1 (.slice none 0 0) 0 [] := ⟨rfl, .inl ⟨rfl, rfl⟩⟩
  have HO := Lib.hid hown0
  clear hbx hown0
  go_enter Tryz.func18, Tryz.ntmps18
  go_wp2_with (at_builtin; refine wpList_append_own_at _ rfl _ _ 28 rfl (w.heap.size + 1) 5 i0 (.int .u8 0) 1 1 Tryz.underlying28 HI.out.1 HI.out.2.1 HI.out.2.2.1 HI.out.2.2.2 rfl (by decide) _ _ _ rfl (HO.out.alloc _) ⟨w.heap.size + 1, 0, none⟩ 1 1 [.int .u8 2] rfl rfl ?c1 ?c2 ?c3 ?c4 ?c5 ?_)
  case c1 =>
    intro j u hj
    have := @news_last (w.alloc (.cells #[.int .i64 2, .bool false, .int .i64 n, .string { data := #[] }, .slice none 0 0] 33)) [.int .u8 2] 5 j u hj
    simpa using this
  case c2 => intro u hu; simp only [List.mem_cons, List.not_mem_nil, or_false] at hu; subst hu; rfl
  case c3 => unfold maxLen; omega
  case c4 => omega
  case c5 => simp
  intro v' w2 hown2 hgrow _ hat
  have hb2 : Below (w.heap.size + 1) (w.alloc (.cells #[.int .i64 2, .bool false, .int .i64 n, .string { data := #[] }, .slice none 0 0] 33)) w2 := ((Below.refl _ _).alloc (by simp) (.cells #[.int .u8 2] 5)).grown hgrow (by simp) (fun g hg => by simp [Value.ownBlock] at hg)
  have hx2 := (hb2.block w.heap.size (by omega)).trans (heap_last (w := w))
  have q2 := fun o => cell_of hx2 o
  have HB2 := Lib.hid (HBX.out.trans (hb2.mono (by omega)))
  have HU2 : Hid (bytesN w2 w.heap.size v' 1) := ⟨_, hown2.1, hown2.2.elim .inl fun ⟨g, cap, cur, e, hg, r⟩ => .inr ⟨g, cap, cur, e, by omega, r⟩⟩
  have hs2 : w.heap.size < w2.heap.size := by have := hb2.size; simp at this; omega
  clear hown2 hgrow hat hb2 hx2
  go_wp2_with fail
  refine (big_any _ w.heap.size 1 8 (by omega) (by omega) v' w2 (by omega) HU2.out).mono ?_
  rintro e w3 ⟨⟨v3, rfl, hv3⟩, hb3⟩
  have HB3 := Lib.hid (HB2.out.trans hb3)
  have HV3 := Lib.hid hv3
  clear hb3 hv3 q2
  go_wp2_with fail
  go_ret
  exact ⟨⟨v3, rfl, HV3.out⟩, HB3.out⟩
def numG (n : Int) : GV := ⟨2, false, n, { data := #[] }, []⟩
theorem numG_fit (n : Int) (h0 : -9223372036854775808 ≤ n) (h1 : n ≤ 9223372036854775807) : (numG n).fit := by
  simp only [numG, GV.fit]
  exact ⟨by omega, by omega, h0, h1, by decide, by simp, trivial⟩
theorem numG_may (n : Int) : vmay (numG n) = true := by
  have : ({ data := #[] } : ByteArray).toList = [] := by rw [toList_nil]; rfl
  simp [vmay, chk_eq, numG, chkFlat, this]
theorem encode_num (n : Int) (h0 : -9223372036854775808 ≤ n) (h1 : n ≤ 9223372036854775807) (w : World) :
    Calls Tryz.prog 6 #[numA n] w fun e w' => (∃ g cap, e = .returned (.tuple #[.slice (some ⟨g, 0, none⟩) 9 cap, .int .i64 0])) ∧ Below w.heap.size w w' := by
  have HL := Lib.hid (lay_num n)
  unfold numA at HL ⊢
  go_enter Tryz.func6, Tryz.ntmps6
  go_wp2_with fail
  have hb0 := (Below.refl w.heap.size w).alloc (Nat.le_refl _) (.cells #[.int .i64 2, .bool false, .int .i64 n, .string { data := #[] }, .slice none 0 0] 33)
  refine (vCheck_any (numG n) (numG_fit n h0 h1) (.slice none 0 0) _ 0 (Nat.zero_le _) (isL_nil _ _)).mono ?_
  rintro e w1 ⟨rfl, hb1⟩
  rw [numG_may]
  have hx1 := (hb1.block w.heap.size (by simp)).trans (heap_last (w := w))
  have q1 := fun o => cell_of hx1 o
  have HB1 := Lib.hid (below_down hb0 hb1 (Nat.le_refl _))
  have hs1 : w.heap.size < w1.heap.size := by have := hb1.size; simp at this; omega
  clear hb0 hb1 hx1
  go_wp2_with fail
  refine (HL.out w1).mono ?_
  rintro e w2 ⟨⟨v, rfl, xs, hv⟩, hb2⟩
  obtain ⟨g, cap, rfl⟩ : ∃ g cap, v = .slice (some ⟨g, 0, none⟩) 9 cap := by
    rcases hv.2 with ⟨_, h0⟩ | ⟨g, cap, _, hv, _⟩
    · omega
    · exact ⟨g, cap, hv⟩
  have HB2 := Lib.hid (below_down HB1.out hb2 (Nat.le_refl _))
  clear hb2 hv q1
  go_wp2_with fail
  go_ret2
  exact ⟨⟨g, cap, rfl⟩, HB2.out⟩
end Go.Proofs.YtkpfaeodgjbodaaGreatDoor
