/-
  ValueExact returns true, whatever values it is handed. Conditions: lists and texts shorter than 2^31, values of bulk at most 2^40; the table of the tests lies.
-/
import Derived.Test.YtndnondneelgjaaDoorWakesV
import Derived.Test.YtndnondneelgjaaDoorOrderR
import Derived.Test.YtndnondneelgjaaDoorVTextR
import Derived.Deep.DrawnRows
namespace Go.Proofs.YtndnondneelgjaaDoor
open Go Go.RowKit
set_option maxRecDepth 100000
set_option linter.unusedVariables false
theorem light_any (l : List GV) (hb : bulkL l ≤ 1099511627776) (s : Value) (w : World) (B : Nat) (hB : B ≤ w.heap.size) (hs : isL w 0 B s l) :
    Calls Tryd.prog 8 #[.agg #[s]] w fun e w' => e = .returned (.bool (decide (vsize l ≤ 9000))) ∧ Below w.heap.size w w' := by
  have HS := Lib.hid hs
  obtain ⟨a, c, rfl⟩ := isL_form hs
  have hb0 := (Below.refl w.heap.size w).alloc (Nat.le_refl _) (.cells #[.slice a l.length c] 24)
  have HC := Lib.hid (Size_any l hb (.slice a l.length c) _ B (Nat.le_trans hB hb0.size) (isL_below HS.out hb0 hB))
  have HB0 := Lib.hid hb0
  clear hs hb0 hb
  go_enter Tryd.func8, Tryd.ntmps8
  go_wp2_with fail
  refine HC.out.mono ?_
  rintro e w1 ⟨rfl, hb1⟩
  go_wp2_with fail
  go_ret
  exact ⟨ret_bool (by simp; omega), below_down HB0.out hb1 (Nat.le_refl _)⟩
attribute [local go_sem ↓] Go.wp_at_zero Go.wp_at_succ
set_option maxHeartbeats 1600000 in
theorem vexact_any (l : List GV) (fl : fitL l) (hbk : bulkL l ≤ 1099511627776) (hll : l.length ≤ 2147483647) (s : Value) (w : World) (B : Nat) (hB : B ≤ w.heap.size) (ht : tabOk w) (hs : isL w 0 B s l) :
    Calls Tryd.prog 3 #[.agg #[s]] w fun e w' => e = .returned (.bool true) ∧ Below w.heap.size w w' := by
  obtain ⟨a, c, bb, off, rfl, hc, ha, hA⟩ := isL_open hs
  have HS := Lib.hid hs
  have HFL := Lib.hid fl
  have HBK := Lib.hid hbk
  have HT := Lib.hid ht
  have HA := Lib.hid hA
  have Ha := Lib.hid ha
  have hb0 := (Below.refl w.heap.size w).alloc (Nat.le_refl _) (.cells #[.slice a l.length c] 24)
  have HLT := Lib.hid (light_any l hbk (.slice a l.length c) _ B (Nat.le_trans hB hb0.size) (isL_below hs hb0 hB))
  have HB0 := Lib.hid hb0
  clear fl ht hs hA ha hbk hb0
  have hfin : Hid (∀ w2, Below w.heap.size w w2 → Calls Tryd.prog 9 #[] w2 fun e w' => e = .returned (.bool true) ∧ Below w2.heap.size w2 w') := fun w2 h2 => wakesV_any w2 (tabOk_below HT.out h2)
  go_enter Tryd.func3, Tryd.ntmps3
  go_wp2_with fail
  refine HLT.out.mono ?_
  rintro e w1 ⟨rfl, hb1⟩
  have HB1 := Lib.hid (below_down HB0.out hb1 (Nat.le_refl _))
  have HX1 := Lib.hid ((hb1.block w.heap.size (by simp)).trans (heap_last (w := w)))
  have hs1 : w.heap.size + 1 ≤ w1.heap.size := by have := hb1.size; simpa using this
  clear hb1
  cases hd0 : decide (vsize l ≤ 9000)
  · go_wp2_with fail
    refine (hfin.out _ HB1.out).mono ?_
    rintro e w2 ⟨rfl, hb2⟩
    go_wp2_with fail
    go_ret
    exact ⟨rfl, below_down HB1.out hb2 (Nat.le_refl _)⟩
  go_wp2_with fail
  clear hd0
  go_loopw [3] (fun i wr => ∃ k : Nat, k ≤ l.length ∧ k ≤ 10 ∧ i = .int .i64 k ∧ Below w.heap.size w wr ∧ w.heap.size + 1 ≤ wr.heap.size ∧ Hid (wr.heap[w.heap.size]? = some (.cells #[.slice a l.length c] 24 (0, 0)))) (fun i _ => 10 - (intOf i).toNat)
  case atStart => exact ⟨0, Nat.zero_le _, by omega, rfl, HB1.out, hs1, HX1⟩
  case round =>
    obtain ⟨k, hk, hk6, rfl, hbel, hsz, hbox⟩ := hrel
    have q1 := fun o => cell_of hbox.out o
    by_cases hlt : k < l.length
    rotate_left
    · obtain rfl : k = l.length := by omega
      go_wp2_with fail
      refine (hfin.out _ hbel).mono ?_
      rintro e w1 ⟨rfl, hb1⟩
      go_wp2_with fail
      go_ret
      exact ⟨rfl, below_down hbel hb1 (Nat.le_refl _)⟩
    by_cases h6 : k < 10
    rotate_left
    · obtain rfl : k = 10 := by omega
      go_wp2_with fail
      refine (hfin.out _ hbel).mono ?_
      rintro e w1 ⟨rfl, hb1⟩
      go_wp2_with fail
      go_ret
      exact ⟨rfl, below_down hbel hb1 (Nat.le_refl _)⟩
    obtain ⟨rfl, hb2, hb2'⟩ := Ha.out (by omega)
    obtain ⟨ax, cx, x0, x1, x2, x3, x4, hsx⟩ := cellsV_slice (HA.out k hlt)
    have HB := Lib.hid hbel
    have hgr : ∀ o, wr.cell? ⟨bb, o, none⟩ = w.cell? ⟨bb, o, none⟩ := fun o => HB.out.cell (p := ⟨bb, o, none⟩) (Nat.lt_of_lt_of_le hb2' hB)
    have hzb : bb < wr.heap.size := by omega
    have Hsx := Lib.hid hsx
    have HFX := Lib.hid (fitL_mem HFL.out _ (List.getElem_mem hlt))
    have HBX := Lib.hid (Nat.le_trans (bulkL_mem (List.getElem_mem hlt)) HBK.out)
    have X0 := Lib.hid x0
    have X1 := Lib.hid x1
    have X2 := Lib.hid x2
    have X3 := Lib.hid x3
    have X4 := Lib.hid x4
    clear hsx hbel Ha
    have e6 : decide ((k : Int) < 10) = true := by simp; omega
    obtain ⟨w0, rfl⟩ : ∃ w0, w0 = wr := ⟨_, rfl⟩
    go_wp2_with fail
    refine (zCopyValue_any l[k] HFX.out (.slice ax l[k].l.length cx) w0 B (Nat.le_trans hB HB.out.size) (isL_below Hsx.out HB.out hB)).mono ?_
    rintro e w2 hgv
    obtain ⟨a1, c1, rfl, hr, hb3⟩ := hgv
    have hl2 : isL w2 0 w2.heap.size (.slice a1 l[k].l.length c1) l[k].l := isR_isL hr (fun b hb => ⟨Nat.zero_le _, hb.2⟩)
    have HB2 := Lib.hid (below_down HB.out hb3 (Nat.le_refl _))
    have HX2 := Lib.hid ((hb3.block w.heap.size (by omega)).trans hbox.out)
    have hs2 := hb3.size
    simp only [GV.agg]
    clear hr hb3 q1 hgr x0 x1 x2 x3 x4
    go_wp2_with fail
    obtain ⟨w3, hw3⟩ : ∃ w3, w3 = w2.alloc (.cells #[.int .i64 l[k].k, .bool l[k].b, .int .i64 l[k].n, .string l[k].t, .slice a1 l[k].l.length c1] 28) := ⟨_, rfl⟩
    have hb4 : Below w2.heap.size w2 w3 := by rw [hw3]; exact (Below.refl _ _).alloc (Nat.le_refl _) _
    have hc3 : w3.heap[w2.heap.size]? = some (.cells #[.int .i64 l[k].k, .bool l[k].b, .int .i64 l[k].n, .string l[k].t, .slice a1 l[k].l.length c1] 28 (0, 0)) := by rw [hw3]; exact heap_last
    have hs3 : w2.heap.size < w3.heap.size := by rw [hw3]; simp
    rw [← hw3]
    have HB3 := Lib.hid (below_down HB2.out hb4 (Nat.le_refl _))
    have HX3 := Lib.hid ((hb4.block w.heap.size (by omega)).trans HX2.out)
    have HC3 := Lib.hid hc3
    have HL3 := Lib.hid (isL_below hl2 hb4 (Nat.le_refl _))
    clear hw3 hb4 hl2
    have q1 := fun o => cell_of HX3.out o
    have qc := fun o => cell_of hc3 o
    have hgr : ∀ o, w3.cell? ⟨bb, o, none⟩ = w.cell? ⟨bb, o, none⟩ := fun o => HB3.out.cell (p := ⟨bb, o, none⟩) (Nat.lt_of_lt_of_le hb2' hB)
    have x0 := X0.out
    have x1 := X1.out
    have x2 := X2.out
    have x3 := X3.out
    have x4 := X4.out
    have ga := cell_grow (Below.refl w3.heap.size w3) (Nat.le_refl _) (show w.heap.size < w3.heap.size by omega)
    have gc := cell_grow (Below.refl w3.heap.size w3) (Nat.le_refl _) hs3
    have gl := cell_grow (Below.refl w3.heap.size w3) (Nat.le_refl _) (show bb < w3.heap.size by omega)
    have HBG := Lib.hid (fun d os => below_grow HB3.out (Nat.le_refl _) d os)
    have HBH := Lib.hid (fun d os => below_grow (Below.refl w3.heap.size w3) (Nat.le_refl _) d os)
    obtain ⟨tx, htx⟩ : ∃ t, t = vtext l[k] := ⟨_, rfl⟩
    have HC1 : Hid (∀ d os, Calls Tryd.prog 11 #[l[k].agg (.slice a1 l[k].l.length c1)] (Go.Sort.grow (redrawn w3 d) os) fun e w' => e = .returned (.bool (vmay l[k])) ∧ Below (Go.Sort.grow (redrawn w3 d) os).heap.size (Go.Sort.grow (redrawn w3 d) os) w') := fun d os =>
      vCheck_any l[k] HFX.out (.slice a1 l[k].l.length c1) _ w2.heap.size (Nat.le_trans (Nat.le_of_lt hs3) (HBH.out d os).size) (isL_below HL3.out (HBH.out d os) (Nat.le_of_lt hs3))
    have HC2 : Hid (∀ d os, Calls Tryd.prog 12 #[l[k].agg (.slice ax l[k].l.length cx)] (Go.Sort.grow (redrawn w3 d) os) fun e w' => e = .returned (.bool (vmay l[k])) ∧ Below (Go.Sort.grow (redrawn w3 d) os).heap.size (Go.Sort.grow (redrawn w3 d) os) w') := fun d os =>
      rCheck_any l[k] HFX.out (.slice ax l[k].l.length cx) _ B (Nat.le_trans hB (HBG.out d os).size) (isL_below Hsx.out (HBG.out d os) hB)
    have HC4 : Hid (∀ d os, Calls Tryd.prog 13 #[l[k].agg (.slice a1 l[k].l.length c1)] (Go.Sort.grow (redrawn w3 d) os) fun e w' => e = .returned (.string tx) ∧ Below (Go.Sort.grow (redrawn w3 d) os).heap.size (Go.Sort.grow (redrawn w3 d) os) w') := fun d os => by
      rw [htx]
      exact vText_any l[k] HFX.out HBX.out (.slice a1 l[k].l.length c1) _ w2.heap.size (Nat.le_trans (Nat.le_of_lt hs3) (HBH.out d os).size) (tabOk_below HT.out (HBG.out d os)) (isL_below HL3.out (HBH.out d os) (Nat.le_of_lt hs3))
    have HC5 : Hid (∀ d os, Calls Tryd.prog 14 #[l[k].agg (.slice ax l[k].l.length cx)] (Go.Sort.grow (redrawn w3 d) os) fun e w' => e = .returned (.string tx) ∧ Below (Go.Sort.grow (redrawn w3 d) os).heap.size (Go.Sort.grow (redrawn w3 d) os) w') := fun d os => by
      rw [htx]
      exact rText_any l[k] HFX.out HBX.out (.slice ax l[k].l.length cx) _ B (Nat.le_trans hB (HBG.out d os).size) (tabOk_below HT.out (HBG.out d os)) (isL_below Hsx.out (HBG.out d os) hB)
    simp only [GV.agg] at HC1 HC2 HC4 HC5
    have hne : (vmay l[k] != vmay l[k]) = false := by simp
    have hne2 : (tx.toList != tx.toList) = false := by simp
    have hne3 : (tx.toList == tx.toList) = true := by simp
    clear htx hc3
    go_wp2_with fail
    refine wp_region_quiet_below (by kernel_rfl) (by kernel_rfl) ?_
    repeat (quiet_step (fail))
    quiet_step (exact Calls.regrown_of (HC1.out _ _))
    repeat (quiet_step (fail))
    quiet_step (exact Calls.regrown_of (HC2.out _ _))
    repeat (quiet_step (fail))
    quiet_step (exact Calls.regrown_of (HC4.out _ _))
    repeat (quiet_step (fail))
    quiet_step (exact Calls.regrown_of (HC5.out _ _))
    repeat (quiet_step (fail))
    refine wpQuiet_nil ?_
    intro w6 hw6
    have hb6 : Below w3.heap.size w3 w6 := by
      obtain ⟨p, hp⟩ := hw6
      rw [hp]
      exact below_grow (Below.refl w3.heap.size w3) (Nat.le_refl _) _ _
    have HB6 := Lib.hid hb6
    clear hw6 ga gc gl q1 qc hgr x0 x1 x2 x3 x4 HC1 HC2 HC4 HC5 hne hne2 hne3 hb6
    go_wp2_with fail
    go_loopw [5] (fun i wr => ∃ j : Nat, j ≤ l.length ∧ j ≤ 10 ∧ i = .int .i64 j ∧ Below w3.heap.size w3 wr) (fun i _ => 10 - (intOf i).toNat)
    case atStart => exact ⟨0, Nat.zero_le _, by omega, rfl, HB6.out⟩
    case round =>
      obtain ⟨j, hj, hj10, rfl, hbel⟩ := hrel
      have HK := Lib.hid hbel
      have HW := Lib.hid (below_down HB3.out hbel (Nat.le_refl _))
      have hwr := hbel.size
      have HXr := Lib.hid ((hbel.block w.heap.size (by omega)).trans HX3.out)
      have HCr := Lib.hid ((hbel.block w2.heap.size hs3).trans HC3.out)
      have q1 := fun o => cell_of HXr.out o
      clear hbel
      by_cases hjl : j < l.length
      rotate_left
      · obtain rfl : j = l.length := by omega
        go_wp2_with fail
        go_roundw
        case rel => exact ⟨k + 1, by omega, by omega, by go_num, HW.out, by omega, HXr⟩
        case measure => simp [intOf]; omega
      by_cases hj6 : j < 10
      rotate_left
      · obtain rfl : j = 10 := by omega
        go_wp2_with fail
        go_roundw
        case rel => exact ⟨k + 1, by omega, by omega, by go_num, HW.out, by omega, HXr⟩
        case measure => simp [intOf]; omega
      have qc := fun o => cell_of HCr.out o
      have hgr : ∀ o, wr.cell? ⟨bb, o, none⟩ = w.cell? ⟨bb, o, none⟩ := fun o => HW.out.cell (p := ⟨bb, o, none⟩) (Nat.lt_of_lt_of_le hb2' hB)
      have x0 := X0.out
      have x1 := X1.out
      have x2 := X2.out
      have x3 := X3.out
      have x4 := X4.out
      obtain ⟨ay, cy, y0, y1, y2, y3, y4, hsy⟩ := cellsV_slice (HA.out j hjl)
      have Hsy := Lib.hid hsy
      have HFY := Lib.hid (fitL_mem HFL.out _ (List.getElem_mem hjl))
      have ga := cell_grow (Below.refl wr.heap.size wr) (Nat.le_refl _) (show w.heap.size < wr.heap.size by omega)
      have gc := cell_grow (Below.refl wr.heap.size wr) (Nat.le_refl _) (show w2.heap.size < wr.heap.size by omega)
      have gl := cell_grow (Below.refl wr.heap.size wr) (Nat.le_refl _) (show bb < wr.heap.size by omega)
      have HBG := Lib.hid (fun d os => below_grow HW.out (Nat.le_refl _) d os)
      have HBH := Lib.hid (fun d os => below_grow HK.out (Nat.le_refl _) d os)
      have hle : w2.heap.size ≤ w3.heap.size := Nat.le_of_lt hs3
      have HC1 : Hid (∀ d os, Calls Tryd.prog 15 #[l[k].agg (.slice a1 l[k].l.length c1), l[j].agg (.slice ay l[j].l.length cy)] (Go.Sort.grow (redrawn wr d) os) fun e w' => e = .returned (.bool (same l[k] l[j])) ∧ Below (Go.Sort.grow (redrawn wr d) os).heap.size (Go.Sort.grow (redrawn wr d) os) w') := fun d os =>
        vSame_any l[k] l[j] HFX.out HFY.out (.slice a1 l[k].l.length c1) (.slice ay l[j].l.length cy) _ w2.heap.size (Nat.le_trans hle (HBH.out d os).size) (isL_below HL3.out (HBH.out d os) hle) (isL_wide (isL_below Hsy.out (HBG.out d os) hB) (Nat.le_refl _) (by have := HB2.out.size; omega))
      have HC2 : Hid (∀ d os, Calls Tryd.prog 16 #[l[k].agg (.slice ax l[k].l.length cx), l[j].agg (.slice ay l[j].l.length cy)] (Go.Sort.grow (redrawn wr d) os) fun e w' => e = .returned (.bool (same l[k] l[j])) ∧ Below (Go.Sort.grow (redrawn wr d) os).heap.size (Go.Sort.grow (redrawn wr d) os) w') := fun d os =>
        zSame_any l[k] l[j] HFX.out HFY.out (.slice ax l[k].l.length cx) (.slice ay l[j].l.length cy) _ B (Nat.le_trans hB (HBG.out d os).size) (isL_below Hsx.out (HBG.out d os) hB) (isL_below Hsy.out (HBG.out d os) hB)
      have HC4 : Hid (∀ d os, Calls Tryd.prog 17 #[l[k].agg (.slice a1 l[k].l.length c1), l[j].agg (.slice ay l[j].l.length cy)] (Go.Sort.grow (redrawn wr d) os) fun e w' => e = .returned (.int .i64 (ordV l[k] l[j])) ∧ Below (Go.Sort.grow (redrawn wr d) os).heap.size (Go.Sort.grow (redrawn wr d) os) w') := fun d os =>
        vOrder_any l[k] l[j] HFX.out HFY.out (.slice a1 l[k].l.length c1) (.slice ay l[j].l.length cy) _ w2.heap.size (Nat.le_trans hle (HBH.out d os).size) (isL_below HL3.out (HBH.out d os) hle) (isL_wide (isL_below Hsy.out (HBG.out d os) hB) (Nat.le_refl _) (by have := HB2.out.size; omega))
      have HC5 : Hid (∀ d os, Calls Tryd.prog 18 #[l[k].agg (.slice ax l[k].l.length cx), l[j].agg (.slice ay l[j].l.length cy)] (Go.Sort.grow (redrawn wr d) os) fun e w' => e = .returned (.int .i64 (ordV l[k] l[j])) ∧ Below (Go.Sort.grow (redrawn wr d) os).heap.size (Go.Sort.grow (redrawn wr d) os) w') := fun d os =>
        rOrder_any l[k] l[j] HFX.out HFY.out (.slice ax l[k].l.length cx) (.slice ay l[j].l.length cy) _ B (Nat.le_trans hB (HBG.out d os).size) (isL_below Hsx.out (HBG.out d os) hB) (isL_below Hsy.out (HBG.out d os) hB)
      simp only [GV.agg] at HC1 HC2 HC4 HC5
      have hne : (same l[k] l[j] != same l[k] l[j]) = false := by simp
      have hne2 : (ordV l[k] l[j] != ordV l[k] l[j]) = false := by simp
      clear hsy
      go_wp2_with fail
      refine wp_region_quiet_below (by kernel_rfl) (by kernel_rfl) ?_
      repeat (quiet_step (fail))
      quiet_step (exact Calls.regrown_of (HC1.out _ _))
      repeat (quiet_step (fail))
      quiet_step (exact Calls.regrown_of (HC2.out _ _))
      repeat (quiet_step (fail))
      quiet_step (exact Calls.regrown_of (HC4.out _ _))
      repeat (quiet_step (fail))
      quiet_step (exact Calls.regrown_of (HC5.out _ _))
      repeat (quiet_step (fail))
      refine wpQuiet_nil ?_
      intro w6 hw6
      have hb6 : Below wr.heap.size wr w6 := by
        obtain ⟨p, hp⟩ := hw6
        rw [hp]
        exact below_grow (Below.refl wr.heap.size wr) (Nat.le_refl _) _ _
      have HK6 := Lib.hid (below_down HK.out hb6 (Nat.le_refl _))
      clear hw6 hb6 ga gc gl q1 qc hgr x0 x1 x2 x3 x4 y0 y1 y2 y3 y4 HC1 HC2 HC4 HC5
      go_wp2_with fail
      go_roundw
      case rel => exact ⟨j + 1, by omega, by omega, by go_num, HK6.out⟩
      case measure => simp [intOf]; omega
end Go.Proofs.YtndnondneelgjaaDoor
