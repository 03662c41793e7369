/-
  ValueLists returns true, whatever values it is handed. Conditions: lists and texts shorter than 2^31, values of bulk at most 2^40; the table of the tests lies.
-/
import Derived.Test.YtndnondneelgjaaDoorVExact
import Derived.Test.YtndnondneelgjaaDoorListsP
import Derived.Deep.RegionHeld3
import Derived.Deep.DeepCutAuto
import Derived.Deep.CutBlock
import Derived.Deep.CutRange
namespace Go.Proofs.YtndnondneelgjaaDoor
open Go Go.RowKit
set_option maxRecDepth 100000
set_option linter.unusedVariables false
attribute [local go_sem ↓] Go.wp_at_zero Go.wp_at_succ
set_option maxHeartbeats 1600000 in
theorem vlists_any (l : List GV) (fl : fitL l) (hbk : bulkL l ≤ 1099511627776) (hll : l.length ≤ 2147483647) (s : Value) (w : World) (B : Nat) (hB : B ≤ w.heap.size) (ht : tabOk w) (hs : isL w 0 B s l) :
    Calls Tryd.prog 7 #[.agg #[s]] w fun e w' => e = .returned (.bool true) ∧ Below w.heap.size w w' := by
  obtain ⟨a, c, bb, off, rfl, hc, ha, hA⟩ := isL_open hs
  have HS := Lib.hid hs
  have HFL := Lib.hid fl
  have HT := Lib.hid ht
  have HA := Lib.hid hA
  have Ha := Lib.hid ha
  have hb0 := (Below.refl w.heap.size w).alloc (Nat.le_refl _) (.cells #[.slice a l.length c] 24)
  have HLT := Lib.hid (light_any l hbk (.slice a l.length c) _ B (Nat.le_trans hB hb0.size) (isL_below hs hb0 hB))
  have HB0 := Lib.hid hb0
  clear fl ht hs hA ha hbk hb0
  have hfin : Hid (∀ w2, Below w.heap.size w w2 → Calls Tryd.prog 9 #[] w2 fun e w' => e = .returned (.bool true) ∧ Below w2.heap.size w2 w') := fun w2 h2 => wakesV_any w2 (tabOk_below HT.out h2)
  go_enter Tryd.func7, Tryd.ntmps7
  go_wp2_with fail
  refine HLT.out.mono ?_
  rintro e w1 ⟨rfl, hb1⟩
  have HB1 := Lib.hid (below_down HB0.out hb1 (Nat.le_refl _))
  have HX1 := Lib.hid ((hb1.block w.heap.size (by simp)).trans (heap_last (w := w)))
  have hs1 : w.heap.size + 1 ≤ w1.heap.size := by have := hb1.size; simpa using this
  have hs1' : w.heap.size < w1.heap.size := by omega
  clear hb1 HLT HB0
  cases hd0 : decide (vsize l ≤ 9000)
  · go_wp2_with fail
    refine (hfin.out _ HB1.out).mono ?_
    rintro e w2 ⟨rfl, hb2⟩
    go_wp2_with fail
    go_ret
    exact ⟨rfl, below_down HB1.out hb2 (Nat.le_refl _)⟩
  have q1 := fun o => cell_of HX1.out o
  by_cases hbig : 4096 < l.length
  · have hd1 : decide (4096 < (l.length : Int)) = true := by simp; omega
    have hd2 : decide (4096 < l.length) = true := by simp; omega
    go_wp2_with fail
    refine (hfin.out _ HB1.out).mono ?_
    rintro e w2 ⟨rfl, hb2⟩
    go_wp2_with fail
    go_ret
    exact ⟨rfl, below_down HB1.out hb2 (Nat.le_refl _)⟩
  have hd1 : decide (4096 < (l.length : Int)) = false := by simp; omega
  have hd2 : decide (4096 < l.length) = false := by simp; omega
  have h46 : l.length ≤ 4096 := by omega
  go_wp2_with fail
  clear hd0 hd1 hd2 q1 hbig
  go_loopw [3] (fun i wr => ∃ k : Nat, 1 ≤ k ∧ k ≤ 10 ∧ i = .int .i64 k ∧ Below w.heap.size w wr ∧ w.heap.size + 1 ≤ wr.heap.size ∧ Hid (wr.heap[w.heap.size]? = some (.cells #[.slice a l.length c] 24 (0, 0)))) (fun i _ => 10 - (intOf i).toNat)
  case atStart => exact ⟨1, Nat.le_refl _, by omega, rfl, HB1.out, hs1, HX1⟩
  case round =>
    obtain ⟨k, hk, hk6, rfl, hbel, hsz, hbox⟩ := hrel
    have q1 := fun o => cell_of hbox.out o
    by_cases hlt : k < l.length
    rotate_left
    · have hd : decide ((k : Int) < (l.length : Int)) = false := by simp; omega
      have hd2 : decide (k < l.length) = false := by simp; omega
      go_wp2_with fail
      refine (hfin.out _ hbel).mono ?_
      rintro e w1 ⟨rfl, hb1⟩
      go_wp2_with fail
      go_ret
      exact ⟨rfl, below_down hbel hb1 (Nat.le_refl _)⟩
    by_cases h6 : k < 10
    rotate_left
    · obtain rfl : k = 10 := by omega
      go_wp2_with fail
      refine (hfin.out _ hbel).mono ?_
      rintro e w1 ⟨rfl, hb1⟩
      go_wp2_with fail
      go_ret
      exact ⟨rfl, below_down hbel hb1 (Nat.le_refl _)⟩
    obtain ⟨rfl, hb2, hb2'⟩ := Ha.out (by omega)
    have HB := Lib.hid hbel
    have l0 : w.heap.size < wr.heap.size := by omega
    have hkc : k ≤ c := by omega
    have kc1 : (k : Int) ≤ (c : Int) := by omega
    have kc2 : (k : Int) ≤ (l.length : Int) := by omega
    have kc3 : (0 : Int) ≤ (k : Int) := by omega
    have hne : w.heap.size ≠ wr.heap.size := by omega
    have l1 : w.heap.size < wr.heap.size + 1 := by omega
    clear hbel Ha
    have HTK := Lib.hid (isL_take hc hb2' HA.out k (Nat.le_of_lt hlt))
    have HDR := Lib.hid (isL_drop hc hb2' HA.out k (Nat.le_of_lt hlt))
    have ft1 : fitL (l.take k) := fitL_sub HFL.out (fun x hx => List.mem_of_mem_take hx)
    have ft2 : fitL (l.drop k) := fitL_sub HFL.out (fun x hx => List.mem_of_mem_drop hx)
    have eA : (l.take k).length = k := by simp; omega
    have eB : (l.drop k).length = l.length - k := by simp
    obtain ⟨VA, hVA⟩ : ∃ V, V = vmay (gL (l.take k)) := ⟨_, rfl⟩
    obtain ⟨VB, hVB⟩ : ∃ V, V = vmay (gL (l.drop k)) := ⟨_, rfl⟩
    have HCA : Hid (∀ w', Below w.heap.size w w' → Calls Tryd.prog 11 #[.agg #[.int .i64 4, .bool false, .int .i64 0, .string { data := #[] }, .slice (some ⟨bb, off, none⟩) k c]] w' fun e w'' => e = .returned (.bool VA) ∧ Below w'.heap.size w' w'') := fun w' hb => by
      rw [hVA]
      have h := vCheck_any (gL (l.take k)) (gL_fit ft1 (by omega)) (.slice (some ⟨bb, off, none⟩) k c) w' B (Nat.le_trans hB hb.size) (isL_below HTK.out hb hB)
      exact h
    have HCB : Hid (∀ w', Below w.heap.size w w' → Calls Tryd.prog 11 #[.agg #[.int .i64 4, .bool false, .int .i64 0, .string { data := #[] }, .slice (some ⟨bb, off + k * 5, none⟩) (l.length - k) (c - k)]] w' fun e w'' => e = .returned (.bool VB) ∧ Below w'.heap.size w' w'') := fun w' hb => by
      rw [hVB]
      have h := vCheck_any (gL (l.drop k)) (gL_fit ft2 (by omega)) (.slice (some ⟨bb, off + k * 5, none⟩) (l.length - k) (c - k)) w' B (Nat.le_trans hB hb.size) (isL_below HDR.out hb hB)
      exact h
    have HVA := Lib.hid hVA
    have HVB := Lib.hid hVB
    have H46 := Lib.hid h46
    clear ft1 ft2 eA eB hVA hVB h46
    go_wp2_with fail
    obtain ⟨w3, hw3⟩ : ∃ w3, w3 = (wr.alloc (.cells #[.int .i64 4, .bool false, .int .i64 0, .string { data := #[] }, .slice (some ⟨bb, off, none⟩) k c] 28)).alloc (.cells #[.int .i64 4, .bool false, .int .i64 0, .string { data := #[] }, .slice (some ⟨bb, off + k * 5, none⟩) (l.length - k) (c - k)] 28) := ⟨_, rfl⟩
    have hb3 : Below wr.heap.size wr w3 := by rw [hw3]; exact ((Below.refl _ _).alloc (Nat.le_refl _) _).alloc (by simp) _
    have hA3 : w3.heap[wr.heap.size]? = some (.cells #[.int .i64 4, .bool false, .int .i64 0, .string { data := #[] }, .slice (some ⟨bb, off, none⟩) k c] 28 (0, 0)) := by rw [hw3]; exact heap_two
    have hB3 : w3.heap[wr.heap.size + 1]? = some (.cells #[.int .i64 4, .bool false, .int .i64 0, .string { data := #[] }, .slice (some ⟨bb, off + k * 5, none⟩) (l.length - k) (c - k)] 28 (0, 0)) := by rw [hw3]; exact heap_second
    have hs3 : w3.heap.size = wr.heap.size + 2 := by rw [hw3]; simp
    rw [← hw3]
    have HB3 := Lib.hid (below_down HB.out hb3 (Nat.le_refl _))
    have HX3 := Lib.hid ((hb3.block w.heap.size l0).trans hbox.out)
    have HA3 := Lib.hid hA3
    have HBB3 := Lib.hid hB3
    clear hw3 hb3 hA3 hB3 q1
    refine (HCA.out w3 HB3.out).mono ?_
    rintro e w4 ⟨rfl, hb4⟩
    have HB4 := Lib.hid (below_down HB3.out hb4 (Nat.le_refl _))
    have HX4 := Lib.hid ((hb4.block w.heap.size (by omega)).trans HX3.out)
    have HA4 := Lib.hid ((hb4.block wr.heap.size (by omega)).trans HA3.out)
    have HBB4 := Lib.hid ((hb4.block (wr.heap.size + 1) (by omega)).trans HBB3.out)
    have hs4 := hb4.size
    clear hb4
    cases VA
    · go_wp2_with fail
      go_roundw
      case rel => exact ⟨k + 1, by omega, by omega, by go_num, HB4.out, by omega, HX4⟩
      case measure => simp [intOf]; omega
    have qb4 := fun o => cell_of HBB4.out o
    go_wp2_with fail
    clear qb4
    refine (HCB.out w4 HB4.out).mono ?_
    rintro e w5 ⟨rfl, hb5⟩
    have HB5 := Lib.hid (below_down HB4.out hb5 (Nat.le_refl _))
    have HX5 := Lib.hid ((hb5.block w.heap.size (by omega)).trans HX4.out)
    have hA5 := (hb5.block wr.heap.size (by omega)).trans HA4.out
    have hBB5 := (hb5.block (wr.heap.size + 1) (by omega)).trans HBB4.out
    have hs5 := hb5.size
    clear hb5 HA4 HBB4 HA3 HBB3 HCA HCB
    cases VB
    · go_wp2_with fail
      go_roundw
      case rel => exact ⟨k + 1, by omega, by omega, by go_num, HB5.out, by omega, HX5⟩
      case measure => simp [intOf]; omega
    have qa5 := fun o => cell_of hA5 o
    have qb5 := fun o => cell_of hBB5 o
    have hmay : vmay (gL l) = true := by
      have h := may_app HVA.out.symm HVB.out.symm (by rw [List.take_append_drop]; exact H46.out)
      rwa [List.take_append_drop] at h
    have HMAY := Lib.hid hmay
    clear hmay
    go_wp2_with fail
    refine (add_parts l k (Nat.le_of_lt hlt) H46.out HFL.out HVA.out.symm HVB.out.symm _ _ _ _ w5 B (Nat.le_trans hB HB5.out.size) (isL_below HTK.out HB5.out hB) (isL_below HDR.out HB5.out hB)).mono ?_
    rintro e w6 ⟨a1, c1, rfl, hl6, hb6⟩
    have HB6 := Lib.hid (below_down HB5.out hb6 (Nat.le_refl _))
    have HX6 := Lib.hid ((hb6.block w.heap.size (by omega)).trans HX5.out)
    have hs6 := hb6.size
    have HL6 := Lib.hid hl6
    clear hb6 hl6 qa5 qb5 hA5 hBB5
    go_wp2_with fail
    refine (size_of l HFL.out hll HMAY.out a1 c1 w6 HL6.out).mono ?_
    rintro e w7 ⟨a2, c2, rfl, hb7⟩
    have hbv : Below w6.heap.size w6 w7 := (((Below.refl w6.heap.size w6).alloc (Nat.le_refl _) _).alloc (by simp) _).trans (hb7.mono (by omega))
    have hV7 : w7.heap[w6.heap.size]? = some (.cells #[.int .i64 4, .bool false, .int .i64 0, .string { data := #[] }, .slice a1 l.length c1] 28 (0, 0)) := (hb7.block w6.heap.size (by omega)).trans heap_two
    have HBV := Lib.hid hbv
    have HV7 := Lib.hid hV7
    have hs7 : w6.heap.size < w7.heap.size := by have := hb7.size; simp at this; omega
    have hs7' : w6.heap.size < w7.heap.size + 1 := by omega
    have HB7 := Lib.hid (below_down HB6.out hbv (Nat.le_refl _))
    have HX7 := Lib.hid ((hbv.block w.heap.size (by omega)).trans HX6.out)
    have hs70 : w.heap.size < w7.heap.size := by omega
    have hn7 : w6.heap.size ≠ w7.heap.size := by omega
    have hn70 : w.heap.size ≠ w7.heap.size := by omega
    have qv7 := fun o => cell_of hV7 o
    have qx7 := fun o => cell_of HX7.out o
    clear hb7 hbv hV7
    go_wp2_with fail
    obtain ⟨w8, hw8⟩ : ∃ w8, w8 = w7.alloc (.cells #[.int .i64 2, .bool false, .int .i64 (l.length : Nat), .string { data := #[] }, .slice a2 0 c2] 28) := ⟨_, rfl⟩
    have hb8 : Below w7.heap.size w7 w8 := by rw [hw8]; exact (Below.refl _ _).alloc (Nat.le_refl _) _
    have hN8 : w8.heap[w7.heap.size]? = some (.cells #[.int .i64 2, .bool false, .int .i64 (l.length : Nat), .string { data := #[] }, .slice a2 0 c2] 28 (0, 0)) := by rw [hw8]; exact heap_last
    rw [← hw8]
    have HB8 := Lib.hid (below_down HB7.out hb8 (Nat.le_refl _))
    have HX8 := Lib.hid ((hb8.block w.heap.size (by omega)).trans HX7.out)
    have HV8 := Lib.hid ((hb8.block w6.heap.size (by omega)).trans HV7.out)
    have HBV8 := Lib.hid (below_down HBV.out hb8 (Nat.le_refl _))
    have hs8 : w7.heap.size < w8.heap.size := by rw [hw8]; simp
    have HN8 := Lib.hid hN8
    clear hw8 hb8 hN8 qv7 qx7
    refine (zEqVals_any l l hll hll HFL.out HFL.out (.slice a1 l.length c1) (.slice (some ⟨bb, off, none⟩) l.length c) w8 w6.heap.size (by omega) (isL_below HL6.out HBV8.out (Nat.le_refl _)) (isL_wide (isL_below HS.out HB8.out hB) (Nat.le_refl _) (Nat.le_trans hB HB6.out.size))).mono ?_
    rintro e w9 ⟨rfl, hb9⟩
    rw [(sameL_iff l l).2 rfl]
    have HB9 := Lib.hid (below_down HB8.out hb9 (Nat.le_refl _))
    have HX9 := Lib.hid ((hb9.block w.heap.size (by omega)).trans HX8.out)
    have HV9 := Lib.hid ((hb9.block w6.heap.size (by omega)).trans HV8.out)
    have HBV9 := Lib.hid (below_down HBV8.out hb9 (Nat.le_refl _))
    have hN9 := (hb9.block w7.heap.size (by omega)).trans HN8.out
    have hs9 := hb9.size
    have qn9 := fun o => cell_of hN9 o
    have qx9 := fun o => cell_of HX9.out o
    have qv9 := fun o => cell_of HV9.out o
    have l9a : w.heap.size < w9.heap.size := by omega
    have l9b : w7.heap.size < w9.heap.size := by omega
    have l9c : w6.heap.size < w9.heap.size := by omega
    have l9d : bb < w9.heap.size := by omega
    clear hb9 hN9 HB3 HB4 HB5 HX3 HX4 HX5 HX6 HX7 HV7 HV8 HX8 HB7 HB8 HN8 HBV HTK HDR HVA HVB HBV8
    go_upto_region 13 with fail
    obtain ⟨j, hj⟩ : ∃ j, j = k - 1 := ⟨_, rfl⟩
    have hj0 : j < l.length := by omega
    obtain ⟨y, hy⟩ : ∃ y, y = l[j] := ⟨_, rfl⟩
    obtain ⟨ay, cy, y0, y1, y2, y3, y4, hsy⟩ := cellsV_slice (HA.out j hj0)
    rw [← hy] at y0 y1 y2 y3 y4 hsy
    have HYM : Hid (y ∈ l) := by rw [Hid, hy]; exact List.getElem_mem hj0
    have Hsy := Lib.hid hsy
    have hgr : ∀ o, w9.cell? ⟨bb, o, none⟩ = w.cell? ⟨bb, o, none⟩ := fun o => HB9.out.cell (p := ⟨bb, o, none⟩) (Nat.lt_of_lt_of_le hb2' hB)
    have SH : Hid (∀ w' : World, Below w9.heap.size w9 w' → (w'.cell? ⟨w.heap.size, 0, none⟩ = some (.slice (some ⟨bb, off, none⟩) l.length c) ∧ w'.cell? ⟨w6.heap.size, 0, none⟩ = some (.int .i64 4) ∧ w'.cell? ⟨w6.heap.size, 1, none⟩ = some (.bool false) ∧ w'.cell? ⟨w6.heap.size, 2, none⟩ = some (.int .i64 0) ∧ w'.cell? ⟨w6.heap.size, 3, none⟩ = some (.string { data := #[] }) ∧ w'.cell? ⟨w6.heap.size, 4, none⟩ = some (.slice a1 l.length c1) ∧ w'.cell? ⟨bb, off + j * 5, none⟩ = some (.int .i64 y.k) ∧ w'.cell? ⟨bb, off + j * 5 + 1, none⟩ = some (.bool y.b) ∧ w'.cell? ⟨bb, off + j * 5 + 2, none⟩ = some (.int .i64 y.n) ∧ w'.cell? ⟨bb, off + j * 5 + 3, none⟩ = some (.string y.t) ∧ w'.cell? ⟨bb, off + j * 5 + 4, none⟩ = some (.slice ay y.l.length cy) ∧ w.heap.size < w'.heap.size ∧ w6.heap.size < w'.heap.size ∧ bb < w'.heap.size)) := fun w' hb => ⟨(hb.cell (p := ⟨w.heap.size, 0, none⟩) l9a).trans ((qx9 0).trans rfl), (hb.cell (p := ⟨w6.heap.size, 0, none⟩) l9c).trans ((qv9 0).trans rfl), (hb.cell (p := ⟨w6.heap.size, 1, none⟩) l9c).trans ((qv9 1).trans rfl), (hb.cell (p := ⟨w6.heap.size, 2, none⟩) l9c).trans ((qv9 2).trans rfl), (hb.cell (p := ⟨w6.heap.size, 3, none⟩) l9c).trans ((qv9 3).trans rfl), (hb.cell (p := ⟨w6.heap.size, 4, none⟩) l9c).trans ((qv9 4).trans rfl), (hb.cell (p := ⟨bb, off + j * 5, none⟩) l9d).trans ((hgr _).trans y0), (hb.cell (p := ⟨bb, off + j * 5 + 1, none⟩) l9d).trans ((hgr _).trans y1), (hb.cell (p := ⟨bb, off + j * 5 + 2, none⟩) l9d).trans ((hgr _).trans y2), (hb.cell (p := ⟨bb, off + j * 5 + 3, none⟩) l9d).trans ((hgr _).trans y3), (hb.cell (p := ⟨bb, off + j * 5 + 4, none⟩) l9d).trans ((hgr _).trans y4), Nat.lt_of_lt_of_le l9a hb.size, Nat.lt_of_lt_of_le l9c hb.size, Nat.lt_of_lt_of_le l9d hb.size⟩
    have HHS : Hid (∀ (w' : World) (g : Nat), Below w9.heap.size w9 w' → w9.heap.size ≤ g → w'.heap[g]? = some (.cells #[.int .i64 4, .bool false, .int .i64 0, .string { data := #[] }, .slice a1 l.length c1, .int .i64 y.k, .bool y.b, .int .i64 y.n, .string y.t, .slice ay y.l.length cy] 28 (0, 0)) → Calls Tryd.prog 19 #[.int .i64 22, .slice (some ⟨g, 0, none⟩) 2 2] w' fun e w'' => ∃ a2 c2, e = .returned (.tuple #[.agg #[.int .i64 1, .bool true, .int .i64 0, .string { data := #[] }, .slice a2 0 c2], .int .i64 0]) ∧ Below w'.heap.size w' w'' ∧ Below w9.heap.size w9 w'') := fun w' g hb hg hh => by
      refine (has_at l y HYM.out HFL.out hll HMAY.out a1 ay c1 cy g w9.heap.size w' hg hh (isL_wide (isL_below HL6.out (below_down HBV9.out hb (Nat.le_refl _)) (Nat.le_refl _)) (Nat.le_refl _) (Nat.le_of_lt l9c)) (isL_wide (isL_below Hsy.out (below_down HB9.out hb (Nat.le_refl _)) hB) (Nat.le_refl _) (Nat.le_of_lt (Nat.lt_of_le_of_lt hB l9a)))).mono ?_
      rintro e w'' ⟨a2, c2, rfl, h⟩
      exact ⟨a2, c2, rfl, h, below_down hb h (Nat.le_refl _)⟩
    have i3 : (k : Int) - 1 = (j : Int) := by omega
    have i4 : IntKind.i64.wrap (j : Int) = (j : Int) := IntWalk.i64_in _ (by omega)
    have j0 : (0 : Int) ≤ (j : Int) := by omega
    have j1 : (j : Int) < (l.length : Int) := by omega
    have s0 := SH.out w9 (Below.refl _ _)
    have HHJ := Lib.hid hj
    have HK1 := Lib.hid hk
    have hle9 : w9.heap.size ≤ w9.heap.size + 1 := Nat.le_succ _
    have hle0 : w9.heap.size ≤ w9.heap.size := Nat.le_refl _
    clear hj hy hsy hgr y0 y1 y2 y3 y4 qx9 qv9 qn9 hk
    obtain ⟨t0, v0, v1, v2, v3, v4, y0, y1, y2, y3, y4, m0, m1, m2⟩ := s0
    clear HFL HT HA hfin HS HB1 HX1 hs1 hs1' HMAY HL6 HYM Hsy HBV9
    go_region_held3 (fun w' => w'.cell? ⟨w.heap.size, 0, none⟩ = some (.slice (some ⟨bb, off, none⟩) l.length c) ∧ w'.cell? ⟨w6.heap.size, 0, none⟩ = some (.int .i64 4) ∧ w'.cell? ⟨w6.heap.size, 1, none⟩ = some (.bool false) ∧ w'.cell? ⟨w6.heap.size, 2, none⟩ = some (.int .i64 0) ∧ w'.cell? ⟨w6.heap.size, 3, none⟩ = some (.string { data := #[] }) ∧ w'.cell? ⟨w6.heap.size, 4, none⟩ = some (.slice a1 l.length c1) ∧ w'.cell? ⟨bb, off + j * 5, none⟩ = some (.int .i64 y.k) ∧ w'.cell? ⟨bb, off + j * 5 + 1, none⟩ = some (.bool y.b) ∧ w'.cell? ⟨bb, off + j * 5 + 2, none⟩ = some (.int .i64 y.n) ∧ w'.cell? ⟨bb, off + j * 5 + 3, none⟩ = some (.string y.t) ∧ w'.cell? ⟨bb, off + j * 5 + 4, none⟩ = some (.slice ay y.l.length cy) ∧ w.heap.size < w'.heap.size ∧ w6.heap.size < w'.heap.size ∧ bb < w'.heap.size)
      (first
        | (with_reducible refine SH.out _ ?_
           repeat (with_reducible first | exact HB10.out | exact Below.refl _ _ | refine Below.setCell (p := ⟨w10.heap.size, _, none⟩) ?_ hle10 _ | refine Below.setCell (p := ⟨w9.heap.size, _, none⟩) ?_ hle0 _ | refine Below.setCell (p := ⟨w9.heap.size + 1, _, none⟩) ?_ hle9 _ | refine Below.alloc ?_ (Nat.le_refl _) _ | refine Below.alloc ?_ (le_alloc (Nat.le_refl _)) _ | refine Below.alloc ?_ hle10 _ | refine Below.drew ?_)))
      (first
        | (go_simp
           go_at_call 19
           refine (HHS.out _ _ ?hb ?hg ?hh).mono ?_
           case hb => first | exact ((Below.refl w9.heap.size w9).alloc (Nat.le_refl _) _).drew | exact (((Below.refl w9.heap.size w9).alloc (Nat.le_refl _) _).alloc (le_alloc (Nat.le_refl _)) _).drew
           case hg => omega
           case hh => first | exact heap_last | exact heap_two | exact heap_second
           rintro e w10 ⟨a3, c3, rfl, hb10, hb10'⟩
           have HB10 := Lib.hid hb10'
           have hle10 : w9.heap.size ≤ w10.heap.size := hb10'.size
           have m3 : w.heap.size < w10.heap.size := by omega
           have m4 : w6.heap.size < w10.heap.size := by omega
           have m5 : bb < w10.heap.size := by omega
           first
             | (have hz10 : w10.heap[w9.heap.size + 1]? = some (.cells #[.int .i64 0, .bool false, .int .i64 0, .string { data := #[] }, .slice none 0 0] 28 (0, 0)) := (hb10.block (w9.heap.size + 1) (by show _ < ((w9.alloc _).alloc _).heap.size; simp)).trans heap_second
                have qz10 := fun o => cell_of hz10 o
                have fz10 := fun o => frozen_of hz10 o
                have lz10 : w9.heap.size + 1 < w10.heap.size := (Array.getElem?_eq_some_iff.1 hz10).1
                clear hz10)
             | (have hz10 : w10.heap[w9.heap.size]? = some (.cells #[.int .i64 0, .bool false, .int .i64 0, .string { data := #[] }, .slice none 0 0] 28 (0, 0)) := (hb10.block w9.heap.size (by show _ < ((w9.alloc _).alloc _).heap.size; simp; omega)).trans heap_two
                have qz10 := fun o => cell_of hz10 o
                have fz10 := fun o => frozen_of hz10 o
                have lz10 : w9.heap.size < w10.heap.size := (Array.getElem?_eq_some_iff.1 hz10).1
                clear hz10)
             | skip
           clear hb10 hb10'))
    all_goals
      clear SH HHS t0 v0 v1 v2 v3 v4 y0 y1 y2 y3 y4 m0 m1 m2 m3 m4 m5 i3 i4 j0 j1
      go_wp2_with fail
      go_roundw
      case rel =>
        refine ⟨k + 1, by omega, by omega, by go_num, rel_end HB9.out HX9.out l9a ?_⟩
        with_reducible first | exact below_set5 HB10.out hle0 _ _ _ _ _ | exact below_set5 HB10.out hle9 _ _ _ _ _ | exact HB10.out.alloc hle10 _ | exact below_set5 (HB10.out.alloc hle10 _) hle10 _ _ _ _ _
      case measure => simp [intOf]; omega
end Go.Proofs.YtndnondneelgjaaDoor
