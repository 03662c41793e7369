/-
  What the references' Apply tells of the comparison gt. Conditions: lists and texts shorter than 2^31.
-/
import Derived.Test.YtljljhjdlicfeaaGreatMS
import Derived.Test.YtljljhjdlicfeaaGreatPAD
namespace Go.Proofs.YtljljhjdlicfeaaGreat
open Go Go.RowKit
set_option maxRecDepth 100000
set_option linter.unusedVariables false
set_option maxHeartbeats 800000 in
theorem rA_gtno (x y : GV) (fx : x.fit) (fy : y.fit) (hvx : vmay x = true) (hvy : vmay y = true) (hk : x.k = y.k) (h1 : x.k ≠ 1) (h2 : x.k ≠ 2) (h3 : x.k ≠ 3) (s : Value) (w : World) (B : Nat) (hB : B ≤ w.heap.size) (hs : isL w 0 B s [x, y]) : Calls Tryz.prog 36 #[.int .i64 14, s] w (RefO w (gtP x y)) := by
  obtain ⟨a, c, bb, off, rfl, hc, ha, hA⟩ := isL_open hs
  obtain ⟨rfl, hb1, hb2⟩ := ha (by simp)
  obtain ⟨ax, cx, x0, x1, x2, x3, x4, hsx⟩ := cellsV_slice (hA 0 (by simp))
  obtain ⟨ay, cy, y0, y1, y2, y3, y4, hsy⟩ := cellsV_slice (hA 1 (by simp))
  simp only [List.getElem_cons_zero, List.getElem_cons_succ, Nat.zero_mul, Nat.one_mul, Nat.add_zero] at x0 x1 x2 x3 x4 hsx y0 y1 y2 y3 y4 hsy
  have HT := Lib.hid (fun w => takesW_any 14 w)
  rw [show takesV 14 = 2 by decide] at HT
  have HX0 := Lib.hid (And.intro x0 (And.intro x1 (And.intro x2 (And.intro x3 x4))))
  have HY0 := Lib.hid (And.intro y0 (And.intro y1 (And.intro y2 (And.intro y3 y4))))
  have HCX : Hid (∀ w', Below w.heap.size w w' → Calls Tryz.prog 35 #[.agg #[.int .i64 x.k, .bool x.b, .int .i64 x.n, .string x.t, .slice ax x.l.length cx]] w' fun e w'' => e = .returned (.bool true) ∧ Below w'.heap.size w' w'') := fun w' h => by
    have h2 := rCheck_any x fx (.slice ax x.l.length cx) w' B (Nat.le_trans hB h.size) (isL_below hsx h hB)
    rw [hvx] at h2
    exact h2
  have HCY : Hid (∀ w', Below w.heap.size w w' → Calls Tryz.prog 35 #[.agg #[.int .i64 y.k, .bool y.b, .int .i64 y.n, .string y.t, .slice ay y.l.length cy]] w' fun e w'' => e = .returned (.bool true) ∧ Below w'.heap.size w' w'') := fun w' h => by
    have h2 := rCheck_any y fy (.slice ay y.l.length cy) w' B (Nat.le_trans hB h.size) (isL_below hsy h hB)
    rw [hvy] at h2
    exact h2
  have Hsx := Lib.hid hsx
  have Hsy := Lib.hid hsy
  have HFX := Lib.hid fx
  have HFY := Lib.hid fy
  obtain ⟨P, hP⟩ : ∃ P, P = gtP x y := ⟨_, rfl⟩
  rw [← hP]
  have HP := Lib.hid hP
  have HN : Hid (P = noP 4) := by rw [Hid, hP, gtP, cmp_no]; simp [cmpOk, h1, h2, h3]
  have hkk : (x.k != y.k) = false := by simpa using hk
  have e1 : (x.k != 1) = true := by simpa using h1
  have e2 : (x.k != 2) = true := by simpa using h2
  have e3 : (x.k != 3) = true := by simpa using h3
  clear hk h1 h2 h3
  clear hs hA ha x0 x1 x2 x3 x4 hsx y0 y1 y2 y3 y4 hsy fx fy hvx hvy hc hP
  show Calls Tryz.prog 36 #[.int .i64 14, .slice (some ⟨bb, off, none⟩) 2 c] w _
  go_enter Tryz.func36, Tryz.ntmps36
  go_upto_region 1 with fail
  obtain ⟨wA, hwA, hb0, h0, hsz⟩ := zero_box w 36
  rw [← hwA]
  have HB0 := Lib.hid hb0
  have HZ := Lib.hid h0
  have s0 : w.heap.size < wA.heap.size := by omega
  clear hwA hb0 h0 hsz
  go_wp2_with fail
  refine (HT.out _).mono ?_
  rintro e w1 ⟨rfl, hw1⟩
  rw [hw1]
  clear hw1 w1
  go_wp2_with fail
  refine (HT.out _).mono ?_
  rintro e w1 ⟨rfl, hw1⟩
  rw [hw1]
  clear hw1 w1
  go_wp2_with fail
  go_loopw [6] (fun i wr => ∃ k : Nat, k ≤ 2 ∧ i = .int .i64 k ∧ Hid (Below wA.heap.size wA wr)) (fun i _ => 2 - (intOf i).toNat)
  case atStart => exact ⟨0, by omega, rfl, Below.refl _ _⟩
  case round =>
    obtain ⟨k, hk, rfl, HRR⟩ := hrel
    have HB := Lib.hid (below_down HB0.out HRR.out (Nat.le_refl _))
    have hwr := HRR.out.size
    have HZR := Lib.hid ((HRR.out.block w.heap.size s0).trans HZ.out)
    have hg : ∀ o, wr.cell? ⟨bb, o, none⟩ = w.cell? ⟨bb, o, none⟩ := fun o => HB.out.cell (p := ⟨bb, o, none⟩) (Nat.lt_of_lt_of_le hb2 hB)
    have hz : bb < wr.heap.size := by omega
    have hz0 : w.heap.size < wr.heap.size := by omega
    obtain ⟨x0, x1, x2, x3, x4⟩ := HX0.out
    obtain ⟨y0, y1, y2, y3, y4⟩ := HY0.out
    have hk2 : k = 0 ∨ k = 1 ∨ k = 2 := by omega
    rcases hk2 with rfl | rfl | rfl
    · go_wp2_with fail
      refine (HCX.out _ HB.out).mono ?_
      rintro e w2 ⟨rfl, hb3⟩
      have HR2 := Lib.hid (below_down HRR.out hb3 (Nat.le_refl _))
      clear hb3 hg x0 x1 x2 x3 x4 y0 y1 y2 y3 y4
      go_wp2_with fail
      go_roundw
      case rel => exact ⟨1, by omega, rfl, HR2⟩
      case measure => simp [intOf]
    · go_wp2_with fail
      refine (HCY.out _ HB.out).mono ?_
      rintro e w2 ⟨rfl, hb3⟩
      have HR2 := Lib.hid (below_down HRR.out hb3 (Nat.le_refl _))
      clear hb3 hg x0 x1 x2 x3 x4 y0 y1 y2 y3 y4
      go_wp2_with fail
      go_roundw
      case rel => exact ⟨2, by omega, rfl, HR2⟩
      case measure => simp [intOf]
    go_upto_region 12 with fail
    obtain ⟨wC, hwC⟩ : ∃ wC, wC = (wr.alloc (.cells #[.int .i64 x.k, .bool x.b, .int .i64 x.n, .string x.t, .slice ax x.l.length cx] 36)).alloc (.cells #[.int .i64 y.k, .bool y.b, .int .i64 y.n, .string y.t, .slice ay y.l.length cy] 36) := ⟨_, rfl⟩
    have hbC : Below wr.heap.size wr wC := by rw [hwC]; exact ((Below.refl _ _).alloc (Nat.le_refl _) _).alloc (by simp) _
    have hxC : wC.heap[wr.heap.size]? = some (.cells #[.int .i64 x.k, .bool x.b, .int .i64 x.n, .string x.t, .slice ax x.l.length cx] 36 (0, 0)) := by rw [hwC]; exact heap_two
    have hyC : wC.heap[wr.heap.size + 1]? = some (.cells #[.int .i64 y.k, .bool y.b, .int .i64 y.n, .string y.t, .slice ay y.l.length cy] 36 (0, 0)) := by rw [hwC]; exact heap_second
    have hsC : wC.heap.size = wr.heap.size + 2 := by rw [hwC]; simp
    rw [← hwC]
    have HBC := Lib.hid (below_down HB.out hbC (Nat.le_refl _))
    have HZC := Lib.hid ((hbC.block w.heap.size hz0).trans HZR.out)
    obtain ⟨p, hp⟩ : ∃ p, p = wr.heap.size := ⟨_, rfl⟩
    rw [← hp] at hxC hyC hsC ⊢
    have qx := fun o => cell_of hxC o
    have qy := fun o => cell_of hyC o
    have HXC := Lib.hid hxC
    have HYC := Lib.hid hyC
    have sx : p < wC.heap.size := by omega
    have sy : p + 1 < wC.heap.size := by omega
    have sC : w.heap.size < wC.heap.size := by omega
    have sB : bb < wC.heap.size := by omega
    have hpw : w.heap.size < p := by omega
    clear hwC hbC hxC hyC hsC hg x0 x1 x2 x3 x4 y0 y1 y2 y3 y4 HX0 HY0 HCX HCY HT HZR HB HRR hz hz0 hwr hp
    go_wp2_with fail
    refine (rNo_any 4 _).mono ?_
    rintro e w9 ⟨rfl, hb9⟩
    have HB9 := Lib.hid (below_down HBC.out hb9 (Nat.le_refl _))
    have hz9 := (hb9.block (w.heap.size) sC).trans HZC.out
    have s9 : w.heap.size < w9.heap.size := by have := hb9.size; omega
    have q9 := fun o => cell_of hz9 o
    have f9 := fun o => frozen_of hz9 o
    clear hb9 hz9
    go_wp2_with fail
    refine bodyPost_ret (v := .tuple #[.agg #[.int .i64 0, .bool false, .int .i64 0, .string { data := #[] }, .slice none 0 0], .int .i64 4]) (by simp [results, Tryz.results36, go_sem, q9]) rfl (ref_flat (by rw [HN.out]; rfl) (by rw [HN.out]; rfl) (below_set5 HB9.out (Nat.le_refl _) _ _ _ _ _))
set_option maxHeartbeats 1600000 in
theorem rA_gt (x y : GV) (fx : x.fit) (fy : y.fit) (hvx : vmay x = true) (hvy : vmay y = true) (hk : x.k = y.k) (hk3 : x.k = 2 ∨ x.k = 3 ∨ x.k = 1) (s : Value) (w : World) (B : Nat) (hB : B ≤ w.heap.size) (hs : isL w 0 B s [x, y]) : Calls Tryz.prog 36 #[.int .i64 14, s] w (RefO w (gtP x y)) := by
  obtain ⟨a, c, bb, off, rfl, hc, ha, hA⟩ := isL_open hs
  obtain ⟨rfl, hb1, hb2⟩ := ha (by simp)
  obtain ⟨ax, cx, x0, x1, x2, x3, x4, hsx⟩ := cellsV_slice (hA 0 (by simp))
  obtain ⟨ay, cy, y0, y1, y2, y3, y4, hsy⟩ := cellsV_slice (hA 1 (by simp))
  simp only [List.getElem_cons_zero, List.getElem_cons_succ, Nat.zero_mul, Nat.one_mul, Nat.add_zero] at x0 x1 x2 x3 x4 hsx y0 y1 y2 y3 y4 hsy
  have HT := Lib.hid (fun w => takesW_any 14 w)
  rw [show takesV 14 = 2 by decide] at HT
  have HX0 := Lib.hid (And.intro x0 (And.intro x1 (And.intro x2 (And.intro x3 x4))))
  have HY0 := Lib.hid (And.intro y0 (And.intro y1 (And.intro y2 (And.intro y3 y4))))
  have HCX : Hid (∀ w', Below w.heap.size w w' → Calls Tryz.prog 35 #[.agg #[.int .i64 x.k, .bool x.b, .int .i64 x.n, .string x.t, .slice ax x.l.length cx]] w' fun e w'' => e = .returned (.bool true) ∧ Below w'.heap.size w' w'') := fun w' h => by
    have h2 := rCheck_any x fx (.slice ax x.l.length cx) w' B (Nat.le_trans hB h.size) (isL_below hsx h hB)
    rw [hvx] at h2
    exact h2
  have HCY : Hid (∀ w', Below w.heap.size w w' → Calls Tryz.prog 35 #[.agg #[.int .i64 y.k, .bool y.b, .int .i64 y.n, .string y.t, .slice ay y.l.length cy]] w' fun e w'' => e = .returned (.bool true) ∧ Below w'.heap.size w' w'') := fun w' h => by
    have h2 := rCheck_any y fy (.slice ay y.l.length cy) w' B (Nat.le_trans hB h.size) (isL_below hsy h hB)
    rw [hvy] at h2
    exact h2
  have Hsx := Lib.hid hsx
  have Hsy := Lib.hid hsy
  have HFX := Lib.hid fx
  have HFY := Lib.hid fy
  obtain ⟨P, hP⟩ : ∃ P, P = gtP x y := ⟨_, rfl⟩
  rw [← hP]
  have HP := Lib.hid hP
  have hbd := ordV_bound x y
  obtain ⟨C, hC⟩ : ∃ C, C = ordV x y := ⟨_, rfl⟩
  have HN : Hid (P = truthP (decide (0 < C))) := by
    rw [Hid, hP, gtP, cmp_yes, hC]
    rcases hk3 with h | h | h <;> simp [cmpOk, ← hk, h]
  rw [← hC] at hbd
  have hC3 : C = -1 ∨ C = 0 ∨ C = 1 := by omega
  have HCE := Lib.hid hC
  have hkk : (x.k != y.k) = false := by simpa using hk
  have HKK : Hid ((x.k != 2) = false ∨ ((x.k != 2) = true ∧ (x.k != 3) = false) ∨ ((x.k != 2) = true ∧ (x.k != 3) = true ∧ (x.k != 1) = false)) := by
    rw [Hid]
    rcases hk3 with h | h | h <;> simp [h]
  clear hk hC hbd hk3
  clear hs hA ha x0 x1 x2 x3 x4 hsx y0 y1 y2 y3 y4 hsy fx fy hvx hvy hc hP
  show Calls Tryz.prog 36 #[.int .i64 14, .slice (some ⟨bb, off, none⟩) 2 c] w _
  go_enter Tryz.func36, Tryz.ntmps36
  go_upto_region 1 with fail
  obtain ⟨wA, hwA, hb0, h0, hsz⟩ := zero_box w 36
  rw [← hwA]
  have HB0 := Lib.hid hb0
  have HZ := Lib.hid h0
  have s0 : w.heap.size < wA.heap.size := by omega
  clear hwA hb0 h0 hsz
  go_wp2_with fail
  refine (HT.out _).mono ?_
  rintro e w1 ⟨rfl, hw1⟩
  rw [hw1]
  clear hw1 w1
  go_wp2_with fail
  refine (HT.out _).mono ?_
  rintro e w1 ⟨rfl, hw1⟩
  rw [hw1]
  clear hw1 w1
  go_wp2_with fail
  go_loopw [6] (fun i wr => ∃ k : Nat, k ≤ 2 ∧ i = .int .i64 k ∧ Hid (Below wA.heap.size wA wr)) (fun i _ => 2 - (intOf i).toNat)
  case atStart => exact ⟨0, by omega, rfl, Below.refl _ _⟩
  case round =>
    obtain ⟨k, hk, rfl, HRR⟩ := hrel
    have HB := Lib.hid (below_down HB0.out HRR.out (Nat.le_refl _))
    have hwr := HRR.out.size
    have HZR := Lib.hid ((HRR.out.block w.heap.size s0).trans HZ.out)
    have hg : ∀ o, wr.cell? ⟨bb, o, none⟩ = w.cell? ⟨bb, o, none⟩ := fun o => HB.out.cell (p := ⟨bb, o, none⟩) (Nat.lt_of_lt_of_le hb2 hB)
    have hz : bb < wr.heap.size := by omega
    have hz0 : w.heap.size < wr.heap.size := by omega
    obtain ⟨x0, x1, x2, x3, x4⟩ := HX0.out
    obtain ⟨y0, y1, y2, y3, y4⟩ := HY0.out
    have hk2 : k = 0 ∨ k = 1 ∨ k = 2 := by omega
    rcases hk2 with rfl | rfl | rfl
    · go_wp2_with fail
      refine (HCX.out _ HB.out).mono ?_
      rintro e w2 ⟨rfl, hb3⟩
      have HR2 := Lib.hid (below_down HRR.out hb3 (Nat.le_refl _))
      clear hb3 hg x0 x1 x2 x3 x4 y0 y1 y2 y3 y4
      go_wp2_with fail
      go_roundw
      case rel => exact ⟨1, by omega, rfl, HR2⟩
      case measure => simp [intOf]
    · go_wp2_with fail
      refine (HCY.out _ HB.out).mono ?_
      rintro e w2 ⟨rfl, hb3⟩
      have HR2 := Lib.hid (below_down HRR.out hb3 (Nat.le_refl _))
      clear hb3 hg x0 x1 x2 x3 x4 y0 y1 y2 y3 y4
      go_wp2_with fail
      go_roundw
      case rel => exact ⟨2, by omega, rfl, HR2⟩
      case measure => simp [intOf]
    go_upto_region 12 with fail
    obtain ⟨wC, hwC⟩ : ∃ wC, wC = (wr.alloc (.cells #[.int .i64 x.k, .bool x.b, .int .i64 x.n, .string x.t, .slice ax x.l.length cx] 36)).alloc (.cells #[.int .i64 y.k, .bool y.b, .int .i64 y.n, .string y.t, .slice ay y.l.length cy] 36) := ⟨_, rfl⟩
    have hbC : Below wr.heap.size wr wC := by rw [hwC]; exact ((Below.refl _ _).alloc (Nat.le_refl _) _).alloc (by simp) _
    have hxC : wC.heap[wr.heap.size]? = some (.cells #[.int .i64 x.k, .bool x.b, .int .i64 x.n, .string x.t, .slice ax x.l.length cx] 36 (0, 0)) := by rw [hwC]; exact heap_two
    have hyC : wC.heap[wr.heap.size + 1]? = some (.cells #[.int .i64 y.k, .bool y.b, .int .i64 y.n, .string y.t, .slice ay y.l.length cy] 36 (0, 0)) := by rw [hwC]; exact heap_second
    have hsC : wC.heap.size = wr.heap.size + 2 := by rw [hwC]; simp
    rw [← hwC]
    have HBC := Lib.hid (below_down HB.out hbC (Nat.le_refl _))
    have HZC := Lib.hid ((hbC.block w.heap.size hz0).trans HZR.out)
    obtain ⟨p, hp⟩ : ∃ p, p = wr.heap.size := ⟨_, rfl⟩
    rw [← hp] at hxC hyC hsC ⊢
    have qx := fun o => cell_of hxC o
    have qy := fun o => cell_of hyC o
    have HXC := Lib.hid hxC
    have HYC := Lib.hid hyC
    have sx : p < wC.heap.size := by omega
    have sy : p + 1 < wC.heap.size := by omega
    have sC : w.heap.size < wC.heap.size := by omega
    have sB : bb < wC.heap.size := by omega
    have hpw : w.heap.size < p := by omega
    clear hwC hbC hxC hyC hsC hg x0 x1 x2 x3 x4 y0 y1 y2 y3 y4 HX0 HY0 HCX HCY HT HZR HB HRR hz hz0 hwr hp
    have HOC : Hid (Calls Tryz.prog 57 #[.agg #[.int .i64 x.k, .bool x.b, .int .i64 x.n, .string x.t, .slice ax x.l.length cx], .agg #[.int .i64 y.k, .bool y.b, .int .i64 y.n, .string y.t, .slice ay y.l.length cy]] wC fun e w' => e = .returned (.int .i64 C) ∧ Below wC.heap.size wC w') := by
      rw [HCE.out]
      exact rOrder_any x y HFX.out HFY.out (.slice ax x.l.length cx) (.slice ay y.l.length cy) wC B (Nat.le_trans hB HBC.out.size) (isL_below Hsx.out HBC.out hB) (isL_below Hsy.out HBC.out hB)
    rcases HKK.out with h1 | ⟨h1, h2⟩ | ⟨h1, h2, h3⟩
    all_goals
      clear HKK
      go_wp2_with fail
      refine HOC.out.mono ?_
      rintro e w6 ⟨rfl, hb6⟩
      have HB6 := Lib.hid (below_down HBC.out hb6 (Nat.le_refl _))
      have HZ6 := Lib.hid ((hb6.block w.heap.size sC).trans HZC.out)
      have s6 : w.heap.size < w6.heap.size := by have := hb6.size; omega
      clear hb6 qx qy HOC HCE
      rcases hC3 with rfl | rfl | rfl
      · go_wp2_with fail
        refine (rBool_any false _).mono ?_
        rintro e w9 ⟨rfl, hb9⟩
        have HB9 := Lib.hid (below_down HB6.out hb9 (Nat.le_refl _))
        have hz9 := (hb9.block (w.heap.size) s6).trans HZ6.out
        have s9 : w.heap.size < w9.heap.size := by have := hb9.size; omega
        have q9 := fun o => cell_of hz9 o
        have f9 := fun o => frozen_of hz9 o
        clear hb9 hz9
        go_wp2_with fail
        refine bodyPost_ret (v := .tuple #[.agg #[.int .i64 1, .bool (false), .int .i64 0, .string { data := #[] }, .slice none 0 0], .int .i64 0]) (by simp [results, Tryz.results36, go_sem, q9]) rfl (ref_flat (by rw [HN.out]; rfl) (by rw [HN.out]; rfl) (below_set5 HB9.out (Nat.le_refl _) _ _ _ _ _))
      · go_wp2_with fail
        refine (rBool_any false _).mono ?_
        rintro e w9 ⟨rfl, hb9⟩
        have HB9 := Lib.hid (below_down HB6.out hb9 (Nat.le_refl _))
        have hz9 := (hb9.block (w.heap.size) s6).trans HZ6.out
        have s9 : w.heap.size < w9.heap.size := by have := hb9.size; omega
        have q9 := fun o => cell_of hz9 o
        have f9 := fun o => frozen_of hz9 o
        clear hb9 hz9
        go_wp2_with fail
        refine bodyPost_ret (v := .tuple #[.agg #[.int .i64 1, .bool (false), .int .i64 0, .string { data := #[] }, .slice none 0 0], .int .i64 0]) (by simp [results, Tryz.results36, go_sem, q9]) rfl (ref_flat (by rw [HN.out]; rfl) (by rw [HN.out]; rfl) (below_set5 HB9.out (Nat.le_refl _) _ _ _ _ _))
      · go_wp2_with fail
        refine (rBool_any true _).mono ?_
        rintro e w9 ⟨rfl, hb9⟩
        have HB9 := Lib.hid (below_down HB6.out hb9 (Nat.le_refl _))
        have hz9 := (hb9.block (w.heap.size) s6).trans HZ6.out
        have s9 : w.heap.size < w9.heap.size := by have := hb9.size; omega
        have q9 := fun o => cell_of hz9 o
        have f9 := fun o => frozen_of hz9 o
        clear hb9 hz9
        go_wp2_with fail
        refine bodyPost_ret (v := .tuple #[.agg #[.int .i64 1, .bool (true), .int .i64 0, .string { data := #[] }, .slice none 0 0], .int .i64 0]) (by simp [results, Tryz.results36, go_sem, q9]) rfl (ref_flat (by rw [HN.out]; rfl) (by rw [HN.out]; rfl) (below_set5 HB9.out (Nat.le_refl _) _ _ _ _ _))
end Go.Proofs.YtljljhjdlicfeaaGreat
namespace Go.Proofs.YtljljhjdlicfeaaGreat
open Go Go.RowKit
set_option maxRecDepth 100000
set_option linter.unusedVariables false
set_option maxHeartbeats 800000 in
theorem rA_geno (x y : GV) (fx : x.fit) (fy : y.fit) (hvx : vmay x = true) (hvy : vmay y = true) (hk : x.k = y.k) (h1 : x.k ≠ 1) (h2 : x.k ≠ 2) (h3 : x.k ≠ 3) (s : Value) (w : World) (B : Nat) (hB : B ≤ w.heap.size) (hs : isL w 0 B s [x, y]) : Calls Tryz.prog 36 #[.int .i64 15, s] w (RefO w (geP x y)) := by
  obtain ⟨a, c, bb, off, rfl, hc, ha, hA⟩ := isL_open hs
  obtain ⟨rfl, hb1, hb2⟩ := ha (by simp)
  obtain ⟨ax, cx, x0, x1, x2, x3, x4, hsx⟩ := cellsV_slice (hA 0 (by simp))
  obtain ⟨ay, cy, y0, y1, y2, y3, y4, hsy⟩ := cellsV_slice (hA 1 (by simp))
  simp only [List.getElem_cons_zero, List.getElem_cons_succ, Nat.zero_mul, Nat.one_mul, Nat.add_zero] at x0 x1 x2 x3 x4 hsx y0 y1 y2 y3 y4 hsy
  have HT := Lib.hid (fun w => takesW_any 15 w)
  rw [show takesV 15 = 2 by decide] at HT
  have HX0 := Lib.hid (And.intro x0 (And.intro x1 (And.intro x2 (And.intro x3 x4))))
  have HY0 := Lib.hid (And.intro y0 (And.intro y1 (And.intro y2 (And.intro y3 y4))))
  have HCX : Hid (∀ w', Below w.heap.size w w' → Calls Tryz.prog 35 #[.agg #[.int .i64 x.k, .bool x.b, .int .i64 x.n, .string x.t, .slice ax x.l.length cx]] w' fun e w'' => e = .returned (.bool true) ∧ Below w'.heap.size w' w'') := fun w' h => by
    have h2 := rCheck_any x fx (.slice ax x.l.length cx) w' B (Nat.le_trans hB h.size) (isL_below hsx h hB)
    rw [hvx] at h2
    exact h2
  have HCY : Hid (∀ w', Below w.heap.size w w' → Calls Tryz.prog 35 #[.agg #[.int .i64 y.k, .bool y.b, .int .i64 y.n, .string y.t, .slice ay y.l.length cy]] w' fun e w'' => e = .returned (.bool true) ∧ Below w'.heap.size w' w'') := fun w' h => by
    have h2 := rCheck_any y fy (.slice ay y.l.length cy) w' B (Nat.le_trans hB h.size) (isL_below hsy h hB)
    rw [hvy] at h2
    exact h2
  have Hsx := Lib.hid hsx
  have Hsy := Lib.hid hsy
  have HFX := Lib.hid fx
  have HFY := Lib.hid fy
  obtain ⟨P, hP⟩ : ∃ P, P = geP x y := ⟨_, rfl⟩
  rw [← hP]
  have HP := Lib.hid hP
  have HN : Hid (P = noP 4) := by rw [Hid, hP, geP, cmp_no]; simp [cmpOk, h1, h2, h3]
  have hkk : (x.k != y.k) = false := by simpa using hk
  have e1 : (x.k != 1) = true := by simpa using h1
  have e2 : (x.k != 2) = true := by simpa using h2
  have e3 : (x.k != 3) = true := by simpa using h3
  clear hk h1 h2 h3
  clear hs hA ha x0 x1 x2 x3 x4 hsx y0 y1 y2 y3 y4 hsy fx fy hvx hvy hc hP
  show Calls Tryz.prog 36 #[.int .i64 15, .slice (some ⟨bb, off, none⟩) 2 c] w _
  go_enter Tryz.func36, Tryz.ntmps36
  go_upto_region 1 with fail
  obtain ⟨wA, hwA, hb0, h0, hsz⟩ := zero_box w 36
  rw [← hwA]
  have HB0 := Lib.hid hb0
  have HZ := Lib.hid h0
  have s0 : w.heap.size < wA.heap.size := by omega
  clear hwA hb0 h0 hsz
  go_wp2_with fail
  refine (HT.out _).mono ?_
  rintro e w1 ⟨rfl, hw1⟩
  rw [hw1]
  clear hw1 w1
  go_wp2_with fail
  refine (HT.out _).mono ?_
  rintro e w1 ⟨rfl, hw1⟩
  rw [hw1]
  clear hw1 w1
  go_wp2_with fail
  go_loopw [6] (fun i wr => ∃ k : Nat, k ≤ 2 ∧ i = .int .i64 k ∧ Hid (Below wA.heap.size wA wr)) (fun i _ => 2 - (intOf i).toNat)
  case atStart => exact ⟨0, by omega, rfl, Below.refl _ _⟩
  case round =>
    obtain ⟨k, hk, rfl, HRR⟩ := hrel
    have HB := Lib.hid (below_down HB0.out HRR.out (Nat.le_refl _))
    have hwr := HRR.out.size
    have HZR := Lib.hid ((HRR.out.block w.heap.size s0).trans HZ.out)
    have hg : ∀ o, wr.cell? ⟨bb, o, none⟩ = w.cell? ⟨bb, o, none⟩ := fun o => HB.out.cell (p := ⟨bb, o, none⟩) (Nat.lt_of_lt_of_le hb2 hB)
    have hz : bb < wr.heap.size := by omega
    have hz0 : w.heap.size < wr.heap.size := by omega
    obtain ⟨x0, x1, x2, x3, x4⟩ := HX0.out
    obtain ⟨y0, y1, y2, y3, y4⟩ := HY0.out
    have hk2 : k = 0 ∨ k = 1 ∨ k = 2 := by omega
    rcases hk2 with rfl | rfl | rfl
    · go_wp2_with fail
      refine (HCX.out _ HB.out).mono ?_
      rintro e w2 ⟨rfl, hb3⟩
      have HR2 := Lib.hid (below_down HRR.out hb3 (Nat.le_refl _))
      clear hb3 hg x0 x1 x2 x3 x4 y0 y1 y2 y3 y4
      go_wp2_with fail
      go_roundw
      case rel => exact ⟨1, by omega, rfl, HR2⟩
      case measure => simp [intOf]
    · go_wp2_with fail
      refine (HCY.out _ HB.out).mono ?_
      rintro e w2 ⟨rfl, hb3⟩
      have HR2 := Lib.hid (below_down HRR.out hb3 (Nat.le_refl _))
      clear hb3 hg x0 x1 x2 x3 x4 y0 y1 y2 y3 y4
      go_wp2_with fail
      go_roundw
      case rel => exact ⟨2, by omega, rfl, HR2⟩
      case measure => simp [intOf]
    go_upto_region 12 with fail
    obtain ⟨wC, hwC⟩ : ∃ wC, wC = (wr.alloc (.cells #[.int .i64 x.k, .bool x.b, .int .i64 x.n, .string x.t, .slice ax x.l.length cx] 36)).alloc (.cells #[.int .i64 y.k, .bool y.b, .int .i64 y.n, .string y.t, .slice ay y.l.length cy] 36) := ⟨_, rfl⟩
    have hbC : Below wr.heap.size wr wC := by rw [hwC]; exact ((Below.refl _ _).alloc (Nat.le_refl _) _).alloc (by simp) _
    have hxC : wC.heap[wr.heap.size]? = some (.cells #[.int .i64 x.k, .bool x.b, .int .i64 x.n, .string x.t, .slice ax x.l.length cx] 36 (0, 0)) := by rw [hwC]; exact heap_two
    have hyC : wC.heap[wr.heap.size + 1]? = some (.cells #[.int .i64 y.k, .bool y.b, .int .i64 y.n, .string y.t, .slice ay y.l.length cy] 36 (0, 0)) := by rw [hwC]; exact heap_second
    have hsC : wC.heap.size = wr.heap.size + 2 := by rw [hwC]; simp
    rw [← hwC]
    have HBC := Lib.hid (below_down HB.out hbC (Nat.le_refl _))
    have HZC := Lib.hid ((hbC.block w.heap.size hz0).trans HZR.out)
    obtain ⟨p, hp⟩ : ∃ p, p = wr.heap.size := ⟨_, rfl⟩
    rw [← hp] at hxC hyC hsC ⊢
    have qx := fun o => cell_of hxC o
    have qy := fun o => cell_of hyC o
    have HXC := Lib.hid hxC
    have HYC := Lib.hid hyC
    have sx : p < wC.heap.size := by omega
    have sy : p + 1 < wC.heap.size := by omega
    have sC : w.heap.size < wC.heap.size := by omega
    have sB : bb < wC.heap.size := by omega
    have hpw : w.heap.size < p := by omega
    clear hwC hbC hxC hyC hsC hg x0 x1 x2 x3 x4 y0 y1 y2 y3 y4 HX0 HY0 HCX HCY HT HZR HB HRR hz hz0 hwr hp
    go_wp2_with fail
    refine (rNo_any 4 _).mono ?_
    rintro e w9 ⟨rfl, hb9⟩
    have HB9 := Lib.hid (below_down HBC.out hb9 (Nat.le_refl _))
    have hz9 := (hb9.block (w.heap.size) sC).trans HZC.out
    have s9 : w.heap.size < w9.heap.size := by have := hb9.size; omega
    have q9 := fun o => cell_of hz9 o
    have f9 := fun o => frozen_of hz9 o
    clear hb9 hz9
    go_wp2_with fail
    refine bodyPost_ret (v := .tuple #[.agg #[.int .i64 0, .bool false, .int .i64 0, .string { data := #[] }, .slice none 0 0], .int .i64 4]) (by simp [results, Tryz.results36, go_sem, q9]) rfl (ref_flat (by rw [HN.out]; rfl) (by rw [HN.out]; rfl) (below_set5 HB9.out (Nat.le_refl _) _ _ _ _ _))
set_option maxHeartbeats 1600000 in
theorem rA_ge (x y : GV) (fx : x.fit) (fy : y.fit) (hvx : vmay x = true) (hvy : vmay y = true) (hk : x.k = y.k) (hk3 : x.k = 2 ∨ x.k = 3 ∨ x.k = 1) (s : Value) (w : World) (B : Nat) (hB : B ≤ w.heap.size) (hs : isL w 0 B s [x, y]) : Calls Tryz.prog 36 #[.int .i64 15, s] w (RefO w (geP x y)) := by
  obtain ⟨a, c, bb, off, rfl, hc, ha, hA⟩ := isL_open hs
  obtain ⟨rfl, hb1, hb2⟩ := ha (by simp)
  obtain ⟨ax, cx, x0, x1, x2, x3, x4, hsx⟩ := cellsV_slice (hA 0 (by simp))
  obtain ⟨ay, cy, y0, y1, y2, y3, y4, hsy⟩ := cellsV_slice (hA 1 (by simp))
  simp only [List.getElem_cons_zero, List.getElem_cons_succ, Nat.zero_mul, Nat.one_mul, Nat.add_zero] at x0 x1 x2 x3 x4 hsx y0 y1 y2 y3 y4 hsy
  have HT := Lib.hid (fun w => takesW_any 15 w)
  rw [show takesV 15 = 2 by decide] at HT
  have HX0 := Lib.hid (And.intro x0 (And.intro x1 (And.intro x2 (And.intro x3 x4))))
  have HY0 := Lib.hid (And.intro y0 (And.intro y1 (And.intro y2 (And.intro y3 y4))))
  have HCX : Hid (∀ w', Below w.heap.size w w' → Calls Tryz.prog 35 #[.agg #[.int .i64 x.k, .bool x.b, .int .i64 x.n, .string x.t, .slice ax x.l.length cx]] w' fun e w'' => e = .returned (.bool true) ∧ Below w'.heap.size w' w'') := fun w' h => by
    have h2 := rCheck_any x fx (.slice ax x.l.length cx) w' B (Nat.le_trans hB h.size) (isL_below hsx h hB)
    rw [hvx] at h2
    exact h2
  have HCY : Hid (∀ w', Below w.heap.size w w' → Calls Tryz.prog 35 #[.agg #[.int .i64 y.k, .bool y.b, .int .i64 y.n, .string y.t, .slice ay y.l.length cy]] w' fun e w'' => e = .returned (.bool true) ∧ Below w'.heap.size w' w'') := fun w' h => by
    have h2 := rCheck_any y fy (.slice ay y.l.length cy) w' B (Nat.le_trans hB h.size) (isL_below hsy h hB)
    rw [hvy] at h2
    exact h2
  have Hsx := Lib.hid hsx
  have Hsy := Lib.hid hsy
  have HFX := Lib.hid fx
  have HFY := Lib.hid fy
  obtain ⟨P, hP⟩ : ∃ P, P = geP x y := ⟨_, rfl⟩
  rw [← hP]
  have HP := Lib.hid hP
  have hbd := ordV_bound x y
  obtain ⟨C, hC⟩ : ∃ C, C = ordV x y := ⟨_, rfl⟩
  have HN : Hid (P = truthP (decide (0 ≤ C))) := by
    rw [Hid, hP, geP, cmp_yes, hC]
    rcases hk3 with h | h | h <;> simp [cmpOk, ← hk, h]
  rw [← hC] at hbd
  have hC3 : C = -1 ∨ C = 0 ∨ C = 1 := by omega
  have HCE := Lib.hid hC
  have hkk : (x.k != y.k) = false := by simpa using hk
  have HKK : Hid ((x.k != 2) = false ∨ ((x.k != 2) = true ∧ (x.k != 3) = false) ∨ ((x.k != 2) = true ∧ (x.k != 3) = true ∧ (x.k != 1) = false)) := by
    rw [Hid]
    rcases hk3 with h | h | h <;> simp [h]
  clear hk hC hbd hk3
  clear hs hA ha x0 x1 x2 x3 x4 hsx y0 y1 y2 y3 y4 hsy fx fy hvx hvy hc hP
  show Calls Tryz.prog 36 #[.int .i64 15, .slice (some ⟨bb, off, none⟩) 2 c] w _
  go_enter Tryz.func36, Tryz.ntmps36
  go_upto_region 1 with fail
  obtain ⟨wA, hwA, hb0, h0, hsz⟩ := zero_box w 36
  rw [← hwA]
  have HB0 := Lib.hid hb0
  have HZ := Lib.hid h0
  have s0 : w.heap.size < wA.heap.size := by omega
  clear hwA hb0 h0 hsz
  go_wp2_with fail
  refine (HT.out _).mono ?_
  rintro e w1 ⟨rfl, hw1⟩
  rw [hw1]
  clear hw1 w1
  go_wp2_with fail
  refine (HT.out _).mono ?_
  rintro e w1 ⟨rfl, hw1⟩
  rw [hw1]
  clear hw1 w1
  go_wp2_with fail
  go_loopw [6] (fun i wr => ∃ k : Nat, k ≤ 2 ∧ i = .int .i64 k ∧ Hid (Below wA.heap.size wA wr)) (fun i _ => 2 - (intOf i).toNat)
  case atStart => exact ⟨0, by omega, rfl, Below.refl _ _⟩
  case round =>
    obtain ⟨k, hk, rfl, HRR⟩ := hrel
    have HB := Lib.hid (below_down HB0.out HRR.out (Nat.le_refl _))
    have hwr := HRR.out.size
    have HZR := Lib.hid ((HRR.out.block w.heap.size s0).trans HZ.out)
    have hg : ∀ o, wr.cell? ⟨bb, o, none⟩ = w.cell? ⟨bb, o, none⟩ := fun o => HB.out.cell (p := ⟨bb, o, none⟩) (Nat.lt_of_lt_of_le hb2 hB)
    have hz : bb < wr.heap.size := by omega
    have hz0 : w.heap.size < wr.heap.size := by omega
    obtain ⟨x0, x1, x2, x3, x4⟩ := HX0.out
    obtain ⟨y0, y1, y2, y3, y4⟩ := HY0.out
    have hk2 : k = 0 ∨ k = 1 ∨ k = 2 := by omega
    rcases hk2 with rfl | rfl | rfl
    · go_wp2_with fail
      refine (HCX.out _ HB.out).mono ?_
      rintro e w2 ⟨rfl, hb3⟩
      have HR2 := Lib.hid (below_down HRR.out hb3 (Nat.le_refl _))
      clear hb3 hg x0 x1 x2 x3 x4 y0 y1 y2 y3 y4
      go_wp2_with fail
      go_roundw
      case rel => exact ⟨1, by omega, rfl, HR2⟩
      case measure => simp [intOf]
    · go_wp2_with fail
      refine (HCY.out _ HB.out).mono ?_
      rintro e w2 ⟨rfl, hb3⟩
      have HR2 := Lib.hid (below_down HRR.out hb3 (Nat.le_refl _))
      clear hb3 hg x0 x1 x2 x3 x4 y0 y1 y2 y3 y4
      go_wp2_with fail
      go_roundw
      case rel => exact ⟨2, by omega, rfl, HR2⟩
      case measure => simp [intOf]
    go_upto_region 12 with fail
    obtain ⟨wC, hwC⟩ : ∃ wC, wC = (wr.alloc (.cells #[.int .i64 x.k, .bool x.b, .int .i64 x.n, .string x.t, .slice ax x.l.length cx] 36)).alloc (.cells #[.int .i64 y.k, .bool y.b, .int .i64 y.n, .string y.t, .slice ay y.l.length cy] 36) := ⟨_, rfl⟩
    have hbC : Below wr.heap.size wr wC := by rw [hwC]; exact ((Below.refl _ _).alloc (Nat.le_refl _) _).alloc (by simp) _
    have hxC : wC.heap[wr.heap.size]? = some (.cells #[.int .i64 x.k, .bool x.b, .int .i64 x.n, .string x.t, .slice ax x.l.length cx] 36 (0, 0)) := by rw [hwC]; exact heap_two
    have hyC : wC.heap[wr.heap.size + 1]? = some (.cells #[.int .i64 y.k, .bool y.b, .int .i64 y.n, .string y.t, .slice ay y.l.length cy] 36 (0, 0)) := by rw [hwC]; exact heap_second
    have hsC : wC.heap.size = wr.heap.size + 2 := by rw [hwC]; simp
    rw [← hwC]
    have HBC := Lib.hid (below_down HB.out hbC (Nat.le_refl _))
    have HZC := Lib.hid ((hbC.block w.heap.size hz0).trans HZR.out)
    obtain ⟨p, hp⟩ : ∃ p, p = wr.heap.size := ⟨_, rfl⟩
    rw [← hp] at hxC hyC hsC ⊢
    have qx := fun o => cell_of hxC o
    have qy := fun o => cell_of hyC o
    have HXC := Lib.hid hxC
    have HYC := Lib.hid hyC
    have sx : p < wC.heap.size := by omega
    have sy : p + 1 < wC.heap.size := by omega
    have sC : w.heap.size < wC.heap.size := by omega
    have sB : bb < wC.heap.size := by omega
    have hpw : w.heap.size < p := by omega
    clear hwC hbC hxC hyC hsC hg x0 x1 x2 x3 x4 y0 y1 y2 y3 y4 HX0 HY0 HCX HCY HT HZR HB HRR hz hz0 hwr hp
    have HOC : Hid (Calls Tryz.prog 57 #[.agg #[.int .i64 x.k, .bool x.b, .int .i64 x.n, .string x.t, .slice ax x.l.length cx], .agg #[.int .i64 y.k, .bool y.b, .int .i64 y.n, .string y.t, .slice ay y.l.length cy]] wC fun e w' => e = .returned (.int .i64 C) ∧ Below wC.heap.size wC w') := by
      rw [HCE.out]
      exact rOrder_any x y HFX.out HFY.out (.slice ax x.l.length cx) (.slice ay y.l.length cy) wC B (Nat.le_trans hB HBC.out.size) (isL_below Hsx.out HBC.out hB) (isL_below Hsy.out HBC.out hB)
    rcases HKK.out with h1 | ⟨h1, h2⟩ | ⟨h1, h2, h3⟩
    all_goals
      clear HKK
      go_wp2_with fail
      refine HOC.out.mono ?_
      rintro e w6 ⟨rfl, hb6⟩
      have HB6 := Lib.hid (below_down HBC.out hb6 (Nat.le_refl _))
      have HZ6 := Lib.hid ((hb6.block w.heap.size sC).trans HZC.out)
      have s6 : w.heap.size < w6.heap.size := by have := hb6.size; omega
      clear hb6 qx qy HOC HCE
      rcases hC3 with rfl | rfl | rfl
      · go_wp2_with fail
        refine (rBool_any false _).mono ?_
        rintro e w9 ⟨rfl, hb9⟩
        have HB9 := Lib.hid (below_down HB6.out hb9 (Nat.le_refl _))
        have hz9 := (hb9.block (w.heap.size) s6).trans HZ6.out
        have s9 : w.heap.size < w9.heap.size := by have := hb9.size; omega
        have q9 := fun o => cell_of hz9 o
        have f9 := fun o => frozen_of hz9 o
        clear hb9 hz9
        go_wp2_with fail
        refine bodyPost_ret (v := .tuple #[.agg #[.int .i64 1, .bool (false), .int .i64 0, .string { data := #[] }, .slice none 0 0], .int .i64 0]) (by simp [results, Tryz.results36, go_sem, q9]) rfl (ref_flat (by rw [HN.out]; rfl) (by rw [HN.out]; rfl) (below_set5 HB9.out (Nat.le_refl _) _ _ _ _ _))
      · go_wp2_with fail
        refine (rBool_any true _).mono ?_
        rintro e w9 ⟨rfl, hb9⟩
        have HB9 := Lib.hid (below_down HB6.out hb9 (Nat.le_refl _))
        have hz9 := (hb9.block (w.heap.size) s6).trans HZ6.out
        have s9 : w.heap.size < w9.heap.size := by have := hb9.size; omega
        have q9 := fun o => cell_of hz9 o
        have f9 := fun o => frozen_of hz9 o
        clear hb9 hz9
        go_wp2_with fail
        refine bodyPost_ret (v := .tuple #[.agg #[.int .i64 1, .bool (true), .int .i64 0, .string { data := #[] }, .slice none 0 0], .int .i64 0]) (by simp [results, Tryz.results36, go_sem, q9]) rfl (ref_flat (by rw [HN.out]; rfl) (by rw [HN.out]; rfl) (below_set5 HB9.out (Nat.le_refl _) _ _ _ _ _))
      · go_wp2_with fail
        refine (rBool_any true _).mono ?_
        rintro e w9 ⟨rfl, hb9⟩
        have HB9 := Lib.hid (below_down HB6.out hb9 (Nat.le_refl _))
        have hz9 := (hb9.block (w.heap.size) s6).trans HZ6.out
        have s9 : w.heap.size < w9.heap.size := by have := hb9.size; omega
        have q9 := fun o => cell_of hz9 o
        have f9 := fun o => frozen_of hz9 o
        clear hb9 hz9
        go_wp2_with fail
        refine bodyPost_ret (v := .tuple #[.agg #[.int .i64 1, .bool (true), .int .i64 0, .string { data := #[] }, .slice none 0 0], .int .i64 0]) (by simp [results, Tryz.results36, go_sem, q9]) rfl (ref_flat (by rw [HN.out]; rfl) (by rw [HN.out]; rfl) (below_set5 HB9.out (Nat.le_refl _) _ _ _ _ _))
end Go.Proofs.YtljljhjdlicfeaaGreat
