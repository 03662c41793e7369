/-
  What the references' Apply tells of being the same, of has, of values of two kinds. Conditions: lists and texts shorter than 2^31.
-/
import Derived.Test.YtljljhjdlicfeaaGreatMS
import Derived.Deep.QuietTactic
import Derived.BigQuiet
import Derived.Deep.DrawnRows
import Derived.Test.YtljljhjdlicfeaaGreatMD
import Derived.Test.YtljljhjdlicfeaaGreatPAC
import Derived.Deep.RegionHeld3
namespace Go.Proofs.YtljljhjdlicfeaaGreat
open Go Go.RowKit
set_option maxRecDepth 100000
set_option linter.unusedVariables false
set_option maxHeartbeats 800000 in
theorem rA_eq (x y : GV) (fx : x.fit) (fy : y.fit) (hvx : vmay x = true) (hvy : vmay y = true) (s : Value) (w : World) (B : Nat) (hB : B ≤ w.heap.size) (hs : isL w 0 B s [x, y]) : Calls Tryz.prog 36 #[.int .i64 10, s] w (RefO w (eqP x y)) := by
  obtain ⟨a, c, bb, off, rfl, hc, ha, hA⟩ := isL_open hs
  obtain ⟨rfl, hb1, hb2⟩ := ha (by simp)
  obtain ⟨ax, cx, x0, x1, x2, x3, x4, hsx⟩ := cellsV_slice (hA 0 (by simp))
  obtain ⟨ay, cy, y0, y1, y2, y3, y4, hsy⟩ := cellsV_slice (hA 1 (by simp))
  simp only [List.getElem_cons_zero, List.getElem_cons_succ, Nat.zero_mul, Nat.one_mul, Nat.add_zero] at x0 x1 x2 x3 x4 hsx y0 y1 y2 y3 y4 hsy
  have HT := Lib.hid (fun w => takesW_any 10 w)
  rw [show takesV 10 = 2 by decide] at HT
  have HX0 := Lib.hid (And.intro x0 (And.intro x1 (And.intro x2 (And.intro x3 x4))))
  have HY0 := Lib.hid (And.intro y0 (And.intro y1 (And.intro y2 (And.intro y3 y4))))
  have HCX : Hid (∀ w', Below w.heap.size w w' → Calls Tryz.prog 35 #[.agg #[.int .i64 x.k, .bool x.b, .int .i64 x.n, .string x.t, .slice ax x.l.length cx]] w' fun e w'' => e = .returned (.bool true) ∧ Below w'.heap.size w' w'') := fun w' h => by
    have h2 := rCheck_any x fx (.slice ax x.l.length cx) w' B (Nat.le_trans hB h.size) (isL_below hsx h hB)
    rw [hvx] at h2
    exact h2
  have HCY : Hid (∀ w', Below w.heap.size w w' → Calls Tryz.prog 35 #[.agg #[.int .i64 y.k, .bool y.b, .int .i64 y.n, .string y.t, .slice ay y.l.length cy]] w' fun e w'' => e = .returned (.bool true) ∧ Below w'.heap.size w' w'') := fun w' h => by
    have h2 := rCheck_any y fy (.slice ay y.l.length cy) w' B (Nat.le_trans hB h.size) (isL_below hsy h hB)
    rw [hvy] at h2
    exact h2
  have Hsx := Lib.hid hsx
  have Hsy := Lib.hid hsy
  have HFX := Lib.hid fx
  have HFY := Lib.hid fy
  obtain ⟨P, hP⟩ : ∃ P, P = eqP x y := ⟨_, rfl⟩
  rw [← hP]
  have HP := Lib.hid hP
  obtain ⟨E, hE⟩ : ∃ E, E = same x y := ⟨_, rfl⟩
  have HN : Hid (P = truthP (E)) := by rw [Hid, hP, hE]; rfl
  have HE := Lib.hid hE
  clear hE
  clear hs hA ha x0 x1 x2 x3 x4 hsx y0 y1 y2 y3 y4 hsy fx fy hvx hvy hc hP
  show Calls Tryz.prog 36 #[.int .i64 10, .slice (some ⟨bb, off, none⟩) 2 c] w _
  go_enter Tryz.func36, Tryz.ntmps36
  go_upto_region 1 with fail
  obtain ⟨wA, hwA, hb0, h0, hsz⟩ := zero_box w 36
  rw [← hwA]
  have HB0 := Lib.hid hb0
  have HZ := Lib.hid h0
  have s0 : w.heap.size < wA.heap.size := by omega
  clear hwA hb0 h0 hsz
  go_wp2_with fail
  refine (HT.out _).mono ?_
  rintro e w1 ⟨rfl, hw1⟩
  rw [hw1]
  clear hw1 w1
  go_wp2_with fail
  refine (HT.out _).mono ?_
  rintro e w1 ⟨rfl, hw1⟩
  rw [hw1]
  clear hw1 w1
  go_wp2_with fail
  go_loopw [6] (fun i wr => ∃ k : Nat, k ≤ 2 ∧ i = .int .i64 k ∧ Hid (Below wA.heap.size wA wr)) (fun i _ => 2 - (intOf i).toNat)
  case atStart => exact ⟨0, by omega, rfl, Below.refl _ _⟩
  case round =>
    obtain ⟨k, hk, rfl, HRR⟩ := hrel
    have HB := Lib.hid (below_down HB0.out HRR.out (Nat.le_refl _))
    have hwr := HRR.out.size
    have HZR := Lib.hid ((HRR.out.block w.heap.size s0).trans HZ.out)
    have hg : ∀ o, wr.cell? ⟨bb, o, none⟩ = w.cell? ⟨bb, o, none⟩ := fun o => HB.out.cell (p := ⟨bb, o, none⟩) (Nat.lt_of_lt_of_le hb2 hB)
    have hz : bb < wr.heap.size := by omega
    have hz0 : w.heap.size < wr.heap.size := by omega
    obtain ⟨x0, x1, x2, x3, x4⟩ := HX0.out
    obtain ⟨y0, y1, y2, y3, y4⟩ := HY0.out
    have hk2 : k = 0 ∨ k = 1 ∨ k = 2 := by omega
    rcases hk2 with rfl | rfl | rfl
    · go_wp2_with fail
      refine (HCX.out _ HB.out).mono ?_
      rintro e w2 ⟨rfl, hb3⟩
      have HR2 := Lib.hid (below_down HRR.out hb3 (Nat.le_refl _))
      clear hb3 hg x0 x1 x2 x3 x4 y0 y1 y2 y3 y4
      go_wp2_with fail
      go_roundw
      case rel => exact ⟨1, by omega, rfl, HR2⟩
      case measure => simp [intOf]
    · go_wp2_with fail
      refine (HCY.out _ HB.out).mono ?_
      rintro e w2 ⟨rfl, hb3⟩
      have HR2 := Lib.hid (below_down HRR.out hb3 (Nat.le_refl _))
      clear hb3 hg x0 x1 x2 x3 x4 y0 y1 y2 y3 y4
      go_wp2_with fail
      go_roundw
      case rel => exact ⟨2, by omega, rfl, HR2⟩
      case measure => simp [intOf]
    go_upto_region 12 with fail
    obtain ⟨wC, hwC⟩ : ∃ wC, wC = (wr.alloc (.cells #[.int .i64 x.k, .bool x.b, .int .i64 x.n, .string x.t, .slice ax x.l.length cx] 36)).alloc (.cells #[.int .i64 y.k, .bool y.b, .int .i64 y.n, .string y.t, .slice ay y.l.length cy] 36) := ⟨_, rfl⟩
    have hbC : Below wr.heap.size wr wC := by rw [hwC]; exact ((Below.refl _ _).alloc (Nat.le_refl _) _).alloc (by simp) _
    have hxC : wC.heap[wr.heap.size]? = some (.cells #[.int .i64 x.k, .bool x.b, .int .i64 x.n, .string x.t, .slice ax x.l.length cx] 36 (0, 0)) := by rw [hwC]; exact heap_two
    have hyC : wC.heap[wr.heap.size + 1]? = some (.cells #[.int .i64 y.k, .bool y.b, .int .i64 y.n, .string y.t, .slice ay y.l.length cy] 36 (0, 0)) := by rw [hwC]; exact heap_second
    have hsC : wC.heap.size = wr.heap.size + 2 := by rw [hwC]; simp
    rw [← hwC]
    have HBC := Lib.hid (below_down HB.out hbC (Nat.le_refl _))
    have HZC := Lib.hid ((hbC.block w.heap.size hz0).trans HZR.out)
    obtain ⟨p, hp⟩ : ∃ p, p = wr.heap.size := ⟨_, rfl⟩
    rw [← hp] at hxC hyC hsC ⊢
    have qx := fun o => cell_of hxC o
    have qy := fun o => cell_of hyC o
    have HXC := Lib.hid hxC
    have HYC := Lib.hid hyC
    have sx : p < wC.heap.size := by omega
    have sy : p + 1 < wC.heap.size := by omega
    have sC : w.heap.size < wC.heap.size := by omega
    have sB : bb < wC.heap.size := by omega
    have hpw : w.heap.size < p := by omega
    clear hwC hbC hxC hyC hsC hg x0 x1 x2 x3 x4 y0 y1 y2 y3 y4 HX0 HY0 HCX HCY HT HZR HB HRR hz hz0 hwr hp
    go_wp2_with fail
    refine (zSame_any x y HFX.out HFY.out (.slice ax x.l.length cx) (.slice ay y.l.length cy) wC B (Nat.le_trans hB HBC.out.size) (isL_below Hsx.out HBC.out hB) (isL_below Hsy.out HBC.out hB)).mono ?_
    rw [← HE.out]
    rintro e w6 ⟨rfl, hb6⟩
    have HB6 := Lib.hid (below_down HBC.out hb6 (Nat.le_refl _))
    have HZ6 := Lib.hid ((hb6.block w.heap.size sC).trans HZC.out)
    have s6 : w.heap.size < w6.heap.size := by have := hb6.size; omega
    clear hb6 qx qy
    go_wp2_with fail
    refine (rBool_any (E) _).mono ?_
    rintro e w9 ⟨rfl, hb9⟩
    have HB9 := Lib.hid (below_down HB6.out hb9 (Nat.le_refl _))
    have hz9 := (hb9.block (w.heap.size) s6).trans HZ6.out
    have s9 : w.heap.size < w9.heap.size := by have := hb9.size; omega
    have q9 := fun o => cell_of hz9 o
    have f9 := fun o => frozen_of hz9 o
    clear hb9 hz9
    go_wp2_with fail
    refine bodyPost_ret (v := .tuple #[.agg #[.int .i64 1, .bool (E), .int .i64 0, .string { data := #[] }, .slice none 0 0], .int .i64 0]) (by simp [results, Tryz.results36, go_sem, q9]) rfl (ref_flat (by rw [HN.out]; rfl) (by rw [HN.out]; rfl) (below_set5 HB9.out (Nat.le_refl _) _ _ _ _ _))
set_option maxHeartbeats 800000 in
theorem rA_ne (x y : GV) (fx : x.fit) (fy : y.fit) (hvx : vmay x = true) (hvy : vmay y = true) (s : Value) (w : World) (B : Nat) (hB : B ≤ w.heap.size) (hs : isL w 0 B s [x, y]) : Calls Tryz.prog 36 #[.int .i64 11, s] w (RefO w (neP x y)) := by
  obtain ⟨a, c, bb, off, rfl, hc, ha, hA⟩ := isL_open hs
  obtain ⟨rfl, hb1, hb2⟩ := ha (by simp)
  obtain ⟨ax, cx, x0, x1, x2, x3, x4, hsx⟩ := cellsV_slice (hA 0 (by simp))
  obtain ⟨ay, cy, y0, y1, y2, y3, y4, hsy⟩ := cellsV_slice (hA 1 (by simp))
  simp only [List.getElem_cons_zero, List.getElem_cons_succ, Nat.zero_mul, Nat.one_mul, Nat.add_zero] at x0 x1 x2 x3 x4 hsx y0 y1 y2 y3 y4 hsy
  have HT := Lib.hid (fun w => takesW_any 11 w)
  rw [show takesV 11 = 2 by decide] at HT
  have HX0 := Lib.hid (And.intro x0 (And.intro x1 (And.intro x2 (And.intro x3 x4))))
  have HY0 := Lib.hid (And.intro y0 (And.intro y1 (And.intro y2 (And.intro y3 y4))))
  have HCX : Hid (∀ w', Below w.heap.size w w' → Calls Tryz.prog 35 #[.agg #[.int .i64 x.k, .bool x.b, .int .i64 x.n, .string x.t, .slice ax x.l.length cx]] w' fun e w'' => e = .returned (.bool true) ∧ Below w'.heap.size w' w'') := fun w' h => by
    have h2 := rCheck_any x fx (.slice ax x.l.length cx) w' B (Nat.le_trans hB h.size) (isL_below hsx h hB)
    rw [hvx] at h2
    exact h2
  have HCY : Hid (∀ w', Below w.heap.size w w' → Calls Tryz.prog 35 #[.agg #[.int .i64 y.k, .bool y.b, .int .i64 y.n, .string y.t, .slice ay y.l.length cy]] w' fun e w'' => e = .returned (.bool true) ∧ Below w'.heap.size w' w'') := fun w' h => by
    have h2 := rCheck_any y fy (.slice ay y.l.length cy) w' B (Nat.le_trans hB h.size) (isL_below hsy h hB)
    rw [hvy] at h2
    exact h2
  have Hsx := Lib.hid hsx
  have Hsy := Lib.hid hsy
  have HFX := Lib.hid fx
  have HFY := Lib.hid fy
  obtain ⟨P, hP⟩ : ∃ P, P = neP x y := ⟨_, rfl⟩
  rw [← hP]
  have HP := Lib.hid hP
  obtain ⟨E, hE⟩ : ∃ E, E = same x y := ⟨_, rfl⟩
  have HN : Hid (P = truthP (!E)) := by rw [Hid, hP, hE]; rfl
  have HE := Lib.hid hE
  clear hE
  clear hs hA ha x0 x1 x2 x3 x4 hsx y0 y1 y2 y3 y4 hsy fx fy hvx hvy hc hP
  show Calls Tryz.prog 36 #[.int .i64 11, .slice (some ⟨bb, off, none⟩) 2 c] w _
  go_enter Tryz.func36, Tryz.ntmps36
  go_upto_region 1 with fail
  obtain ⟨wA, hwA, hb0, h0, hsz⟩ := zero_box w 36
  rw [← hwA]
  have HB0 := Lib.hid hb0
  have HZ := Lib.hid h0
  have s0 : w.heap.size < wA.heap.size := by omega
  clear hwA hb0 h0 hsz
  go_wp2_with fail
  refine (HT.out _).mono ?_
  rintro e w1 ⟨rfl, hw1⟩
  rw [hw1]
  clear hw1 w1
  go_wp2_with fail
  refine (HT.out _).mono ?_
  rintro e w1 ⟨rfl, hw1⟩
  rw [hw1]
  clear hw1 w1
  go_wp2_with fail
  go_loopw [6] (fun i wr => ∃ k : Nat, k ≤ 2 ∧ i = .int .i64 k ∧ Hid (Below wA.heap.size wA wr)) (fun i _ => 2 - (intOf i).toNat)
  case atStart => exact ⟨0, by omega, rfl, Below.refl _ _⟩
  case round =>
    obtain ⟨k, hk, rfl, HRR⟩ := hrel
    have HB := Lib.hid (below_down HB0.out HRR.out (Nat.le_refl _))
    have hwr := HRR.out.size
    have HZR := Lib.hid ((HRR.out.block w.heap.size s0).trans HZ.out)
    have hg : ∀ o, wr.cell? ⟨bb, o, none⟩ = w.cell? ⟨bb, o, none⟩ := fun o => HB.out.cell (p := ⟨bb, o, none⟩) (Nat.lt_of_lt_of_le hb2 hB)
    have hz : bb < wr.heap.size := by omega
    have hz0 : w.heap.size < wr.heap.size := by omega
    obtain ⟨x0, x1, x2, x3, x4⟩ := HX0.out
    obtain ⟨y0, y1, y2, y3, y4⟩ := HY0.out
    have hk2 : k = 0 ∨ k = 1 ∨ k = 2 := by omega
    rcases hk2 with rfl | rfl | rfl
    · go_wp2_with fail
      refine (HCX.out _ HB.out).mono ?_
      rintro e w2 ⟨rfl, hb3⟩
      have HR2 := Lib.hid (below_down HRR.out hb3 (Nat.le_refl _))
      clear hb3 hg x0 x1 x2 x3 x4 y0 y1 y2 y3 y4
      go_wp2_with fail
      go_roundw
      case rel => exact ⟨1, by omega, rfl, HR2⟩
      case measure => simp [intOf]
    · go_wp2_with fail
      refine (HCY.out _ HB.out).mono ?_
      rintro e w2 ⟨rfl, hb3⟩
      have HR2 := Lib.hid (below_down HRR.out hb3 (Nat.le_refl _))
      clear hb3 hg x0 x1 x2 x3 x4 y0 y1 y2 y3 y4
      go_wp2_with fail
      go_roundw
      case rel => exact ⟨2, by omega, rfl, HR2⟩
      case measure => simp [intOf]
    go_upto_region 12 with fail
    obtain ⟨wC, hwC⟩ : ∃ wC, wC = (wr.alloc (.cells #[.int .i64 x.k, .bool x.b, .int .i64 x.n, .string x.t, .slice ax x.l.length cx] 36)).alloc (.cells #[.int .i64 y.k, .bool y.b, .int .i64 y.n, .string y.t, .slice ay y.l.length cy] 36) := ⟨_, rfl⟩
    have hbC : Below wr.heap.size wr wC := by rw [hwC]; exact ((Below.refl _ _).alloc (Nat.le_refl _) _).alloc (by simp) _
    have hxC : wC.heap[wr.heap.size]? = some (.cells #[.int .i64 x.k, .bool x.b, .int .i64 x.n, .string x.t, .slice ax x.l.length cx] 36 (0, 0)) := by rw [hwC]; exact heap_two
    have hyC : wC.heap[wr.heap.size + 1]? = some (.cells #[.int .i64 y.k, .bool y.b, .int .i64 y.n, .string y.t, .slice ay y.l.length cy] 36 (0, 0)) := by rw [hwC]; exact heap_second
    have hsC : wC.heap.size = wr.heap.size + 2 := by rw [hwC]; simp
    rw [← hwC]
    have HBC := Lib.hid (below_down HB.out hbC (Nat.le_refl _))
    have HZC := Lib.hid ((hbC.block w.heap.size hz0).trans HZR.out)
    obtain ⟨p, hp⟩ : ∃ p, p = wr.heap.size := ⟨_, rfl⟩
    rw [← hp] at hxC hyC hsC ⊢
    have qx := fun o => cell_of hxC o
    have qy := fun o => cell_of hyC o
    have HXC := Lib.hid hxC
    have HYC := Lib.hid hyC
    have sx : p < wC.heap.size := by omega
    have sy : p + 1 < wC.heap.size := by omega
    have sC : w.heap.size < wC.heap.size := by omega
    have sB : bb < wC.heap.size := by omega
    have hpw : w.heap.size < p := by omega
    clear hwC hbC hxC hyC hsC hg x0 x1 x2 x3 x4 y0 y1 y2 y3 y4 HX0 HY0 HCX HCY HT HZR HB HRR hz hz0 hwr hp
    go_wp2_with fail
    refine (zSame_any x y HFX.out HFY.out (.slice ax x.l.length cx) (.slice ay y.l.length cy) wC B (Nat.le_trans hB HBC.out.size) (isL_below Hsx.out HBC.out hB) (isL_below Hsy.out HBC.out hB)).mono ?_
    rw [← HE.out]
    rintro e w6 ⟨rfl, hb6⟩
    have HB6 := Lib.hid (below_down HBC.out hb6 (Nat.le_refl _))
    have HZ6 := Lib.hid ((hb6.block w.heap.size sC).trans HZC.out)
    have s6 : w.heap.size < w6.heap.size := by have := hb6.size; omega
    clear hb6 qx qy
    go_wp2_with fail
    refine (rBool_any (!E) _).mono ?_
    rintro e w9 ⟨rfl, hb9⟩
    have HB9 := Lib.hid (below_down HB6.out hb9 (Nat.le_refl _))
    have hz9 := (hb9.block (w.heap.size) s6).trans HZ6.out
    have s9 : w.heap.size < w9.heap.size := by have := hb9.size; omega
    have q9 := fun o => cell_of hz9 o
    have f9 := fun o => frozen_of hz9 o
    clear hb9 hz9
    go_wp2_with fail
    refine bodyPost_ret (v := .tuple #[.agg #[.int .i64 1, .bool (!E), .int .i64 0, .string { data := #[] }, .slice none 0 0], .int .i64 0]) (by simp [results, Tryz.results36, go_sem, q9]) rfl (ref_flat (by rw [HN.out]; rfl) (by rw [HN.out]; rfl) (below_set5 HB9.out (Nat.le_refl _) _ _ _ _ _))
set_option maxHeartbeats 800000 in
theorem rA_hasno (x y : GV) (fx : x.fit) (fy : y.fit) (hvx : vmay x = true) (hvy : vmay y = true) (hk : x.k ≠ 4) (s : Value) (w : World) (B : Nat) (hB : B ≤ w.heap.size) (hs : isL w 0 B s [x, y]) : Calls Tryz.prog 36 #[.int .i64 22, s] w (RefO w (hasP x y)) := by
  obtain ⟨a, c, bb, off, rfl, hc, ha, hA⟩ := isL_open hs
  obtain ⟨rfl, hb1, hb2⟩ := ha (by simp)
  obtain ⟨ax, cx, x0, x1, x2, x3, x4, hsx⟩ := cellsV_slice (hA 0 (by simp))
  obtain ⟨ay, cy, y0, y1, y2, y3, y4, hsy⟩ := cellsV_slice (hA 1 (by simp))
  simp only [List.getElem_cons_zero, List.getElem_cons_succ, Nat.zero_mul, Nat.one_mul, Nat.add_zero] at x0 x1 x2 x3 x4 hsx y0 y1 y2 y3 y4 hsy
  have HT := Lib.hid (fun w => takesW_any 22 w)
  rw [show takesV 22 = 2 by decide] at HT
  have HX0 := Lib.hid (And.intro x0 (And.intro x1 (And.intro x2 (And.intro x3 x4))))
  have HY0 := Lib.hid (And.intro y0 (And.intro y1 (And.intro y2 (And.intro y3 y4))))
  have HCX : Hid (∀ w', Below w.heap.size w w' → Calls Tryz.prog 35 #[.agg #[.int .i64 x.k, .bool x.b, .int .i64 x.n, .string x.t, .slice ax x.l.length cx]] w' fun e w'' => e = .returned (.bool true) ∧ Below w'.heap.size w' w'') := fun w' h => by
    have h2 := rCheck_any x fx (.slice ax x.l.length cx) w' B (Nat.le_trans hB h.size) (isL_below hsx h hB)
    rw [hvx] at h2
    exact h2
  have HCY : Hid (∀ w', Below w.heap.size w w' → Calls Tryz.prog 35 #[.agg #[.int .i64 y.k, .bool y.b, .int .i64 y.n, .string y.t, .slice ay y.l.length cy]] w' fun e w'' => e = .returned (.bool true) ∧ Below w'.heap.size w' w'') := fun w' h => by
    have h2 := rCheck_any y fy (.slice ay y.l.length cy) w' B (Nat.le_trans hB h.size) (isL_below hsy h hB)
    rw [hvy] at h2
    exact h2
  have Hsx := Lib.hid hsx
  have Hsy := Lib.hid hsy
  have HFX := Lib.hid fx
  have HFY := Lib.hid fy
  obtain ⟨P, hP⟩ : ∃ P, P = hasP x y := ⟨_, rfl⟩
  rw [← hP]
  have HP := Lib.hid hP
  have HN : Hid (P = noP 4) := by rw [Hid, hP, hasP, if_neg hk]
  have hne : (x.k != 4) = true := by simpa using hk
  have hne2 : (x.k == 4) = false := by simpa using hk
  clear hk
  clear hs hA ha x0 x1 x2 x3 x4 hsx y0 y1 y2 y3 y4 hsy fx fy hvx hvy hc hP
  show Calls Tryz.prog 36 #[.int .i64 22, .slice (some ⟨bb, off, none⟩) 2 c] w _
  go_enter Tryz.func36, Tryz.ntmps36
  go_upto_region 1 with fail
  obtain ⟨wA, hwA, hb0, h0, hsz⟩ := zero_box w 36
  rw [← hwA]
  have HB0 := Lib.hid hb0
  have HZ := Lib.hid h0
  have s0 : w.heap.size < wA.heap.size := by omega
  clear hwA hb0 h0 hsz
  go_wp2_with fail
  refine (HT.out _).mono ?_
  rintro e w1 ⟨rfl, hw1⟩
  rw [hw1]
  clear hw1 w1
  go_wp2_with fail
  refine (HT.out _).mono ?_
  rintro e w1 ⟨rfl, hw1⟩
  rw [hw1]
  clear hw1 w1
  go_wp2_with fail
  go_loopw [6] (fun i wr => ∃ k : Nat, k ≤ 2 ∧ i = .int .i64 k ∧ Hid (Below wA.heap.size wA wr)) (fun i _ => 2 - (intOf i).toNat)
  case atStart => exact ⟨0, by omega, rfl, Below.refl _ _⟩
  case round =>
    obtain ⟨k, hk, rfl, HRR⟩ := hrel
    have HB := Lib.hid (below_down HB0.out HRR.out (Nat.le_refl _))
    have hwr := HRR.out.size
    have HZR := Lib.hid ((HRR.out.block w.heap.size s0).trans HZ.out)
    have hg : ∀ o, wr.cell? ⟨bb, o, none⟩ = w.cell? ⟨bb, o, none⟩ := fun o => HB.out.cell (p := ⟨bb, o, none⟩) (Nat.lt_of_lt_of_le hb2 hB)
    have hz : bb < wr.heap.size := by omega
    have hz0 : w.heap.size < wr.heap.size := by omega
    obtain ⟨x0, x1, x2, x3, x4⟩ := HX0.out
    obtain ⟨y0, y1, y2, y3, y4⟩ := HY0.out
    have hk2 : k = 0 ∨ k = 1 ∨ k = 2 := by omega
    rcases hk2 with rfl | rfl | rfl
    · go_wp2_with fail
      refine (HCX.out _ HB.out).mono ?_
      rintro e w2 ⟨rfl, hb3⟩
      have HR2 := Lib.hid (below_down HRR.out hb3 (Nat.le_refl _))
      clear hb3 hg x0 x1 x2 x3 x4 y0 y1 y2 y3 y4
      go_wp2_with fail
      go_roundw
      case rel => exact ⟨1, by omega, rfl, HR2⟩
      case measure => simp [intOf]
    · go_wp2_with fail
      refine (HCY.out _ HB.out).mono ?_
      rintro e w2 ⟨rfl, hb3⟩
      have HR2 := Lib.hid (below_down HRR.out hb3 (Nat.le_refl _))
      clear hb3 hg x0 x1 x2 x3 x4 y0 y1 y2 y3 y4
      go_wp2_with fail
      go_roundw
      case rel => exact ⟨2, by omega, rfl, HR2⟩
      case measure => simp [intOf]
    go_upto_region 12 with fail
    obtain ⟨wC, hwC⟩ : ∃ wC, wC = (wr.alloc (.cells #[.int .i64 x.k, .bool x.b, .int .i64 x.n, .string x.t, .slice ax x.l.length cx] 36)).alloc (.cells #[.int .i64 y.k, .bool y.b, .int .i64 y.n, .string y.t, .slice ay y.l.length cy] 36) := ⟨_, rfl⟩
    have hbC : Below wr.heap.size wr wC := by rw [hwC]; exact ((Below.refl _ _).alloc (Nat.le_refl _) _).alloc (by simp) _
    have hxC : wC.heap[wr.heap.size]? = some (.cells #[.int .i64 x.k, .bool x.b, .int .i64 x.n, .string x.t, .slice ax x.l.length cx] 36 (0, 0)) := by rw [hwC]; exact heap_two
    have hyC : wC.heap[wr.heap.size + 1]? = some (.cells #[.int .i64 y.k, .bool y.b, .int .i64 y.n, .string y.t, .slice ay y.l.length cy] 36 (0, 0)) := by rw [hwC]; exact heap_second
    have hsC : wC.heap.size = wr.heap.size + 2 := by rw [hwC]; simp
    rw [← hwC]
    have HBC := Lib.hid (below_down HB.out hbC (Nat.le_refl _))
    have HZC := Lib.hid ((hbC.block w.heap.size hz0).trans HZR.out)
    obtain ⟨p, hp⟩ : ∃ p, p = wr.heap.size := ⟨_, rfl⟩
    rw [← hp] at hxC hyC hsC ⊢
    have qx := fun o => cell_of hxC o
    have qy := fun o => cell_of hyC o
    have HXC := Lib.hid hxC
    have HYC := Lib.hid hyC
    have sx : p < wC.heap.size := by omega
    have sy : p + 1 < wC.heap.size := by omega
    have sC : w.heap.size < wC.heap.size := by omega
    have sB : bb < wC.heap.size := by omega
    have hpw : w.heap.size < p := by omega
    clear hwC hbC hxC hyC hsC hg x0 x1 x2 x3 x4 y0 y1 y2 y3 y4 HX0 HY0 HCX HCY HT HZR HB HRR hz hz0 hwr hp
    go_wp2_with fail
    refine (rNo_any 4 _).mono ?_
    rintro e w9 ⟨rfl, hb9⟩
    have HB9 := Lib.hid (below_down HBC.out hb9 (Nat.le_refl _))
    have hz9 := (hb9.block (w.heap.size) sC).trans HZC.out
    have s9 : w.heap.size < w9.heap.size := by have := hb9.size; omega
    have q9 := fun o => cell_of hz9 o
    have f9 := fun o => frozen_of hz9 o
    clear hb9 hz9
    go_wp2_with fail
    refine bodyPost_ret (v := .tuple #[.agg #[.int .i64 0, .bool false, .int .i64 0, .string { data := #[] }, .slice none 0 0], .int .i64 4]) (by simp [results, Tryz.results36, go_sem, q9]) rfl (ref_flat (by rw [HN.out]; rfl) (by rw [HN.out]; rfl) (below_set5 HB9.out (Nat.le_refl _) _ _ _ _ _))
set_option maxHeartbeats 800000 in
theorem rA_dif (x y : GV) (fx : x.fit) (fy : y.fit) (hvx : vmay x = true) (hvy : vmay y = true) (op : Int) (ht : takesV op = 2) (h10 : op ≠ 10) (h11 : op ≠ 11) (h22 : op ≠ 22) (hk : x.k ≠ y.k) (s : Value) (w : World) (B : Nat) (hB : B ≤ w.heap.size) (hs : isL w 0 B s [x, y]) : Calls Tryz.prog 36 #[.int .i64 op, s] w (RefO w (noP 4)) := by
  obtain ⟨a, c, bb, off, rfl, hc, ha, hA⟩ := isL_open hs
  obtain ⟨rfl, hb1, hb2⟩ := ha (by simp)
  obtain ⟨ax, cx, x0, x1, x2, x3, x4, hsx⟩ := cellsV_slice (hA 0 (by simp))
  obtain ⟨ay, cy, y0, y1, y2, y3, y4, hsy⟩ := cellsV_slice (hA 1 (by simp))
  simp only [List.getElem_cons_zero, List.getElem_cons_succ, Nat.zero_mul, Nat.one_mul, Nat.add_zero] at x0 x1 x2 x3 x4 hsx y0 y1 y2 y3 y4 hsy
  have HT := Lib.hid (fun w => takesW_any op w)
  rw [ht] at HT
  have HX0 := Lib.hid (And.intro x0 (And.intro x1 (And.intro x2 (And.intro x3 x4))))
  have HY0 := Lib.hid (And.intro y0 (And.intro y1 (And.intro y2 (And.intro y3 y4))))
  have HCX : Hid (∀ w', Below w.heap.size w w' → Calls Tryz.prog 35 #[.agg #[.int .i64 x.k, .bool x.b, .int .i64 x.n, .string x.t, .slice ax x.l.length cx]] w' fun e w'' => e = .returned (.bool true) ∧ Below w'.heap.size w' w'') := fun w' h => by
    have h2 := rCheck_any x fx (.slice ax x.l.length cx) w' B (Nat.le_trans hB h.size) (isL_below hsx h hB)
    rw [hvx] at h2
    exact h2
  have HCY : Hid (∀ w', Below w.heap.size w w' → Calls Tryz.prog 35 #[.agg #[.int .i64 y.k, .bool y.b, .int .i64 y.n, .string y.t, .slice ay y.l.length cy]] w' fun e w'' => e = .returned (.bool true) ∧ Below w'.heap.size w' w'') := fun w' h => by
    have h2 := rCheck_any y fy (.slice ay y.l.length cy) w' B (Nat.le_trans hB h.size) (isL_below hsy h hB)
    rw [hvy] at h2
    exact h2
  have Hsx := Lib.hid hsx
  have Hsy := Lib.hid hsy
  have HFX := Lib.hid fx
  have HFY := Lib.hid fy
  obtain ⟨P, hP⟩ : ∃ P, P = noP 4 := ⟨_, rfl⟩
  rw [← hP]
  have HP := Lib.hid hP
  have HN := HP
  have hne : (x.k != y.k) = true := by simpa using hk
  have hne2 : (x.k == y.k) = false := by simpa using hk
  have e10 : (op == 10) = false := by simpa using h10
  have e11 : (op == 11) = false := by simpa using h11
  have e22 : (op == 22) = false := by simpa using h22
  clear hk h10 h11 h22 ht
  clear hs hA ha x0 x1 x2 x3 x4 hsx y0 y1 y2 y3 y4 hsy fx fy hvx hvy hc hP
  show Calls Tryz.prog 36 #[.int .i64 op, .slice (some ⟨bb, off, none⟩) 2 c] w _
  go_enter Tryz.func36, Tryz.ntmps36
  go_upto_region 1 with fail
  obtain ⟨wA, hwA, hb0, h0, hsz⟩ := zero_box w 36
  rw [← hwA]
  have HB0 := Lib.hid hb0
  have HZ := Lib.hid h0
  have s0 : w.heap.size < wA.heap.size := by omega
  clear hwA hb0 h0 hsz
  go_wp2_with fail
  refine (HT.out _).mono ?_
  rintro e w1 ⟨rfl, hw1⟩
  rw [hw1]
  clear hw1 w1
  go_wp2_with fail
  refine (HT.out _).mono ?_
  rintro e w1 ⟨rfl, hw1⟩
  rw [hw1]
  clear hw1 w1
  go_wp2_with fail
  go_loopw [6] (fun i wr => ∃ k : Nat, k ≤ 2 ∧ i = .int .i64 k ∧ Hid (Below wA.heap.size wA wr)) (fun i _ => 2 - (intOf i).toNat)
  case atStart => exact ⟨0, by omega, rfl, Below.refl _ _⟩
  case round =>
    obtain ⟨k, hk, rfl, HRR⟩ := hrel
    have HB := Lib.hid (below_down HB0.out HRR.out (Nat.le_refl _))
    have hwr := HRR.out.size
    have HZR := Lib.hid ((HRR.out.block w.heap.size s0).trans HZ.out)
    have hg : ∀ o, wr.cell? ⟨bb, o, none⟩ = w.cell? ⟨bb, o, none⟩ := fun o => HB.out.cell (p := ⟨bb, o, none⟩) (Nat.lt_of_lt_of_le hb2 hB)
    have hz : bb < wr.heap.size := by omega
    have hz0 : w.heap.size < wr.heap.size := by omega
    obtain ⟨x0, x1, x2, x3, x4⟩ := HX0.out
    obtain ⟨y0, y1, y2, y3, y4⟩ := HY0.out
    have hk2 : k = 0 ∨ k = 1 ∨ k = 2 := by omega
    rcases hk2 with rfl | rfl | rfl
    · go_wp2_with fail
      refine (HCX.out _ HB.out).mono ?_
      rintro e w2 ⟨rfl, hb3⟩
      have HR2 := Lib.hid (below_down HRR.out hb3 (Nat.le_refl _))
      clear hb3 hg x0 x1 x2 x3 x4 y0 y1 y2 y3 y4
      go_wp2_with fail
      go_roundw
      case rel => exact ⟨1, by omega, rfl, HR2⟩
      case measure => simp [intOf]
    · go_wp2_with fail
      refine (HCY.out _ HB.out).mono ?_
      rintro e w2 ⟨rfl, hb3⟩
      have HR2 := Lib.hid (below_down HRR.out hb3 (Nat.le_refl _))
      clear hb3 hg x0 x1 x2 x3 x4 y0 y1 y2 y3 y4
      go_wp2_with fail
      go_roundw
      case rel => exact ⟨2, by omega, rfl, HR2⟩
      case measure => simp [intOf]
    go_upto_region 12 with fail
    obtain ⟨wC, hwC⟩ : ∃ wC, wC = (wr.alloc (.cells #[.int .i64 x.k, .bool x.b, .int .i64 x.n, .string x.t, .slice ax x.l.length cx] 36)).alloc (.cells #[.int .i64 y.k, .bool y.b, .int .i64 y.n, .string y.t, .slice ay y.l.length cy] 36) := ⟨_, rfl⟩
    have hbC : Below wr.heap.size wr wC := by rw [hwC]; exact ((Below.refl _ _).alloc (Nat.le_refl _) _).alloc (by simp) _
    have hxC : wC.heap[wr.heap.size]? = some (.cells #[.int .i64 x.k, .bool x.b, .int .i64 x.n, .string x.t, .slice ax x.l.length cx] 36 (0, 0)) := by rw [hwC]; exact heap_two
    have hyC : wC.heap[wr.heap.size + 1]? = some (.cells #[.int .i64 y.k, .bool y.b, .int .i64 y.n, .string y.t, .slice ay y.l.length cy] 36 (0, 0)) := by rw [hwC]; exact heap_second
    have hsC : wC.heap.size = wr.heap.size + 2 := by rw [hwC]; simp
    rw [← hwC]
    have HBC := Lib.hid (below_down HB.out hbC (Nat.le_refl _))
    have HZC := Lib.hid ((hbC.block w.heap.size hz0).trans HZR.out)
    obtain ⟨p, hp⟩ : ∃ p, p = wr.heap.size := ⟨_, rfl⟩
    rw [← hp] at hxC hyC hsC ⊢
    have qx := fun o => cell_of hxC o
    have qy := fun o => cell_of hyC o
    have HXC := Lib.hid hxC
    have HYC := Lib.hid hyC
    have sx : p < wC.heap.size := by omega
    have sy : p + 1 < wC.heap.size := by omega
    have sC : w.heap.size < wC.heap.size := by omega
    have sB : bb < wC.heap.size := by omega
    have hpw : w.heap.size < p := by omega
    clear hwC hbC hxC hyC hsC hg x0 x1 x2 x3 x4 y0 y1 y2 y3 y4 HX0 HY0 HCX HCY HT HZR HB HRR hz hz0 hwr hp
    go_wp2_with fail
    refine (rNo_any 4 _).mono ?_
    rintro e w9 ⟨rfl, hb9⟩
    have HB9 := Lib.hid (below_down HBC.out hb9 (Nat.le_refl _))
    have hz9 := (hb9.block (w.heap.size) sC).trans HZC.out
    have s9 : w.heap.size < w9.heap.size := by have := hb9.size; omega
    have q9 := fun o => cell_of hz9 o
    have f9 := fun o => frozen_of hz9 o
    clear hb9 hz9
    go_wp2_with fail
    refine bodyPost_ret (v := .tuple #[.agg #[.int .i64 0, .bool false, .int .i64 0, .string { data := #[] }, .slice none 0 0], .int .i64 4]) (by simp [results, Tryz.results36, go_sem, q9]) rfl (ref_flat (by rw [HN.out]; rfl) (by rw [HN.out]; rfl) (below_set5 HB9.out (Nat.le_refl _) _ _ _ _ _))
end Go.Proofs.YtljljhjdlicfeaaGreat
namespace Go.Proofs.YtljljhjdlicfeaaGreat
open Go Go.RowKit
set_option maxRecDepth 100000
set_option linter.unusedVariables false
set_option maxHeartbeats 1600000 in
theorem rA_has (x y : GV) (fx : x.fit) (fy : y.fit) (hvx : vmay x = true) (hvy : vmay y = true) (hk : x.k = 4) (s : Value) (w : World) (B : Nat) (hB : B ≤ w.heap.size) (hs : isL w 0 B s [x, y]) : Calls Tryz.prog 36 #[.int .i64 22, s] w (RefO w (hasP x y)) := by
  obtain ⟨a, c, bb, off, rfl, hc, ha, hA⟩ := isL_open hs
  obtain ⟨rfl, hb1, hb2⟩ := ha (by simp)
  obtain ⟨ax, cx, x0, x1, x2, x3, x4, hsx⟩ := cellsV_slice (hA 0 (by simp))
  obtain ⟨ay, cy, y0, y1, y2, y3, y4, hsy⟩ := cellsV_slice (hA 1 (by simp))
  simp only [List.getElem_cons_zero, List.getElem_cons_succ, Nat.zero_mul, Nat.one_mul, Nat.add_zero] at x0 x1 x2 x3 x4 hsx y0 y1 y2 y3 y4 hsy
  have HT := Lib.hid (fun w => takesW_any 22 w)
  rw [show takesV 22 = 2 by decide] at HT
  have HX0 := Lib.hid (And.intro x0 (And.intro x1 (And.intro x2 (And.intro x3 x4))))
  have HY0 := Lib.hid (And.intro y0 (And.intro y1 (And.intro y2 (And.intro y3 y4))))
  have HCX : Hid (∀ w', Below w.heap.size w w' → Calls Tryz.prog 35 #[.agg #[.int .i64 x.k, .bool x.b, .int .i64 x.n, .string x.t, .slice ax x.l.length cx]] w' fun e w'' => e = .returned (.bool true) ∧ Below w'.heap.size w' w'') := fun w' h => by
    have h2 := rCheck_any x fx (.slice ax x.l.length cx) w' B (Nat.le_trans hB h.size) (isL_below hsx h hB)
    rw [hvx] at h2
    exact h2
  have HCY : Hid (∀ w', Below w.heap.size w w' → Calls Tryz.prog 35 #[.agg #[.int .i64 y.k, .bool y.b, .int .i64 y.n, .string y.t, .slice ay y.l.length cy]] w' fun e w'' => e = .returned (.bool true) ∧ Below w'.heap.size w' w'') := fun w' h => by
    have h2 := rCheck_any y fy (.slice ay y.l.length cy) w' B (Nat.le_trans hB h.size) (isL_below hsy h hB)
    rw [hvy] at h2
    exact h2
  have Hsx := Lib.hid hsx
  have Hsy := Lib.hid hsy
  have HFX := Lib.hid fx
  have HFY := Lib.hid fy
  obtain ⟨P, hP⟩ : ∃ P, P = hasP x y := ⟨_, rfl⟩
  rw [← hP]
  have HP := Lib.hid hP
  have HN : Hid (P = truthP (hasL x.l y)) := by rw [Hid, hP, hasP, if_pos hk]
  have hne : (x.k != 4) = false := by simpa using hk
  have fxl := (fit_open fx).2.2.2.2.2
  have HFL := Lib.hid fxl
  have hxl := fxl.1
  clear hk fxl
  clear hs hA ha x0 x1 x2 x3 x4 hsx y0 y1 y2 y3 y4 hsy fx fy hvx hvy hc hP
  show Calls Tryz.prog 36 #[.int .i64 22, .slice (some ⟨bb, off, none⟩) 2 c] w _
  go_enter Tryz.func36, Tryz.ntmps36
  go_upto_region 1 with fail
  obtain ⟨wA, hwA, hb0, h0, hsz⟩ := zero_box w 36
  rw [← hwA]
  have HB0 := Lib.hid hb0
  have HZ := Lib.hid h0
  have s0 : w.heap.size < wA.heap.size := by omega
  clear hwA hb0 h0 hsz
  go_wp2_with fail
  refine (HT.out _).mono ?_
  rintro e w1 ⟨rfl, hw1⟩
  rw [hw1]
  clear hw1 w1
  go_wp2_with fail
  refine (HT.out _).mono ?_
  rintro e w1 ⟨rfl, hw1⟩
  rw [hw1]
  clear hw1 w1
  go_wp2_with fail
  go_loopw [6] (fun i wr => ∃ k : Int, (k = 0 ∨ k = 1 ∨ k = 2) ∧ i = .int .i64 k ∧ Hid (Below wA.heap.size wA wr)) (fun i _ => 2 - (intOf i).toNat)
  case atStart => exact ⟨0, .inl rfl, rfl, Below.refl _ _⟩
  case round =>
    obtain ⟨k, hk, rfl, HRR⟩ := hrel
    have HB := Lib.hid (below_down HB0.out HRR.out (Nat.le_refl _))
    have hwr := HRR.out.size
    have HZR := Lib.hid ((HRR.out.block w.heap.size s0).trans HZ.out)
    have hg : ∀ o, wr.cell? ⟨bb, o, none⟩ = w.cell? ⟨bb, o, none⟩ := fun o => HB.out.cell (p := ⟨bb, o, none⟩) (Nat.lt_of_lt_of_le hb2 hB)
    have hz : bb < wr.heap.size := by omega
    have hz0 : w.heap.size < wr.heap.size := by omega
    obtain ⟨x0, x1, x2, x3, x4⟩ := HX0.out
    obtain ⟨y0, y1, y2, y3, y4⟩ := HY0.out
    have hk2 := hk
    clear hk
    rcases hk2 with rfl | rfl | rfl
    · go_wp2_with fail
      refine (HCX.out _ HB.out).mono ?_
      rintro e w2 ⟨rfl, hb3⟩
      have HR2 := Lib.hid (below_down HRR.out hb3 (Nat.le_refl _))
      clear hb3 hg x0 x1 x2 x3 x4 y0 y1 y2 y3 y4
      go_wp2_with fail
      go_roundw
      case rel => exact ⟨1, .inr (.inl rfl), rfl, HR2⟩
      case measure => simp [intOf]
    · go_wp2_with fail
      refine (HCY.out _ HB.out).mono ?_
      rintro e w2 ⟨rfl, hb3⟩
      have HR2 := Lib.hid (below_down HRR.out hb3 (Nat.le_refl _))
      clear hb3 hg x0 x1 x2 x3 x4 y0 y1 y2 y3 y4
      go_wp2_with fail
      go_roundw
      case rel => exact ⟨2, .inr (.inr rfl), rfl, HR2⟩
      case measure => simp [intOf]
    go_upto_region 12 with fail
    obtain ⟨wC, hwC⟩ : ∃ wC, wC = (wr.alloc (.cells #[.int .i64 x.k, .bool x.b, .int .i64 x.n, .string x.t, .slice ax x.l.length cx] 36)).alloc (.cells #[.int .i64 y.k, .bool y.b, .int .i64 y.n, .string y.t, .slice ay y.l.length cy] 36) := ⟨_, rfl⟩
    have hbC : Below wr.heap.size wr wC := by rw [hwC]; exact ((Below.refl _ _).alloc (Nat.le_refl _) _).alloc (by simp) _
    have hxC : wC.heap[wr.heap.size]? = some (.cells #[.int .i64 x.k, .bool x.b, .int .i64 x.n, .string x.t, .slice ax x.l.length cx] 36 (0, 0)) := by rw [hwC]; exact heap_two
    have hyC : wC.heap[wr.heap.size + 1]? = some (.cells #[.int .i64 y.k, .bool y.b, .int .i64 y.n, .string y.t, .slice ay y.l.length cy] 36 (0, 0)) := by rw [hwC]; exact heap_second
    have hsC : wC.heap.size = wr.heap.size + 2 := by rw [hwC]; simp
    rw [← hwC]
    have HBC := Lib.hid (below_down HB.out hbC (Nat.le_refl _))
    have HZC := Lib.hid ((hbC.block w.heap.size hz0).trans HZR.out)
    obtain ⟨p, hp⟩ : ∃ p, p = wr.heap.size := ⟨_, rfl⟩
    rw [← hp] at hxC hyC hsC ⊢
    have qx := fun o => cell_of hxC o
    have qy := fun o => cell_of hyC o
    have HXC := Lib.hid hxC
    have HYC := Lib.hid hyC
    have sx : p < wC.heap.size := by omega
    have sy : p + 1 < wC.heap.size := by omega
    have sC : w.heap.size < wC.heap.size := by omega
    have sB : bb < wC.heap.size := by omega
    have hpw : w.heap.size < p := by omega
    clear hwC hbC hxC hyC hsC hg x0 x1 x2 x3 x4 y0 y1 y2 y3 y4 HX0 HY0 HCX HCY HT HZR HB HRR hz hz0 hwr hp
    obtain ⟨a2, c2, b2, off2, e2, hc2, ha2, hA2⟩ := isL_open Hsx.out
    simp only [Value.slice.injEq] at e2
    obtain ⟨rfl, _, rfl⟩ := e2
    have HA2 := Lib.hid hA2
    have Ha2 := Lib.hid ha2
    clear hA2 ha2 hc2
    go_wp2_with fail
    clear qx qy
    go_loopw [9] (fun i wr => ∃ k : Nat, k ≤ x.l.length ∧ i = .int .i64 k ∧ Hid (Below wC.heap.size wC wr) ∧ Hid (hasL x.l y = hasL (x.l.drop k) y)) (fun i _ => x.l.length - (intOf i).toNat)
    case atStart => exact ⟨0, Nat.zero_le _, rfl, Below.refl _ _, rfl⟩
    case round =>
      obtain ⟨k, hk, rfl, HR2, hR⟩ := hrel
      have HB2 := Lib.hid (below_down HBC.out HR2.out (Nat.le_refl _))
      have hx2 := (HR2.out.block p sx).trans HXC.out
      have hy2 := (HR2.out.block (p + 1) sy).trans HYC.out
      have qx2 := fun o => cell_of hx2 o
      have HZ2 := Lib.hid ((HR2.out.block w.heap.size sC).trans HZC.out)
      have hs2 := HR2.out.size
      have l0 : w.heap.size < wr.heap.size := by omega
      have l1 : p < wr.heap.size := by omega
      have l2 : p + 1 < wr.heap.size := by omega
      by_cases hlt : k < x.l.length
      rotate_left
      · have hd : decide ((k : Int) < (x.l.length : Int)) = false := by simp; omega
        have hd2 : decide (k < x.l.length) = false := by simp; omega
        have HN2 : Hid (P = truthP false) := by
          rw [Hid, HN.out, hR.out, List.drop_of_length_le (by omega)]; rfl
        clear hx2 hy2
        go_wp2_with fail
        refine (rBool_any false _).mono ?_
        rintro e w9 ⟨rfl, hb9⟩
        have HB9 := Lib.hid (below_down HB2.out hb9 (Nat.le_refl _))
        have hz9 := (hb9.block (w.heap.size) l0).trans HZ2.out
        have s9 : w.heap.size < w9.heap.size := by have := hb9.size; omega
        have q9 := fun o => cell_of hz9 o
        have f9 := fun o => frozen_of hz9 o
        clear hb9 hz9
        go_wp2_with fail
        refine bodyPost_ret (v := .tuple #[.agg #[.int .i64 1, .bool (false), .int .i64 0, .string { data := #[] }, .slice none 0 0], .int .i64 0]) (by simp [results, Tryz.results36, go_sem, q9]) rfl (ref_flat (by rw [HN2.out]; rfl) (by rw [HN2.out]; rfl) (below_set5 HB9.out (Nat.le_refl _) _ _ _ _ _))
      obtain ⟨rfl, hb3, hb4⟩ := Ha2.out (by omega)
      obtain ⟨ae, ce, e0, e1, e2, e3, e4, hse⟩ := cellsV_slice (HA2.out k hlt)
      have lb : b2 < wr.heap.size := by omega
      have hgr : ∀ o, wr.cell? ⟨b2, o, none⟩ = w.cell? ⟨b2, o, none⟩ := fun o => HB2.out.cell (p := ⟨b2, o, none⟩) (Nat.lt_of_lt_of_le hb4 hB)
      have qy2 := fun o => cell_of hy2 o
      have gx := cell_grow (Below.refl wr.heap.size wr) (Nat.le_refl _) l1
      have gy := cell_grow (Below.refl wr.heap.size wr) (Nat.le_refl _) l2
      have ge := cell_grow (Below.refl wr.heap.size wr) (Nat.le_refl _) lb
      obtain ⟨S, hS⟩ : ∃ S, S = same x.l[k] y := ⟨_, rfl⟩
      have hR2 : Hid (hasL x.l y = (S || hasL (x.l.drop (k + 1)) y)) := by
        rw [Hid, hR.out, List.drop_eq_getElem_cons hlt, hS]; rfl
      have HBG := Lib.hid (fun d os => below_grow HB2.out (Nat.le_refl _) d os)
      have HC1 : Hid (∀ d os, Calls Tryz.prog 10 #[x.l[k].agg (.slice ae x.l[k].l.length ce), y.agg (.slice ay y.l.length cy)] (Go.Sort.grow (redrawn wr d) os) fun e w' => e = .returned (.bool S) ∧ Below (Go.Sort.grow (redrawn wr d) os).heap.size (Go.Sort.grow (redrawn wr d) os) w') := fun d os => by
        rw [hS]
        exact zSame_any x.l[k] y (fitL_mem HFL.out.2 _ (List.getElem_mem hlt)) HFY.out (.slice ae x.l[k].l.length ce) (.slice ay y.l.length cy) _ B (Nat.le_trans hB (HBG.out d os).size) (isL_below hse (HBG.out d os) hB) (isL_below Hsy.out (HBG.out d os) hB)
      simp only [GV.agg] at HC1
      have j0 : (0 : Int) ≤ (k : Int) := by omega
      have j1 : (k : Int) < (x.l.length : Int) := by omega
      clear hx2 hy2 hse hS hR HBG
      go_wp2_with fail
      refine wp_region_quiet_below (by kernel_rfl) (by kernel_rfl) ?_
      repeat (quiet_step (fail))
      quiet_step (exact Calls.regrown_of (HC1.out _ _))
      repeat (quiet_step (fail))
      refine wpQuiet_nil ?_
      intro w3 hw3
      have hb5 : Below wr.heap.size wr w3 := by
        obtain ⟨q, hq⟩ := hw3
        rw [hq]
        exact below_grow (Below.refl _ _) (Nat.le_refl _) _ _
      have HR3 := Lib.hid (below_down HR2.out hb5 (Nat.le_refl _))
      have HB3 := Lib.hid (below_down HB2.out hb5 (Nat.le_refl _))
      have HZ3 := Lib.hid ((hb5.block w.heap.size l0).trans HZ2.out)
      have l3 : w.heap.size < w3.heap.size := by have := hb5.size; omega
      clear hw3 hb5 gx gy ge qx2 qy2 hgr e0 e1 e2 e3 e4 HC1
      cases S
      · have HR4 : Hid (hasL x.l y = hasL (x.l.drop (k + 1)) y) := by rw [Hid, hR2.out]; rfl
        clear hR2
        go_wp2_with fail
        go_roundw
        case rel => exact ⟨k + 1, by omega, by go_num, HR3, HR4⟩
        case measure => simp [intOf]; omega
      · have HN2 : Hid (P = truthP true) := by rw [Hid, HN.out, hR2.out]; rfl
        clear hR2
        go_wp2_with fail
        refine (rBool_any true _).mono ?_
        rintro e w9 ⟨rfl, hb9⟩
        have HB9 := Lib.hid (below_down HB3.out hb9 (Nat.le_refl _))
        have hz9 := (hb9.block (w.heap.size) l3).trans HZ3.out
        have s9 : w.heap.size < w9.heap.size := by have := hb9.size; omega
        have q9 := fun o => cell_of hz9 o
        have f9 := fun o => frozen_of hz9 o
        clear hb9 hz9
        go_wp2_with fail
        refine bodyPost_ret (v := .tuple #[.agg #[.int .i64 1, .bool (true), .int .i64 0, .string { data := #[] }, .slice none 0 0], .int .i64 0]) (by simp [results, Tryz.results36, go_sem, q9]) rfl (ref_flat (by rw [HN2.out]; rfl) (by rw [HN2.out]; rfl) (below_set5 HB9.out (Nat.le_refl _) _ _ _ _ _))
end Go.Proofs.YtljljhjdlicfeaaGreat
namespace Go.Proofs.YtljljhjdlicfeaaGreat
open Go Go.RowKit
set_option maxRecDepth 100000
set_option linter.unusedVariables false
set_option maxHeartbeats 800000 in
theorem rA_listno (x y : GV) (fx : x.fit) (fy : y.fit) (hvx : vmay x = true) (hvy : vmay y = true) (hk : x.k = 4) (hk2 : y.k = 4) (hbig : 4096 < x.l.length + y.l.length) (s : Value) (w : World) (B : Nat) (hB : B ≤ w.heap.size) (hs : isL w 0 B s [x, y]) : Calls Tryz.prog 36 #[.int .i64 16, s] w (RefO w (noP 2)) := by
  obtain ⟨a, c, bb, off, rfl, hc, ha, hA⟩ := isL_open hs
  obtain ⟨rfl, hb1, hb2⟩ := ha (by simp)
  obtain ⟨ax, cx, x0, x1, x2, x3, x4, hsx⟩ := cellsV_slice (hA 0 (by simp))
  obtain ⟨ay, cy, y0, y1, y2, y3, y4, hsy⟩ := cellsV_slice (hA 1 (by simp))
  simp only [List.getElem_cons_zero, List.getElem_cons_succ, Nat.zero_mul, Nat.one_mul, Nat.add_zero] at x0 x1 x2 x3 x4 hsx y0 y1 y2 y3 y4 hsy
  have HT := Lib.hid (fun w => takesW_any 16 w)
  rw [show takesV 16 = 2 by decide] at HT
  have HX0 := Lib.hid (And.intro x0 (And.intro x1 (And.intro x2 (And.intro x3 x4))))
  have HY0 := Lib.hid (And.intro y0 (And.intro y1 (And.intro y2 (And.intro y3 y4))))
  have HCX : Hid (∀ w', Below w.heap.size w w' → Calls Tryz.prog 35 #[.agg #[.int .i64 x.k, .bool x.b, .int .i64 x.n, .string x.t, .slice ax x.l.length cx]] w' fun e w'' => e = .returned (.bool true) ∧ Below w'.heap.size w' w'') := fun w' h => by
    have h2 := rCheck_any x fx (.slice ax x.l.length cx) w' B (Nat.le_trans hB h.size) (isL_below hsx h hB)
    rw [hvx] at h2
    exact h2
  have HCY : Hid (∀ w', Below w.heap.size w w' → Calls Tryz.prog 35 #[.agg #[.int .i64 y.k, .bool y.b, .int .i64 y.n, .string y.t, .slice ay y.l.length cy]] w' fun e w'' => e = .returned (.bool true) ∧ Below w'.heap.size w' w'') := fun w' h => by
    have h2 := rCheck_any y fy (.slice ay y.l.length cy) w' B (Nat.le_trans hB h.size) (isL_below hsy h hB)
    rw [hvy] at h2
    exact h2
  have Hsx := Lib.hid hsx
  have Hsy := Lib.hid hsy
  have HFX := Lib.hid fx
  have HFY := Lib.hid fy
  obtain ⟨P, hP⟩ : ∃ P, P = noP 2 := ⟨_, rfl⟩
  rw [← hP]
  have HP := Lib.hid hP
  have HN := HP
  have hkk : (x.k != y.k) = false := by rw [hk, hk2]; rfl
  have k2 : (x.k == 2) = false := by rw [hk]; rfl
  have k3 : (x.k == 3) = false := by rw [hk]; rfl
  have k4 : (x.k == 4) = true := by rw [hk]; rfl
  have sz1 := (fit_open fx).2.2.2.2.2.1
  have sz2 := (fit_open fy).2.2.2.2.2.1
  have i1 : wrap64 (4096 - (y.l.length : Int)) = 4096 - (y.l.length : Int) := by unfold wrap64; omega
  have i2 : IntKind.i64.wrap (4096 - (y.l.length : Int)) = 4096 - (y.l.length : Int) := IntWalk.i64_in _ (by omega)
  have d1 : decide (4096 - (y.l.length : Int) < (x.l.length : Int)) = true := by simp; omega
  clear hk hk2 hbig sz1 sz2
  clear hs hA ha x0 x1 x2 x3 x4 hsx y0 y1 y2 y3 y4 hsy fx fy hvx hvy hc hP
  show Calls Tryz.prog 36 #[.int .i64 16, .slice (some ⟨bb, off, none⟩) 2 c] w _
  go_enter Tryz.func36, Tryz.ntmps36
  go_upto_region 1 with fail
  obtain ⟨wA, hwA, hb0, h0, hsz⟩ := zero_box w 36
  rw [← hwA]
  have HB0 := Lib.hid hb0
  have HZ := Lib.hid h0
  have s0 : w.heap.size < wA.heap.size := by omega
  clear hwA hb0 h0 hsz
  go_wp2_with fail
  refine (HT.out _).mono ?_
  rintro e w1 ⟨rfl, hw1⟩
  rw [hw1]
  clear hw1 w1
  go_wp2_with fail
  refine (HT.out _).mono ?_
  rintro e w1 ⟨rfl, hw1⟩
  rw [hw1]
  clear hw1 w1
  go_wp2_with fail
  go_loopw [6] (fun i wr => ∃ k : Nat, k ≤ 2 ∧ i = .int .i64 k ∧ Hid (Below wA.heap.size wA wr)) (fun i _ => 2 - (intOf i).toNat)
  case atStart => exact ⟨0, by omega, rfl, Below.refl _ _⟩
  case round =>
    obtain ⟨k, hk, rfl, HRR⟩ := hrel
    have HB := Lib.hid (below_down HB0.out HRR.out (Nat.le_refl _))
    have hwr := HRR.out.size
    have HZR := Lib.hid ((HRR.out.block w.heap.size s0).trans HZ.out)
    have hg : ∀ o, wr.cell? ⟨bb, o, none⟩ = w.cell? ⟨bb, o, none⟩ := fun o => HB.out.cell (p := ⟨bb, o, none⟩) (Nat.lt_of_lt_of_le hb2 hB)
    have hz : bb < wr.heap.size := by omega
    have hz0 : w.heap.size < wr.heap.size := by omega
    obtain ⟨x0, x1, x2, x3, x4⟩ := HX0.out
    obtain ⟨y0, y1, y2, y3, y4⟩ := HY0.out
    have hk2 : k = 0 ∨ k = 1 ∨ k = 2 := by omega
    rcases hk2 with rfl | rfl | rfl
    · go_wp2_with fail
      refine (HCX.out _ HB.out).mono ?_
      rintro e w2 ⟨rfl, hb3⟩
      have HR2 := Lib.hid (below_down HRR.out hb3 (Nat.le_refl _))
      clear hb3 hg x0 x1 x2 x3 x4 y0 y1 y2 y3 y4
      go_wp2_with fail
      go_roundw
      case rel => exact ⟨1, by omega, rfl, HR2⟩
      case measure => simp [intOf]
    · go_wp2_with fail
      refine (HCY.out _ HB.out).mono ?_
      rintro e w2 ⟨rfl, hb3⟩
      have HR2 := Lib.hid (below_down HRR.out hb3 (Nat.le_refl _))
      clear hb3 hg x0 x1 x2 x3 x4 y0 y1 y2 y3 y4
      go_wp2_with fail
      go_roundw
      case rel => exact ⟨2, by omega, rfl, HR2⟩
      case measure => simp [intOf]
    go_upto_region 12 with fail
    obtain ⟨wC, hwC⟩ : ∃ wC, wC = (wr.alloc (.cells #[.int .i64 x.k, .bool x.b, .int .i64 x.n, .string x.t, .slice ax x.l.length cx] 36)).alloc (.cells #[.int .i64 y.k, .bool y.b, .int .i64 y.n, .string y.t, .slice ay y.l.length cy] 36) := ⟨_, rfl⟩
    have hbC : Below wr.heap.size wr wC := by rw [hwC]; exact ((Below.refl _ _).alloc (Nat.le_refl _) _).alloc (by simp) _
    have hxC : wC.heap[wr.heap.size]? = some (.cells #[.int .i64 x.k, .bool x.b, .int .i64 x.n, .string x.t, .slice ax x.l.length cx] 36 (0, 0)) := by rw [hwC]; exact heap_two
    have hyC : wC.heap[wr.heap.size + 1]? = some (.cells #[.int .i64 y.k, .bool y.b, .int .i64 y.n, .string y.t, .slice ay y.l.length cy] 36 (0, 0)) := by rw [hwC]; exact heap_second
    have hsC : wC.heap.size = wr.heap.size + 2 := by rw [hwC]; simp
    rw [← hwC]
    have HBC := Lib.hid (below_down HB.out hbC (Nat.le_refl _))
    have HZC := Lib.hid ((hbC.block w.heap.size hz0).trans HZR.out)
    obtain ⟨p, hp⟩ : ∃ p, p = wr.heap.size := ⟨_, rfl⟩
    rw [← hp] at hxC hyC hsC ⊢
    have qx := fun o => cell_of hxC o
    have qy := fun o => cell_of hyC o
    have HXC := Lib.hid hxC
    have HYC := Lib.hid hyC
    have sx : p < wC.heap.size := by omega
    have sy : p + 1 < wC.heap.size := by omega
    have sC : w.heap.size < wC.heap.size := by omega
    have sB : bb < wC.heap.size := by omega
    have hpw : w.heap.size < p := by omega
    clear hwC hbC hxC hyC hsC hg x0 x1 x2 x3 x4 y0 y1 y2 y3 y4 HX0 HY0 HCX HCY HT HZR HB HRR hz hz0 hwr hp
    go_wp2_with fail
    refine (rNo_any 2 _).mono ?_
    rintro e w9 ⟨rfl, hb9⟩
    have HB9 := Lib.hid (below_down HBC.out hb9 (Nat.le_refl _))
    have hz9 := (hb9.block (w.heap.size) sC).trans HZC.out
    have s9 : w.heap.size < w9.heap.size := by have := hb9.size; omega
    have q9 := fun o => cell_of hz9 o
    have f9 := fun o => frozen_of hz9 o
    clear hb9 hz9
    go_wp2_with fail
    refine bodyPost_ret (v := .tuple #[.agg #[.int .i64 0, .bool false, .int .i64 0, .string { data := #[] }, .slice none 0 0], .int .i64 2]) (by simp [results, Tryz.results36, go_sem, q9]) rfl (ref_flat (by rw [HN.out]; rfl) (by rw [HN.out]; rfl) (below_set5 HB9.out (Nat.le_refl _) _ _ _ _ _))
set_option maxHeartbeats 1600000 in
theorem rA_list (x y : GV) (fx : x.fit) (fy : y.fit) (hvx : vmay x = true) (hvy : vmay y = true) (hk : x.k = 4) (hk2 : y.k = 4) (hbig : x.l.length + y.l.length ≤ 4096) (s : Value) (w : World) (B : Nat) (hB : B ≤ w.heap.size) (hs : isL w 0 B s [x, y]) : Calls Tryz.prog 36 #[.int .i64 16, s] w (RefO w (((⟨4, false, 0, ⟨#[]⟩, x.l ++ y.l⟩ : GV), (0 : Int)))) := by
  obtain ⟨a, c, bb, off, rfl, hc, ha, hA⟩ := isL_open hs
  obtain ⟨rfl, hb1, hb2⟩ := ha (by simp)
  obtain ⟨ax, cx, x0, x1, x2, x3, x4, hsx⟩ := cellsV_slice (hA 0 (by simp))
  obtain ⟨ay, cy, y0, y1, y2, y3, y4, hsy⟩ := cellsV_slice (hA 1 (by simp))
  simp only [List.getElem_cons_zero, List.getElem_cons_succ, Nat.zero_mul, Nat.one_mul, Nat.add_zero] at x0 x1 x2 x3 x4 hsx y0 y1 y2 y3 y4 hsy
  have HT := Lib.hid (fun w => takesW_any 16 w)
  rw [show takesV 16 = 2 by decide] at HT
  have HX0 := Lib.hid (And.intro x0 (And.intro x1 (And.intro x2 (And.intro x3 x4))))
  have HY0 := Lib.hid (And.intro y0 (And.intro y1 (And.intro y2 (And.intro y3 y4))))
  have HCX : Hid (∀ w', Below w.heap.size w w' → Calls Tryz.prog 35 #[.agg #[.int .i64 x.k, .bool x.b, .int .i64 x.n, .string x.t, .slice ax x.l.length cx]] w' fun e w'' => e = .returned (.bool true) ∧ Below w'.heap.size w' w'') := fun w' h => by
    have h2 := rCheck_any x fx (.slice ax x.l.length cx) w' B (Nat.le_trans hB h.size) (isL_below hsx h hB)
    rw [hvx] at h2
    exact h2
  have HCY : Hid (∀ w', Below w.heap.size w w' → Calls Tryz.prog 35 #[.agg #[.int .i64 y.k, .bool y.b, .int .i64 y.n, .string y.t, .slice ay y.l.length cy]] w' fun e w'' => e = .returned (.bool true) ∧ Below w'.heap.size w' w'') := fun w' h => by
    have h2 := rCheck_any y fy (.slice ay y.l.length cy) w' B (Nat.le_trans hB h.size) (isL_below hsy h hB)
    rw [hvy] at h2
    exact h2
  have Hsx := Lib.hid hsx
  have Hsy := Lib.hid hsy
  have HFX := Lib.hid fx
  have HFY := Lib.hid fy
  obtain ⟨P, hP⟩ : ∃ P, P = ((⟨4, false, 0, ⟨#[]⟩, x.l ++ y.l⟩ : GV), (0 : Int)) := ⟨_, rfl⟩
  rw [← hP]
  have HP := Lib.hid hP
  have HN := HP
  have hkk : (x.k != y.k) = false := by rw [hk, hk2]; rfl
  have k2 : (x.k == 2) = false := by rw [hk]; rfl
  have k3 : (x.k == 3) = false := by rw [hk]; rfl
  have k4 : (x.k == 4) = true := by rw [hk]; rfl
  have sz1 := (fit_open fx).2.2.2.2.2.1
  have sz2 := (fit_open fy).2.2.2.2.2.1
  have i1 : wrap64 (4096 - (y.l.length : Int)) = 4096 - (y.l.length : Int) := by unfold wrap64; omega
  have i2 : IntKind.i64.wrap (4096 - (y.l.length : Int)) = 4096 - (y.l.length : Int) := IntWalk.i64_in _ (by omega)
  have d1 : decide (4096 - (y.l.length : Int) < (x.l.length : Int)) = false := by simp; omega
  have HBIG := Lib.hid hbig
  have HFXL := Lib.hid ((fit_open fx).2.2.2.2.2)
  have HFYL := Lib.hid ((fit_open fy).2.2.2.2.2)
  clear hk hk2 hbig sz1 sz2
  clear hs hA ha x0 x1 x2 x3 x4 hsx y0 y1 y2 y3 y4 hsy fx fy hvx hvy hc hP
  show Calls Tryz.prog 36 #[.int .i64 16, .slice (some ⟨bb, off, none⟩) 2 c] w _
  go_enter Tryz.func36, Tryz.ntmps36
  go_upto_region 1 with fail
  obtain ⟨wA, hwA, hb0, h0, hsz⟩ := zero_box w 36
  rw [← hwA]
  have HB0 := Lib.hid hb0
  have HZ := Lib.hid h0
  have s0 : w.heap.size < wA.heap.size := by omega
  clear hwA hb0 h0 hsz
  go_wp2_with fail
  refine (HT.out _).mono ?_
  rintro e w1 ⟨rfl, hw1⟩
  rw [hw1]
  clear hw1 w1
  go_wp2_with fail
  refine (HT.out _).mono ?_
  rintro e w1 ⟨rfl, hw1⟩
  rw [hw1]
  clear hw1 w1
  go_wp2_with fail
  go_loopw [6] (fun i wr => ∃ k : Nat, k ≤ 2 ∧ i = .int .i64 k ∧ Hid (Below wA.heap.size wA wr)) (fun i _ => 2 - (intOf i).toNat)
  case atStart => exact ⟨0, by omega, rfl, Below.refl _ _⟩
  case round =>
    obtain ⟨k, hk, rfl, HRR⟩ := hrel
    have HB := Lib.hid (below_down HB0.out HRR.out (Nat.le_refl _))
    have hwr := HRR.out.size
    have HZR := Lib.hid ((HRR.out.block w.heap.size s0).trans HZ.out)
    have hg : ∀ o, wr.cell? ⟨bb, o, none⟩ = w.cell? ⟨bb, o, none⟩ := fun o => HB.out.cell (p := ⟨bb, o, none⟩) (Nat.lt_of_lt_of_le hb2 hB)
    have hz : bb < wr.heap.size := by omega
    have hz0 : w.heap.size < wr.heap.size := by omega
    obtain ⟨x0, x1, x2, x3, x4⟩ := HX0.out
    obtain ⟨y0, y1, y2, y3, y4⟩ := HY0.out
    have hk2 : k = 0 ∨ k = 1 ∨ k = 2 := by omega
    rcases hk2 with rfl | rfl | rfl
    · go_wp2_with fail
      refine (HCX.out _ HB.out).mono ?_
      rintro e w2 ⟨rfl, hb3⟩
      have HR2 := Lib.hid (below_down HRR.out hb3 (Nat.le_refl _))
      clear hb3 hg x0 x1 x2 x3 x4 y0 y1 y2 y3 y4
      go_wp2_with fail
      go_roundw
      case rel => exact ⟨1, by omega, rfl, HR2⟩
      case measure => simp [intOf]
    · go_wp2_with fail
      refine (HCY.out _ HB.out).mono ?_
      rintro e w2 ⟨rfl, hb3⟩
      have HR2 := Lib.hid (below_down HRR.out hb3 (Nat.le_refl _))
      clear hb3 hg x0 x1 x2 x3 x4 y0 y1 y2 y3 y4
      go_wp2_with fail
      go_roundw
      case rel => exact ⟨2, by omega, rfl, HR2⟩
      case measure => simp [intOf]
    go_upto_region 12 with fail
    obtain ⟨wC, hwC⟩ : ∃ wC, wC = (wr.alloc (.cells #[.int .i64 x.k, .bool x.b, .int .i64 x.n, .string x.t, .slice ax x.l.length cx] 36)).alloc (.cells #[.int .i64 y.k, .bool y.b, .int .i64 y.n, .string y.t, .slice ay y.l.length cy] 36) := ⟨_, rfl⟩
    have hbC : Below wr.heap.size wr wC := by rw [hwC]; exact ((Below.refl _ _).alloc (Nat.le_refl _) _).alloc (by simp) _
    have hxC : wC.heap[wr.heap.size]? = some (.cells #[.int .i64 x.k, .bool x.b, .int .i64 x.n, .string x.t, .slice ax x.l.length cx] 36 (0, 0)) := by rw [hwC]; exact heap_two
    have hyC : wC.heap[wr.heap.size + 1]? = some (.cells #[.int .i64 y.k, .bool y.b, .int .i64 y.n, .string y.t, .slice ay y.l.length cy] 36 (0, 0)) := by rw [hwC]; exact heap_second
    have hsC : wC.heap.size = wr.heap.size + 2 := by rw [hwC]; simp
    rw [← hwC]
    have HBC := Lib.hid (below_down HB.out hbC (Nat.le_refl _))
    have HZC := Lib.hid ((hbC.block w.heap.size hz0).trans HZR.out)
    obtain ⟨p, hp⟩ : ∃ p, p = wr.heap.size := ⟨_, rfl⟩
    rw [← hp] at hxC hyC hsC ⊢
    have qx := fun o => cell_of hxC o
    have qy := fun o => cell_of hyC o
    have HXC := Lib.hid hxC
    have HYC := Lib.hid hyC
    have sx : p < wC.heap.size := by omega
    have sy : p + 1 < wC.heap.size := by omega
    have sC : w.heap.size < wC.heap.size := by omega
    have sB : bb < wC.heap.size := by omega
    have hpw : w.heap.size < p := by omega
    clear hwC hbC hxC hyC hsC hg x0 x1 x2 x3 x4 y0 y1 y2 y3 y4 HX0 HY0 HCX HCY HT HZR HB HRR hz hz0 hwr hp
    go_upto_region 44 with fail
    obtain ⟨m, hm⟩ : ∃ m, m = (x.l ++ y.l).length := ⟨_, rfl⟩
    have HM := Lib.hid hm
    have SH : Hid (∀ w' : World, K2 wC w' p → (w'.cell? ⟨p, 4, none⟩ = some (.slice ax x.l.length cx) ∧ w'.cell? ⟨p + 1, 4, none⟩ = some (.slice ay y.l.length cy) ∧ p < w'.heap.size ∧ p + 1 < w'.heap.size)) := fun w' h => ⟨(h.1 4).trans ((qx 4).trans rfl), (h.2.1 4).trans ((qy 4).trans rfl), Nat.lt_of_lt_of_le sx h.2.2, Nat.lt_of_lt_of_le sy h.2.2⟩
    have HCA : Hid (∀ w', Below wC.heap.size wC w' → Calls Tryz.prog 31 #[.slice ax x.l.length cx] w' fun e w'' => ∃ v, e = .returned v ∧ ownL w'' w'.heap.size 36 v x.l ∧ Below w'.heap.size w' w'') := fun w' h => by
      have h2 := below_down HBC.out h (Nat.le_refl _)
      exact zCopyVals_own x.l HFXL.out.1 HFXL.out.2 _ w' B (Nat.le_trans hB h2.size) (isL_below Hsx.out h2 hB)
    have HCB : Hid (∀ w', Below wC.heap.size wC w' → Calls Tryz.prog 31 #[.slice ay y.l.length cy] w' (GivesL w' y.l)) := fun w' h => by
      have h2 := below_down HBC.out h (Nat.le_refl _)
      exact zCopyVals_any y.l HFYL.out.1 HFYL.out.2 _ w' B (Nat.le_trans hB h2.size) (isL_below Hsy.out h2 hB)
    have KS : Hid (K2 wC wC p) := ⟨fun _ => rfl, fun _ => rfl, Nat.le_refl _⟩
    have KS' : Hid (K2 wC wC.drew p) := ⟨fun _ => rfl, fun _ => rfl, Nat.le_refl _⟩
    have ng1 : p ≠ w.heap.size := by omega
    have ng2 : p + 1 ≠ w.heap.size := by omega
    have x4 : wC.cell? ⟨p, 4, none⟩ = some (.slice ax x.l.length cx) := (qx 4).trans rfl
    have y4 : wC.cell? ⟨p + 1, 4, none⟩ = some (.slice ay y.l.length cy) := (qy 4).trans rfl
    clear i1 i2 d1 qx qy hm k2 k3 k4 hkk
    go_region_held3 (fun w' => w'.cell? ⟨p, 4, none⟩ = some (.slice ax x.l.length cx) ∧ w'.cell? ⟨p + 1, 4, none⟩ = some (.slice ay y.l.length cy) ∧ p < w'.heap.size ∧ p + 1 < w'.heap.size)
      (first
        | (with_reducible refine SH.out _ ?_
           repeat (with_reducible first | exact K3.out | exact K2'.out | exact K1.out | exact KS'.out | exact KS.out | refine K2.set ?_ ng1 ng2)))
      (first
        | (have hguard := HB1
           clear hguard
           go_simp
           go_at_call 31
           refine (HCB.out _ HB1.out).mono ?_
           rintro e w2 hgv
           obtain ⟨a5, c5, rfl, hr5, hb2⟩ := hgv
           have HR5 := Lib.hid hr5
           have HB12 := Lib.hid hb2
           have hbb := below_down HB1.out hb2 (Nat.le_refl _)
           have HB2 := Lib.hid hbb
           have K2' := Lib.hid (K2.of hbb sy)
           have l3 : p < w2.heap.size := by have := hbb.size; omega
           have l4 : p + 1 < w2.heap.size := by have := hbb.size; omega
           obtain ⟨v3, w3, hr3, hl3, hb3⟩ := two_lists 34 HO1.out HB12.out HR5.out hw1 (by have := HBIG.out; omega)
           obtain ⟨a3, c3, rfl⟩ := isL_form hl3
           rw [← HM.out] at hr3
           have hb3' : Below wC.heap.size w2 w3 := hb3
           have hb33 : Below wC.heap.size wC w3 := hbb.trans hb3'
           have HB3 := Lib.hid (below_down HBC.out hb33 (Nat.le_refl _))
           have K3 := Lib.hid (K2.of hb33 sy)
           have HL3 := Lib.hid hl3
           have hz3 := (hb33.block w.heap.size sC).trans HZC.out
           have q3 := fun o => cell_of hz3 o
           have f3 := fun o => frozen_of hz3 o
           have l5 : p < w3.heap.size := by have := hb33.size; omega
           have l6 : p + 1 < w3.heap.size := by have := hb33.size; omega
           have l7 : w.heap.size < w3.heap.size := by have := hb33.size; omega
           clear hb2 hr5 hbb hl3 hb3 hb3' hb33 hz3)
        | (go_simp
           go_at_call 31
           refine (HCA.out _ (Below.refl _ _).drew).mono ?_
           rintro e w1 ⟨v1, rfl, ho1, hb1⟩
           have HO1 := Lib.hid ho1
           have hbb : Below wC.heap.size wC w1 := (Below.refl wC.heap.size wC).drew.trans hb1
           have HB1 := Lib.hid hbb
           have K1 := Lib.hid (K2.of hbb sy)
           have l1 : p < w1.heap.size := by have := hbb.size; omega
           have l2 : p + 1 < w1.heap.size := by have := hbb.size; omega
           have hw1 : wC.heap.size ≤ w1.heap.size := hbb.size
           clear ho1 hb1 hbb)
        | (refine step_append_run rfl _ _ 34 rfl _ _ rfl rfl _ _ hr3 ?_))
    all_goals
      clear x4 y4 SH HCA HCB
      go_wp2_with fail
      refine bodyPost_ret (v := .tuple #[.agg #[.int .i64 4, .bool false, .int .i64 0, .string { data := #[] }, .slice a3 m c3], .int .i64 0]) (by simp [results, Tryz.results36, go_sem, q3]) rfl ⟨.slice a3 m c3, by rw [HN.out]; rfl, ?_, below_set5 HB3.out (Nat.le_refl _) _ _ _ _ _⟩
      rw [HN.out, HM.out]
      exact isL_mono HL3.out (fun b off g1 g2 => set5_far (by have g1' : wC.heap.size ≤ b := g1; have := sC; omega) _ _ _ _ _) (Nat.le_of_lt sC) (Nat.le_of_eq (by simp [World.setCell]))
end Go.Proofs.YtljljhjdlicfeaaGreat
