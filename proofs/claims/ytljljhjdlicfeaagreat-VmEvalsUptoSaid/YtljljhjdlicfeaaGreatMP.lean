/-
  What value.plus tells of two texts or two lists: the one behind the other, in memory of its own. Conditions: lists and texts shorter than 2^31.
-/
import Derived.Test.YtljljhjdlicfeaaGreatPAA
import Derived.Test.YtljljhjdlicfeaaGreatMD
import Derived.Test.YtljljhjdlicfeaaGreatMO
import Derived.Deep.RegionHeld3
namespace Go.Proofs.YtljljhjdlicfeaaGreat
open Go Go.RowKit
set_option maxRecDepth 100000
set_option linter.unusedVariables false
set_option maxHeartbeats 800000 in
theorem plus_3 (x y : GV) (fx : x.fit) (fy : y.fit) (hkx : x.k = 3) (hky : y.k = 3) (htl : x.t.size + y.t.size ≤ 65536) (hll : x.l.length + y.l.length ≤ 4096) (sx sy : Value) (w : World) (B : Nat) (hB : B ≤ w.heap.size) (hx : isL w 0 B sx x.l) (hy : isL w 0 B sy y.l) :
    Calls Tryz.prog 98 #[x.agg sx, y.agg sy] w (GivesO w (⟨3, false, 0, x.t ++ y.t, x.l ++ y.l⟩, 0)) := by
  obtain ⟨ax, cx, rfl⟩ := isL_form hx
  obtain ⟨ay, cy, rfl⟩ := isL_form hy
  have HX := Lib.hid hx
  have HY := Lib.hid hy
  have ftx := (fit_open fx).2.2.2.2
  have fty := (fit_open fy).2.2.2.2
  obtain ⟨kx, bx, nx, tx, lx⟩ := x
  obtain ⟨ky, by_, ny, ty, ly⟩ := y
  dsimp only at hkx hky htl hll HX HY ftx fty
  subst hkx
  subst hky
  obtain ⟨m, hm⟩ : ∃ m, m = (lx ++ ly).length := ⟨_, rfl⟩
  have HC : Hid (∀ (w1 : World), Below w.heap.size w w1 → Calls Tryz.prog 114 #[.slice (some ⟨w1.heap.size, 0, none⟩) 2 2] (w1.alloc (.cells #[.slice ax lx.length cx, .slice ay ly.length cy] 34)) fun e w' => ∃ a c, e = .returned (.slice a m c) ∧ isL w' 0 w'.heap.size (.slice a m c) (lx ++ ly) ∧ Below (w1.alloc (.cells #[.slice ax lx.length cx, .slice ay ly.length cy] 34)).heap.size (w1.alloc (.cells #[.slice ax lx.length cx, .slice ay ly.length cy] 34)) w') := fun w1 h1 => by
    have h2 := h1.alloc h1.size (.cells #[.slice ax lx.length cx, .slice ay ly.length cy] 34)
    refine (concat_any lx ly (by omega) (by omega) _ _ _ _ B (Nat.le_trans hB h2.size) (isL_below HX.out h2 hB) (isL_below HY.out h2 hB) heap_last).mono ?_
    rintro e w2 ⟨v, rfl, hv, hb⟩
    obtain ⟨a, c, rfl⟩ := isL_form hv
    rw [hm]
    exact ⟨a, c, rfl, hv, hb⟩
  have HK : Hid (∀ (a6 : Option Addr) (c6 : Nat) (w1 : World), isL w1 0 w1.heap.size (.slice a6 m c6) (lx ++ ly) → Calls Tryz.prog 113 #[.agg #[.int .i64 3, .bool false, .int .i64 0, .string (tx ++ ty), .slice a6 m c6]] w1 fun e w' => ∃ a c, e = .returned (.agg #[.int .i64 3, .bool false, .int .i64 0, .string (tx ++ ty), .slice a m c]) ∧ isR w' (since w1.heap.size w') (.slice a (lx ++ ly).length c) (lx ++ ly) ∧ Below w1.heap.size w1 w') := fun a6 c6 w1 h1 => by
    have hz : (tx ++ ty).size = tx.size + ty.size := ByteArray.size_append
    have hf : GV.fit ⟨3, false, 0, tx ++ ty, lx ++ ly⟩ := by
      simp only [GV.fit]
      exact ⟨by decide, by decide, by decide, by decide, by omega, by rw [List.length_append]; omega, fitL_app ftx.2.2 fty.2.2⟩
    rw [hm] at h1 ⊢
    exact vCopied_any ⟨3, false, 0, tx ++ ty, lx ++ ly⟩ hf _ w1 _ (Nat.le_refl _) h1
  have HM := Lib.hid hm
  clear hm
  have d1 : decide (65536 < (tx.size : Int) + (ty.size : Int)) = false := by simp; omega
  have d2 : decide (4096 < (lx.length : Int) + (ly.length : Int)) = false := by simp; omega
  have d3 : decide (65536 < tx.size + ty.size) = false := by simp; omega
  have d4 : decide (4096 < lx.length + ly.length) = false := by simp; omega
  have i1 : wrap64 ((tx.size : Int) + (ty.size : Int)) = (tx.size : Int) + (ty.size : Int) := by unfold wrap64; omega
  have i2 : wrap64 ((lx.length : Int) + (ly.length : Int)) = (lx.length : Int) + (ly.length : Int) := by unfold wrap64; omega
  have i3 : IntKind.i64.wrap ((tx.size : Int) + (ty.size : Int)) = (tx.size : Int) + (ty.size : Int) := IntWalk.i64_in _ (by omega)
  have i4 : IntKind.i64.wrap ((lx.length : Int) + (ly.length : Int)) = (lx.length : Int) + (ly.length : Int) := IntWalk.i64_in _ (by omega)
  have n63 : ¬ (9223372036854775807 < tx.size + ty.size) := by omega
  clear hx hy fx fy ftx fty
  simp only [GV.agg]
  show Calls Tryz.prog 98 #[.agg #[.int .i64 3, .bool bx, .int .i64 nx, .string tx, .slice ax lx.length cx], .agg #[.int .i64 3, .bool by_, .int .i64 ny, .string ty, .slice ay ly.length cy]] w _
  go_enter Tryz.func98, Tryz.ntmps98
  go_upto_region 1 with fail
  obtain ⟨wA, hwA, hb0, h0, h1, h2, hsz⟩ := boxes3 w #[.int .i64 3, .bool bx, .int .i64 nx, .string tx, .slice ax lx.length cx] #[.int .i64 3, .bool by_, .int .i64 ny, .string ty, .slice ay ly.length cy] #[.int .i64 0, .bool false, .int .i64 0, .string { data := #[] }, .slice none 0 0] 36
  rw [← hwA]
  have HB0 := Lib.hid hb0
  have HZ := Lib.hid h2
  have q0 := fun o => cell_of h0 o
  have q1 := fun o => cell_of h1 o
  have HX0 := Lib.hid h0
  have HY0 := Lib.hid h1
  have s0 : w.heap.size < wA.heap.size := by omega
  have s1 : w.heap.size + 1 < wA.heap.size := by omega
  have s2 : w.heap.size + 2 < wA.heap.size := by omega
  have ne0 : w.heap.size ≠ w.heap.size + 1 + 1 := by omega
  have ne1 : w.heap.size + 1 ≠ w.heap.size + 1 + 1 := by omega
  have s0' : w.heap.size < wA.heap.size + 1 := by omega
  have s1' : w.heap.size + 1 < wA.heap.size + 1 := by omega
  have n0 : w.heap.size ≠ wA.heap.size := by omega
  have n1 : w.heap.size + 1 ≠ wA.heap.size := by omega
  clear hwA hb0 h0 h1 h2 hsz
  go_upto_region 7 with fail
  clear d1 d2 d3 d4 i1 i2 i3 i4
  obtain ⟨x0, x3, x4, y3, y4⟩ : wA.cell? ⟨w.heap.size, 0, none⟩ = some (.int .i64 3) ∧ wA.cell? ⟨w.heap.size, 3, none⟩ = some (.string tx) ∧ wA.cell? ⟨w.heap.size, 4, none⟩ = some (.slice ax lx.length cx) ∧ wA.cell? ⟨w.heap.size + 1, 3, none⟩ = some (.string ty) ∧ wA.cell? ⟨w.heap.size + 1, 4, none⟩ = some (.slice ay ly.length cy) := ⟨(q0 0).trans rfl, (q0 3).trans rfl, (q0 4).trans rfl, (q1 3).trans rfl, (q1 4).trans rfl⟩
  have hle : w.heap.size + 2 ≤ wA.heap.size := by omega
  have hbx : w.heap.size + 2 ≤ w.heap.size + 1 + 1 := Nat.le_refl _
  have SH : Hid (∀ w' : World, Below (w.heap.size + 2) wA w' → (w'.cell? ⟨w.heap.size, 0, none⟩ = some (.int .i64 3) ∧ w'.cell? ⟨w.heap.size, 3, none⟩ = some (.string tx) ∧ w'.cell? ⟨w.heap.size, 4, none⟩ = some (.slice ax lx.length cx) ∧ w'.cell? ⟨w.heap.size + 1, 3, none⟩ = some (.string ty) ∧ w'.cell? ⟨w.heap.size + 1, 4, none⟩ = some (.slice ay ly.length cy) ∧ w.heap.size < w'.heap.size ∧ w.heap.size + 1 < w'.heap.size)) := fun w' hb => ⟨(hb.cell (p := ⟨w.heap.size, 0, none⟩) (show w.heap.size < w.heap.size + 2 by omega)).trans x0, (hb.cell (p := ⟨w.heap.size, 3, none⟩) (show w.heap.size < w.heap.size + 2 by omega)).trans x3, (hb.cell (p := ⟨w.heap.size, 4, none⟩) (show w.heap.size < w.heap.size + 2 by omega)).trans x4, (hb.cell (p := ⟨w.heap.size + 1, 3, none⟩) (show w.heap.size + 1 < w.heap.size + 2 by omega)).trans y3, (hb.cell (p := ⟨w.heap.size + 1, 4, none⟩) (show w.heap.size + 1 < w.heap.size + 2 by omega)).trans y4, Nat.lt_of_lt_of_le s0 hb.size, Nat.lt_of_lt_of_le s1 hb.size⟩
  clear q0 q1
  go_region_held3 (fun w' => w'.cell? ⟨w.heap.size, 0, none⟩ = some (.int .i64 3) ∧ w'.cell? ⟨w.heap.size, 3, none⟩ = some (.string tx) ∧ w'.cell? ⟨w.heap.size, 4, none⟩ = some (.slice ax lx.length cx) ∧ w'.cell? ⟨w.heap.size + 1, 3, none⟩ = some (.string ty) ∧ w'.cell? ⟨w.heap.size + 1, 4, none⟩ = some (.slice ay ly.length cy) ∧ w.heap.size < w'.heap.size ∧ w.heap.size + 1 < w'.heap.size)
    (first
      | (with_reducible refine SH.out _ ?_
         repeat (with_reducible first | exact HS7.out | exact HS6.out | exact Below.refl _ _ | refine Below.setCell (p := ⟨w.heap.size + 1 + 1, _, none⟩) ?_ hbx _ | refine Below.alloc ?_ hle _ | refine Below.drew ?_)))
    (first
    | (go_simp
       go_at_call 114
       refine (HC.out _ (HB0.out.drew)).mono ?_
       rintro e w6 ⟨a6, c6, rfl, hv6, hb6⟩
       have hb6' : Below wA.heap.size wA w6 := ((Below.refl wA.heap.size wA).drew.alloc (Nat.le_refl _) _).trans (hb6.mono (by simp))
       have HB6 := Lib.hid hb6'
       have HV6 := Lib.hid hv6
       have HS6 := Lib.hid (hb6'.mono hle)
       have hz6 := hb6'.size
       have z0 : w.heap.size < w6.heap.size := by omega
       have z1 : w.heap.size + 1 < w6.heap.size := by omega
       clear hb6 hv6 hz6 hb6')
    | (go_simp
       go_at_call 113
       refine (HK.out _ _ _ HV6.out).mono ?_
       rintro e w7 ⟨a7, c7, rfl, hr7, hb7⟩
       have hb7' := below_down HB6.out hb7 (Nat.le_refl _)
       have HB7 := Lib.hid (below_down HB0.out hb7' (Nat.le_refl _))
       have hz7 := (hb7'.block (w.heap.size + 2) s2).trans HZ.out
       have HS7 := Lib.hid (hb7'.mono hle)
       have q7 := fun o => cell_of hz7 o
       have f7 := fun o => frozen_of hz7 o
       have hs7 := hb7'.size
       have hs6 := HB6.out.size
       have z2 : w.heap.size + 2 < w7.heap.size := by omega
       have k0 : w.heap.size < w7.heap.size := by omega
       have k1 : w.heap.size + 1 < w7.heap.size := by omega
       have z3 : w.heap.size ≤ w6.heap.size := by omega
       have z4 : w.heap.size + 2 < w6.heap.size := by omega
       have HR7 := Lib.hid hr7
       clear hb7 hs7 hb7' hz7 hr7 hs6))
  all_goals
    go_wp2_with fail
    refine bodyPost_ret (v := .tuple #[.agg #[.int .i64 3, .bool false, .int .i64 0, .string (tx ++ ty), .slice a7 m c7], .int .i64 0]) (by simp [results, Tryz.results98, go_sem, q7]) rfl ?_
    rw [HM.out]
    exact gives_box (w1 := w6) HR7.out HB7.out z3 (by omega) z4 _ _ _ _ _
end Go.Proofs.YtljljhjdlicfeaaGreat
namespace Go.Proofs.YtljljhjdlicfeaaGreat
open Go Go.RowKit
set_option maxRecDepth 100000
set_option linter.unusedVariables false
set_option maxHeartbeats 800000 in
theorem plus_4 (x y : GV) (fx : x.fit) (fy : y.fit) (hkx : x.k = 4) (hky : y.k = 4) (htl : x.t.size + y.t.size ≤ 65536) (hll : x.l.length + y.l.length ≤ 4096) (sx sy : Value) (w : World) (B : Nat) (hB : B ≤ w.heap.size) (hx : isL w 0 B sx x.l) (hy : isL w 0 B sy y.l) :
    Calls Tryz.prog 98 #[x.agg sx, y.agg sy] w (GivesO w (⟨4, false, 0, x.t ++ y.t, x.l ++ y.l⟩, 0)) := by
  obtain ⟨ax, cx, rfl⟩ := isL_form hx
  obtain ⟨ay, cy, rfl⟩ := isL_form hy
  have HX := Lib.hid hx
  have HY := Lib.hid hy
  have ftx := (fit_open fx).2.2.2.2
  have fty := (fit_open fy).2.2.2.2
  obtain ⟨kx, bx, nx, tx, lx⟩ := x
  obtain ⟨ky, by_, ny, ty, ly⟩ := y
  dsimp only at hkx hky htl hll HX HY ftx fty
  subst hkx
  subst hky
  obtain ⟨m, hm⟩ : ∃ m, m = (lx ++ ly).length := ⟨_, rfl⟩
  have HC : Hid (∀ (w1 : World), Below w.heap.size w w1 → Calls Tryz.prog 114 #[.slice (some ⟨w1.heap.size, 0, none⟩) 2 2] (w1.alloc (.cells #[.slice ax lx.length cx, .slice ay ly.length cy] 34)) fun e w' => ∃ a c, e = .returned (.slice a m c) ∧ isL w' 0 w'.heap.size (.slice a m c) (lx ++ ly) ∧ Below (w1.alloc (.cells #[.slice ax lx.length cx, .slice ay ly.length cy] 34)).heap.size (w1.alloc (.cells #[.slice ax lx.length cx, .slice ay ly.length cy] 34)) w') := fun w1 h1 => by
    have h2 := h1.alloc h1.size (.cells #[.slice ax lx.length cx, .slice ay ly.length cy] 34)
    refine (concat_any lx ly (by omega) (by omega) _ _ _ _ B (Nat.le_trans hB h2.size) (isL_below HX.out h2 hB) (isL_below HY.out h2 hB) heap_last).mono ?_
    rintro e w2 ⟨v, rfl, hv, hb⟩
    obtain ⟨a, c, rfl⟩ := isL_form hv
    rw [hm]
    exact ⟨a, c, rfl, hv, hb⟩
  have HK : Hid (∀ (a6 : Option Addr) (c6 : Nat) (w1 : World), isL w1 0 w1.heap.size (.slice a6 m c6) (lx ++ ly) → Calls Tryz.prog 113 #[.agg #[.int .i64 4, .bool false, .int .i64 0, .string (tx ++ ty), .slice a6 m c6]] w1 fun e w' => ∃ a c, e = .returned (.agg #[.int .i64 4, .bool false, .int .i64 0, .string (tx ++ ty), .slice a m c]) ∧ isR w' (since w1.heap.size w') (.slice a (lx ++ ly).length c) (lx ++ ly) ∧ Below w1.heap.size w1 w') := fun a6 c6 w1 h1 => by
    have hz : (tx ++ ty).size = tx.size + ty.size := ByteArray.size_append
    have hf : GV.fit ⟨4, false, 0, tx ++ ty, lx ++ ly⟩ := by
      simp only [GV.fit]
      exact ⟨by decide, by decide, by decide, by decide, by omega, by rw [List.length_append]; omega, fitL_app ftx.2.2 fty.2.2⟩
    rw [hm] at h1 ⊢
    exact vCopied_any ⟨4, false, 0, tx ++ ty, lx ++ ly⟩ hf _ w1 _ (Nat.le_refl _) h1
  have HM := Lib.hid hm
  clear hm
  have d1 : decide (65536 < (tx.size : Int) + (ty.size : Int)) = false := by simp; omega
  have d2 : decide (4096 < (lx.length : Int) + (ly.length : Int)) = false := by simp; omega
  have d3 : decide (65536 < tx.size + ty.size) = false := by simp; omega
  have d4 : decide (4096 < lx.length + ly.length) = false := by simp; omega
  have i1 : wrap64 ((tx.size : Int) + (ty.size : Int)) = (tx.size : Int) + (ty.size : Int) := by unfold wrap64; omega
  have i2 : wrap64 ((lx.length : Int) + (ly.length : Int)) = (lx.length : Int) + (ly.length : Int) := by unfold wrap64; omega
  have i3 : IntKind.i64.wrap ((tx.size : Int) + (ty.size : Int)) = (tx.size : Int) + (ty.size : Int) := IntWalk.i64_in _ (by omega)
  have i4 : IntKind.i64.wrap ((lx.length : Int) + (ly.length : Int)) = (lx.length : Int) + (ly.length : Int) := IntWalk.i64_in _ (by omega)
  have n63 : ¬ (9223372036854775807 < tx.size + ty.size) := by omega
  clear hx hy fx fy ftx fty
  simp only [GV.agg]
  show Calls Tryz.prog 98 #[.agg #[.int .i64 4, .bool bx, .int .i64 nx, .string tx, .slice ax lx.length cx], .agg #[.int .i64 4, .bool by_, .int .i64 ny, .string ty, .slice ay ly.length cy]] w _
  go_enter Tryz.func98, Tryz.ntmps98
  go_upto_region 1 with fail
  obtain ⟨wA, hwA, hb0, h0, h1, h2, hsz⟩ := boxes3 w #[.int .i64 4, .bool bx, .int .i64 nx, .string tx, .slice ax lx.length cx] #[.int .i64 4, .bool by_, .int .i64 ny, .string ty, .slice ay ly.length cy] #[.int .i64 0, .bool false, .int .i64 0, .string { data := #[] }, .slice none 0 0] 36
  rw [← hwA]
  have HB0 := Lib.hid hb0
  have HZ := Lib.hid h2
  have q0 := fun o => cell_of h0 o
  have q1 := fun o => cell_of h1 o
  have HX0 := Lib.hid h0
  have HY0 := Lib.hid h1
  have s0 : w.heap.size < wA.heap.size := by omega
  have s1 : w.heap.size + 1 < wA.heap.size := by omega
  have s2 : w.heap.size + 2 < wA.heap.size := by omega
  have ne0 : w.heap.size ≠ w.heap.size + 1 + 1 := by omega
  have ne1 : w.heap.size + 1 ≠ w.heap.size + 1 + 1 := by omega
  have s0' : w.heap.size < wA.heap.size + 1 := by omega
  have s1' : w.heap.size + 1 < wA.heap.size + 1 := by omega
  have n0 : w.heap.size ≠ wA.heap.size := by omega
  have n1 : w.heap.size + 1 ≠ wA.heap.size := by omega
  clear hwA hb0 h0 h1 h2 hsz
  go_upto_region 7 with fail
  clear d1 d2 d3 d4 i1 i2 i3 i4
  obtain ⟨x0, x3, x4, y3, y4⟩ : wA.cell? ⟨w.heap.size, 0, none⟩ = some (.int .i64 4) ∧ wA.cell? ⟨w.heap.size, 3, none⟩ = some (.string tx) ∧ wA.cell? ⟨w.heap.size, 4, none⟩ = some (.slice ax lx.length cx) ∧ wA.cell? ⟨w.heap.size + 1, 3, none⟩ = some (.string ty) ∧ wA.cell? ⟨w.heap.size + 1, 4, none⟩ = some (.slice ay ly.length cy) := ⟨(q0 0).trans rfl, (q0 3).trans rfl, (q0 4).trans rfl, (q1 3).trans rfl, (q1 4).trans rfl⟩
  have hle : w.heap.size + 2 ≤ wA.heap.size := by omega
  have hbx : w.heap.size + 2 ≤ w.heap.size + 1 + 1 := Nat.le_refl _
  have SH : Hid (∀ w' : World, Below (w.heap.size + 2) wA w' → (w'.cell? ⟨w.heap.size, 0, none⟩ = some (.int .i64 4) ∧ w'.cell? ⟨w.heap.size, 3, none⟩ = some (.string tx) ∧ w'.cell? ⟨w.heap.size, 4, none⟩ = some (.slice ax lx.length cx) ∧ w'.cell? ⟨w.heap.size + 1, 3, none⟩ = some (.string ty) ∧ w'.cell? ⟨w.heap.size + 1, 4, none⟩ = some (.slice ay ly.length cy) ∧ w.heap.size < w'.heap.size ∧ w.heap.size + 1 < w'.heap.size)) := fun w' hb => ⟨(hb.cell (p := ⟨w.heap.size, 0, none⟩) (show w.heap.size < w.heap.size + 2 by omega)).trans x0, (hb.cell (p := ⟨w.heap.size, 3, none⟩) (show w.heap.size < w.heap.size + 2 by omega)).trans x3, (hb.cell (p := ⟨w.heap.size, 4, none⟩) (show w.heap.size < w.heap.size + 2 by omega)).trans x4, (hb.cell (p := ⟨w.heap.size + 1, 3, none⟩) (show w.heap.size + 1 < w.heap.size + 2 by omega)).trans y3, (hb.cell (p := ⟨w.heap.size + 1, 4, none⟩) (show w.heap.size + 1 < w.heap.size + 2 by omega)).trans y4, Nat.lt_of_lt_of_le s0 hb.size, Nat.lt_of_lt_of_le s1 hb.size⟩
  clear q0 q1
  go_region_held3 (fun w' => w'.cell? ⟨w.heap.size, 0, none⟩ = some (.int .i64 4) ∧ w'.cell? ⟨w.heap.size, 3, none⟩ = some (.string tx) ∧ w'.cell? ⟨w.heap.size, 4, none⟩ = some (.slice ax lx.length cx) ∧ w'.cell? ⟨w.heap.size + 1, 3, none⟩ = some (.string ty) ∧ w'.cell? ⟨w.heap.size + 1, 4, none⟩ = some (.slice ay ly.length cy) ∧ w.heap.size < w'.heap.size ∧ w.heap.size + 1 < w'.heap.size)
    (first
      | (with_reducible refine SH.out _ ?_
         repeat (with_reducible first | exact HS7.out | exact HS6.out | exact Below.refl _ _ | refine Below.setCell (p := ⟨w.heap.size + 1 + 1, _, none⟩) ?_ hbx _ | refine Below.alloc ?_ hle _ | refine Below.drew ?_)))
    (first
    | (go_simp
       go_at_call 114
       refine (HC.out _ (HB0.out.drew)).mono ?_
       rintro e w6 ⟨a6, c6, rfl, hv6, hb6⟩
       have hb6' : Below wA.heap.size wA w6 := ((Below.refl wA.heap.size wA).drew.alloc (Nat.le_refl _) _).trans (hb6.mono (by simp))
       have HB6 := Lib.hid hb6'
       have HV6 := Lib.hid hv6
       have HS6 := Lib.hid (hb6'.mono hle)
       have hz6 := hb6'.size
       have z0 : w.heap.size < w6.heap.size := by omega
       have z1 : w.heap.size + 1 < w6.heap.size := by omega
       clear hb6 hv6 hz6 hb6')
    | (go_simp
       go_at_call 113
       refine (HK.out _ _ _ HV6.out).mono ?_
       rintro e w7 ⟨a7, c7, rfl, hr7, hb7⟩
       have hb7' := below_down HB6.out hb7 (Nat.le_refl _)
       have HB7 := Lib.hid (below_down HB0.out hb7' (Nat.le_refl _))
       have hz7 := (hb7'.block (w.heap.size + 2) s2).trans HZ.out
       have HS7 := Lib.hid (hb7'.mono hle)
       have q7 := fun o => cell_of hz7 o
       have f7 := fun o => frozen_of hz7 o
       have hs7 := hb7'.size
       have hs6 := HB6.out.size
       have z2 : w.heap.size + 2 < w7.heap.size := by omega
       have k0 : w.heap.size < w7.heap.size := by omega
       have k1 : w.heap.size + 1 < w7.heap.size := by omega
       have z3 : w.heap.size ≤ w6.heap.size := by omega
       have z4 : w.heap.size + 2 < w6.heap.size := by omega
       have HR7 := Lib.hid hr7
       clear hb7 hs7 hb7' hz7 hr7 hs6))
  all_goals
    go_wp2_with fail
    refine bodyPost_ret (v := .tuple #[.agg #[.int .i64 4, .bool false, .int .i64 0, .string (tx ++ ty), .slice a7 m c7], .int .i64 0]) (by simp [results, Tryz.results98, go_sem, q7]) rfl ?_
    rw [HM.out]
    exact gives_box (w1 := w6) HR7.out HB7.out z3 (by omega) z4 _ _ _ _ _
end Go.Proofs.YtljljhjdlicfeaaGreat
