/-
  What value.plus tells of any two values. Conditions: lists and texts shorter than 2^31.
-/
import Derived.Test.YtljljhjdlicfeaaGreatPAD
import Derived.Test.YtljljhjdlicfeaaGreatMP
namespace Go.Proofs.YtljljhjdlicfeaaGreat
open Go Go.RowKit
set_option maxRecDepth 100000
set_option linter.unusedVariables false
def plusP (x y : GV) : GV × Int := if x.k = 2 ∧ y.k = 2 then reckP (fun a b => boundK (a + b)) x y else if x.k = y.k ∧ (x.k = 3 ∨ x.k = 4) then (if x.t.size + y.t.size ≤ 65536 ∧ x.l.length + y.l.length ≤ 4096 then (⟨x.k, false, 0, x.t ++ y.t, x.l ++ y.l⟩, 0) else noP 2) else noP 4
set_option maxHeartbeats 1600000 in
theorem plus_no (x y : GV) (fx : x.fit) (fy : y.fit) (hno : (x.k = 2 ∧ y.k = 2) → False) (hno2 : (x.k = y.k ∧ (x.k = 3 ∨ x.k = 4)) → False) (sx sy : Value) (w : World) (B : Nat) (hB : B ≤ w.heap.size) (hx : isL w 0 B sx x.l) (hy : isL w 0 B sy y.l) :
    Calls Tryz.prog 98 #[x.agg sx, y.agg sy] w (GivesO w (noP 4)) := by
  obtain ⟨ax, cx, rfl⟩ := isL_form hx
  obtain ⟨ay, cy, rfl⟩ := isL_form hy
  have HX := Lib.hid hx
  have HY := Lib.hid hy
  have HFX := Lib.hid fx
  have HFY := Lib.hid fy
  obtain ⟨P, hP⟩ : ∃ P, P = noP 4 := ⟨_, rfl⟩
  rw [← hP]
  have HP := Lib.hid hP
  clear hx hy fx fy hP
  have HN := HP
  obtain ⟨kx, bx, nx, tx, lx⟩ := x
  obtain ⟨ky, by_, ny, ty, ly⟩ := y
  simp only [GV.agg]
  show Calls Tryz.prog 98 #[.agg #[.int .i64 kx, .bool bx, .int .i64 nx, .string tx, .slice ax lx.length cx], .agg #[.int .i64 ky, .bool by_, .int .i64 ny, .string ty, .slice ay ly.length cy]] w _
  go_enter Tryz.func98, Tryz.ntmps98
  go_upto_region 1 with fail
  obtain ⟨wA, hwA, hb0, h0, h1, h2, hsz⟩ := boxes3 w #[.int .i64 kx, .bool bx, .int .i64 nx, .string tx, .slice ax lx.length cx] #[.int .i64 ky, .bool by_, .int .i64 ny, .string ty, .slice ay ly.length cy] #[.int .i64 0, .bool false, .int .i64 0, .string { data := #[] }, .slice none 0 0] 36
  rw [← hwA]
  have HB0 := Lib.hid hb0
  have HZ := Lib.hid h2
  have q0 := fun o => cell_of h0 o
  have q1 := fun o => cell_of h1 o
  have s0 : w.heap.size < wA.heap.size := by omega
  have s1 : w.heap.size + 1 < wA.heap.size := by omega
  have s2 : w.heap.size + 2 < wA.heap.size := by omega
  clear hwA hb0 h0 h1 h2 hsz
  dsimp only at hno hno2
  by_cases hk : kx = ky
  · subst hk
    have hne : (kx == 2) = false := by simp; intro h; exact hno ⟨h, h⟩
    have hne1 : (kx != 3) = true := by simp; intro h; exact hno2 ⟨rfl, .inl h⟩
    have hne2 : (kx != 4) = true := by simp; intro h; exact hno2 ⟨rfl, .inr h⟩
    have hne3 : (kx == 3) = false := by simp; intro h; exact hno2 ⟨rfl, .inl h⟩
    have hne4 : (kx == 4) = false := by simp; intro h; exact hno2 ⟨rfl, .inr h⟩
    have hne5 : (kx != kx) = false := by simp
    clear hno hno2
    go_wp2_with fail
    refine (no_v 4 _).mono ?_
    rintro e w9 ⟨rfl, hb9⟩
    have HB9 := Lib.hid (below_down HB0.out hb9 (Nat.le_refl _))
    have hz9 := (hb9.block (w.heap.size + 2) s2).trans HZ.out
    have s9 : w.heap.size + 2 < w9.heap.size := by have := hb9.size; omega
    have q9 := fun o => cell_of hz9 o
    have f9 := fun o => frozen_of hz9 o
    clear hb9 hz9
    go_wp2_with fail
    refine bodyPost_ret (v := .tuple #[.agg #[.int .i64 0, .bool false, .int .i64 0, .string { data := #[] }, .slice none 0 0], .int .i64 4]) (by simp [results, Tryz.results98, go_sem, q9]) rfl (gives_flat (by rw [HN.out]; rfl) (by rw [HN.out]; rfl) (below_set5 HB9.out (by omega) _ _ _ _ _))
  · have hd1 : (kx != ky) = true := by simp; omega
    have hd2 : (kx == ky) = false := by simp; omega
    by_cases h2 : kx = 2
    · subst h2
      have hne : (ky == 2) = false := by simp; omega
      clear hno hno2 hk
      go_wp2_with fail
      refine (no_v 4 _).mono ?_
      rintro e w9 ⟨rfl, hb9⟩
      have HB9 := Lib.hid (below_down HB0.out hb9 (Nat.le_refl _))
      have hz9 := (hb9.block (w.heap.size + 2) s2).trans HZ.out
      have s9 : w.heap.size + 2 < w9.heap.size := by have := hb9.size; omega
      have q9 := fun o => cell_of hz9 o
      have f9 := fun o => frozen_of hz9 o
      clear hb9 hz9
      go_wp2_with fail
      refine bodyPost_ret (v := .tuple #[.agg #[.int .i64 0, .bool false, .int .i64 0, .string { data := #[] }, .slice none 0 0], .int .i64 4]) (by simp [results, Tryz.results98, go_sem, q9]) rfl (gives_flat (by rw [HN.out]; rfl) (by rw [HN.out]; rfl) (below_set5 HB9.out (by omega) _ _ _ _ _))
    · have hne : (kx == 2) = false := by simp; omega
      clear hno hno2 hk h2
      go_wp2_with fail
      refine (no_v 4 _).mono ?_
      rintro e w9 ⟨rfl, hb9⟩
      have HB9 := Lib.hid (below_down HB0.out hb9 (Nat.le_refl _))
      have hz9 := (hb9.block (w.heap.size + 2) s2).trans HZ.out
      have s9 : w.heap.size + 2 < w9.heap.size := by have := hb9.size; omega
      have q9 := fun o => cell_of hz9 o
      have f9 := fun o => frozen_of hz9 o
      clear hb9 hz9
      go_wp2_with fail
      refine bodyPost_ret (v := .tuple #[.agg #[.int .i64 0, .bool false, .int .i64 0, .string { data := #[] }, .slice none 0 0], .int .i64 4]) (by simp [results, Tryz.results98, go_sem, q9]) rfl (gives_flat (by rw [HN.out]; rfl) (by rw [HN.out]; rfl) (below_set5 HB9.out (by omega) _ _ _ _ _))
set_option maxHeartbeats 1600000 in
theorem plus_over (x y : GV) (fx : x.fit) (fy : y.fit) (hk : x.k = y.k) (h34 : x.k = 3 ∨ x.k = 4) (hbig : ¬ (x.t.size + y.t.size ≤ 65536 ∧ x.l.length + y.l.length ≤ 4096)) (sx sy : Value) (w : World) (B : Nat) (hB : B ≤ w.heap.size) (hx : isL w 0 B sx x.l) (hy : isL w 0 B sy y.l) :
    Calls Tryz.prog 98 #[x.agg sx, y.agg sy] w (GivesO w (noP 2)) := by
  have ftx := (fit_open fx).2.2.2.2
  have fty := (fit_open fy).2.2.2.2
  obtain ⟨ax, cx, rfl⟩ := isL_form hx
  obtain ⟨ay, cy, rfl⟩ := isL_form hy
  have HX := Lib.hid hx
  have HY := Lib.hid hy
  have HFX := Lib.hid fx
  have HFY := Lib.hid fy
  obtain ⟨P, hP⟩ : ∃ P, P = noP 2 := ⟨_, rfl⟩
  rw [← hP]
  have HP := Lib.hid hP
  clear hx hy fx fy hP
  have HN := HP
  obtain ⟨kx, bx, nx, tx, lx⟩ := x
  obtain ⟨ky, by_, ny, ty, ly⟩ := y
  dsimp only at hk h34 hbig ftx fty
  subst hk
  simp only [GV.agg]
  show Calls Tryz.prog 98 #[.agg #[.int .i64 kx, .bool bx, .int .i64 nx, .string tx, .slice ax lx.length cx], .agg #[.int .i64 kx, .bool by_, .int .i64 ny, .string ty, .slice ay ly.length cy]] w _
  go_enter Tryz.func98, Tryz.ntmps98
  go_upto_region 1 with fail
  obtain ⟨wA, hwA, hb0, h0, h1, h2, hsz⟩ := boxes3 w #[.int .i64 kx, .bool bx, .int .i64 nx, .string tx, .slice ax lx.length cx] #[.int .i64 kx, .bool by_, .int .i64 ny, .string ty, .slice ay ly.length cy] #[.int .i64 0, .bool false, .int .i64 0, .string { data := #[] }, .slice none 0 0] 36
  rw [← hwA]
  have HB0 := Lib.hid hb0
  have HZ := Lib.hid h2
  have q0 := fun o => cell_of h0 o
  have q1 := fun o => cell_of h1 o
  have s0 : w.heap.size < wA.heap.size := by omega
  have s1 : w.heap.size + 1 < wA.heap.size := by omega
  have s2 : w.heap.size + 2 < wA.heap.size := by omega
  clear hwA hb0 h0 h1 h2 hsz
  have i1 : wrap64 ((tx.size : Int) + (ty.size : Int)) = (tx.size : Int) + (ty.size : Int) := by unfold wrap64; omega
  have i2 : wrap64 ((lx.length : Int) + (ly.length : Int)) = (lx.length : Int) + (ly.length : Int) := by unfold wrap64; omega
  have i3 : IntKind.i64.wrap ((tx.size : Int) + (ty.size : Int)) = (tx.size : Int) + (ty.size : Int) := IntWalk.i64_in _ (by omega)
  have i4 : IntKind.i64.wrap ((lx.length : Int) + (ly.length : Int)) = (lx.length : Int) + (ly.length : Int) := IntWalk.i64_in _ (by omega)
  have hbig' : (tx.size + ty.size ≤ 65536 ∧ 4096 < lx.length + ly.length) ∨ 65536 < tx.size + ty.size := by omega
  clear hbig ftx fty
  rcases hbig' with ⟨hb1, hb2⟩ | hb1
  · have d1 : decide (65536 < (tx.size : Int) + (ty.size : Int)) = false := by simp; omega
    have d2 : decide (4096 < (lx.length : Int) + (ly.length : Int)) = true := by simp; omega
    have d3 : decide (65536 < tx.size + ty.size) = false := by simp; omega
    have d4 : decide (4096 < lx.length + ly.length) = true := by simp; omega
    clear hb1
    rcases h34 with rfl | rfl
    · go_wp2_with fail
      refine (no_v 2 _).mono ?_
      rintro e w9 ⟨rfl, hb9⟩
      have HB9 := Lib.hid (below_down HB0.out hb9 (Nat.le_refl _))
      have hz9 := (hb9.block (w.heap.size + 2) s2).trans HZ.out
      have s9 : w.heap.size + 2 < w9.heap.size := by have := hb9.size; omega
      have q9 := fun o => cell_of hz9 o
      have f9 := fun o => frozen_of hz9 o
      clear hb9 hz9
      go_wp2_with fail
      refine bodyPost_ret (v := .tuple #[.agg #[.int .i64 0, .bool false, .int .i64 0, .string { data := #[] }, .slice none 0 0], .int .i64 2]) (by simp [results, Tryz.results98, go_sem, q9]) rfl (gives_flat (by rw [HN.out]; rfl) (by rw [HN.out]; rfl) (below_set5 HB9.out (by omega) _ _ _ _ _))
    · go_wp2_with fail
      refine (no_v 2 _).mono ?_
      rintro e w9 ⟨rfl, hb9⟩
      have HB9 := Lib.hid (below_down HB0.out hb9 (Nat.le_refl _))
      have hz9 := (hb9.block (w.heap.size + 2) s2).trans HZ.out
      have s9 : w.heap.size + 2 < w9.heap.size := by have := hb9.size; omega
      have q9 := fun o => cell_of hz9 o
      have f9 := fun o => frozen_of hz9 o
      clear hb9 hz9
      go_wp2_with fail
      refine bodyPost_ret (v := .tuple #[.agg #[.int .i64 0, .bool false, .int .i64 0, .string { data := #[] }, .slice none 0 0], .int .i64 2]) (by simp [results, Tryz.results98, go_sem, q9]) rfl (gives_flat (by rw [HN.out]; rfl) (by rw [HN.out]; rfl) (below_set5 HB9.out (by omega) _ _ _ _ _))
  · have d1 : decide (65536 < (tx.size : Int) + (ty.size : Int)) = true := by simp; omega
    have d3 : decide (65536 < tx.size + ty.size) = true := by simp; omega
    rcases h34 with rfl | rfl
    · go_wp2_with fail
      refine (no_v 2 _).mono ?_
      rintro e w9 ⟨rfl, hb9⟩
      have HB9 := Lib.hid (below_down HB0.out hb9 (Nat.le_refl _))
      have hz9 := (hb9.block (w.heap.size + 2) s2).trans HZ.out
      have s9 : w.heap.size + 2 < w9.heap.size := by have := hb9.size; omega
      have q9 := fun o => cell_of hz9 o
      have f9 := fun o => frozen_of hz9 o
      clear hb9 hz9
      go_wp2_with fail
      refine bodyPost_ret (v := .tuple #[.agg #[.int .i64 0, .bool false, .int .i64 0, .string { data := #[] }, .slice none 0 0], .int .i64 2]) (by simp [results, Tryz.results98, go_sem, q9]) rfl (gives_flat (by rw [HN.out]; rfl) (by rw [HN.out]; rfl) (below_set5 HB9.out (by omega) _ _ _ _ _))
    · go_wp2_with fail
      refine (no_v 2 _).mono ?_
      rintro e w9 ⟨rfl, hb9⟩
      have HB9 := Lib.hid (below_down HB0.out hb9 (Nat.le_refl _))
      have hz9 := (hb9.block (w.heap.size + 2) s2).trans HZ.out
      have s9 : w.heap.size + 2 < w9.heap.size := by have := hb9.size; omega
      have q9 := fun o => cell_of hz9 o
      have f9 := fun o => frozen_of hz9 o
      clear hb9 hz9
      go_wp2_with fail
      refine bodyPost_ret (v := .tuple #[.agg #[.int .i64 0, .bool false, .int .i64 0, .string { data := #[] }, .slice none 0 0], .int .i64 2]) (by simp [results, Tryz.results98, go_sem, q9]) rfl (gives_flat (by rw [HN.out]; rfl) (by rw [HN.out]; rfl) (below_set5 HB9.out (by omega) _ _ _ _ _))
end Go.Proofs.YtljljhjdlicfeaaGreat
namespace Go.Proofs.YtljljhjdlicfeaaGreat
open Go Go.RowKit
set_option maxRecDepth 100000
set_option linter.unusedVariables false
set_option maxHeartbeats 1600000 in
theorem plus_int (x y : GV) (fx : x.fit) (fy : y.fit) (hkx : x.k = 2) (hky : y.k = 2) (sx sy : Value) (w : World) (B : Nat) (hB : B ≤ w.heap.size) (hx : isL w 0 B sx x.l) (hy : isL w 0 B sy y.l) :
    Calls Tryz.prog 98 #[x.agg sx, y.agg sy] w (GivesO w (reckP (fun a b => boundK (a + b)) x y)) := by
  obtain ⟨ax, cx, rfl⟩ := isL_form hx
  obtain ⟨ay, cy, rfl⟩ := isL_form hy
  have HK : Hid (∀ (b : Nat) (w1 : World), Below w.heap.size w w1 → lies w1 b (fn0 112) 141 → Calls Tryz.prog 108 #[x.agg (.slice ax x.l.length cx), y.agg (.slice ay y.l.length cy), .pointer (some ⟨b, 0, none⟩)] w1 (GivesO w1 (reckP (fun a b => boundK (a + b)) x y))) := fun b w1 h1 hl =>
    do_reck 112 (fun a b => boundK (a + b)) Tryz.call112 add_k b x y fx fy _ _ w1 B (Nat.le_trans hB h1.size) (isL_below hx h1 hB) (isL_below hy h1 hB) hl
  obtain ⟨P, hP⟩ : ∃ P, P = reckP (fun a b => boundK (a + b)) x y := ⟨_, rfl⟩
  rw [← hP] at HK ⊢
  clear hP hx hy fx fy
  obtain ⟨kx, bx, nx, tx, lx⟩ := x
  obtain ⟨ky, by_, ny, ty, ly⟩ := y
  dsimp only at hkx hky HK
  subst hkx
  subst hky
  simp only [GV.agg] at HK ⊢
  show Calls Tryz.prog 98 #[.agg #[.int .i64 2, .bool bx, .int .i64 nx, .string tx, .slice ax lx.length cx], .agg #[.int .i64 2, .bool by_, .int .i64 ny, .string ty, .slice ay ly.length cy]] w _
  go_enter Tryz.func98, Tryz.ntmps98
  go_upto_region 1 with fail
  obtain ⟨wA, hwA, hb0, h0, h1, h2, hsz⟩ := boxes3 w #[.int .i64 2, .bool bx, .int .i64 nx, .string tx, .slice ax lx.length cx] #[.int .i64 2, .bool by_, .int .i64 ny, .string ty, .slice ay ly.length cy] #[.int .i64 0, .bool false, .int .i64 0, .string { data := #[] }, .slice none 0 0] 36
  rw [← hwA]
  have HB0 := Lib.hid hb0
  have HX := Lib.hid h0
  have HY := Lib.hid h1
  have HZ := Lib.hid h2
  have qx := fun o => cell_of h0 o
  have qy := fun o => cell_of h1 o
  have s0 : w.heap.size < wA.heap.size := by omega
  have s1 : w.heap.size + 1 < wA.heap.size := by omega
  have s2 : w.heap.size + 2 < wA.heap.size := by omega
  clear hwA hb0 h0 h1 h2 hsz
  go_upto_region 2 with fail
  obtain ⟨p0, p1, p2, p3, p4⟩ : wA.cell? ⟨w.heap.size, 0, none⟩ = some (.int .i64 2) ∧ wA.cell? ⟨w.heap.size, 1, none⟩ = some (.bool bx) ∧ wA.cell? ⟨w.heap.size, 2, none⟩ = some (.int .i64 nx) ∧ wA.cell? ⟨w.heap.size, 3, none⟩ = some (.string tx) ∧ wA.cell? ⟨w.heap.size, 4, none⟩ = some (.slice ax lx.length cx) := ⟨(qx 0).trans rfl, (qx 1).trans rfl, (qx 2).trans rfl, (qx 3).trans rfl, (qx 4).trans rfl⟩
  obtain ⟨r0, r1, r2, r3, r4⟩ : wA.cell? ⟨w.heap.size + 1, 0, none⟩ = some (.int .i64 2) ∧ wA.cell? ⟨w.heap.size + 1, 1, none⟩ = some (.bool by_) ∧ wA.cell? ⟨w.heap.size + 1, 2, none⟩ = some (.int .i64 ny) ∧ wA.cell? ⟨w.heap.size + 1, 3, none⟩ = some (.string ty) ∧ wA.cell? ⟨w.heap.size + 1, 4, none⟩ = some (.slice ay ly.length cy) := ⟨(qy 0).trans rfl, (qy 1).trans rfl, (qy 2).trans rfl, (qy 3).trans rfl, (qy 4).trans rfl⟩
  have HR : Hid (∀ w2, Calls Tryz.prog 87 #[.func (.func 112) #[] #[]] w2 fun e w' => e = .returned (.agg #[.int .i64 2, .func (.func 108) #[] #[.pointer (some ⟨w2.heap.size, 0, none⟩)]]) ∧ Below w2.heap.size w2 w' ∧ lies w' w2.heap.size (fn0 112) 141 ∧ w'.heap.size = w2.heap.size + 2) := fun w2 => reckons_any 112 w2
  have hfld := field_do
  have ne0 : w.heap.size ≠ w.heap.size + 1 + 1 := by omega
  have ne1 : w.heap.size + 1 ≠ w.heap.size + 1 + 1 := by omega
  clear qx qy
  go_region_law (first
    | (go_simp
       go_at_call 87
       refine (HR.out _).mono ?_
       rintro e w6 ⟨rfl, hb6, hl6, hsz6⟩
       have hb6' : Below wA.heap.size wA w6 := (Below.refl wA.heap.size wA).drew.trans hb6
       have HB6 := Lib.hid hb6'
       have HL6 := Lib.hid hl6
       have HW6 := Lib.hid (below_down HB0.out hb6' (Nat.le_refl _))
       have hx6 := (hb6'.block w.heap.size s0).trans HX.out
       have hy6 := (hb6'.block (w.heap.size + 1) s1).trans HY.out
       have t0 := fun o => cell_of hx6 o
       have t1 := fun o => cell_of hy6 o
       have hz6 := hb6'.size
       have z0 : w.heap.size < w6.heap.size := by omega
       have z1 : w.heap.size + 1 < w6.heap.size := by omega
       clear hb6 hl6 hsz6 hz6 hb6' hx6 hy6)
    | (go_simp
       go_at_call 108
       refine (HK.out _ _ HW6.out HL6.out).mono ?_
       rintro e w7 hgv
       obtain ⟨ar, cr, rfl, hr, hb7⟩ := hgv
       have hb7' := below_down HB6.out hb7 (Nat.le_refl _)
       have HB7 := Lib.hid (below_down HB0.out hb7' (Nat.le_refl _))
       have hz7 := (hb7'.block (w.heap.size + 2) s2).trans HZ.out
       have q7 := fun o => cell_of hz7 o
       have f7 := fun o => frozen_of hz7 o
       have hs7 := hb7'.size
       have hs6 := HB6.out.size
       have z2 : w.heap.size + 2 < w7.heap.size := by omega
       have z3 : w.heap.size ≤ w6.heap.size := by omega
       have z4 : w.heap.size + 2 < w6.heap.size := by omega
       have HR7 := Lib.hid hr
       simp only [GV.agg]
       clear hb7 hs7 hb7' hz7 hr hs6))
  all_goals
    go_wp2_with fail
    refine bodyPost_ret (v := .tuple #[.agg #[.int .i64 P.1.k, .bool P.1.b, .int .i64 P.1.n, .string P.1.t, .slice ar P.1.l.length cr], .int .i64 P.2]) (by simp [results, Tryz.results98, go_sem, q7]) rfl (gives_box (w1 := w6) HR7.out HB7.out z3 (by omega) z4 _ _ _ _ _)
theorem do_plus : DoC 98 #[] (fun _ => True) plusP := by
  intro x y fx fy sx sy w B hB hx hy _
  unfold plusP
  by_cases h1 : x.k = 2 ∧ y.k = 2
  · rw [if_pos h1]
    exact plus_int x y fx fy h1.1 h1.2 sx sy w B hB hx hy
  rw [if_neg h1]
  by_cases h2 : x.k = y.k ∧ (x.k = 3 ∨ x.k = 4)
  · rw [if_pos h2]
    by_cases h3 : x.t.size + y.t.size ≤ 65536 ∧ x.l.length + y.l.length ≤ 4096
    · rw [if_pos h3]
      rcases h2 with ⟨hk, hk2 | hk2⟩
      · rw [hk2]
        exact plus_3 x y fx fy hk2 (hk ▸ hk2) h3.1 h3.2 sx sy w B hB hx hy
      · rw [hk2]
        exact plus_4 x y fx fy hk2 (hk ▸ hk2) h3.1 h3.2 sx sy w B hB hx hy
    · rw [if_neg h3]
      exact plus_over x y fx fy h2.1 h2.2 h3 sx sy w B hB hx hy
  · rw [if_neg h2]
    exact plus_no x y fx fy h1 h2 sx sy w B hB hx hy
end Go.Proofs.YtljljhjdlicfeaaGreat
