/-
  What value.plus tells of any two values. Conditions: lists and texts shorter than 2^31.
-/
import Derived.Test.YtaclkegoaajdgaaDoorML
import Derived.Test.YtaclkegoaajdgaaDoorMP
namespace Go.Proofs.YtaclkegoaajdgaaDoor
open Go Go.RowKit
set_option maxRecDepth 100000
set_option linter.unusedVariables false
def plusP (x y : GV) : GV × Int := if x.k = 2 ∧ y.k = 2 then reckP (fun a b => boundK (a + b)) x y else if x.k = y.k ∧ (x.k = 3 ∨ x.k = 4) then (if x.t.size + y.t.size ≤ 65536 ∧ x.l.length + y.l.length ≤ 4096 then (⟨x.k, false, 0, x.t ++ y.t, x.l ++ y.l⟩, 0) else noP 2) else noP 4
set_option maxHeartbeats 1600000 in
theorem plus_no (x y : GV) (fx : x.fit) (fy : y.fit) (hno : (x.k = 2 ∧ y.k = 2) → False) (hno2 : (x.k = y.k ∧ (x.k = 3 ∨ x.k = 4)) → False) (sx sy : Value) (w : World) (B : Nat) (hB : B ≤ w.heap.size) (hx : isL w 0 B sx x.l) (hy : isL w 0 B sy y.l) :
    Calls Tryd.prog 37 #[x.agg sx, y.agg sy] w (GivesO w (noP 4)) := by
  obtain ⟨ax, cx, rfl⟩ := isL_form hx
  obtain ⟨ay, cy, rfl⟩ := isL_form hy
  have HX := Lib.hid hx
  have HY := Lib.hid hy
  have HFX := Lib.hid fx
  have HFY := Lib.hid fy
  obtain ⟨P, hP⟩ : ∃ P, P = noP 4 := ⟨_, rfl⟩
  rw [← hP]
  have HP := Lib.hid hP
  clear hx hy fx fy hP
  have HN := HP
  obtain ⟨kx, bx, nx, tx, lx⟩ := x
  obtain ⟨ky, by_, ny, ty, ly⟩ := y
  simp only [GV.agg]
  show Calls Tryd.prog 37 #[.agg #[.int .i64 kx, .bool bx, .int .i64 nx, .string tx, .slice ax lx.length cx], .agg #[.int .i64 ky, .bool by_, .int .i64 ny, .string ty, .slice ay ly.length cy]] w _
  go_enter Tryd.func37, Tryd.ntmps37
  go_upto_region 1 with fail
  obtain ⟨wA, hwA, hb0, h0, h1, h2, hsz⟩ := boxes3 w #[.int .i64 kx, .bool bx, .int .i64 nx, .string tx, .slice ax lx.length cx] #[.int .i64 ky, .bool by_, .int .i64 ny, .string ty, .slice ay ly.length cy] #[.int .i64 0, .bool false, .int .i64 0, .string { data := #[] }, .slice none 0 0] 24
  rw [← hwA]
  have HB0 := Lib.hid hb0
  have HZ := Lib.hid h2
  have q0 := fun o => cell_of h0 o
  have q1 := fun o => cell_of h1 o
  have s0 : w.heap.size < wA.heap.size := by omega
  have s1 : w.heap.size + 1 < wA.heap.size := by omega
  have s2 : w.heap.size + 2 < wA.heap.size := by omega
  clear hwA hb0 h0 h1 h2 hsz
  dsimp only at hno hno2
  by_cases hk : kx = ky
  · subst hk
    have hne : (kx == 2) = false := by simp; intro h; exact hno ⟨h, h⟩
    have hne1 : (kx != 3) = true := by simp; intro h; exact hno2 ⟨rfl, .inl h⟩
    have hne2 : (kx != 4) = true := by simp; intro h; exact hno2 ⟨rfl, .inr h⟩
    have hne3 : (kx == 3) = false := by simp; intro h; exact hno2 ⟨rfl, .inl h⟩
    have hne4 : (kx == 4) = false := by simp; intro h; exact hno2 ⟨rfl, .inr h⟩
    have hne5 : (kx != kx) = false := by simp
    clear hno hno2
    go_wp2_with fail
    refine (no_v 4 _).mono ?_
    rintro e w9 ⟨rfl, hb9⟩
    have HB9 := Lib.hid (below_down HB0.out hb9 (Nat.le_refl _))
    have hz9 := (hb9.block (w.heap.size + 2) s2).trans HZ.out
    have s9 : w.heap.size + 2 < w9.heap.size := by have := hb9.size; omega
    have q9 := fun o => cell_of hz9 o
    have f9 := fun o => frozen_of hz9 o
    clear hb9 hz9
    go_wp2_with fail
    refine bodyPost_ret (v := .tuple #[.agg #[.int .i64 0, .bool false, .int .i64 0, .string { data := #[] }, .slice none 0 0], .int .i64 4]) (by simp [results, Tryd.results37, go_sem, q9]) rfl (gives_flat (by rw [HN.out]; rfl) (by rw [HN.out]; rfl) (below_set5 HB9.out (by omega) _ _ _ _ _))
  · have hd1 : (kx != ky) = true := by simp; omega
    have hd2 : (kx == ky) = false := by simp; omega
    by_cases h2 : kx = 2
    · subst h2
      have hne : (ky == 2) = false := by simp; omega
      clear hno hno2 hk
      go_wp2_with fail
      refine (no_v 4 _).mono ?_
      rintro e w9 ⟨rfl, hb9⟩
      have HB9 := Lib.hid (below_down HB0.out hb9 (Nat.le_refl _))
      have hz9 := (hb9.block (w.heap.size + 2) s2).trans HZ.out
      have s9 : w.heap.size + 2 < w9.heap.size := by have := hb9.size; omega
      have q9 := fun o => cell_of hz9 o
      have f9 := fun o => frozen_of hz9 o
      clear hb9 hz9
      go_wp2_with fail
      refine bodyPost_ret (v := .tuple #[.agg #[.int .i64 0, .bool false, .int .i64 0, .string { data := #[] }, .slice none 0 0], .int .i64 4]) (by simp [results, Tryd.results37, go_sem, q9]) rfl (gives_flat (by rw [HN.out]; rfl) (by rw [HN.out]; rfl) (below_set5 HB9.out (by omega) _ _ _ _ _))
    · have hne : (kx == 2) = false := by simp; omega
      clear hno hno2 hk h2
      go_wp2_with fail
      refine (no_v 4 _).mono ?_
      rintro e w9 ⟨rfl, hb9⟩
      have HB9 := Lib.hid (below_down HB0.out hb9 (Nat.le_refl _))
      have hz9 := (hb9.block (w.heap.size + 2) s2).trans HZ.out
      have s9 : w.heap.size + 2 < w9.heap.size := by have := hb9.size; omega
      have q9 := fun o => cell_of hz9 o
      have f9 := fun o => frozen_of hz9 o
      clear hb9 hz9
      go_wp2_with fail
      refine bodyPost_ret (v := .tuple #[.agg #[.int .i64 0, .bool false, .int .i64 0, .string { data := #[] }, .slice none 0 0], .int .i64 4]) (by simp [results, Tryd.results37, go_sem, q9]) rfl (gives_flat (by rw [HN.out]; rfl) (by rw [HN.out]; rfl) (below_set5 HB9.out (by omega) _ _ _ _ _))
set_option maxHeartbeats 1600000 in
theorem plus_over (x y : GV) (fx : x.fit) (fy : y.fit) (hk : x.k = y.k) (h34 : x.k = 3 ∨ x.k = 4) (hbig : ¬ (x.t.size + y.t.size ≤ 65536 ∧ x.l.length + y.l.length ≤ 4096)) (sx sy : Value) (w : World) (B : Nat) (hB : B ≤ w.heap.size) (hx : isL w 0 B sx x.l) (hy : isL w 0 B sy y.l) :
    Calls Tryd.prog 37 #[x.agg sx, y.agg sy] w (GivesO w (noP 2)) := by
  have ftx := (fit_open fx).2.2.2.2
  have fty := (fit_open fy).2.2.2.2
  obtain ⟨ax, cx, rfl⟩ := isL_form hx
  obtain ⟨ay, cy, rfl⟩ := isL_form hy
  have HX := Lib.hid hx
  have HY := Lib.hid hy
  have HFX := Lib.hid fx
  have HFY := Lib.hid fy
  obtain ⟨P, hP⟩ : ∃ P, P = noP 2 := ⟨_, rfl⟩
  rw [← hP]
  have HP := Lib.hid hP
  clear hx hy fx fy hP
  have HN := HP
  obtain ⟨kx, bx, nx, tx, lx⟩ := x
  obtain ⟨ky, by_, ny, ty, ly⟩ := y
  dsimp only at hk h34 hbig ftx fty
  subst hk
  simp only [GV.agg]
  show Calls Tryd.prog 37 #[.agg #[.int .i64 kx, .bool bx, .int .i64 nx, .string tx, .slice ax lx.length cx], .agg #[.int .i64 kx, .bool by_, .int .i64 ny, .string ty, .slice ay ly.length cy]] w _
  go_enter Tryd.func37, Tryd.ntmps37
  go_upto_region 1 with fail
  obtain ⟨wA, hwA, hb0, h0, h1, h2, hsz⟩ := boxes3 w #[.int .i64 kx, .bool bx, .int .i64 nx, .string tx, .slice ax lx.length cx] #[.int .i64 kx, .bool by_, .int .i64 ny, .string ty, .slice ay ly.length cy] #[.int .i64 0, .bool false, .int .i64 0, .string { data := #[] }, .slice none 0 0] 24
  rw [← hwA]
  have HB0 := Lib.hid hb0
  have HZ := Lib.hid h2
  have q0 := fun o => cell_of h0 o
  have q1 := fun o => cell_of h1 o
  have s0 : w.heap.size < wA.heap.size := by omega
  have s1 : w.heap.size + 1 < wA.heap.size := by omega
  have s2 : w.heap.size + 2 < wA.heap.size := by omega
  clear hwA hb0 h0 h1 h2 hsz
  have i1 : wrap64 ((tx.size : Int) + (ty.size : Int)) = (tx.size : Int) + (ty.size : Int) := by unfold wrap64; omega
  have i2 : wrap64 ((lx.length : Int) + (ly.length : Int)) = (lx.length : Int) + (ly.length : Int) := by unfold wrap64; omega
  have i3 : IntKind.i64.wrap ((tx.size : Int) + (ty.size : Int)) = (tx.size : Int) + (ty.size : Int) := IntWalk.i64_in _ (by omega)
  have i4 : IntKind.i64.wrap ((lx.length : Int) + (ly.length : Int)) = (lx.length : Int) + (ly.length : Int) := IntWalk.i64_in _ (by omega)
  have hbig' : (tx.size + ty.size ≤ 65536 ∧ 4096 < lx.length + ly.length) ∨ 65536 < tx.size + ty.size := by omega
  clear hbig ftx fty
  rcases hbig' with ⟨hb1, hb2⟩ | hb1
  · have d1 : decide (65536 < (tx.size : Int) + (ty.size : Int)) = false := by simp; omega
    have d2 : decide (4096 < (lx.length : Int) + (ly.length : Int)) = true := by simp; omega
    have d3 : decide (65536 < tx.size + ty.size) = false := by simp; omega
    have d4 : decide (4096 < lx.length + ly.length) = true := by simp; omega
    clear hb1
    rcases h34 with rfl | rfl
    · go_wp2_with fail
      refine (no_v 2 _).mono ?_
      rintro e w9 ⟨rfl, hb9⟩
      have HB9 := Lib.hid (below_down HB0.out hb9 (Nat.le_refl _))
      have hz9 := (hb9.block (w.heap.size + 2) s2).trans HZ.out
      have s9 : w.heap.size + 2 < w9.heap.size := by have := hb9.size; omega
      have q9 := fun o => cell_of hz9 o
      have f9 := fun o => frozen_of hz9 o
      clear hb9 hz9
      go_wp2_with fail
      refine bodyPost_ret (v := .tuple #[.agg #[.int .i64 0, .bool false, .int .i64 0, .string { data := #[] }, .slice none 0 0], .int .i64 2]) (by simp [results, Tryd.results37, go_sem, q9]) rfl (gives_flat (by rw [HN.out]; rfl) (by rw [HN.out]; rfl) (below_set5 HB9.out (by omega) _ _ _ _ _))
    · go_wp2_with fail
      refine (no_v 2 _).mono ?_
      rintro e w9 ⟨rfl, hb9⟩
      have HB9 := Lib.hid (below_down HB0.out hb9 (Nat.le_refl _))
      have hz9 := (hb9.block (w.heap.size + 2) s2).trans HZ.out
      have s9 : w.heap.size + 2 < w9.heap.size := by have := hb9.size; omega
      have q9 := fun o => cell_of hz9 o
      have f9 := fun o => frozen_of hz9 o
      clear hb9 hz9
      go_wp2_with fail
      refine bodyPost_ret (v := .tuple #[.agg #[.int .i64 0, .bool false, .int .i64 0, .string { data := #[] }, .slice none 0 0], .int .i64 2]) (by simp [results, Tryd.results37, go_sem, q9]) rfl (gives_flat (by rw [HN.out]; rfl) (by rw [HN.out]; rfl) (below_set5 HB9.out (by omega) _ _ _ _ _))
  · have d1 : decide (65536 < (tx.size : Int) + (ty.size : Int)) = true := by simp; omega
    have d3 : decide (65536 < tx.size + ty.size) = true := by simp; omega
    rcases h34 with rfl | rfl
    · go_wp2_with fail
      refine (no_v 2 _).mono ?_
      rintro e w9 ⟨rfl, hb9⟩
      have HB9 := Lib.hid (below_down HB0.out hb9 (Nat.le_refl _))
      have hz9 := (hb9.block (w.heap.size + 2) s2).trans HZ.out
      have s9 : w.heap.size + 2 < w9.heap.size := by have := hb9.size; omega
      have q9 := fun o => cell_of hz9 o
      have f9 := fun o => frozen_of hz9 o
      clear hb9 hz9
      go_wp2_with fail
      refine bodyPost_ret (v := .tuple #[.agg #[.int .i64 0, .bool false, .int .i64 0, .string { data := #[] }, .slice none 0 0], .int .i64 2]) (by simp [results, Tryd.results37, go_sem, q9]) rfl (gives_flat (by rw [HN.out]; rfl) (by rw [HN.out]; rfl) (below_set5 HB9.out (by omega) _ _ _ _ _))
    · go_wp2_with fail
      refine (no_v 2 _).mono ?_
      rintro e w9 ⟨rfl, hb9⟩
      have HB9 := Lib.hid (below_down HB0.out hb9 (Nat.le_refl _))
      have hz9 := (hb9.block (w.heap.size + 2) s2).trans HZ.out
      have s9 : w.heap.size + 2 < w9.heap.size := by have := hb9.size; omega
      have q9 := fun o => cell_of hz9 o
      have f9 := fun o => frozen_of hz9 o
      clear hb9 hz9
      go_wp2_with fail
      refine bodyPost_ret (v := .tuple #[.agg #[.int .i64 0, .bool false, .int .i64 0, .string { data := #[] }, .slice none 0 0], .int .i64 2]) (by simp [results, Tryd.results37, go_sem, q9]) rfl (gives_flat (by rw [HN.out]; rfl) (by rw [HN.out]; rfl) (below_set5 HB9.out (by omega) _ _ _ _ _))
end Go.Proofs.YtaclkegoaajdgaaDoor
