/-
  What the operations of being the same and of comparison tell: two values are the same or not; the one stands ahead of the other. Conditions: lists and texts shorter than 2^31.
-/
import Derived.Test.YtaclkegoaajdgaaDoorML
import Derived.Test.YtaclkegoaajdgaaDoorMG
namespace Go.Proofs.YtaclkegoaajdgaaDoor
open Go Go.RowKit
set_option maxRecDepth 100000
set_option linter.unusedVariables false

set_option maxHeartbeats 800000 in
theorem do_eq : DoC 29 #[] (fun _ => True) (fun x y => truthP (same x y)) := by
  intro x y fx fy sx sy w B hB hx hy _
  obtain ⟨ax, cx, rfl⟩ := isL_form hx
  obtain ⟨ay, cy, rfl⟩ := isL_form hy
  have HX := Lib.hid hx
  have HY := Lib.hid hy
  have HFX := Lib.hid fx
  have HFY := Lib.hid fy
  clear hx hy fx fy
  simp only [GV.agg]
  show Calls Tryd.prog 29 #[.agg #[.int .i64 x.k, .bool x.b, .int .i64 x.n, .string x.t, .slice ax x.l.length cx], .agg #[.int .i64 y.k, .bool y.b, .int .i64 y.n, .string y.t, .slice ay y.l.length cy]] w _
  go_enter Tryd.func29, Tryd.ntmps29
  go_upto_region 1 with fail
  obtain ⟨wA, hwA, hb0, h0, h1, h2, hsz⟩ := boxes3 w #[.int .i64 x.k, .bool x.b, .int .i64 x.n, .string x.t, .slice ax x.l.length cx] #[.int .i64 y.k, .bool y.b, .int .i64 y.n, .string y.t, .slice ay y.l.length cy] #[.int .i64 0, .bool false, .int .i64 0, .string { data := #[] }, .slice none 0 0] 24
  rw [← hwA]
  have HB0 := Lib.hid hb0
  have HZ := Lib.hid h2
  have q0 := fun o => cell_of h0 o
  have q1 := fun o => cell_of h1 o
  have s0 : w.heap.size < wA.heap.size := by omega
  have s1 : w.heap.size + 1 < wA.heap.size := by omega
  have s2 : w.heap.size + 2 < wA.heap.size := by omega
  clear hwA hb0 h0 h1 h2 hsz
  go_wp2_with fail
  refine (vSame_any x y HFX.out HFY.out (.slice ax x.l.length cx) (.slice ay y.l.length cy) wA B (Nat.le_trans hB HB0.out.size) (isL_below HX.out HB0.out hB) (isL_below HY.out HB0.out hB)).mono ?_
  rintro e w1 ⟨rfl, hb1⟩
  obtain ⟨E, hE⟩ : ∃ E, E = same x y := ⟨_, rfl⟩
  rw [← hE] at ⊢
  have HE := Lib.hid hE
  clear hE
  have HB1 := Lib.hid (below_down HB0.out hb1 (Nat.le_refl _))
  have HZ1 := Lib.hid ((hb1.block (w.heap.size + 2) s2).trans HZ.out)
  have s3 : w.heap.size + 2 < w1.heap.size := by have := hb1.size; omega
  clear hb1 q0 q1
  go_wp2_with fail
  refine (truth_v _ _).mono ?_
  rintro e w2 ⟨rfl, hb2⟩
  have HB2 := Lib.hid (below_down HB1.out hb2 (Nat.le_refl _))
  have hz2 := (hb2.block (w.heap.size + 2) s3).trans HZ1.out
  have s4 : w.heap.size + 2 < w2.heap.size := by have := hb2.size; omega
  have qz2 := fun o => cell_of hz2 o
  have fz2 := fun o => frozen_of hz2 o
  clear hb2 hz2
  go_wp2_with fail
  refine bodyPost_ret (v := .tuple #[.agg #[.int .i64 1, .bool (E), .int .i64 0, .string { data := #[] }, .slice none 0 0], .int .i64 0]) (by simp [results, Tryd.results29, go_sem, qz2]) rfl (gives_flat rfl (by rw [HE.out]; rfl) (below_set5 HB2.out (by omega) _ _ _ _ _))

set_option maxHeartbeats 800000 in
theorem do_ne : DoC 31 #[] (fun _ => True) (fun x y => truthP (!same x y)) := by
  intro x y fx fy sx sy w B hB hx hy _
  obtain ⟨ax, cx, rfl⟩ := isL_form hx
  obtain ⟨ay, cy, rfl⟩ := isL_form hy
  have HX := Lib.hid hx
  have HY := Lib.hid hy
  have HFX := Lib.hid fx
  have HFY := Lib.hid fy
  clear hx hy fx fy
  simp only [GV.agg]
  show Calls Tryd.prog 31 #[.agg #[.int .i64 x.k, .bool x.b, .int .i64 x.n, .string x.t, .slice ax x.l.length cx], .agg #[.int .i64 y.k, .bool y.b, .int .i64 y.n, .string y.t, .slice ay y.l.length cy]] w _
  go_enter Tryd.func31, Tryd.ntmps31
  go_upto_region 1 with fail
  obtain ⟨wA, hwA, hb0, h0, h1, h2, hsz⟩ := boxes3 w #[.int .i64 x.k, .bool x.b, .int .i64 x.n, .string x.t, .slice ax x.l.length cx] #[.int .i64 y.k, .bool y.b, .int .i64 y.n, .string y.t, .slice ay y.l.length cy] #[.int .i64 0, .bool false, .int .i64 0, .string { data := #[] }, .slice none 0 0] 24
  rw [← hwA]
  have HB0 := Lib.hid hb0
  have HZ := Lib.hid h2
  have q0 := fun o => cell_of h0 o
  have q1 := fun o => cell_of h1 o
  have s0 : w.heap.size < wA.heap.size := by omega
  have s1 : w.heap.size + 1 < wA.heap.size := by omega
  have s2 : w.heap.size + 2 < wA.heap.size := by omega
  clear hwA hb0 h0 h1 h2 hsz
  go_wp2_with fail
  refine (vSame_any x y HFX.out HFY.out (.slice ax x.l.length cx) (.slice ay y.l.length cy) wA B (Nat.le_trans hB HB0.out.size) (isL_below HX.out HB0.out hB) (isL_below HY.out HB0.out hB)).mono ?_
  rintro e w1 ⟨rfl, hb1⟩
  obtain ⟨E, hE⟩ : ∃ E, E = same x y := ⟨_, rfl⟩
  rw [← hE] at ⊢
  have HE := Lib.hid hE
  clear hE
  have HB1 := Lib.hid (below_down HB0.out hb1 (Nat.le_refl _))
  have HZ1 := Lib.hid ((hb1.block (w.heap.size + 2) s2).trans HZ.out)
  have s3 : w.heap.size + 2 < w1.heap.size := by have := hb1.size; omega
  clear hb1 q0 q1
  go_wp2_with fail
  refine (truth_v _ _).mono ?_
  rintro e w2 ⟨rfl, hb2⟩
  have HB2 := Lib.hid (below_down HB1.out hb2 (Nat.le_refl _))
  have hz2 := (hb2.block (w.heap.size + 2) s3).trans HZ1.out
  have s4 : w.heap.size + 2 < w2.heap.size := by have := hb2.size; omega
  have qz2 := fun o => cell_of hz2 o
  have fz2 := fun o => frozen_of hz2 o
  clear hb2 hz2
  go_wp2_with fail
  refine bodyPost_ret (v := .tuple #[.agg #[.int .i64 1, .bool (!E), .int .i64 0, .string { data := #[] }, .slice none 0 0], .int .i64 0]) (by simp [results, Tryd.results31, go_sem, qz2]) rfl (gives_flat rfl (by rw [HE.out]; rfl) (below_set5 HB2.out (by omega) _ _ _ _ _))

/-- may the two be compared -/
def cmpOk (x y : GV) : Bool := x.k == y.k && (x.k == 2 || x.k == 3 || x.k == 1)
def cmpP (h : Int → Bool) (x y : GV) : GV × Int := if cmpOk x y = true then truthP (h (ordV x y)) else noP 4

theorem holds5 (c : Int) (w : World) : Calls Tryd.prog 33 #[.int .i64 c] w fun e w' => e = .returned (.bool (decide (c < 0))) ∧ w' = w := by
  go_enter Tryd.func33, Tryd.ntmps33
  go_wp2_with fail
  go_ret
  exact ⟨rfl, rfl⟩

theorem holds6 (c : Int) (w : World) : Calls Tryd.prog 34 #[.int .i64 c] w fun e w' => e = .returned (.bool (decide (c ≤ 0))) ∧ w' = w := by
  go_enter Tryd.func34, Tryd.ntmps34
  go_wp2_with fail
  go_ret
  exact ⟨rfl, rfl⟩

theorem holds7 (c : Int) (w : World) : Calls Tryd.prog 35 #[.int .i64 c] w fun e w' => e = .returned (.bool (decide (0 < c))) ∧ w' = w := by
  go_enter Tryd.func35, Tryd.ntmps35
  go_wp2_with fail
  go_ret
  exact ⟨rfl, rfl⟩

theorem holds8 (c : Int) (w : World) : Calls Tryd.prog 36 #[.int .i64 c] w fun e w' => e = .returned (.bool (decide (0 ≤ c))) ∧ w' = w := by
  go_enter Tryd.func36, Tryd.ntmps36
  go_wp2_with fail
  go_ret
  exact ⟨rfl, rfl⟩

def cmpArgs (x y : GV) (sx sy : Value) (b : Nat) : Array Value := #[x.agg sx, y.agg sy] ++ #[.pointer (some ⟨b, 0, none⟩)]
end Go.Proofs.YtaclkegoaajdgaaDoor
