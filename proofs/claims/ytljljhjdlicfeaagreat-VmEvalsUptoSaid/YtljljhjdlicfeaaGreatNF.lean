/-
  What the operations of being the same and of comparison tell: two values are the same or not; the one stands ahead of the other. Conditions: lists and texts shorter than 2^31.
-/
import Derived.Test.YtljljhjdlicfeaaGreatPAD
import Derived.Test.YtljljhjdlicfeaaGreatPAG
namespace Go.Proofs.YtljljhjdlicfeaaGreat
open Go Go.RowKit
set_option maxRecDepth 100000
set_option linter.unusedVariables false
set_option maxHeartbeats 800000 in
theorem do_eq : DoC 91 #[] (fun _ => True) (fun x y => truthP (same x y)) := by
  intro x y fx fy sx sy w B hB hx hy _
  obtain ⟨ax, cx, rfl⟩ := isL_form hx
  obtain ⟨ay, cy, rfl⟩ := isL_form hy
  have HX := Lib.hid hx
  have HY := Lib.hid hy
  have HFX := Lib.hid fx
  have HFY := Lib.hid fy
  clear hx hy fx fy
  simp only [GV.agg]
  show Calls Tryz.prog 91 #[.agg #[.int .i64 x.k, .bool x.b, .int .i64 x.n, .string x.t, .slice ax x.l.length cx], .agg #[.int .i64 y.k, .bool y.b, .int .i64 y.n, .string y.t, .slice ay y.l.length cy]] w _
  go_enter Tryz.func91, Tryz.ntmps91
  go_upto_region 1 with fail
  obtain ⟨wA, hwA, hb0, h0, h1, h2, hsz⟩ := boxes3 w #[.int .i64 x.k, .bool x.b, .int .i64 x.n, .string x.t, .slice ax x.l.length cx] #[.int .i64 y.k, .bool y.b, .int .i64 y.n, .string y.t, .slice ay y.l.length cy] #[.int .i64 0, .bool false, .int .i64 0, .string { data := #[] }, .slice none 0 0] 36
  rw [← hwA]
  have HB0 := Lib.hid hb0
  have HZ := Lib.hid h2
  have q0 := fun o => cell_of h0 o
  have q1 := fun o => cell_of h1 o
  have s0 : w.heap.size < wA.heap.size := by omega
  have s1 : w.heap.size + 1 < wA.heap.size := by omega
  have s2 : w.heap.size + 2 < wA.heap.size := by omega
  clear hwA hb0 h0 h1 h2 hsz
  go_wp2_with fail
  refine (vSame_any x y HFX.out HFY.out (.slice ax x.l.length cx) (.slice ay y.l.length cy) wA B (Nat.le_trans hB HB0.out.size) (isL_below HX.out HB0.out hB) (isL_below HY.out HB0.out hB)).mono ?_
  rintro e w1 ⟨rfl, hb1⟩
  obtain ⟨E, hE⟩ : ∃ E, E = same x y := ⟨_, rfl⟩
  rw [← hE] at ⊢
  have HE := Lib.hid hE
  clear hE
  have HB1 := Lib.hid (below_down HB0.out hb1 (Nat.le_refl _))
  have HZ1 := Lib.hid ((hb1.block (w.heap.size + 2) s2).trans HZ.out)
  have s3 : w.heap.size + 2 < w1.heap.size := by have := hb1.size; omega
  clear hb1 q0 q1
  go_wp2_with fail
  refine (truth_v _ _).mono ?_
  rintro e w2 ⟨rfl, hb2⟩
  have HB2 := Lib.hid (below_down HB1.out hb2 (Nat.le_refl _))
  have hz2 := (hb2.block (w.heap.size + 2) s3).trans HZ1.out
  have s4 : w.heap.size + 2 < w2.heap.size := by have := hb2.size; omega
  have qz2 := fun o => cell_of hz2 o
  have fz2 := fun o => frozen_of hz2 o
  clear hb2 hz2
  go_wp2_with fail
  refine bodyPost_ret (v := .tuple #[.agg #[.int .i64 1, .bool (E), .int .i64 0, .string { data := #[] }, .slice none 0 0], .int .i64 0]) (by simp [results, Tryz.results91, go_sem, qz2]) rfl (gives_flat rfl (by rw [HE.out]; rfl) (below_set5 HB2.out (by omega) _ _ _ _ _))
set_option maxHeartbeats 800000 in
theorem do_ne : DoC 92 #[] (fun _ => True) (fun x y => truthP (!same x y)) := by
  intro x y fx fy sx sy w B hB hx hy _
  obtain ⟨ax, cx, rfl⟩ := isL_form hx
  obtain ⟨ay, cy, rfl⟩ := isL_form hy
  have HX := Lib.hid hx
  have HY := Lib.hid hy
  have HFX := Lib.hid fx
  have HFY := Lib.hid fy
  clear hx hy fx fy
  simp only [GV.agg]
  show Calls Tryz.prog 92 #[.agg #[.int .i64 x.k, .bool x.b, .int .i64 x.n, .string x.t, .slice ax x.l.length cx], .agg #[.int .i64 y.k, .bool y.b, .int .i64 y.n, .string y.t, .slice ay y.l.length cy]] w _
  go_enter Tryz.func92, Tryz.ntmps92
  go_upto_region 1 with fail
  obtain ⟨wA, hwA, hb0, h0, h1, h2, hsz⟩ := boxes3 w #[.int .i64 x.k, .bool x.b, .int .i64 x.n, .string x.t, .slice ax x.l.length cx] #[.int .i64 y.k, .bool y.b, .int .i64 y.n, .string y.t, .slice ay y.l.length cy] #[.int .i64 0, .bool false, .int .i64 0, .string { data := #[] }, .slice none 0 0] 36
  rw [← hwA]
  have HB0 := Lib.hid hb0
  have HZ := Lib.hid h2
  have q0 := fun o => cell_of h0 o
  have q1 := fun o => cell_of h1 o
  have s0 : w.heap.size < wA.heap.size := by omega
  have s1 : w.heap.size + 1 < wA.heap.size := by omega
  have s2 : w.heap.size + 2 < wA.heap.size := by omega
  clear hwA hb0 h0 h1 h2 hsz
  go_wp2_with fail
  refine (vSame_any x y HFX.out HFY.out (.slice ax x.l.length cx) (.slice ay y.l.length cy) wA B (Nat.le_trans hB HB0.out.size) (isL_below HX.out HB0.out hB) (isL_below HY.out HB0.out hB)).mono ?_
  rintro e w1 ⟨rfl, hb1⟩
  obtain ⟨E, hE⟩ : ∃ E, E = same x y := ⟨_, rfl⟩
  rw [← hE] at ⊢
  have HE := Lib.hid hE
  clear hE
  have HB1 := Lib.hid (below_down HB0.out hb1 (Nat.le_refl _))
  have HZ1 := Lib.hid ((hb1.block (w.heap.size + 2) s2).trans HZ.out)
  have s3 : w.heap.size + 2 < w1.heap.size := by have := hb1.size; omega
  clear hb1 q0 q1
  go_wp2_with fail
  refine (truth_v _ _).mono ?_
  rintro e w2 ⟨rfl, hb2⟩
  have HB2 := Lib.hid (below_down HB1.out hb2 (Nat.le_refl _))
  have hz2 := (hb2.block (w.heap.size + 2) s3).trans HZ1.out
  have s4 : w.heap.size + 2 < w2.heap.size := by have := hb2.size; omega
  have qz2 := fun o => cell_of hz2 o
  have fz2 := fun o => frozen_of hz2 o
  clear hb2 hz2
  go_wp2_with fail
  refine bodyPost_ret (v := .tuple #[.agg #[.int .i64 1, .bool (!E), .int .i64 0, .string { data := #[] }, .slice none 0 0], .int .i64 0]) (by simp [results, Tryz.results92, go_sem, qz2]) rfl (gives_flat rfl (by rw [HE.out]; rfl) (below_set5 HB2.out (by omega) _ _ _ _ _))
def cmpOk (x y : GV) : Bool := x.k == y.k && (x.k == 2 || x.k == 3 || x.k == 1)
def cmpP (h : Int → Bool) (x y : GV) : GV × Int := if cmpOk x y = true then truthP (h (ordV x y)) else noP 4
theorem holds5 (c : Int) (w : World) : Calls Tryz.prog 94 #[.int .i64 c] w fun e w' => e = .returned (.bool (decide (c < 0))) ∧ w' = w := by
  go_enter Tryz.func94, Tryz.ntmps94
  go_wp2_with fail
  go_ret
  exact ⟨rfl, rfl⟩
theorem holds6 (c : Int) (w : World) : Calls Tryz.prog 95 #[.int .i64 c] w fun e w' => e = .returned (.bool (decide (c ≤ 0))) ∧ w' = w := by
  go_enter Tryz.func95, Tryz.ntmps95
  go_wp2_with fail
  go_ret
  exact ⟨rfl, rfl⟩
theorem holds7 (c : Int) (w : World) : Calls Tryz.prog 96 #[.int .i64 c] w fun e w' => e = .returned (.bool (decide (0 < c))) ∧ w' = w := by
  go_enter Tryz.func96, Tryz.ntmps96
  go_wp2_with fail
  go_ret
  exact ⟨rfl, rfl⟩
theorem holds8 (c : Int) (w : World) : Calls Tryz.prog 97 #[.int .i64 c] w fun e w' => e = .returned (.bool (decide (0 ≤ c))) ∧ w' = w := by
  go_enter Tryz.func97, Tryz.ntmps97
  go_wp2_with fail
  go_ret
  exact ⟨rfl, rfl⟩
end Go.Proofs.YtljljhjdlicfeaaGreat
namespace Go.Proofs.YtljljhjdlicfeaaGreat
open Go Go.RowKit
set_option maxRecDepth 100000
set_option linter.unusedVariables false
set_option maxHeartbeats 3200000 in
theorem cmp_arm1 (f : Nat) (h : Int → Bool) (eg : ∀ (args : Array Value) (w : World), (callFunc f args).run Tryz.prog w = .ok (.enter f args) w) (hh : ∀ c w, Calls Tryz.prog f #[.int .i64 c] w fun e w' => e = .returned (.bool (h c)) ∧ w' = w) (b : Nat) (x y : GV) (fx : x.fit) (fy : y.fit) (hkx : x.k = 1) (hky : y.k = 1) (sx sy : Value) (w : World) (B : Nat) (hB : B ≤ w.heap.size) (hx : isL w 0 B sx x.l) (hy : isL w 0 B sy y.l) (hl : lies w b (fn0 f) 145) :
    Calls Tryz.prog 110 #[x.agg sx, y.agg sy, .pointer (some ⟨b, 0, none⟩)] w (GivesO w (truthP (h (ordV x y)))) := by
  have HHH := Lib.hid hh
  clear hh
  obtain ⟨ax, cx, rfl⟩ := isL_form hx
  obtain ⟨ay, cy, rfl⟩ := isL_form hy
  have HX := Lib.hid hx
  have HY := Lib.hid hy
  have HFX := Lib.hid fx
  have HFY := Lib.hid fy
  have HL := Lib.hid hl
  have hlt := lies_lt hl
  obtain ⟨GX, hGX⟩ : ∃ G : GV, G = x := ⟨_, rfl⟩
  obtain ⟨GY, hGY⟩ : ∃ G : GV, G = y := ⟨_, rfl⟩
  rw [← hGX] at HX HFX
  rw [← hGY] at HY HFY
  obtain ⟨P, hP⟩ : ∃ P, P = truthP (h (ordV x y)) := ⟨_, rfl⟩
  rw [← hP]
  have HP := Lib.hid hP
  have HGX := Lib.hid hGX
  have HGY := Lib.hid hGY
  clear hx hy fx fy hl hP hGX hGY
  obtain ⟨kx, bx, nx, tx, lx⟩ := x
  obtain ⟨ky, by_, ny, ty, ly⟩ := y
  dsimp only at hkx hky
  subst hkx
  subst hky
  simp only [GV.agg]
  show Calls Tryz.prog 110 #[.agg #[.int .i64 1, .bool bx, .int .i64 nx, .string tx, .slice ax lx.length cx], .agg #[.int .i64 1, .bool by_, .int .i64 ny, .string ty, .slice ay ly.length cy], .pointer (some ⟨b, 0, none⟩)] w _
  go_enter Tryz.func110, Tryz.ntmps110
  go_upto_region 1 with fail
  obtain ⟨wA, hwA, hb0, h0, h1, h2, hsz⟩ := boxes3 w #[.int .i64 1, .bool bx, .int .i64 nx, .string tx, .slice ax lx.length cx] #[.int .i64 1, .bool by_, .int .i64 ny, .string ty, .slice ay ly.length cy] #[.int .i64 0, .bool false, .int .i64 0, .string { data := #[] }, .slice none 0 0] 36
  rw [← hwA]
  have hcz : wA.cell? ⟨b, 0, none⟩ = some (.func (.func f) #[] #[]) := (hb0.cell (p := ⟨b, 0, none⟩) hlt).trans ((cell_of HL.out 0).trans rfl)
  have HB0 := Lib.hid hb0
  have HZ := Lib.hid h2
  have q0 := fun o => cell_of h0 o
  have q1 := fun o => cell_of h1 o
  have s0 : w.heap.size < wA.heap.size := by omega
  have s1 : w.heap.size + 1 < wA.heap.size := by omega
  have s2 : w.heap.size + 2 < wA.heap.size := by omega
  have s5 : b < wA.heap.size := by omega
  clear hwA hb0 h0 h1 h2 hsz
  have HN : Hid (P = truthP (h (ordV GX GY))) := by rw [Hid, HP.out, HGX.out, HGY.out]
  have HO : Hid (∀ w1, Below wA.heap.size wA w1 → Calls Tryz.prog 111 #[.agg #[.int .i64 1, .bool bx, .int .i64 nx, .string tx, .slice ax lx.length cx], .agg #[.int .i64 1, .bool by_, .int .i64 ny, .string ty, .slice ay ly.length cy]] w1 fun e w' => e = .returned (.int .i64 (ordV GX GY)) ∧ Below w1.heap.size w1 w') := by
    intro w1 h1
    have hb1 := below_down HB0.out h1 (Nat.le_refl _)
    have h := vOrder_any GX GY HFX.out HFY.out (.slice ax GX.l.length cx) (.slice ay GY.l.length cy) w1 B (Nat.le_trans hB hb1.size) (isL_below HX.out hb1 hB) (isL_below HY.out hb1 hB)
    rw [HGX.out, HGY.out] at h ⊢
    exact h
  obtain ⟨c, hc⟩ : ∃ c, c = ordV GX GY := ⟨_, rfl⟩
  rw [← hc] at HO HN
  clear hc
  have HH := Lib.hid (fun w => HHH.out c w)
  go_wp2_with fail
  go_region_law (first
      | (go_simp
         go_at_call 111
         refine (HO.out _ (Below.refl _ _).drew).mono ?_
         rintro e w1 ⟨rfl, hb1⟩
         have hb1' : Below wA.heap.size wA w1 := (Below.refl wA.heap.size wA).drew.trans hb1
         have HB1 := Lib.hid (below_down HB0.out hb1' (Nat.le_refl _))
         have HZ1 := Lib.hid ((hb1'.block (w.heap.size + 2) s2).trans HZ.out)
         have s3 : w.heap.size + 2 < w1.heap.size := by have := hb1'.size; omega
         have hcz1 := (hb1'.cell (p := ⟨b, 0, none⟩) s5).trans hcz
         have s6 : b < w1.heap.size := by have := hb1'.size; omega
         clear hb1 hb1' q0 q1 hcz)
      | (go_simp
         go_at_call 90
         refine (truth_v _ _).mono ?_
         rintro e w3 ⟨rfl, hb2⟩
         have HB2 := Lib.hid (below_down HB1.out hb2 (Nat.le_refl _))
         have hz2 := (hb2.block (w.heap.size + 2) s3).trans HZ1.out
         have s4 : w.heap.size + 2 < w3.heap.size := by have := hb2.size; omega
         have qz2 := fun o => cell_of hz2 o
         have fz2 := fun o => frozen_of hz2 o
         clear hb2 hz2)
      | (go_simp
         refine (HH.out _).mono ?_
         rintro e w2 ⟨rfl, rfl⟩
         obtain ⟨E, hE⟩ : ∃ E, E = h c := ⟨_, rfl⟩
         rw [← hE] at ⊢
         have HE := Lib.hid hE
         clear hE))
  all_goals
    go_wp2_with fail
    refine bodyPost_ret (v := .tuple #[.agg #[.int .i64 1, .bool E, .int .i64 0, .string { data := #[] }, .slice none 0 0], .int .i64 0]) (by simp [results, Tryz.results110, go_sem, qz2]) rfl (gives_flat (by rw [HN.out]; rfl) (by rw [HN.out, HE.out]; rfl) (below_set5 HB2.out (by omega) _ _ _ _ _))
end Go.Proofs.YtljljhjdlicfeaaGreat
namespace Go.Proofs.YtljljhjdlicfeaaGreat
open Go Go.RowKit
set_option maxRecDepth 100000
set_option linter.unusedVariables false
set_option maxHeartbeats 3200000 in
theorem cmp_arm2 (f : Nat) (h : Int → Bool) (eg : ∀ (args : Array Value) (w : World), (callFunc f args).run Tryz.prog w = .ok (.enter f args) w) (hh : ∀ c w, Calls Tryz.prog f #[.int .i64 c] w fun e w' => e = .returned (.bool (h c)) ∧ w' = w) (b : Nat) (x y : GV) (fx : x.fit) (fy : y.fit) (hkx : x.k = 2) (hky : y.k = 2) (sx sy : Value) (w : World) (B : Nat) (hB : B ≤ w.heap.size) (hx : isL w 0 B sx x.l) (hy : isL w 0 B sy y.l) (hl : lies w b (fn0 f) 145) :
    Calls Tryz.prog 110 #[x.agg sx, y.agg sy, .pointer (some ⟨b, 0, none⟩)] w (GivesO w (truthP (h (ordV x y)))) := by
  have HHH := Lib.hid hh
  clear hh
  obtain ⟨ax, cx, rfl⟩ := isL_form hx
  obtain ⟨ay, cy, rfl⟩ := isL_form hy
  have HX := Lib.hid hx
  have HY := Lib.hid hy
  have HFX := Lib.hid fx
  have HFY := Lib.hid fy
  have HL := Lib.hid hl
  have hlt := lies_lt hl
  obtain ⟨GX, hGX⟩ : ∃ G : GV, G = x := ⟨_, rfl⟩
  obtain ⟨GY, hGY⟩ : ∃ G : GV, G = y := ⟨_, rfl⟩
  rw [← hGX] at HX HFX
  rw [← hGY] at HY HFY
  obtain ⟨P, hP⟩ : ∃ P, P = truthP (h (ordV x y)) := ⟨_, rfl⟩
  rw [← hP]
  have HP := Lib.hid hP
  have HGX := Lib.hid hGX
  have HGY := Lib.hid hGY
  clear hx hy fx fy hl hP hGX hGY
  obtain ⟨kx, bx, nx, tx, lx⟩ := x
  obtain ⟨ky, by_, ny, ty, ly⟩ := y
  dsimp only at hkx hky
  subst hkx
  subst hky
  simp only [GV.agg]
  show Calls Tryz.prog 110 #[.agg #[.int .i64 2, .bool bx, .int .i64 nx, .string tx, .slice ax lx.length cx], .agg #[.int .i64 2, .bool by_, .int .i64 ny, .string ty, .slice ay ly.length cy], .pointer (some ⟨b, 0, none⟩)] w _
  go_enter Tryz.func110, Tryz.ntmps110
  go_upto_region 1 with fail
  obtain ⟨wA, hwA, hb0, h0, h1, h2, hsz⟩ := boxes3 w #[.int .i64 2, .bool bx, .int .i64 nx, .string tx, .slice ax lx.length cx] #[.int .i64 2, .bool by_, .int .i64 ny, .string ty, .slice ay ly.length cy] #[.int .i64 0, .bool false, .int .i64 0, .string { data := #[] }, .slice none 0 0] 36
  rw [← hwA]
  have hcz : wA.cell? ⟨b, 0, none⟩ = some (.func (.func f) #[] #[]) := (hb0.cell (p := ⟨b, 0, none⟩) hlt).trans ((cell_of HL.out 0).trans rfl)
  have HB0 := Lib.hid hb0
  have HZ := Lib.hid h2
  have q0 := fun o => cell_of h0 o
  have q1 := fun o => cell_of h1 o
  have s0 : w.heap.size < wA.heap.size := by omega
  have s1 : w.heap.size + 1 < wA.heap.size := by omega
  have s2 : w.heap.size + 2 < wA.heap.size := by omega
  have s5 : b < wA.heap.size := by omega
  clear hwA hb0 h0 h1 h2 hsz
  have HN : Hid (P = truthP (h (ordV GX GY))) := by rw [Hid, HP.out, HGX.out, HGY.out]
  have HO : Hid (∀ w1, Below wA.heap.size wA w1 → Calls Tryz.prog 111 #[.agg #[.int .i64 2, .bool bx, .int .i64 nx, .string tx, .slice ax lx.length cx], .agg #[.int .i64 2, .bool by_, .int .i64 ny, .string ty, .slice ay ly.length cy]] w1 fun e w' => e = .returned (.int .i64 (ordV GX GY)) ∧ Below w1.heap.size w1 w') := by
    intro w1 h1
    have hb1 := below_down HB0.out h1 (Nat.le_refl _)
    have h := vOrder_any GX GY HFX.out HFY.out (.slice ax GX.l.length cx) (.slice ay GY.l.length cy) w1 B (Nat.le_trans hB hb1.size) (isL_below HX.out hb1 hB) (isL_below HY.out hb1 hB)
    rw [HGX.out, HGY.out] at h ⊢
    exact h
  obtain ⟨c, hc⟩ : ∃ c, c = ordV GX GY := ⟨_, rfl⟩
  rw [← hc] at HO HN
  clear hc
  have HH := Lib.hid (fun w => HHH.out c w)
  go_wp2_with fail
  go_region_law (first
      | (go_simp
         go_at_call 111
         refine (HO.out _ (Below.refl _ _).drew).mono ?_
         rintro e w1 ⟨rfl, hb1⟩
         have hb1' : Below wA.heap.size wA w1 := (Below.refl wA.heap.size wA).drew.trans hb1
         have HB1 := Lib.hid (below_down HB0.out hb1' (Nat.le_refl _))
         have HZ1 := Lib.hid ((hb1'.block (w.heap.size + 2) s2).trans HZ.out)
         have s3 : w.heap.size + 2 < w1.heap.size := by have := hb1'.size; omega
         have hcz1 := (hb1'.cell (p := ⟨b, 0, none⟩) s5).trans hcz
         have s6 : b < w1.heap.size := by have := hb1'.size; omega
         clear hb1 hb1' q0 q1 hcz)
      | (go_simp
         go_at_call 90
         refine (truth_v _ _).mono ?_
         rintro e w3 ⟨rfl, hb2⟩
         have HB2 := Lib.hid (below_down HB1.out hb2 (Nat.le_refl _))
         have hz2 := (hb2.block (w.heap.size + 2) s3).trans HZ1.out
         have s4 : w.heap.size + 2 < w3.heap.size := by have := hb2.size; omega
         have qz2 := fun o => cell_of hz2 o
         have fz2 := fun o => frozen_of hz2 o
         clear hb2 hz2)
      | (go_simp
         refine (HH.out _).mono ?_
         rintro e w2 ⟨rfl, rfl⟩
         obtain ⟨E, hE⟩ : ∃ E, E = h c := ⟨_, rfl⟩
         rw [← hE] at ⊢
         have HE := Lib.hid hE
         clear hE))
  all_goals
    go_wp2_with fail
    refine bodyPost_ret (v := .tuple #[.agg #[.int .i64 1, .bool E, .int .i64 0, .string { data := #[] }, .slice none 0 0], .int .i64 0]) (by simp [results, Tryz.results110, go_sem, qz2]) rfl (gives_flat (by rw [HN.out]; rfl) (by rw [HN.out, HE.out]; rfl) (below_set5 HB2.out (by omega) _ _ _ _ _))
end Go.Proofs.YtljljhjdlicfeaaGreat
namespace Go.Proofs.YtljljhjdlicfeaaGreat
open Go Go.RowKit
set_option maxRecDepth 100000
set_option linter.unusedVariables false
set_option maxHeartbeats 3200000 in
theorem cmp_arm3 (f : Nat) (h : Int → Bool) (eg : ∀ (args : Array Value) (w : World), (callFunc f args).run Tryz.prog w = .ok (.enter f args) w) (hh : ∀ c w, Calls Tryz.prog f #[.int .i64 c] w fun e w' => e = .returned (.bool (h c)) ∧ w' = w) (b : Nat) (x y : GV) (fx : x.fit) (fy : y.fit) (hkx : x.k = 3) (hky : y.k = 3) (sx sy : Value) (w : World) (B : Nat) (hB : B ≤ w.heap.size) (hx : isL w 0 B sx x.l) (hy : isL w 0 B sy y.l) (hl : lies w b (fn0 f) 145) :
    Calls Tryz.prog 110 #[x.agg sx, y.agg sy, .pointer (some ⟨b, 0, none⟩)] w (GivesO w (truthP (h (ordV x y)))) := by
  have HHH := Lib.hid hh
  clear hh
  obtain ⟨ax, cx, rfl⟩ := isL_form hx
  obtain ⟨ay, cy, rfl⟩ := isL_form hy
  have HX := Lib.hid hx
  have HY := Lib.hid hy
  have HFX := Lib.hid fx
  have HFY := Lib.hid fy
  have HL := Lib.hid hl
  have hlt := lies_lt hl
  obtain ⟨GX, hGX⟩ : ∃ G : GV, G = x := ⟨_, rfl⟩
  obtain ⟨GY, hGY⟩ : ∃ G : GV, G = y := ⟨_, rfl⟩
  rw [← hGX] at HX HFX
  rw [← hGY] at HY HFY
  obtain ⟨P, hP⟩ : ∃ P, P = truthP (h (ordV x y)) := ⟨_, rfl⟩
  rw [← hP]
  have HP := Lib.hid hP
  have HGX := Lib.hid hGX
  have HGY := Lib.hid hGY
  clear hx hy fx fy hl hP hGX hGY
  obtain ⟨kx, bx, nx, tx, lx⟩ := x
  obtain ⟨ky, by_, ny, ty, ly⟩ := y
  dsimp only at hkx hky
  subst hkx
  subst hky
  simp only [GV.agg]
  show Calls Tryz.prog 110 #[.agg #[.int .i64 3, .bool bx, .int .i64 nx, .string tx, .slice ax lx.length cx], .agg #[.int .i64 3, .bool by_, .int .i64 ny, .string ty, .slice ay ly.length cy], .pointer (some ⟨b, 0, none⟩)] w _
  go_enter Tryz.func110, Tryz.ntmps110
  go_upto_region 1 with fail
  obtain ⟨wA, hwA, hb0, h0, h1, h2, hsz⟩ := boxes3 w #[.int .i64 3, .bool bx, .int .i64 nx, .string tx, .slice ax lx.length cx] #[.int .i64 3, .bool by_, .int .i64 ny, .string ty, .slice ay ly.length cy] #[.int .i64 0, .bool false, .int .i64 0, .string { data := #[] }, .slice none 0 0] 36
  rw [← hwA]
  have hcz : wA.cell? ⟨b, 0, none⟩ = some (.func (.func f) #[] #[]) := (hb0.cell (p := ⟨b, 0, none⟩) hlt).trans ((cell_of HL.out 0).trans rfl)
  have HB0 := Lib.hid hb0
  have HZ := Lib.hid h2
  have q0 := fun o => cell_of h0 o
  have q1 := fun o => cell_of h1 o
  have s0 : w.heap.size < wA.heap.size := by omega
  have s1 : w.heap.size + 1 < wA.heap.size := by omega
  have s2 : w.heap.size + 2 < wA.heap.size := by omega
  have s5 : b < wA.heap.size := by omega
  clear hwA hb0 h0 h1 h2 hsz
  have HN : Hid (P = truthP (h (ordV GX GY))) := by rw [Hid, HP.out, HGX.out, HGY.out]
  have HO : Hid (∀ w1, Below wA.heap.size wA w1 → Calls Tryz.prog 111 #[.agg #[.int .i64 3, .bool bx, .int .i64 nx, .string tx, .slice ax lx.length cx], .agg #[.int .i64 3, .bool by_, .int .i64 ny, .string ty, .slice ay ly.length cy]] w1 fun e w' => e = .returned (.int .i64 (ordV GX GY)) ∧ Below w1.heap.size w1 w') := by
    intro w1 h1
    have hb1 := below_down HB0.out h1 (Nat.le_refl _)
    have h := vOrder_any GX GY HFX.out HFY.out (.slice ax GX.l.length cx) (.slice ay GY.l.length cy) w1 B (Nat.le_trans hB hb1.size) (isL_below HX.out hb1 hB) (isL_below HY.out hb1 hB)
    rw [HGX.out, HGY.out] at h ⊢
    exact h
  obtain ⟨c, hc⟩ : ∃ c, c = ordV GX GY := ⟨_, rfl⟩
  rw [← hc] at HO HN
  clear hc
  have HH := Lib.hid (fun w => HHH.out c w)
  go_wp2_with fail
  go_region_law (first
      | (go_simp
         go_at_call 111
         refine (HO.out _ (Below.refl _ _).drew).mono ?_
         rintro e w1 ⟨rfl, hb1⟩
         have hb1' : Below wA.heap.size wA w1 := (Below.refl wA.heap.size wA).drew.trans hb1
         have HB1 := Lib.hid (below_down HB0.out hb1' (Nat.le_refl _))
         have HZ1 := Lib.hid ((hb1'.block (w.heap.size + 2) s2).trans HZ.out)
         have s3 : w.heap.size + 2 < w1.heap.size := by have := hb1'.size; omega
         have hcz1 := (hb1'.cell (p := ⟨b, 0, none⟩) s5).trans hcz
         have s6 : b < w1.heap.size := by have := hb1'.size; omega
         clear hb1 hb1' q0 q1 hcz)
      | (go_simp
         go_at_call 90
         refine (truth_v _ _).mono ?_
         rintro e w3 ⟨rfl, hb2⟩
         have HB2 := Lib.hid (below_down HB1.out hb2 (Nat.le_refl _))
         have hz2 := (hb2.block (w.heap.size + 2) s3).trans HZ1.out
         have s4 : w.heap.size + 2 < w3.heap.size := by have := hb2.size; omega
         have qz2 := fun o => cell_of hz2 o
         have fz2 := fun o => frozen_of hz2 o
         clear hb2 hz2)
      | (go_simp
         refine (HH.out _).mono ?_
         rintro e w2 ⟨rfl, rfl⟩
         obtain ⟨E, hE⟩ : ∃ E, E = h c := ⟨_, rfl⟩
         rw [← hE] at ⊢
         have HE := Lib.hid hE
         clear hE))
  all_goals
    go_wp2_with fail
    refine bodyPost_ret (v := .tuple #[.agg #[.int .i64 1, .bool E, .int .i64 0, .string { data := #[] }, .slice none 0 0], .int .i64 0]) (by simp [results, Tryz.results110, go_sem, qz2]) rfl (gives_flat (by rw [HN.out]; rfl) (by rw [HN.out, HE.out]; rfl) (below_set5 HB2.out (by omega) _ _ _ _ _))
end Go.Proofs.YtljljhjdlicfeaaGreat
