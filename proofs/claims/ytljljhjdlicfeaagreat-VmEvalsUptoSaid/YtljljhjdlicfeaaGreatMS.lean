/-
  What the references' operations of one value tell. Conditions: lists and texts shorter than 2^31.
-/
import Derived.Test.YtljljhjdlicfeaaGreatMR
import Derived.Test.YtljljhjdlicfeaaGreatMQ
import Derived.Test.YtljljhjdlicfeaaGreatPAB
import Derived.Test.YtljljhjdlicfeaaGreatPAG
import Derived.Test.YtljljhjdlicfeaaGreatMD
namespace Go.Proofs.YtljljhjdlicfeaaGreat
open Go Go.RowKit
set_option maxRecDepth 100000
set_option linter.unusedVariables false
theorem bound_whole (n : Int) : (if (boundK n).2 = 0 then numP (boundK n).1 else noP (boundK n).2) = wholeP n := by
  unfold boundK wholeP
  by_cases h : inI n <;> simp [h]
theorem may_text {x : GV} (h : vmay x = true) (hk : x.k = 3) : x.l.length = 0 := by
  unfold vmay at h
  rw [chk_eq, Bool.and_eq_true] at h
  have h1 := h.1
  unfold chkFlat at h1
  simp [hk] at h1
  simp [h1]
theorem may_list {x : GV} (h : vmay x = true) (hk : x.k = 4) : x.t.size = 0 := by
  unfold vmay at h
  rw [chk_eq, Bool.and_eq_true] at h
  have h1 := h.1
  unfold chkFlat at h1
  simp [hk] at h1
  exact toList_nil.1 h1.1.2
set_option maxHeartbeats 800000 in
theorem one6 (x : GV) (fx : x.fit) (sx : Value) (w : World) (B : Nat) (hB : B ≤ w.heap.size) (hx : isL w 0 B sx x.l) : Calls Tryz.prog 55 #[.int .i64 6, x.agg sx] w (RefO w (negP x x)) := by
  have hn : inI x.n := ⟨(fit_open fx).2.2.1, (fit_open fx).2.2.2.1⟩
  obtain ⟨ax, cx, rfl⟩ := isL_form hx
  obtain ⟨P, hP⟩ : ∃ P, P = negP x x := ⟨_, rfl⟩
  rw [← hP]
  have HP := Lib.hid hP
  clear hx hP
  obtain ⟨kx, bx, nx, tx, lx⟩ := x
  dsimp only at hn
  clear fx
  by_cases hk : kx = 2
  · have HN : Hid (P = wholeP (-nx)) := by
      rw [Hid, HP.out, negP, ofP, if_pos hk, reckP, if_pos ⟨rfl, hk⟩, bound_whole]
      show wholeP (0 - nx) = wholeP (-nx)
      rw [show (0 : Int) - nx = -nx by omega]
    have HC := Lib.hid (fun w => rSub_any 0 nx (by unfold inI; omega) hn w)
    rw [show (0 : Int) - nx = -nx by omega] at HC
    have HK := Lib.hid (fun w => whole_any (-nx) (okK (-nx)).1 (okK (-nx)).2 (ok_ne _) (ok_eq _) w)
    subst hk
    clear hn
    simp only [GV.agg]
    show Calls Tryz.prog 55 #[.int .i64 6, .agg #[.int .i64 2, .bool bx, .int .i64 nx, .string tx, .slice ax lx.length cx]] w _
    go_enter Tryz.func55, Tryz.ntmps55
    go_upto_region 1 with fail
    obtain ⟨wA, hwA, hb0, h0, h2, hsz⟩ := boxes2 w #[.int .i64 2, .bool bx, .int .i64 nx, .string tx, .slice ax lx.length cx] #[.int .i64 0, .bool false, .int .i64 0, .string { data := #[] }, .slice none 0 0] 36
    rw [← hwA]
    have HB0 := Lib.hid hb0
    have HZ := Lib.hid h2
    have q0 := fun o => cell_of h0 o
    have s0 : w.heap.size < wA.heap.size := by omega
    have s1 : w.heap.size + 1 < wA.heap.size := by omega
    clear hwA hb0 h0 h2 hsz
    go_wp2_with fail
    refine (HC.out _).mono ?_
    rintro e w1 ⟨rfl, hb1⟩
    have HB1 := Lib.hid (below_down HB0.out hb1 (Nat.le_refl _))
    have HZ1 := Lib.hid ((hb1.block (w.heap.size + 1) s1).trans HZ.out)
    have s2 : w.heap.size + 1 < w1.heap.size := by have := hb1.size; omega
    clear hb1 q0
    go_wp2_with fail
    refine (HK.out _).mono ?_
    rintro e w9 ⟨rfl, hb9⟩
    have HB9 := Lib.hid (below_down HB1.out hb9 (Nat.le_refl _))
    have hz9 := (hb9.block (w.heap.size + 1) s2).trans HZ1.out
    have s9 : w.heap.size + 1 < w9.heap.size := by have := hb9.size; omega
    have q9 := fun o => cell_of hz9 o
    have f9 := fun o => frozen_of hz9 o
    clear hb9 hz9
    go_wp2_with fail
    refine bodyPost_ret (v := .tuple #[.agg #[.int .i64 (wholeP (-nx)).1.k, .bool (wholeP (-nx)).1.b, .int .i64 (wholeP (-nx)).1.n, .string (wholeP (-nx)).1.t, .slice none 0 0], .int .i64 (wholeP (-nx)).2]) (by simp [results, Tryz.results55, go_sem, q9]) rfl (ref_flat (by rw [HN.out]; exact wholeP_l _) (by rw [HN.out]) (below_set5 HB9.out (by omega) _ _ _ _ _))
  · have HN : Hid (P = noP 4) := by rw [Hid, HP.out, negP, ofP, if_neg hk]
    have hne : (kx == 2) = false := by simpa using hk
    clear hk hn
    simp only [GV.agg]
    show Calls Tryz.prog 55 #[.int .i64 6, .agg #[.int .i64 kx, .bool bx, .int .i64 nx, .string tx, .slice ax lx.length cx]] w _
    go_enter Tryz.func55, Tryz.ntmps55
    go_upto_region 1 with fail
    obtain ⟨wA, hwA, hb0, h0, h2, hsz⟩ := boxes2 w #[.int .i64 kx, .bool bx, .int .i64 nx, .string tx, .slice ax lx.length cx] #[.int .i64 0, .bool false, .int .i64 0, .string { data := #[] }, .slice none 0 0] 36
    rw [← hwA]
    have HB0 := Lib.hid hb0
    have HZ := Lib.hid h2
    have q0 := fun o => cell_of h0 o
    have s0 : w.heap.size < wA.heap.size := by omega
    have s1 : w.heap.size + 1 < wA.heap.size := by omega
    clear hwA hb0 h0 h2 hsz
    go_wp2_with fail
    refine (rNo_any 4 _).mono ?_
    rintro e w9 ⟨rfl, hb9⟩
    have HB9 := Lib.hid (below_down HB0.out hb9 (Nat.le_refl _))
    have hz9 := (hb9.block (w.heap.size + 1) s1).trans HZ.out
    have s9 : w.heap.size + 1 < w9.heap.size := by have := hb9.size; omega
    have q9 := fun o => cell_of hz9 o
    have f9 := fun o => frozen_of hz9 o
    clear hb9 hz9
    go_wp2_with fail
    refine bodyPost_ret (v := .tuple #[.agg #[.int .i64 0, .bool false, .int .i64 0, .string { data := #[] }, .slice none 0 0], .int .i64 4]) (by simp [results, Tryz.results55, go_sem, q9]) rfl (ref_flat (by rw [HN.out]; rfl) (by rw [HN.out]; rfl) (below_set5 HB9.out (by omega) _ _ _ _ _))
set_option maxHeartbeats 800000 in
theorem one7 (x : GV) (fx : x.fit) (sx : Value) (w : World) (B : Nat) (hB : B ≤ w.heap.size) (hx : isL w 0 B sx x.l) : Calls Tryz.prog 55 #[.int .i64 7, x.agg sx] w (RefO w (notP x x)) := by
  obtain ⟨ax, cx, rfl⟩ := isL_form hx
  obtain ⟨P, hP⟩ : ∃ P, P = notP x x := ⟨_, rfl⟩
  rw [← hP]
  have HP := Lib.hid hP
  clear hx hP
  obtain ⟨kx, bx, nx, tx, lx⟩ := x
  clear fx
  by_cases hk : kx = 1
  · have HN : Hid (P = truthP (!bx)) := by rw [Hid, HP.out, notP, ofP, if_pos hk]
    subst hk
    simp only [GV.agg]
    show Calls Tryz.prog 55 #[.int .i64 7, .agg #[.int .i64 1, .bool bx, .int .i64 nx, .string tx, .slice ax lx.length cx]] w _
    go_enter Tryz.func55, Tryz.ntmps55
    go_upto_region 1 with fail
    obtain ⟨wA, hwA, hb0, h0, h2, hsz⟩ := boxes2 w #[.int .i64 1, .bool bx, .int .i64 nx, .string tx, .slice ax lx.length cx] #[.int .i64 0, .bool false, .int .i64 0, .string { data := #[] }, .slice none 0 0] 36
    rw [← hwA]
    have HB0 := Lib.hid hb0
    have HZ := Lib.hid h2
    have q0 := fun o => cell_of h0 o
    have s0 : w.heap.size < wA.heap.size := by omega
    have s1 : w.heap.size + 1 < wA.heap.size := by omega
    clear hwA hb0 h0 h2 hsz
    go_wp2_with fail
    refine (rBool_any (!bx) _).mono ?_
    rintro e w9 ⟨rfl, hb9⟩
    have HB9 := Lib.hid (below_down HB0.out hb9 (Nat.le_refl _))
    have hz9 := (hb9.block (w.heap.size + 1) s1).trans HZ.out
    have s9 : w.heap.size + 1 < w9.heap.size := by have := hb9.size; omega
    have q9 := fun o => cell_of hz9 o
    have f9 := fun o => frozen_of hz9 o
    clear hb9 hz9
    go_wp2_with fail
    refine bodyPost_ret (v := .tuple #[.agg #[.int .i64 1, .bool (!bx), .int .i64 0, .string { data := #[] }, .slice none 0 0], .int .i64 0]) (by simp [results, Tryz.results55, go_sem, q9]) rfl (ref_flat (by rw [HN.out]; rfl) (by rw [HN.out]; rfl) (below_set5 HB9.out (by omega) _ _ _ _ _))
  · have HN : Hid (P = noP 4) := by rw [Hid, HP.out, notP, ofP, if_neg hk]
    have hne : (kx == 1) = false := by simpa using hk
    clear hk
    simp only [GV.agg]
    show Calls Tryz.prog 55 #[.int .i64 7, .agg #[.int .i64 kx, .bool bx, .int .i64 nx, .string tx, .slice ax lx.length cx]] w _
    go_enter Tryz.func55, Tryz.ntmps55
    go_upto_region 1 with fail
    obtain ⟨wA, hwA, hb0, h0, h2, hsz⟩ := boxes2 w #[.int .i64 kx, .bool bx, .int .i64 nx, .string tx, .slice ax lx.length cx] #[.int .i64 0, .bool false, .int .i64 0, .string { data := #[] }, .slice none 0 0] 36
    rw [← hwA]
    have HB0 := Lib.hid hb0
    have HZ := Lib.hid h2
    have q0 := fun o => cell_of h0 o
    have s0 : w.heap.size < wA.heap.size := by omega
    have s1 : w.heap.size + 1 < wA.heap.size := by omega
    clear hwA hb0 h0 h2 hsz
    go_wp2_with fail
    refine (rNo_any 4 _).mono ?_
    rintro e w9 ⟨rfl, hb9⟩
    have HB9 := Lib.hid (below_down HB0.out hb9 (Nat.le_refl _))
    have hz9 := (hb9.block (w.heap.size + 1) s1).trans HZ.out
    have s9 : w.heap.size + 1 < w9.heap.size := by have := hb9.size; omega
    have q9 := fun o => cell_of hz9 o
    have f9 := fun o => frozen_of hz9 o
    clear hb9 hz9
    go_wp2_with fail
    refine bodyPost_ret (v := .tuple #[.agg #[.int .i64 0, .bool false, .int .i64 0, .string { data := #[] }, .slice none 0 0], .int .i64 4]) (by simp [results, Tryz.results55, go_sem, q9]) rfl (ref_flat (by rw [HN.out]; rfl) (by rw [HN.out]; rfl) (below_set5 HB9.out (by omega) _ _ _ _ _))
set_option maxHeartbeats 800000 in
theorem one21 (x : GV) (fx : x.fit) (hv : vmay x = true) (sx : Value) (w : World) (B : Nat) (hB : B ≤ w.heap.size) (hx : isL w 0 B sx x.l) : Calls Tryz.prog 55 #[.int .i64 21, x.agg sx] w (RefO w (sizeP x x)) := by
  have z1 := (fit_open fx).2.2.2.2.1
  have z2 := (fit_open fx).2.2.2.2.2.1
  have e3 := fun hk => may_text hv hk
  have e4 := fun hk => may_list hv hk
  obtain ⟨ax, cx, rfl⟩ := isL_form hx
  obtain ⟨P, hP⟩ : ∃ P, P = sizeP x x := ⟨_, rfl⟩
  rw [← hP]
  have HP := Lib.hid hP
  clear hx hP
  obtain ⟨kx, bx, nx, tx, lx⟩ := x
  dsimp only at z1 z2 e3 e4
  clear fx hv
  by_cases hk : kx = 3
  · have HN : Hid (P = numP (tx.size : Int)) := by
      rw [Hid, HP.out, sizeP, if_pos (.inl hk)]
      dsimp only
      rw [e3 hk]
      simp
    subst hk
    clear e3 e4
    simp only [GV.agg]
    show Calls Tryz.prog 55 #[.int .i64 21, .agg #[.int .i64 3, .bool bx, .int .i64 nx, .string tx, .slice ax lx.length cx]] w _
    go_enter Tryz.func55, Tryz.ntmps55
    go_upto_region 1 with fail
    obtain ⟨wA, hwA, hb0, h0, h2, hsz⟩ := boxes2 w #[.int .i64 3, .bool bx, .int .i64 nx, .string tx, .slice ax lx.length cx] #[.int .i64 0, .bool false, .int .i64 0, .string { data := #[] }, .slice none 0 0] 36
    rw [← hwA]
    have HB0 := Lib.hid hb0
    have HZ := Lib.hid h2
    have q0 := fun o => cell_of h0 o
    have s0 : w.heap.size < wA.heap.size := by omega
    have s1 : w.heap.size + 1 < wA.heap.size := by omega
    clear hwA hb0 h0 h2 hsz
    go_wp2_with fail
    refine (rInt_any (tx.size : Int) _).mono ?_
    rintro e w9 ⟨rfl, hb9⟩
    have HB9 := Lib.hid (below_down HB0.out hb9 (Nat.le_refl _))
    have hz9 := (hb9.block (w.heap.size + 1) s1).trans HZ.out
    have s9 : w.heap.size + 1 < w9.heap.size := by have := hb9.size; omega
    have q9 := fun o => cell_of hz9 o
    have f9 := fun o => frozen_of hz9 o
    clear hb9 hz9
    go_wp2_with fail
    refine bodyPost_ret (v := .tuple #[.agg #[.int .i64 2, .bool false, .int .i64 (tx.size : Int), .string { data := #[] }, .slice none 0 0], .int .i64 0]) (by simp [results, Tryz.results55, go_sem, q9]) rfl (ref_flat (by rw [HN.out]; rfl) (by rw [HN.out]; rfl) (below_set5 HB9.out (by omega) _ _ _ _ _))
  by_cases hk2 : kx = 4
  · have HN : Hid (P = numP (lx.length : Int)) := by
      rw [Hid, HP.out, sizeP, if_pos (.inr hk2)]
      dsimp only
      rw [e4 hk2]
      simp
    subst hk2
    clear e3 e4 hk
    simp only [GV.agg]
    show Calls Tryz.prog 55 #[.int .i64 21, .agg #[.int .i64 4, .bool bx, .int .i64 nx, .string tx, .slice ax lx.length cx]] w _
    go_enter Tryz.func55, Tryz.ntmps55
    go_upto_region 1 with fail
    obtain ⟨wA, hwA, hb0, h0, h2, hsz⟩ := boxes2 w #[.int .i64 4, .bool bx, .int .i64 nx, .string tx, .slice ax lx.length cx] #[.int .i64 0, .bool false, .int .i64 0, .string { data := #[] }, .slice none 0 0] 36
    rw [← hwA]
    have HB0 := Lib.hid hb0
    have HZ := Lib.hid h2
    have q0 := fun o => cell_of h0 o
    have s0 : w.heap.size < wA.heap.size := by omega
    have s1 : w.heap.size + 1 < wA.heap.size := by omega
    clear hwA hb0 h0 h2 hsz
    go_wp2_with fail
    refine (rInt_any (lx.length : Int) _).mono ?_
    rintro e w9 ⟨rfl, hb9⟩
    have HB9 := Lib.hid (below_down HB0.out hb9 (Nat.le_refl _))
    have hz9 := (hb9.block (w.heap.size + 1) s1).trans HZ.out
    have s9 : w.heap.size + 1 < w9.heap.size := by have := hb9.size; omega
    have q9 := fun o => cell_of hz9 o
    have f9 := fun o => frozen_of hz9 o
    clear hb9 hz9
    go_wp2_with fail
    refine bodyPost_ret (v := .tuple #[.agg #[.int .i64 2, .bool false, .int .i64 (lx.length : Int), .string { data := #[] }, .slice none 0 0], .int .i64 0]) (by simp [results, Tryz.results55, go_sem, q9]) rfl (ref_flat (by rw [HN.out]; rfl) (by rw [HN.out]; rfl) (below_set5 HB9.out (by omega) _ _ _ _ _))
  · have HN : Hid (P = noP 4) := by rw [Hid, HP.out, sizeP, if_neg (fun h => h.elim hk hk2)]
    have hne : (kx == 3) = false := by simpa using hk
    have hne2 : (kx == 4) = false := by simpa using hk2
    clear hk hk2 e3 e4
    simp only [GV.agg]
    show Calls Tryz.prog 55 #[.int .i64 21, .agg #[.int .i64 kx, .bool bx, .int .i64 nx, .string tx, .slice ax lx.length cx]] w _
    go_enter Tryz.func55, Tryz.ntmps55
    go_upto_region 1 with fail
    obtain ⟨wA, hwA, hb0, h0, h2, hsz⟩ := boxes2 w #[.int .i64 kx, .bool bx, .int .i64 nx, .string tx, .slice ax lx.length cx] #[.int .i64 0, .bool false, .int .i64 0, .string { data := #[] }, .slice none 0 0] 36
    rw [← hwA]
    have HB0 := Lib.hid hb0
    have HZ := Lib.hid h2
    have q0 := fun o => cell_of h0 o
    have s0 : w.heap.size < wA.heap.size := by omega
    have s1 : w.heap.size + 1 < wA.heap.size := by omega
    clear hwA hb0 h0 h2 hsz
    go_wp2_with fail
    refine (rNo_any 4 _).mono ?_
    rintro e w9 ⟨rfl, hb9⟩
    have HB9 := Lib.hid (below_down HB0.out hb9 (Nat.le_refl _))
    have hz9 := (hb9.block (w.heap.size + 1) s1).trans HZ.out
    have s9 : w.heap.size + 1 < w9.heap.size := by have := hb9.size; omega
    have q9 := fun o => cell_of hz9 o
    have f9 := fun o => frozen_of hz9 o
    clear hb9 hz9
    go_wp2_with fail
    refine bodyPost_ret (v := .tuple #[.agg #[.int .i64 0, .bool false, .int .i64 0, .string { data := #[] }, .slice none 0 0], .int .i64 4]) (by simp [results, Tryz.results55, go_sem, q9]) rfl (ref_flat (by rw [HN.out]; rfl) (by rw [HN.out]; rfl) (below_set5 HB9.out (by omega) _ _ _ _ _))
end Go.Proofs.YtljljhjdlicfeaaGreat
namespace Go.Proofs.YtljljhjdlicfeaaGreat
open Go Go.RowKit
set_option maxRecDepth 100000
set_option linter.unusedVariables false
theorem cmp_yes {x y : GV} (h : cmpOk x y = true) (g : Int → Bool) : cmpP g x y = truthP (g (ordV x y)) := if_pos h
theorem cmp_no {x y : GV} (h : cmpOk x y = false) (g : Int → Bool) : cmpP g x y = noP 4 := if_neg (by rw [h]; simp)
theorem ref_flat' {w w' : World} {r : GV × Int} {a : Option Addr} {c : Nat} (hl : r.1.l = []) (hb : Below w.heap.size w w') : RefO w r (.returned (.tuple #[r.1.agg (.slice a r.1.l.length c), .int .i64 r.2])) w' :=
  ⟨_, rfl, by rw [hl]; exact isL_nil _ _, hb⟩
theorem rA_none (op : Int) (ht : takesV op = 0) (l : List GV) (s : Value) (w : World) (B : Nat) (hs : isL w 0 B s l) : Calls Tryz.prog 36 #[.int .i64 op, s] w (RefO w (noP 1)) := by
  obtain ⟨a, c, rfl⟩ := isL_form hs
  have HT := Lib.hid (fun w => takesW_any op w)
  rw [ht] at HT
  clear hs ht
  go_enter Tryz.func36, Tryz.ntmps36
  go_upto_region 1 with fail
  obtain ⟨wA, hwA, hb0, h0, hsz⟩ := zero_box w 36
  rw [← hwA]
  have HB0 := Lib.hid hb0
  have HZ := Lib.hid h0
  have s0 : w.heap.size < wA.heap.size := by omega
  clear hwA hb0 h0 hsz
  go_wp2_with fail
  refine (HT.out _).mono ?_
  rintro e w1 ⟨rfl, hw1⟩
  rw [hw1]
  clear hw1 w1
  go_wp2_with fail
  refine (rNo_any 1 _).mono ?_
  rintro e w9 ⟨rfl, hb9⟩
  have HB9 := Lib.hid (below_down HB0.out hb9 (Nat.le_refl _))
  have hz9 := (hb9.block (w.heap.size) s0).trans HZ.out
  have s9 : w.heap.size < w9.heap.size := by have := hb9.size; omega
  have q9 := fun o => cell_of hz9 o
  have f9 := fun o => frozen_of hz9 o
  clear hb9 hz9
  go_wp2_with fail
  refine bodyPost_ret (v := .tuple #[.agg #[.int .i64 0, .bool false, .int .i64 0, .string { data := #[] }, .slice none 0 0], .int .i64 1]) (by simp [results, Tryz.results36, go_sem, q9]) rfl (ref_flat rfl rfl (below_set5 HB9.out (Nat.le_refl _) _ _ _ _ _))
theorem rA_len (op t : Int) (ht : takesV op = t) (h0 : t ≠ 0) (l : List GV) (hl : (l.length : Int) ≠ t) (s : Value) (w : World) (B : Nat) (hs : isL w 0 B s l) : Calls Tryz.prog 36 #[.int .i64 op, s] w (RefO w (noP 1)) := by
  obtain ⟨a, c, rfl⟩ := isL_form hs
  have HT := Lib.hid (fun w => takesW_any op w)
  rw [ht] at HT
  have e0 : (t == 0) = false := by simpa using h0
  have e1 : ((l.length : Int) != t) = true := by simpa using hl
  have e2 : ((l.length : Int) == t) = false := by simpa using hl
  clear hs ht h0 hl
  go_enter Tryz.func36, Tryz.ntmps36
  go_upto_region 1 with fail
  obtain ⟨wA, hwA, hb0, h0, hsz⟩ := zero_box w 36
  rw [← hwA]
  have HB0 := Lib.hid hb0
  have HZ := Lib.hid h0
  have s0 : w.heap.size < wA.heap.size := by omega
  clear hwA hb0 h0 hsz
  go_wp2_with fail
  refine (HT.out _).mono ?_
  rintro e w1 ⟨rfl, hw1⟩
  rw [hw1]
  clear hw1 w1
  go_wp2_with fail
  refine (HT.out _).mono ?_
  rintro e w1 ⟨rfl, hw1⟩
  rw [hw1]
  clear hw1 w1
  go_wp2_with fail
  refine (rNo_any 1 _).mono ?_
  rintro e w9 ⟨rfl, hb9⟩
  have HB9 := Lib.hid (below_down HB0.out hb9 (Nat.le_refl _))
  have hz9 := (hb9.block (w.heap.size) s0).trans HZ.out
  have s9 : w.heap.size < w9.heap.size := by have := hb9.size; omega
  have q9 := fun o => cell_of hz9 o
  have f9 := fun o => frozen_of hz9 o
  clear hb9 hz9
  go_wp2_with fail
  refine bodyPost_ret (v := .tuple #[.agg #[.int .i64 0, .bool false, .int .i64 0, .string { data := #[] }, .slice none 0 0], .int .i64 1]) (by simp [results, Tryz.results36, go_sem, q9]) rfl (ref_flat rfl rfl (below_set5 HB9.out (Nat.le_refl _) _ _ _ _ _))
set_option maxHeartbeats 800000 in
theorem rA_bad (op : Int) (l : List GV) (hll : l.length ≤ 2147483647) (ht : takesV op = l.length) (h0 : l.length ≠ 0) (fl : fitL l) (hbad : badL l = true) (s : Value) (w : World) (B : Nat) (hB : B ≤ w.heap.size) (hs : isL w 0 B s l) : Calls Tryz.prog 36 #[.int .i64 op, s] w (RefO w (noP 1)) := by
  obtain ⟨a, c, bb, off, rfl, hc, ha, hA⟩ := isL_open hs
  obtain ⟨rfl, hb1, hb2⟩ := ha (by omega)
  have HT := Lib.hid (fun w => takesW_any op w)
  rw [ht] at HT
  have e0 : ((l.length : Int) == 0) = false := by simpa using h0
  have HA := Lib.hid hA
  have HF := Lib.hid fl
  have HBAD := Lib.hid hbad
  clear hs ht hA fl hbad ha
  go_enter Tryz.func36, Tryz.ntmps36
  go_upto_region 1 with fail
  obtain ⟨wA, hwA, hb0, h0, hsz⟩ := zero_box w 36
  rw [← hwA]
  have HB0 := Lib.hid hb0
  have HZ := Lib.hid h0
  have s0 : w.heap.size < wA.heap.size := by omega
  clear hwA hb0 h0 hsz
  go_wp2_with fail
  refine (HT.out _).mono ?_
  rintro e w1 ⟨rfl, hw1⟩
  rw [hw1]
  clear hw1 w1
  go_wp2_with fail
  refine (HT.out _).mono ?_
  rintro e w1 ⟨rfl, hw1⟩
  rw [hw1]
  clear hw1 w1
  go_wp2_with fail
  go_loopw [6] (fun i wr => ∃ k : Nat, k ≤ l.length ∧ i = .int .i64 k ∧ Below wA.heap.size wA wr ∧ Hid (badL (l.drop k) = true)) (fun i _ => l.length - (intOf i).toNat)
  case atStart => exact ⟨0, Nat.zero_le _, rfl, Below.refl _ _, HBAD⟩
  case round =>
    obtain ⟨k, hk, rfl, hbel, hR⟩ := hrel
    have HB := Lib.hid (below_down HB0.out hbel (Nat.le_refl _))
    have HRR := Lib.hid hbel
    have hwr := hbel.size
    have HZR := Lib.hid ((hbel.block w.heap.size s0).trans HZ.out)
    clear hbel
    by_cases hlt : k < l.length
    rotate_left
    · exfalso
      have h := hR.out
      rw [List.drop_of_length_le (by omega)] at h
      simp [badL] at h
    obtain ⟨ax, cx, x0, x1, x2, x3, x4, hsx⟩ := cellsV_slice (HA.out k hlt)
    have hg : ∀ o, wr.cell? ⟨bb, o, none⟩ = w.cell? ⟨bb, o, none⟩ := fun o => HB.out.cell (p := ⟨bb, o, none⟩) (Nat.lt_of_lt_of_le hb2 hB)
    have hz : bb < wr.heap.size := by omega
    have hz0 : w.heap.size < wr.heap.size := by omega
    have Hsx := Lib.hid hsx
    have hR2 : Hid (((!vmay l[k]) || badL (l.drop (k + 1))) = true) := by
      have h := hR.out
      rw [List.drop_eq_getElem_cons hlt] at h
      exact h
    clear hsx hR
    go_wp2_with fail
    refine (rCheck_any l[k] (fitL_mem HF.out _ (List.getElem_mem hlt)) (.slice ax l[k].l.length cx) wr B (Nat.le_trans hB HB.out.size) (isL_below Hsx.out HB.out hB)).mono ?_
    rintro e w2 ⟨rfl, hb3⟩
    have HB2 := Lib.hid (below_down HB.out hb3 (Nat.le_refl _))
    have HR2 := Lib.hid (below_down HRR.out hb3 (Nat.le_refl _))
    have HZ2 := Lib.hid ((hb3.block w.heap.size hz0).trans HZR.out)
    have s2 : w.heap.size < w2.heap.size := by have := hb3.size; omega
    clear hb3 hg x0 x1 x2 x3 x4
    cases hv : vmay l[k]
    · clear hv hR2
      go_wp2_with fail
      refine (rNo_any 1 _).mono ?_
      rintro e w9 ⟨rfl, hb9⟩
      have HB9 := Lib.hid (below_down HB2.out hb9 (Nat.le_refl _))
      have hz9 := (hb9.block (w.heap.size) s2).trans HZ2.out
      have s9 : w.heap.size < w9.heap.size := by have := hb9.size; omega
      have q9 := fun o => cell_of hz9 o
      have f9 := fun o => frozen_of hz9 o
      clear hb9 hz9
      go_wp2_with fail
      refine bodyPost_ret (v := .tuple #[.agg #[.int .i64 0, .bool false, .int .i64 0, .string { data := #[] }, .slice none 0 0], .int .i64 1]) (by simp [results, Tryz.results36, go_sem, q9]) rfl (ref_flat rfl rfl (below_set5 HB9.out (Nat.le_refl _) _ _ _ _ _))
    · have hR3 := hR2.out
      rw [hv] at hR3
      have HR3 : Hid (badL (l.drop (k + 1)) = true) := Lib.hid (by simpa using hR3)
      clear hv hR2 hR3
      go_wp2_with fail
      go_roundw
      case rel => exact ⟨k + 1, by omega, by go_num, HR2.out, HR3⟩
      case measure => simp [intOf]; omega
set_option maxHeartbeats 800000 in
theorem rA_one (op : Int) (ht : takesV op = 1) (g : GV × Int) (hg : g.1.l = []) (x : GV) (fx : x.fit) (hv : vmay x = true) (ho : ∀ (sx : Value) (w : World) (B : Nat), B ≤ w.heap.size → isL w 0 B sx x.l → Calls Tryz.prog 55 #[.int .i64 op, x.agg sx] w (RefO w g))
    (s : Value) (w : World) (B : Nat) (hB : B ≤ w.heap.size) (hs : isL w 0 B s [x]) : Calls Tryz.prog 36 #[.int .i64 op, s] w (RefO w g) := by
  obtain ⟨a, c, bb, off, rfl, hc, ha, hA⟩ := isL_open hs
  obtain ⟨rfl, hb1, hb2⟩ := ha (by simp)
  obtain ⟨ax, cx, x0, x1, x2, x3, x4, hsx⟩ := cellsV_slice (hA 0 (by simp))
  simp only [List.getElem_cons_zero, Nat.zero_mul, Nat.add_zero] at x0 x1 x2 x3 x4 hsx
  have HT := Lib.hid (fun w => takesW_any op w)
  rw [ht] at HT
  have HX0 := Lib.hid (And.intro x0 (And.intro x1 (And.intro x2 (And.intro x3 x4))))
  have HCX : Hid (∀ w', Below w.heap.size w w' → Calls Tryz.prog 35 #[.agg #[.int .i64 x.k, .bool x.b, .int .i64 x.n, .string x.t, .slice ax x.l.length cx]] w' fun e w'' => e = .returned (.bool true) ∧ Below w'.heap.size w' w'') := fun w' h => by
    have h2 := rCheck_any x fx (.slice ax x.l.length cx) w' B (Nat.le_trans hB h.size) (isL_below hsx h hB)
    rw [hv] at h2
    exact h2
  have HOX : Hid (∀ w', Below w.heap.size w w' → Calls Tryz.prog 55 #[.int .i64 op, .agg #[.int .i64 x.k, .bool x.b, .int .i64 x.n, .string x.t, .slice ax x.l.length cx]] w' (RefO w' g)) := fun w' h => ho _ w' B (Nat.le_trans hB h.size) (isL_below hsx h hB)
  have HG := Lib.hid hg
  clear hs ht hA ha x0 x1 x2 x3 x4 hsx fx hv ho hg
  show Calls Tryz.prog 36 #[.int .i64 op, .slice (some ⟨bb, off, none⟩) 1 c] w _
  go_enter Tryz.func36, Tryz.ntmps36
  go_upto_region 1 with fail
  obtain ⟨wA, hwA, hb0, h0, hsz⟩ := zero_box w 36
  rw [← hwA]
  have HB0 := Lib.hid hb0
  have HZ := Lib.hid h0
  have s0 : w.heap.size < wA.heap.size := by omega
  clear hwA hb0 h0 hsz
  go_wp2_with fail
  refine (HT.out _).mono ?_
  rintro e w1 ⟨rfl, hw1⟩
  rw [hw1]
  clear hw1 w1
  go_wp2_with fail
  refine (HT.out _).mono ?_
  rintro e w1 ⟨rfl, hw1⟩
  rw [hw1]
  clear hw1 w1
  go_wp2_with fail
  go_loopw [6] (fun i wr => ∃ k : Nat, k ≤ 1 ∧ i = .int .i64 k ∧ Hid (Below wA.heap.size wA wr)) (fun i _ => 1 - (intOf i).toNat)
  case atStart => exact ⟨0, by omega, rfl, Below.refl _ _⟩
  case round =>
    obtain ⟨k, hk, rfl, HRR⟩ := hrel
    have HB := Lib.hid (below_down HB0.out HRR.out (Nat.le_refl _))
    have hwr := HRR.out.size
    have HZR := Lib.hid ((HRR.out.block w.heap.size s0).trans HZ.out)
    have hg : ∀ o, wr.cell? ⟨bb, o, none⟩ = w.cell? ⟨bb, o, none⟩ := fun o => HB.out.cell (p := ⟨bb, o, none⟩) (Nat.lt_of_lt_of_le hb2 hB)
    have hz : bb < wr.heap.size := by omega
    have hz0 : w.heap.size < wr.heap.size := by omega
    obtain ⟨x0, x1, x2, x3, x4⟩ := HX0.out
    have hk2 : k = 0 ∨ k = 1 := by omega
    rcases hk2 with rfl | rfl
    · go_wp2_with fail
      refine (HCX.out _ HB.out).mono ?_
      rintro e w2 ⟨rfl, hb3⟩
      have HR2 := Lib.hid (below_down HRR.out hb3 (Nat.le_refl _))
      clear hb3 hg x0 x1 x2 x3 x4
      go_wp2_with fail
      go_roundw
      case rel => exact ⟨1, by omega, rfl, HR2⟩
      case measure => simp [intOf]
    · go_wp2_with fail
      refine (HOX.out _ HB.out).mono ?_
      rintro e w9 hgv
      obtain ⟨sr, rfl, hr, hb9⟩ := hgv
      obtain ⟨ar, cr, rfl⟩ := isL_form hr
      have HB9 := Lib.hid (below_down HB.out hb9 (Nat.le_refl _))
      have hz9 := (hb9.block w.heap.size hz0).trans HZR.out
      have s9 : w.heap.size < w9.heap.size := by have := hb9.size; omega
      have q9 := fun o => cell_of hz9 o
      have f9 := fun o => frozen_of hz9 o
      simp only [GV.agg]
      clear hb9 hz9 hr x0 x1 x2 x3 x4 hg
      go_wp2_with fail
      refine bodyPost_ret (v := .tuple #[.agg #[.int .i64 g.1.k, .bool g.1.b, .int .i64 g.1.n, .string g.1.t, .slice ar g.1.l.length cr], .int .i64 g.2]) (by simp [results, Tryz.results36, go_sem, q9]) rfl (ref_flat' HG.out (below_set5 HB9.out (Nat.le_refl _) _ _ _ _ _))
end Go.Proofs.YtljljhjdlicfeaaGreat
