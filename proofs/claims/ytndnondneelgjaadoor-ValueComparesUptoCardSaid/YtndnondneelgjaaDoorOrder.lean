/-
  What value.Order and the references' Order tell of two values, of two lists of values. Conditions: lists shorter than 2^31.
-/
import Derived.Test.YtndnondneelgjaaDoorCmp
import Derived.Test.YtndnondneelgjaaDoorCopyZ
import Derived.StillTailTactics
namespace Go.Proofs.YtndnondneelgjaaDoor
open Go Go.RowKit
set_option maxRecDepth 100000
set_option linter.unusedVariables false
def OrdC (f : Nat) (x y : GV) : Prop := ∀ (sx sy : Value) (w : World) (B : Nat), B ≤ w.heap.size → isL w 0 B sx x.l → isL w 0 B sy y.l →
  Calls Tryd.prog f #[x.agg sx, y.agg sy] w fun e w' => e = .returned (.int .i64 (ordV x y)) ∧ Below w.heap.size w w'
def CmpFuncC (l m : List GV) : Prop := ∀ (s t : Value) (w : World) (B : Nat), B ≤ w.heap.size → isL w 0 B s l → isL w 0 B t m →
  Calls Tryd.prog 37 #[s, t, .func (.func 17) #[] #[]] w fun e w' => e = .returned (.int .i64 (ordL l m)) ∧ Below w.heap.size w w'
def RowsC (l m : List GV) : Prop := ∀ (s t : Value) (w : World) (B : Nat), B ≤ w.heap.size → isL w 0 B s l → isL w 0 B t m →
  Calls Tryd.prog 40 #[s, t] w fun e w' => e = .returned (.int .i64 (ordL l m)) ∧ Below w.heap.size w w'
theorem ordL_step (l m : List GV) (k : Nat) (h : k < l.length) (h' : k < m.length) : ordL (l.drop k) (m.drop k) = if ordV l[k] m[k] ≠ 0 then ordV l[k] m[k] else ordL (l.drop (k + 1)) (m.drop (k + 1)) := by
  rw [List.drop_eq_getElem_cons h, List.drop_eq_getElem_cons h']
  simp only [ordL]
theorem ordL_left (l m : List GV) (k : Nat) (h : l.length ≤ k) : ordL (l.drop k) (m.drop k) = if k < m.length then -1 else 0 := by
  rw [List.drop_of_length_le h]
  by_cases h' : k < m.length
  · rw [if_pos h', List.drop_eq_getElem_cons h']; simp only [ordL]
  · rw [if_neg h', List.drop_of_length_le (by omega)]; simp only [ordL]
theorem ordL_right (l m : List GV) (k : Nat) (h : k < l.length) (h' : m.length ≤ k) : ordL (l.drop k) (m.drop k) = 1 := by
  rw [List.drop_of_length_le h', List.drop_eq_getElem_cons h]; simp only [ordL]
theorem below_two {w : World} (o1 o2 : Obj) : Below w.heap.size w ((w.alloc o1).alloc o2) := ((Below.refl _ _).alloc (Nat.le_refl _) _).alloc (by simp) _
set_option maxHeartbeats 1600000 in
theorem vCmpFunc_step (l m : List GV) (hl : l.length ≤ 2147483647) (hm : m.length ≤ 2147483647) (h : ∀ x ∈ l, ∀ y ∈ m, OrdC 17 x y) : CmpFuncC l m := by
  intro s t w B hB hs ht
  obtain ⟨a, c, b, off, rfl, hc, ha, hA⟩ := isL_open hs
  obtain ⟨a', c', b', off', rfl, hc', ha', hA'⟩ := isL_open ht
  have HA := Lib.hid hA
  have HA' := Lib.hid hA'
  have HH := Lib.hid h
  have Ha := Lib.hid ha
  have Ha' := Lib.hid ha'
  clear hA hA' hs ht h ha ha'
  go_enter Tryd.func37, Tryd.ntmps37
  go_wp2_with fail
  go_loopw [13] (fun i wr => ∃ k : Nat, k ≤ l.length ∧ k ≤ m.length ∧ i = .int .i64 k ∧ Below w.heap.size w wr ∧ Hid (ordL l m = ordL (l.drop k) (m.drop k))) (fun i _ => l.length - (intOf i).toNat)
  case atStart => exact ⟨0, Nat.zero_le _, Nat.zero_le _, rfl, Below.refl _ _, rfl⟩
  case round =>
    obtain ⟨k, hk, hkm, rfl, hbel, hR⟩ := hrel
    have HB := Lib.hid hbel
    have hwr := hbel.size
    clear hbel
    by_cases hlt : k < l.length
    rotate_left
    · obtain rfl : k = l.length := by omega
      have hr := hR.out
      rw [ordL_left l m l.length (Nat.le_refl _)] at hr
      have HR := Lib.hid hr
      cases hd : decide (l.length < m.length)
      · have HD := Lib.hid hd
        clear hr
        go_wp2_with fail
        go_ret
        exact ⟨ret_int (by rw [HR.out, if_neg (by have := HD.out; simpa using this)]), HB.out⟩
      · have HD := Lib.hid hd
        clear hr
        go_wp2_with fail
        go_ret
        exact ⟨ret_int (by rw [HR.out, if_pos (by have := HD.out; simpa using this)]), HB.out⟩
    obtain ⟨rfl, hb1, hb2⟩ := Ha.out (by omega)
    obtain ⟨ax, cx, x0, x1, x2, x3, x4, hsx⟩ := cellsV_slice (HA.out k hlt)
    have hg : ∀ o, wr.cell? ⟨b, o, none⟩ = w.cell? ⟨b, o, none⟩ := fun o => HB.out.cell (p := ⟨b, o, none⟩) (Nat.lt_of_lt_of_le hb2 hB)
    have hz : b < wr.heap.size := by omega
    by_cases hlt' : k < m.length
    rotate_left
    · have hr := hR.out
      rw [ordL_right l m k hlt (by omega)] at hr
      have HR := Lib.hid hr
      have hd : decide (m.length ≤ k) = true := by simp; omega
      clear hr
      go_wp2_with fail
      go_ret
      exact ⟨ret_int HR.out.symm, HB.out.alloc hwr _⟩
    obtain ⟨rfl, hb1', hb2'⟩ := Ha'.out (by omega)
    obtain ⟨ay, cy, y0, y1, y2, y3, y4, hsy⟩ := cellsV_slice (HA'.out k hlt')
    have hg' : ∀ o, wr.cell? ⟨b', o, none⟩ = w.cell? ⟨b', o, none⟩ := fun o => HB.out.cell (p := ⟨b', o, none⟩) (Nat.lt_of_lt_of_le hb2' hB)
    have hz' : b' < wr.heap.size := by omega
    have hd : decide (m.length ≤ k) = false := by simp; omega
    have Hsx := Lib.hid hsx
    have Hsy := Lib.hid hsy
    have hr := hR.out
    rw [ordL_step l m k hlt hlt'] at hr
    have HR := Lib.hid hr
    clear hsx hsy hr
    go_wp2_with fail
    have hb4 := (HB.out.alloc hwr (.cells #[.int .i64 l[k].k, .bool l[k].b, .int .i64 l[k].n, .string l[k].t, .slice ax l[k].l.length cx] 28)).alloc (by simp; omega) (.cells #[.int .i64 m[k].k, .bool m[k].b, .int .i64 m[k].n, .string m[k].t, .slice ay m[k].l.length cy] 28)
    refine (HH.out l[k] (List.getElem_mem _) m[k] (List.getElem_mem _) _ _ _ B (Nat.le_trans hB hb4.size) (isL_below Hsx.out hb4 hB) (isL_below Hsy.out hb4 hB)).mono ?_
    rintro e w2 ⟨rfl, hb5⟩
    have HB3 := Lib.hid (below_down hb4 hb5 (Nat.le_refl _))
    clear hb4 hb5 hg hg' x0 x1 x2 x3 x4 y0 y1 y2 y3 y4 Hsx Hsy Ha Ha'
    obtain ⟨V, hV⟩ : ∃ V, V = ordV l[k] m[k] := ⟨_, rfl⟩
    rw [← hV] at HR ⊢
    clear hV
    cases h0 : (V != 0)
    · have H0 := Lib.hid h0
      go_wp2_with fail
      go_roundw
      case rel => exact ⟨k + 1, by omega, by omega, by go_num, HB3.out, by rw [Hid, HR.out, if_neg (by have := H0.out; simpa using this)]⟩
      case measure => simp [intOf]; omega
    · have H0 := Lib.hid h0
      go_wp2_with fail
      go_ret
      exact ⟨ret_int (by rw [HR.out, if_pos (by have := H0.out; simpa using this)]), HB3.out⟩
set_option maxHeartbeats 1600000 in
theorem vOrder_step (x y : GV) (h : CmpFuncC x.l y.l) : OrdC 17 x y := by
  intro sx sy w B hB hx hy
  have HX := Lib.hid hx
  have HY := Lib.hid hy
  have HH := Lib.hid h
  obtain ⟨a, c, rfl⟩ := isL_form hx
  obtain ⟨a', c', rfl⟩ := isL_form hy
  have HO := Lib.hid (ordV_eq x y)
  clear hx hy h
  simp only [GV.agg]
  go_enter Tryd.func17, Tryd.ntmps17
  go_wp2_with fail
  refine (compareI_any x.k y.k _).mono ?_
  rintro e w1 ⟨rfl, rfl⟩
  obtain ⟨C, hC⟩ : ∃ C, C = cmpI x.k y.k := ⟨_, rfl⟩
  have hCk : C = 0 → x.k = y.k := fun h => cmpI_zero.1 (hC ▸ h)
  rw [← hC] at HO ⊢
  have HCK := Lib.hid hCk
  clear hC hCk
  have hb0 := below_two (w := w) (.cells #[.int .i64 x.k, .bool x.b, .int .i64 x.n, .string x.t, .slice a x.l.length c] 28) (.cells #[.int .i64 y.k, .bool y.b, .int .i64 y.n, .string y.t, .slice a' y.l.length c'] 28)
  have HB0 := Lib.hid hb0
  cases h0 : (C != 0)
  rotate_left
  · have H0 := Lib.hid h0
    clear hb0
    go_wp2_with fail
    go_ret
    exact ⟨ret_int (by rw [HO.out, if_pos (by have := H0.out; simpa using this)]), HB0.out⟩
  have hC0 : C = 0 := by simpa using h0
  have hO := HO.out
  rw [if_neg (by omega)] at hO
  clear hC0 hb0 HO
  by_cases k0 : x.k = 0
  · rw [if_pos k0] at hO
    have HR := Lib.hid hO
    have e0 : (x.k == 0) = true := by simpa using k0
    clear k0 hO
    go_wp2_with fail
    go_ret
    exact ⟨ret_int HR.out.symm, HB0.out⟩
  rw [if_neg k0] at hO
  have e0 : (x.k == 0) = false := by simpa using k0
  by_cases k1 : x.k = 1
  · rw [if_pos k1] at hO
    have HR := Lib.hid hO
    have e1 : (x.k == 1) = true := by simpa using k1
    clear k0 k1 hO
    obtain ⟨wA, hwA⟩ : ∃ wA, wA = (w.alloc (.cells #[.int .i64 x.k, .bool x.b, .int .i64 x.n, .string x.t, .slice a x.l.length c] 28)).alloc (.cells #[.int .i64 y.k, .bool y.b, .int .i64 y.n, .string y.t, .slice a' y.l.length c'] 28) := ⟨_, rfl⟩
    have hxA : wA.heap[w.heap.size]? = some (.cells #[.int .i64 x.k, .bool x.b, .int .i64 x.n, .string x.t, .slice a x.l.length c] 28 (0, 0)) := by rw [hwA]; exact heap_two
    have hyA : wA.heap[w.heap.size + 1]? = some (.cells #[.int .i64 y.k, .bool y.b, .int .i64 y.n, .string y.t, .slice a' y.l.length c'] 28 (0, 0)) := by rw [hwA]; exact heap_second
    have hzA : wA.heap.size = w.heap.size + 2 := by rw [hwA]; simp
    rw [← hwA] at HB0 ⊢
    clear hwA
    have qx := fun o => cell_of hxA o
    have qy := fun o => cell_of hyA o
    have ga := cell_grow (Below.refl wA.heap.size wA) (Nat.le_refl _) (show w.heap.size < wA.heap.size by omega)
    have gb := cell_grow (Below.refl wA.heap.size wA) (Nat.le_refl _) (show w.heap.size + 1 < wA.heap.size by omega)
    have HC1 : Hid (∀ d os, Calls Tryd.prog 35 #[.bool x.b] (Go.Sort.grow (redrawn wA d) os) fun e w' => e = .returned (.int .i64 (bitI x.b)) ∧ Below (Go.Sort.grow (redrawn wA d) os).heap.size (Go.Sort.grow (redrawn wA d) os) w') := fun d os => (bit_any x.b _).mono (by rintro e w' ⟨rfl, rfl⟩; exact ⟨rfl, Below.refl _ _⟩)
    have HC2 : Hid (∀ d os, Calls Tryd.prog 35 #[.bool y.b] (Go.Sort.grow (redrawn wA d) os) fun e w' => e = .returned (.int .i64 (bitI y.b)) ∧ Below (Go.Sort.grow (redrawn wA d) os).heap.size (Go.Sort.grow (redrawn wA d) os) w') := fun d os => (bit_any y.b _).mono (by rintro e w' ⟨rfl, rfl⟩; exact ⟨rfl, Below.refl _ _⟩)
    clear hxA hyA
    go_wp2_with fail
    refine wp_region_quiet_below (by kernel_rfl) (by kernel_rfl) ?_
    repeat (quiet_step (fail))
    quiet_step (exact Calls.regrown_of (HC1.out _ _))
    repeat (quiet_step (fail))
    quiet_step (exact Calls.regrown_of (HC2.out _ _))
    repeat (quiet_step (fail))
    refine wpQuiet_nil ?_
    intro w6 hw6
    have hb6 : Below wA.heap.size wA w6 := by
      obtain ⟨p, hp⟩ := hw6
      rw [hp]
      exact below_grow (Below.refl wA.heap.size wA) (Nat.le_refl _) _ _
    have HB6 := Lib.hid (below_down HB0.out hb6 (Nat.le_refl _))
    clear hw6 hb6 ga gb qx qy
    go_wp2_with fail
    go_ret
    refine ⟨ret_int ?_, HB6.out⟩
    rw [HR.out]
    cases x.b <;> cases y.b <;> decide
  rw [if_neg k1] at hO
  have e1 : (x.k == 1) = false := by simpa using k1
  by_cases k2 : x.k = 2 ∨ x.k = 5
  · rw [if_pos k2] at hO
    have HR := Lib.hid hO
    have e2 : (x.k == 2) = true ∨ ((x.k == 2) = false ∧ (x.k == 5) = true) := by
      rcases k2 with e | e
      · exact .inl (by simpa using e)
      · exact .inr ⟨by simp [e], by simp [e]⟩
    clear k0 k1 k2 hO
    rcases e2 with e2 | ⟨e2, e5⟩
    all_goals
      go_wp2_with fail
      refine (compare64_any x.n y.n _).mono ?_
      rintro e w1 ⟨rfl, rfl⟩
      go_wp2_with fail
      go_ret
      exact ⟨ret_int HR.out.symm, HB0.out⟩
  rw [if_neg k2] at hO
  have e2 : (x.k == 2) = false := by simp; omega
  have e5 : (x.k == 5) = false := by simp; omega
  by_cases k4 : x.k = 4
  · rw [if_pos k4] at hO
    have HR := Lib.hid hO
    have e4 : (x.k == 4) = true := by simpa using k4
    clear k0 k1 k2 k4 hO
    go_wp2_with fail
    refine (HH.out (.slice a x.l.length c) (.slice a' y.l.length c') _ B (Nat.le_trans hB HB0.out.size) (isL_below HX.out HB0.out hB) (isL_below HY.out HB0.out hB)).mono ?_
    rintro e w2 ⟨rfl, hb2⟩
    go_wp2_with fail
    go_ret
    exact ⟨ret_int HR.out.symm, below_down HB0.out hb2 (Nat.le_refl _)⟩
  rw [if_neg k4] at hO
  have HR := Lib.hid hO
  have e4 : (x.k == 4) = false := by simpa using k4
  clear k0 k1 k2 k4 hO
  go_wp2_with fail
  refine (compareT_any x.t y.t _).mono ?_
  rintro e w1 ⟨rfl, rfl⟩
  go_wp2_with fail
  go_ret
  exact ⟨ret_int HR.out.symm, HB0.out⟩

theorem vOrd_all : ∀ (m : Nat), (∀ x y : GV, x.size ≤ m → x.fit → y.fit → OrdC 17 x y) ∧ (∀ l k : List GV, sizeL l ≤ m → l.length ≤ 2147483647 → k.length ≤ 2147483647 → fitL l → fitL k → CmpFuncC l k) := by
  intro m
  induction m with
  | zero =>
    have hS : ∀ x y : GV, x.size ≤ 0 → x.fit → y.fit → OrdC 17 x y := fun x y h => by have := size_l x; omega
    exact ⟨hS, fun l k h1 h2 h3 h4 h5 => vCmpFunc_step l k h2 h3 fun x hx y hy => hS x y (Nat.le_trans (sizeL_mem hx) h1) (fitL_mem h4 x hx) (fitL_mem h5 y hy)⟩
  | succ m ih =>
    have hS : ∀ x y : GV, x.size ≤ m + 1 → x.fit → y.fit → OrdC 17 x y := fun x y h fx fy => by
      have := size_l x
      obtain ⟨_, _, _, _, _, a, b⟩ := fit_open fx
      obtain ⟨_, _, _, _, _, c, d⟩ := fit_open fy
      exact vOrder_step x y (ih.2 x.l y.l (by omega) a c b d)
    exact ⟨hS, fun l k h1 h2 h3 h4 h5 => vCmpFunc_step l k h2 h3 fun x hx y hy => hS x y (Nat.le_trans (sizeL_mem hx) h1) (fitL_mem h4 x hx) (fitL_mem h5 y hy)⟩
theorem vOrder_any (x y : GV) (fx : x.fit) (fy : y.fit) : OrdC 17 x y := (vOrd_all x.size).1 x y (Nat.le_refl _) fx fy
end Go.Proofs.YtndnondneelgjaaDoor
