/-
  What the references' Order and Rows tell of two values, of two lists of values. Conditions: lists shorter than 2^31.
-/
import Derived.Test.YtaclkegoaajdgaaGreatDoorMG
namespace Go.Proofs.YtaclkegoaajdgaaGreatDoor
open Go Go.RowKit
set_option maxRecDepth 100000
set_option linter.unusedVariables false
set_option maxHeartbeats 1600000 in
theorem rRows_step (l m : List GV) (hl : l.length ≤ 2147483647) (hm : m.length ≤ 2147483647) (h : ∀ x ∈ l, ∀ y ∈ m, OrdC 56 x y) : RowsC l m := by
  intro s t w B hB hs ht
  obtain ⟨a, c, b, off, rfl, hc, ha, hA⟩ := isL_open hs
  obtain ⟨a', c', b', off', rfl, hc', ha', hA'⟩ := isL_open ht
  have HA := Lib.hid hA
  have HA' := Lib.hid hA'
  have HH := Lib.hid h
  have Ha := Lib.hid ha
  have Ha' := Lib.hid ha'
  clear hA hA' hs ht h ha ha'
  go_enter Tryz.func91, Tryz.ntmps91
  go_wp2_with fail
  go_loopw [5] (fun i wr => ∃ k : Nat, k ≤ l.length ∧ k ≤ m.length ∧ i = .int .i64 k ∧ Below w.heap.size w wr ∧ Hid (ordL l m = ordL (l.drop k) (m.drop k))) (fun i _ => l.length - (intOf i).toNat)
  case atStart => exact ⟨0, Nat.zero_le _, Nat.zero_le _, rfl, Below.refl _ _, rfl⟩
  case round =>
    obtain ⟨k, hk, hkm, rfl, hbel, hR⟩ := hrel
    have HB := Lib.hid hbel
    have hwr := hbel.size
    clear hbel
    by_cases hlt : k < l.length
    rotate_left
    · obtain rfl : k = l.length := by omega
      have hr := hR.out
      rw [ordL_left l m l.length (Nat.le_refl _)] at hr
      have HR := Lib.hid hr
      cases hd : decide (l.length < m.length)
      · have HD := Lib.hid hd
        have hd2 : decide (m.length < l.length) = false := by simp; omega
        clear hr
        go_wp2_with fail
        refine (sign_any false false _).mono ?_
        rintro e w1 ⟨rfl, rfl⟩
        go_wp2_with fail
        go_ret
        exact ⟨ret_int (by rw [HR.out, if_neg (by have := HD.out; simpa using this)]), HB.out⟩
      · have HD := Lib.hid hd
        have hd2 : decide (m.length < l.length) = false := by simp; omega
        clear hr
        go_wp2_with fail
        refine (sign_any true false _).mono ?_
        rintro e w1 ⟨rfl, rfl⟩
        go_wp2_with fail
        go_ret
        exact ⟨ret_int (by rw [HR.out, if_pos (by have := HD.out; simpa using this)]), HB.out⟩
    obtain ⟨rfl, hb1, hb2⟩ := Ha.out (by omega)
    obtain ⟨ax, cx, x0, x1, x2, x3, x4, hsx⟩ := cellsV_slice (HA.out k hlt)
    have hg : ∀ o, wr.cell? ⟨b, o, none⟩ = w.cell? ⟨b, o, none⟩ := fun o => HB.out.cell (p := ⟨b, o, none⟩) (Nat.lt_of_lt_of_le hb2 hB)
    have hz : b < wr.heap.size := by omega
    by_cases hlt' : k < m.length
    rotate_left
    · have hr := hR.out
      rw [ordL_right l m k hlt (by omega)] at hr
      have HR := Lib.hid hr
      have hd : decide (k < m.length) = false := by simp; omega
      have hd1 : decide (l.length < m.length) = false := by simp; omega
      have hd2 : decide (m.length < l.length) = true := by simp; omega
      clear hr
      go_wp2_with fail
      refine (sign_any false true _).mono ?_
      rintro e w1 ⟨rfl, rfl⟩
      go_wp2_with fail
      go_ret
      exact ⟨ret_int HR.out.symm, HB.out⟩
    obtain ⟨rfl, hb1', hb2'⟩ := Ha'.out (by omega)
    obtain ⟨ay, cy, y0, y1, y2, y3, y4, hsy⟩ := cellsV_slice (HA'.out k hlt')
    have hg' : ∀ o, wr.cell? ⟨b', o, none⟩ = w.cell? ⟨b', o, none⟩ := fun o => HB.out.cell (p := ⟨b', o, none⟩) (Nat.lt_of_lt_of_le hb2' hB)
    have hz' : b' < wr.heap.size := by omega
    have Hsx := Lib.hid hsx
    have Hsy := Lib.hid hsy
    have hr := hR.out
    rw [ordL_step l m k hlt hlt'] at hr
    have HR := Lib.hid hr
    clear hsx hsy hr
    go_wp2_with fail
    go_still_tail 8, (by kernel_rfl)
    change wpList _ _ _ _ _ wr.drew
    obtain ⟨w1, hw1⟩ : ∃ w1, w1 = wr.drew := ⟨_, rfl⟩
    have HBD : Hid (Below w.heap.size w w1) := by rw [hw1]; exact HB.out.drew
    rw [← hw1]
    clear hw1 hg hg' x0 x1 x2 x3 x4 y0 y1 y2 y3 y4
    go_wp2_with fail
    refine (HH.out l[k] (List.getElem_mem _) m[k] (List.getElem_mem _) (.slice ax l[k].l.length cx) (.slice ay m[k].l.length cy) _ B (Nat.le_trans hB HBD.out.size) (isL_below Hsx.out HBD.out hB) (isL_below Hsy.out HBD.out hB)).mono ?_
    rintro e w2 ⟨rfl, hb5⟩
    have HB3 := Lib.hid (below_down HBD.out hb5 (Nat.le_refl _))
    clear hb5 Hsx Hsy Ha Ha'
    obtain ⟨V, hV⟩ : ∃ V, V = ordV l[k] m[k] := ⟨_, rfl⟩
    rw [← hV] at HR ⊢
    clear hV
    cases h0 : (V != 0)
    · have H0 := Lib.hid h0
      go_wp2_with fail
      go_roundw
      case rel => exact ⟨k + 1, by omega, by omega, by go_num, HB3.out, by rw [Hid, HR.out, if_neg (by have := H0.out; simpa using this)]⟩
      case measure => simp [intOf]; omega
    · have H0 := Lib.hid h0
      go_wp2_with fail
      go_ret
      exact ⟨ret_int (by rw [HR.out, if_pos (by have := H0.out; simpa using this)]), HB3.out⟩
set_option maxHeartbeats 1600000 in
theorem rOrder_step (x y : GV) (h : RowsC x.l y.l) : OrdC 56 x y := by
  intro sx sy w B hB hx hy
  have HX := Lib.hid hx
  have HY := Lib.hid hy
  have HH := Lib.hid h
  obtain ⟨a, c, rfl⟩ := isL_form hx
  obtain ⟨a', c', rfl⟩ := isL_form hy
  have hO := ordV_eq x y
  have hb0 := below_two (w := w) (.cells #[.int .i64 x.k, .bool x.b, .int .i64 x.n, .string x.t, .slice a x.l.length c] 29) (.cells #[.int .i64 y.k, .bool y.b, .int .i64 y.n, .string y.t, .slice a' y.l.length c'] 29)
  have HB0 := Lib.hid hb0
  clear hx hy h hb0
  simp only [GV.agg]
  by_cases hk : x.k = y.k
  rotate_left
  · have hc0 : cmpI x.k y.k ≠ 0 := fun e => hk (cmpI_zero.1 e)
    rw [if_pos hc0] at hO
    have HR := Lib.hid hO
    have hn : (x.k != y.k) = true := by simpa using hk
    cases hd : decide (x.k < y.k)
    · have HD : Hid (cmpI x.k y.k = 1) := by
        rcases cmpI_cases x.k y.k with ⟨h1, h2⟩ | ⟨h1, h2, h3⟩ | ⟨h1, h2, h3⟩
        · rw [hd] at h1; cases h1
        · exact h3
        · exact absurd h3 hc0
      clear hk hc0 hO
      go_enter Tryz.func56, Tryz.ntmps56
      go_wp2_with fail
      refine (sign_any false true _).mono ?_
      rintro e w1 ⟨rfl, rfl⟩
      go_wp2_with fail
      go_ret
      exact ⟨ret_int (by rw [HR.out, HD.out]), HB0.out⟩
    · have HD : Hid (cmpI x.k y.k = -1) := by
        rcases cmpI_cases x.k y.k with ⟨h1, h2⟩ | ⟨h1, h2, h3⟩ | ⟨h1, h2, h3⟩
        · exact h2
        · rw [hd] at h1; cases h1
        · exact absurd h3 hc0
      clear hk hc0 hO
      go_enter Tryz.func56, Tryz.ntmps56
      go_wp2_with fail
      refine (sign_any true true _).mono ?_
      rintro e w1 ⟨rfl, rfl⟩
      go_wp2_with fail
      go_ret
      exact ⟨ret_int (by rw [HR.out, HD.out]), HB0.out⟩
  have hc0 : cmpI x.k y.k = 0 := cmpI_zero.2 hk
  rw [if_neg (by omega)] at hO
  have hn : (x.k != y.k) = false := by simpa using hk
  clear hc0 hk
  by_cases k0 : x.k = 0
  · rw [if_pos k0] at hO
    have HR := Lib.hid hO
    have e0 : (x.k == 0) = true := by simpa using k0
    clear k0 hO
    go_enter Tryz.func56, Tryz.ntmps56
    go_wp2_with fail
    go_ret
    exact ⟨ret_int HR.out.symm, HB0.out⟩
  rw [if_neg k0] at hO
  have e0 : (x.k == 0) = false := by simpa using k0
  by_cases k1 : x.k = 1
  · rw [if_pos k1] at hO
    have HR := Lib.hid hO
    have e1 : (x.k == 1) = true := by simpa using k1
    clear k0 k1 hO
    obtain ⟨p, hp⟩ : ∃ p, p = x.b := ⟨_, rfl⟩
    obtain ⟨q, hq⟩ : ∃ q, q = y.b := ⟨_, rfl⟩
    rw [← hp, ← hq] at HR HB0 ⊢
    clear hp hq
    cases p <;> cases q
    all_goals
      go_enter Tryz.func56, Tryz.ntmps56
      go_wp2_with fail
      refine (sign_any _ _ _).mono ?_
      rintro e w1 ⟨rfl, rfl⟩
      go_wp2_with fail
      go_ret
      exact ⟨ret_int (by rw [HR.out]; rfl), HB0.out⟩
  rw [if_neg k1] at hO
  have e1 : (x.k == 1) = false := by simpa using k1
  by_cases k2 : x.k = 2 ∨ x.k = 5
  · rw [if_pos k2] at hO
    have e2 : (x.k == 2) = true ∨ ((x.k == 2) = false ∧ (x.k == 5) = true) := by
      rcases k2 with e | e
      · exact .inl (by simpa using e)
      · exact .inr ⟨by simp [e], by simp [e]⟩
    clear k0 k1 k2
    rcases cmpI_cases x.n y.n with ⟨h1, h⟩ | ⟨h1, h2, h⟩ | ⟨h1, h2, h⟩
    · have HR := Lib.hid (hO.trans h)
      have h2 : decide (y.n < x.n) = false := by simp at h1 ⊢; omega
      clear hO h
      rcases e2 with e2 | ⟨e2, e5⟩
      all_goals
        go_enter Tryz.func56, Tryz.ntmps56
        go_wp2_with fail
        refine (sign_any _ _ _).mono ?_
        rintro e w1 ⟨rfl, rfl⟩
        go_wp2_with fail
        go_ret
        exact ⟨ret_int (by rw [HR.out]), HB0.out⟩
    all_goals
      have HR := Lib.hid (hO.trans h)
      clear hO h
      rcases e2 with e2 | ⟨e2, e5⟩
      all_goals
        go_enter Tryz.func56, Tryz.ntmps56
        go_wp2_with fail
        refine (sign_any _ _ _).mono ?_
        rintro e w1 ⟨rfl, rfl⟩
        go_wp2_with fail
        go_ret
        exact ⟨ret_int (by rw [HR.out]), HB0.out⟩
  rw [if_neg k2] at hO
  have e2 : (x.k == 2) = false := by simp; omega
  have e5 : (x.k == 5) = false := by simp; omega
  by_cases k4 : x.k = 4
  · rw [if_pos k4] at hO
    have HR := Lib.hid hO
    have e4 : (x.k == 4) = true := by simpa using k4
    clear k0 k1 k2 k4 hO
    go_enter Tryz.func56, Tryz.ntmps56
    go_wp2_with fail
    refine (HH.out (.slice a x.l.length c) (.slice a' y.l.length c') _ B (Nat.le_trans hB HB0.out.size) (isL_below HX.out HB0.out hB) (isL_below HY.out HB0.out hB)).mono ?_
    rintro e w2 ⟨rfl, hb2⟩
    go_wp2_with fail
    go_ret
    exact ⟨ret_int HR.out.symm, below_down HB0.out hb2 (Nat.le_refl _)⟩
  rw [if_neg k4] at hO
  have e4 : (x.k == 4) = false := by simpa using k4
  clear k0 k1 k2 k4
  rcases cmpT_cases x.t.toList y.t.toList with ⟨h1, h⟩ | ⟨h1, h2, h⟩ | ⟨h1, h2, h⟩
  all_goals
    have HR := Lib.hid (hO.trans h)
    clear hO h
    go_enter Tryz.func56, Tryz.ntmps56
    go_wp2_with fail
    refine (sign_any _ _ _).mono ?_
    rintro e w1 ⟨rfl, rfl⟩
    go_wp2_with fail
    go_ret
    exact ⟨ret_int (by rw [HR.out]), HB0.out⟩
theorem rOrd_all : ∀ (m : Nat), (∀ x y : GV, x.size ≤ m → x.fit → y.fit → OrdC 56 x y) ∧ (∀ l k : List GV, sizeL l ≤ m → l.length ≤ 2147483647 → k.length ≤ 2147483647 → fitL l → fitL k → RowsC l k) := by
  intro m
  induction m with
  | zero =>
    have hS : ∀ x y : GV, x.size ≤ 0 → x.fit → y.fit → OrdC 56 x y := fun x y h => by have := size_l x; omega
    exact ⟨hS, fun l k h1 h2 h3 h4 h5 => rRows_step l k h2 h3 fun x hx y hy => hS x y (Nat.le_trans (sizeL_mem hx) h1) (fitL_mem h4 x hx) (fitL_mem h5 y hy)⟩
  | succ m ih =>
    have hS : ∀ x y : GV, x.size ≤ m + 1 → x.fit → y.fit → OrdC 56 x y := fun x y h fx fy => by
      have := size_l x
      obtain ⟨_, _, _, _, _, a, b⟩ := fit_open fx
      obtain ⟨_, _, _, _, _, c, d⟩ := fit_open fy
      exact rOrder_step x y (ih.2 x.l y.l (by omega) a c b d)
    exact ⟨hS, fun l k h1 h2 h3 h4 h5 => rRows_step l k h2 h3 fun x hx y hy => hS x y (Nat.le_trans (sizeL_mem hx) h1) (fitL_mem h4 x hx) (fitL_mem h5 y hy)⟩
theorem rOrder_any (x y : GV) (fx : x.fit) (fy : y.fit) : OrdC 56 x y := (rOrd_all x.size).1 x y (Nat.le_refl _) fx fy
end Go.Proofs.YtaclkegoaajdgaaGreatDoor
