/-
  ValueCompares returns true, whatever values it is handed. Conditions: lists and texts shorter than 2^31, values of bulk at most 2^40; the table of the tests lies.
-/
import Derived.Test.YtndnondneelgjaaDoorVOrder
import Derived.Test.YtndnondneelgjaaDoorApplyC
import Derived.Test.YtndnondneelgjaaDoorTwo
namespace Go.Proofs.YtndnondneelgjaaDoor
open Go Go.RowKit
set_option maxRecDepth 100000
set_option linter.unusedVariables false
theorem cmp_yes {x y : GV} (h : cmpOk x y = true) (g : Int → Bool) : cmpP g x y = truthP (g (ordV x y)) := if_pos h
theorem cmp_no {x y : GV} (h : cmpOk x y = false) (g : Int → Bool) : cmpP g x y = noP 4 := if_neg (by rw [h]; simp)
attribute [local go_sem ↓] Go.wp_at_zero Go.wp_at_succ
set_option maxHeartbeats 8000000 in
theorem vcompares_any (l : List GV) (fl : fitL l) (hbk : bulkL l ≤ 1099511627776) (hll : l.length ≤ 2147483647) (s : Value) (w : World) (B : Nat) (hB : B ≤ w.heap.size) (ht : tabOk w) (hs : isL w 0 B s l) :
    Calls Tryd.prog 6 #[.agg #[s]] w fun e w' => e = .returned (.bool true) ∧ Below w.heap.size w w' := by
  obtain ⟨a, c, bb, off, rfl, hc, ha, hA⟩ := isL_open hs
  have HS := Lib.hid hs
  have HFL := Lib.hid fl
  have HBK := Lib.hid hbk
  have HT := Lib.hid ht
  have HA := Lib.hid hA
  have Ha := Lib.hid ha
  have hb0 := (Below.refl w.heap.size w).alloc (Nat.le_refl _) (.cells #[.slice a l.length c] 24)
  have HLT := Lib.hid (light_any l hbk (.slice a l.length c) _ B (Nat.le_trans hB hb0.size) (isL_below hs hb0 hB))
  have HB0 := Lib.hid hb0
  clear fl ht hs hA ha hbk hb0
  have hfin : Hid (∀ w2, Below w.heap.size w w2 → Calls Tryd.prog 9 #[] w2 fun e w' => e = .returned (.bool true) ∧ Below w2.heap.size w2 w') := fun w2 h2 => wakesV_any w2 (tabOk_below HT.out h2)
  go_enter Tryd.func6, Tryd.ntmps6
  go_wp2_with fail
  refine HLT.out.mono ?_
  rintro e w1 ⟨rfl, hb1⟩
  have HB1 := Lib.hid (below_down HB0.out hb1 (Nat.le_refl _))
  have HX1 := Lib.hid ((hb1.block w.heap.size (by simp)).trans (heap_last (w := w)))
  have hs1 : w.heap.size + 1 ≤ w1.heap.size := by have := hb1.size; simpa using this
  clear hb1
  cases hd0 : decide (vsize l ≤ 9000)
  · go_wp2_with fail
    refine (hfin.out _ HB1.out).mono ?_
    rintro e w2 ⟨rfl, hb2⟩
    go_wp2_with fail
    go_ret
    exact ⟨rfl, below_down HB1.out hb2 (Nat.le_refl _)⟩
  go_wp2_with fail
  clear hd0
  go_loopw [3] (fun i wr => ∃ k : Nat, 1 ≤ k ∧ k ≤ 20 ∧ i = .int .i64 k ∧ Below w.heap.size w wr ∧ w.heap.size + 1 ≤ wr.heap.size ∧ Hid (wr.heap[w.heap.size]? = some (.cells #[.slice a l.length c] 24 (0, 0)))) (fun i _ => 20 - (intOf i).toNat)
  case atStart => exact ⟨1, Nat.le_refl _, by omega, rfl, HB1.out, hs1, HX1⟩
  case round =>
    obtain ⟨k, hk, hk6, rfl, hbel, hsz, hbox⟩ := hrel
    have q1 := fun o => cell_of hbox.out o
    by_cases hlt : k < l.length
    rotate_left
    · have hd : decide ((k : Int) < (l.length : Int)) = false := by simp; omega
      have hd2 : decide (k < l.length) = false := by simp; omega
      go_wp2_with fail
      refine (hfin.out _ hbel).mono ?_
      rintro e w1 ⟨rfl, hb1⟩
      go_wp2_with fail
      go_ret
      exact ⟨rfl, below_down hbel hb1 (Nat.le_refl _)⟩
    by_cases h6 : k < 20
    rotate_left
    · obtain rfl : k = 20 := by omega
      go_wp2_with fail
      refine (hfin.out _ hbel).mono ?_
      rintro e w1 ⟨rfl, hb1⟩
      go_wp2_with fail
      go_ret
      exact ⟨rfl, below_down hbel hb1 (Nat.le_refl _)⟩
    obtain ⟨rfl, hb2, hb2'⟩ := Ha.out (by omega)
    obtain ⟨j, hj⟩ : ∃ j, j = k - 1 := ⟨_, rfl⟩
    have hj0 : j < l.length := by omega
    obtain ⟨ax, cx, x0, x1, x2, x3, x4, hsx⟩ := cellsV_slice (HA.out j hj0)
    obtain ⟨ay, cy, y0, y1, y2, y3, y4, hsy⟩ := cellsV_slice (HA.out k hlt)
    have HF0 := Lib.hid (fitL_mem HFL.out _ (List.getElem_mem hj0))
    have HF1 := Lib.hid (fitL_mem HFL.out _ (List.getElem_mem hlt))
    obtain ⟨x, hx⟩ : ∃ x, x = l[j] := ⟨_, rfl⟩
    obtain ⟨y, hy⟩ : ∃ y, y = l[k] := ⟨_, rfl⟩
    rw [← hx] at x0 x1 x2 x3 x4 hsx HF0
    rw [← hy] at y0 y1 y2 y3 y4 hsy HF1
    have HB := Lib.hid hbel
    have hgr : ∀ o, wr.cell? ⟨bb, o, none⟩ = w.cell? ⟨bb, o, none⟩ := fun o => HB.out.cell (p := ⟨bb, o, none⟩) (Nat.lt_of_lt_of_le hb2' hB)
    have hzb : bb < wr.heap.size := by omega
    have Hsx := Lib.hid hsx
    have Hsy := Lib.hid hsy
    have hlj : (l.length : Int) ≤ 2147483647 := by omega
    have i3 : (k : Int) - 1 = (j : Int) := by omega
    have i4 : IntKind.i64.wrap (j : Int) = (j : Int) := IntWalk.i64_in _ (by omega)
    have j0 : (0 : Int) ≤ (j : Int) := by omega
    have j1 : (j : Int) < (l.length : Int) := by omega
    have l0 : w.heap.size < wr.heap.size := by omega
    have HJ := Lib.hid hj
    clear hsx hsy hbel Ha hx hy hj hlj
    have qq := q1
    have SH : Hid (∀ w' : World, Below wr.heap.size wr w' → (w'.cell? ⟨w.heap.size, 0, none⟩ = some (.slice (some ⟨bb, off, none⟩) l.length c) ∧ w'.cell? ⟨bb, off + j * 5, none⟩ = some (.int .i64 x.k) ∧ w'.cell? ⟨bb, off + j * 5 + 1, none⟩ = some (.bool x.b) ∧ w'.cell? ⟨bb, off + j * 5 + 2, none⟩ = some (.int .i64 x.n) ∧ w'.cell? ⟨bb, off + j * 5 + 3, none⟩ = some (.string x.t) ∧ w'.cell? ⟨bb, off + j * 5 + 4, none⟩ = some (.slice ax x.l.length cx) ∧ w'.cell? ⟨bb, off + k * 5, none⟩ = some (.int .i64 y.k) ∧ w'.cell? ⟨bb, off + k * 5 + 1, none⟩ = some (.bool y.b) ∧ w'.cell? ⟨bb, off + k * 5 + 2, none⟩ = some (.int .i64 y.n) ∧ w'.cell? ⟨bb, off + k * 5 + 3, none⟩ = some (.string y.t) ∧ w'.cell? ⟨bb, off + k * 5 + 4, none⟩ = some (.slice ay y.l.length cy))) := fun w' hb => ⟨(hb.cell (p := ⟨w.heap.size, 0, none⟩) l0).trans ((qq 0).trans rfl), (hb.cell (p := ⟨bb, off + j * 5, none⟩) hzb).trans ((hgr _).trans x0), (hb.cell (p := ⟨bb, off + j * 5 + 1, none⟩) hzb).trans ((hgr _).trans x1), (hb.cell (p := ⟨bb, off + j * 5 + 2, none⟩) hzb).trans ((hgr _).trans x2), (hb.cell (p := ⟨bb, off + j * 5 + 3, none⟩) hzb).trans ((hgr _).trans x3), (hb.cell (p := ⟨bb, off + j * 5 + 4, none⟩) hzb).trans ((hgr _).trans x4), (hb.cell (p := ⟨bb, off + k * 5, none⟩) hzb).trans ((hgr _).trans y0), (hb.cell (p := ⟨bb, off + k * 5 + 1, none⟩) hzb).trans ((hgr _).trans y1), (hb.cell (p := ⟨bb, off + k * 5 + 2, none⟩) hzb).trans ((hgr _).trans y2), (hb.cell (p := ⟨bb, off + k * 5 + 3, none⟩) hzb).trans ((hgr _).trans y3), (hb.cell (p := ⟨bb, off + k * 5 + 4, none⟩) hzb).trans ((hgr _).trans y4)⟩
    clear q1 qq hgr x0 x1 x2 x3 x4 y0 y1 y2 y3 y4
    have s0 := SH.out wr (Below.refl _ _)
    obtain ⟨t0, x0, x1, x2, x3, x4, y0, y1, y2, y3, y4⟩ := s0
    go_upto_region 6 with fail
    go_cut [4] (fun s4 wx => ∃ g : Nat, s4 = .slice (some ⟨g, 0, none⟩) 2 2 ∧ Below wr.heap.size wr wx ∧ wr.heap.size ≤ g ∧ g < wx.heap.size ∧ Hid (wx.heap[g]? = some (.cells (twoC x y ax ay cx cy) 28 (0, 0))))
    case first =>
      go_region_held3 (fun w' => w'.cell? ⟨w.heap.size, 0, none⟩ = some (.slice (some ⟨bb, off, none⟩) l.length c) ∧ w'.cell? ⟨bb, off + j * 5, none⟩ = some (.int .i64 x.k) ∧ w'.cell? ⟨bb, off + j * 5 + 1, none⟩ = some (.bool x.b) ∧ w'.cell? ⟨bb, off + j * 5 + 2, none⟩ = some (.int .i64 x.n) ∧ w'.cell? ⟨bb, off + j * 5 + 3, none⟩ = some (.string x.t) ∧ w'.cell? ⟨bb, off + j * 5 + 4, none⟩ = some (.slice ax x.l.length cx) ∧ w'.cell? ⟨bb, off + k * 5, none⟩ = some (.int .i64 y.k) ∧ w'.cell? ⟨bb, off + k * 5 + 1, none⟩ = some (.bool y.b) ∧ w'.cell? ⟨bb, off + k * 5 + 2, none⟩ = some (.int .i64 y.n) ∧ w'.cell? ⟨bb, off + k * 5 + 3, none⟩ = some (.string y.t) ∧ w'.cell? ⟨bb, off + k * 5 + 4, none⟩ = some (.slice ay y.l.length cy))
        (first
          | (with_reducible refine SH.out _ ?_
             repeat (with_reducible first | exact Below.refl _ _ | refine Below.alloc ?_ (Nat.le_refl _) _ | refine Below.drew ?_)))
        (fail)
      all_goals
        go_wp2_with fail
        go_meet
        exact ⟨_, rfl, ((Below.refl _ _).alloc (Nat.le_refl _) _).drew, Nat.le_refl _, alloc_drew_lt, heap_last⟩
    case rest =>
      obtain ⟨g, rfl, hbc, hg0, hg, htw⟩ := hcut
      have HWX := Lib.hid hbc
      have HWC := Lib.hid (below_down HB.out hbc (Nat.le_refl _))
      have HXC := Lib.hid ((hbc.block w.heap.size l0).trans hbox.out)
      have hwc := hbc.size
      clear hbc SH t0 x0 x1 x2 x3 x4 y0 y1 y2 y3 y4 i3 i4 j0 j1 HXC
      have hltg : w.heap.size + 1 ≤ g := by omega
      have HL2 := Lib.hid (isL_two (B := B) (by omega) htw.out (isL_below Hsx.out HWC.out hB) (isL_below Hsy.out HWC.out hB))
      have hgs : g + 1 ≤ wc.heap.size := hg
      have f2 : fitL [x, y] := ⟨HF0.out, HF1.out, trivial⟩
      have HF2 := Lib.hid f2
      clear f2
      go_wp2_with fail
      refine (apply_eq [x, y] (by simp) HF2.out (.slice (some ⟨g, 0, none⟩) 2 2) wc (g + 1) hgs HL2.out).mono ?_
      rintro e u1 hgv
      obtain ⟨k1, n1, e1, b1, t1, a1, m1, c1, rfl, EB1, EE1, HU1⟩ := gives_let hgv
      clear hgv
      have HV1 := Lib.hid (below_box (HU1.out) (.cells #[.int .i64 k1, .bool b1, .int .i64 n1, .string t1, .slice a1 m1 c1] 28))
      have HD1 := Lib.hid (below_box HU1.out (.cells #[.int .i64 k1, .bool b1, .int .i64 n1, .string t1, .slice a1 m1 c1] 28))
      have HI1 : Hid (bitB (u1.alloc (.cells #[.int .i64 k1, .bool b1, .int .i64 n1, .string t1, .slice a1 m1 c1] 28)) u1.heap.size b1) := bitB_alloc
      go_wp2_with fail
      obtain ⟨v1, hv1⟩ : ∃ v, v = u1.alloc (.cells #[.int .i64 k1, .bool b1, .int .i64 n1, .string t1, .slice a1 m1 c1] 28) := ⟨_, rfl⟩
      rw [← hv1] at HV1 HD1 HI1 ⊢
      obtain ⟨p1, hp1⟩ : ∃ p, p = u1.heap.size := ⟨_, rfl⟩
      rw [← hp1] at HI1 ⊢
      clear hv1 hp1 HU1
      refine (apply_ne [x, y] (by simp) HF2.out (.slice (some ⟨g, 0, none⟩) 2 2) v1 (g + 1) (Nat.le_trans hgs HV1.out.size) (isL_below HL2.out HV1.out hgs)).mono ?_
      rintro e u2 hgv
      obtain ⟨k2, n2, e2, b2, t2, a2, m2, c2, rfl, EB2, EE2, HU2⟩ := gives_let hgv
      clear hgv
      have HV2 := Lib.hid (below_box (below_down HV1.out HU2.out (Nat.le_refl _)) (.cells #[.int .i64 k2, .bool b2, .int .i64 n2, .string t2, .slice a2 m2 c2] 28))
      have HD2 := Lib.hid (below_box HU2.out (.cells #[.int .i64 k2, .bool b2, .int .i64 n2, .string t2, .slice a2 m2 c2] 28))
      have HI2 : Hid (bitB (u2.alloc (.cells #[.int .i64 k2, .bool b2, .int .i64 n2, .string t2, .slice a2 m2 c2] 28)) u2.heap.size b2) := bitB_alloc
      go_wp2_with fail
      obtain ⟨v2, hv2⟩ : ∃ v, v = u2.alloc (.cells #[.int .i64 k2, .bool b2, .int .i64 n2, .string t2, .slice a2 m2 c2] 28) := ⟨_, rfl⟩
      rw [← hv2] at HV2 HD2 HI2 ⊢
      obtain ⟨p2, hp2⟩ : ∃ p, p = u2.heap.size := ⟨_, rfl⟩
      rw [← hp2] at HI2 ⊢
      clear hv2 hp2 HU2
      refine (apply_lt [x, y] (by simp) HF2.out (.slice (some ⟨g, 0, none⟩) 2 2) v2 (g + 1) (Nat.le_trans hgs HV2.out.size) (isL_below HL2.out HV2.out hgs)).mono ?_
      rintro e u3 hgv
      obtain ⟨k3, n3, e3, b3, t3, a3, m3, c3, rfl, EB3, EE3, HU3⟩ := gives_let hgv
      clear hgv
      have HV3 := Lib.hid (below_box (below_down HV2.out HU3.out (Nat.le_refl _)) (.cells #[.int .i64 k3, .bool b3, .int .i64 n3, .string t3, .slice a3 m3 c3] 28))
      have HD3 := Lib.hid (below_box HU3.out (.cells #[.int .i64 k3, .bool b3, .int .i64 n3, .string t3, .slice a3 m3 c3] 28))
      have HI3 : Hid (bitB (u3.alloc (.cells #[.int .i64 k3, .bool b3, .int .i64 n3, .string t3, .slice a3 m3 c3] 28)) u3.heap.size b3) := bitB_alloc
      go_wp2_with fail
      obtain ⟨v3, hv3⟩ : ∃ v, v = u3.alloc (.cells #[.int .i64 k3, .bool b3, .int .i64 n3, .string t3, .slice a3 m3 c3] 28) := ⟨_, rfl⟩
      rw [← hv3] at HV3 HD3 HI3 ⊢
      obtain ⟨p3, hp3⟩ : ∃ p, p = u3.heap.size := ⟨_, rfl⟩
      rw [← hp3] at HI3 ⊢
      clear hv3 hp3 HU3
      refine (apply_ge [x, y] (by simp) HF2.out (.slice (some ⟨g, 0, none⟩) 2 2) v3 (g + 1) (Nat.le_trans hgs HV3.out.size) (isL_below HL2.out HV3.out hgs)).mono ?_
      rintro e u4 hgv
      obtain ⟨k4, n4, e4, b4, t4, a4, m4, c4, rfl, EB4, EE4, HU4⟩ := gives_let hgv
      clear hgv
      have HV4 := Lib.hid (below_box (below_down HV3.out HU4.out (Nat.le_refl _)) (.cells #[.int .i64 k4, .bool b4, .int .i64 n4, .string t4, .slice a4 m4 c4] 28))
      have HD4 := Lib.hid (below_box HU4.out (.cells #[.int .i64 k4, .bool b4, .int .i64 n4, .string t4, .slice a4 m4 c4] 28))
      have HI4 : Hid (bitB (u4.alloc (.cells #[.int .i64 k4, .bool b4, .int .i64 n4, .string t4, .slice a4 m4 c4] 28)) u4.heap.size b4) := bitB_alloc
      go_wp2_with fail
      obtain ⟨v4, hv4⟩ : ∃ v, v = u4.alloc (.cells #[.int .i64 k4, .bool b4, .int .i64 n4, .string t4, .slice a4 m4 c4] 28) := ⟨_, rfl⟩
      rw [← hv4] at HV4 HD4 HI4 ⊢
      obtain ⟨p4, hp4⟩ : ∃ p, p = u4.heap.size := ⟨_, rfl⟩
      rw [← hp4] at HI4 ⊢
      clear hv4 hp4 HU4
      refine (apply_gt [x, y] (by simp) HF2.out (.slice (some ⟨g, 0, none⟩) 2 2) v4 (g + 1) (Nat.le_trans hgs HV4.out.size) (isL_below HL2.out HV4.out hgs)).mono ?_
      rintro e u5 hgv
      obtain ⟨k5, n5, e5, b5, t5, a5, m5, c5, rfl, EB5, EE5, HU5⟩ := gives_let hgv
      clear hgv
      have HV5 := Lib.hid (below_box (below_down HV4.out HU5.out (Nat.le_refl _)) (.cells #[.int .i64 k5, .bool b5, .int .i64 n5, .string t5, .slice a5 m5 c5] 28))
      have HD5 := Lib.hid (below_box HU5.out (.cells #[.int .i64 k5, .bool b5, .int .i64 n5, .string t5, .slice a5 m5 c5] 28))
      have HI5 : Hid (bitB (u5.alloc (.cells #[.int .i64 k5, .bool b5, .int .i64 n5, .string t5, .slice a5 m5 c5] 28)) u5.heap.size b5) := bitB_alloc
      go_wp2_with fail
      obtain ⟨v5, hv5⟩ : ∃ v, v = u5.alloc (.cells #[.int .i64 k5, .bool b5, .int .i64 n5, .string t5, .slice a5 m5 c5] 28) := ⟨_, rfl⟩
      rw [← hv5] at HV5 HD5 HI5 ⊢
      obtain ⟨p5, hp5⟩ : ∃ p, p = u5.heap.size := ⟨_, rfl⟩
      rw [← hp5] at HI5 ⊢
      clear hv5 hp5 HU5
      refine (apply_le [x, y] (by simp) HF2.out (.slice (some ⟨g, 0, none⟩) 2 2) v5 (g + 1) (Nat.le_trans hgs HV5.out.size) (isL_below HL2.out HV5.out hgs)).mono ?_
      rintro e u6 hgv
      obtain ⟨k6, n6, e6, b6, t6, a6, m6, c6, rfl, EB6, EE6, HU6⟩ := gives_let hgv
      clear hgv
      have HV6 := Lib.hid (below_box (below_down HV5.out HU6.out (Nat.le_refl _)) (.cells #[.int .i64 k6, .bool b6, .int .i64 n6, .string t6, .slice a6 m6 c6] 28))
      have HD6 := Lib.hid (below_box HU6.out (.cells #[.int .i64 k6, .bool b6, .int .i64 n6, .string t6, .slice a6 m6 c6] 28))
      have HI6 : Hid (bitB (u6.alloc (.cells #[.int .i64 k6, .bool b6, .int .i64 n6, .string t6, .slice a6 m6 c6] 28)) u6.heap.size b6) := bitB_alloc
      have hu6 := HU6.out.size
      have hv5 := HV5.out.size
      have q2 : ∀ o, u6.cell? ⟨g, o, none⟩ = (twoC x y ax ay cx cy)[o]? := fun o => ((below_down HV5.out HU6.out (Nat.le_refl _)).cell (p := ⟨g, o, none⟩) hg).trans (cell_of htw.out o)
      have hgu : g < u6.heap.size := by omega
      have hgu2 : g ≠ u6.heap.size := by omega
      unfold twoC at q2
      go_wp2_with fail
      obtain ⟨v6, hv6⟩ : ∃ v, v = u6.alloc (.cells #[.int .i64 k6, .bool b6, .int .i64 n6, .string t6, .slice a6 m6 c6] 28) := ⟨_, rfl⟩
      rw [← hv6] at HV6 HD6 HI6 ⊢
      obtain ⟨p6, hp6⟩ : ∃ p, p = u6.heap.size := ⟨_, rfl⟩
      rw [← hp6] at HI6 ⊢
      clear hv6 hp6 q2 hgu hgu2 HU6 hu6 hv5
      have HI5 := Lib.hid (bitB_below HI5.out HD6.out)
      have HI4 := Lib.hid (bitB_below (bitB_below HI4.out HD5.out) HD6.out)
      have HI3 := Lib.hid (bitB_below (bitB_below (bitB_below HI3.out HD4.out) HD5.out) HD6.out)
      have HI2 := Lib.hid (bitB_below (bitB_below (bitB_below (bitB_below HI2.out HD3.out) HD4.out) HD5.out) HD6.out)
      have HI1 := Lib.hid (bitB_below (bitB_below (bitB_below (bitB_below (bitB_below HI1.out HD2.out) HD3.out) HD4.out) HD5.out) HD6.out)
      clear HD1 HD2 HD3 HD4 HD5 HD6 HV1 HV2 HV3 HV4 HV5
      have HX6 := Lib.hid ((HV6.out.block w.heap.size (by omega)).trans ((HWX.out.block w.heap.size l0).trans hbox.out))
      have HW6 := Lib.hid (below_down HWC.out HV6.out (Nat.le_refl _))
      have hv6 := HV6.out.size
      have hcase : Hid ((vmay x = false ∧ e1 = 1 ∧ e2 = 1 ∧ e3 = 1 ∧ e4 = 1) ∨ (vmay x = true ∧ ((vmay y = false ∧ e1 = 1 ∧ e2 = 1 ∧ e3 = 1 ∧ e4 = 1) ∨ (vmay y = true ∧ (e1 = 0 ∧ e2 = 0 ∧ b1 = same x y ∧ b2 = (!same x y)) ∧ ((e3 = 4 ∧ e4 = 4 ∧ e5 = 4 ∧ e6 = 4) ∨ (e3 = 0 ∧ e4 = 0 ∧ e5 = 0 ∧ e6 = 0 ∧ b3 = decide (ordV x y < 0) ∧ b4 = decide (0 ≤ ordV x y) ∧ b5 = decide (0 < ordV x y) ∧ b6 = decide (ordV x y ≤ 0))))))) := by
        rw [Hid]
        cases h1 : vmay x
        · have hn : (!vmay x || !vmay y) = true := by rw [h1]; rfl
          left
          exact ⟨rfl, by rw [EE1.out, app2_no hn]; rfl, by rw [EE2.out, app2_no hn]; rfl, by rw [EE3.out, app2_no hn]; rfl, by rw [EE4.out, app2_no hn]; rfl⟩
        right
        refine ⟨rfl, ?_⟩
        cases h2 : vmay y
        · have hn : (!vmay x || !vmay y) = true := by rw [h2, h1]; rfl
          left
          exact ⟨rfl, by rw [EE1.out, app2_no hn]; rfl, by rw [EE2.out, app2_no hn]; rfl, by rw [EE3.out, app2_no hn]; rfl, by rw [EE4.out, app2_no hn]; rfl⟩
        right
        refine ⟨rfl, ⟨by rw [EE1.out, app2 h1 h2]; rfl, by rw [EE2.out, app2 h1 h2]; rfl, by rw [EB1.out, app2 h1 h2]; rfl, by rw [EB2.out, app2 h1 h2]; rfl⟩, ?_⟩
        cases h3 : cmpOk x y
        · left
          exact ⟨by rw [EE3.out, app2 h1 h2, ltP, cmp_no h3]; rfl, by rw [EE4.out, app2 h1 h2, geP, cmp_no h3]; rfl, by rw [EE5.out, app2 h1 h2, gtP, cmp_no h3]; rfl, by rw [EE6.out, app2 h1 h2, leP, cmp_no h3]; rfl⟩
        right
        exact ⟨by rw [EE3.out, app2 h1 h2, ltP, cmp_yes h3]; rfl, by rw [EE4.out, app2 h1 h2, geP, cmp_yes h3]; rfl, by rw [EE5.out, app2 h1 h2, gtP, cmp_yes h3]; rfl, by rw [EE6.out, app2 h1 h2, leP, cmp_yes h3]; rfl, by rw [EB3.out, app2 h1 h2, ltP, cmp_yes h3]; rfl, by rw [EB4.out, app2 h1 h2, geP, cmp_yes h3]; rfl, by rw [EB5.out, app2 h1 h2, gtP, cmp_yes h3]; rfl, by rw [EB6.out, app2 h1 h2, leP, cmp_yes h3]; rfl⟩
      clear EE1 EE2 EE3 EE4 EE5 EE6 EB1 EB2 EB3 EB4 EB5 EB6 HL2 HF2
      refine (vCheck_any x HF0.out (.slice ax x.l.length cx) v6 B (Nat.le_trans hB HW6.out.size) (isL_below Hsx.out HW6.out hB)).mono ?_
      rintro e w7 ⟨rfl, hb7⟩
      have HW7 := Lib.hid (below_down HW6.out hb7 (Nat.le_refl _))
      have HX7 := Lib.hid ((hb7.block w.heap.size (by omega)).trans HX6.out)
      have hsz7 := hb7.size
      have HK7 := Lib.hid (below_down HV6.out hb7 (Nat.le_refl _))
      have HJ1 := Lib.hid (bitB_below HI1.out hb7)
      have HJ2 := Lib.hid (bitB_below HI2.out hb7)
      have HJ3 := Lib.hid (bitB_below HI3.out hb7)
      have HJ4 := Lib.hid (bitB_below HI4.out hb7)
      have HJ5 := Lib.hid (bitB_below HI5.out hb7)
      have HJ6 := Lib.hid (bitB_below HI6.out hb7)
      clear hb7 HI1 HI2 HI3 HI4 HI5 HI6 HX6
      have q7 : ∀ o, w7.cell? ⟨g, o, none⟩ = (twoC x y ax ay cx cy)[o]? := fun o => (HK7.out.cell (p := ⟨g, o, none⟩) hg).trans (cell_of htw.out o)
      unfold twoC at q7
      have hg7 : g < w7.heap.size := by omega
      rcases hcase.out with h | ⟨hva, h⟩
      · obtain ⟨hva, rfl, rfl, rfl, rfl⟩ := h
        rw [hva]
        clear hcase hva
        go_wp2_with fail
        go_roundw
        case rel => exact ⟨k + 1, by omega, by omega, by go_num, HW7.out, by omega, HX7⟩
        case measure => simp [intOf]; omega
      rw [hva]
      clear hcase
      have HH := Lib.hid h
      have HVX := Lib.hid hva
      clear h hva
      obtain ⟨VY, hVY⟩ : ∃ V, V = vmay y := ⟨_, rfl⟩
      have HVY := Lib.hid hVY
      clear hVY
      go_wp2_with fail
      refine (vCheck_any y HF1.out (.slice ay y.l.length cy) w7 B (Nat.le_trans hB HW7.out.size) (isL_below Hsy.out HW7.out hB)).mono ?_
      rintro e w8 ⟨rfl, hb8⟩
      rw [← HVY.out]
      have HW8 := Lib.hid (below_down HW7.out hb8 (Nat.le_refl _))
      have HX8 := Lib.hid ((hb8.block w.heap.size (by omega)).trans HX7.out)
      have hsz8 := hb8.size
      have HK8 := Lib.hid (below_down HK7.out hb8 (Nat.le_refl _))
      have HI1 := Lib.hid (bitB_below HJ1.out hb8)
      have HI2 := Lib.hid (bitB_below HJ2.out hb8)
      have HI3 := Lib.hid (bitB_below HJ3.out hb8)
      have HI4 := Lib.hid (bitB_below HJ4.out hb8)
      have HI5 := Lib.hid (bitB_below HJ5.out hb8)
      have HI6 := Lib.hid (bitB_below HJ6.out hb8)
      clear hb8 q7 hg7 HJ1 HJ2 HJ3 HJ4 HJ5 HJ6 HX7 HW7 HK7
      rcases HH.out with h | h
      · obtain ⟨hvb, rfl, rfl, rfl, rfl⟩ := h
        rw [← HVY.out] at hvb
        subst hvb
        clear HH
        go_wp2_with fail
        go_roundw
        case rel => exact ⟨k + 1, by omega, by omega, by go_num, HW8.out, by omega, HX8⟩
        case measure => simp [intOf]; omega
      obtain ⟨hvb, ⟨rfl, rfl, hb1', hb2'⟩, h⟩ := h
      have hzero := ord_zero x y HVX.out hvb
      rw [← HVY.out] at hvb
      subst hvb
      clear HH
      have h4 : e3 = e4 := by rcases h with h | h <;> omega
      have h5 : e3 = e5 := by rcases h with h | h <;> omega
      have h6' : e3 = e6 := by rcases h with h | h <;> omega
      have hEE : (e3 = 4 ∨ (e3 = 0 ∧ b3 = decide (ordV x y < 0) ∧ b4 = decide (0 ≤ ordV x y) ∧ b5 = decide (0 < ordV x y) ∧ b6 = decide (ordV x y ≤ 0))) := by
        rcases h with h | h
        · exact .inl h.1
        · exact .inr ⟨h.1, h.2.2.2.2⟩
      clear h
      subst h4
      subst h5
      subst h6'
      have HEE := Lib.hid hEE
      clear hEE
      have HQ8 : Hid (∀ w' : World, Below w8.heap.size w8 w' → ∀ o, w'.cell? ⟨g, o, none⟩ = (#[.int .i64 x.k, .bool x.b, .int .i64 x.n, .string x.t, .slice ax x.l.length cx, .int .i64 y.k, .bool y.b, .int .i64 y.n, .string y.t, .slice ay y.l.length cy] : Array Value)[o]?) := fun w' h o => ((below_down HK8.out h (Nat.le_refl _)).cell (p := ⟨g, o, none⟩) hg).trans (cell_of htw.out o)
      have hg8 : g < w8.heap.size := by omega
      have HBG : Hid (∀ d os, Below w.heap.size w (Go.Sort.grow (redrawn w8 d) os)) := fun d os => below_grow HW8.out (Nat.le_refl _) d os
      have HC1 : Hid (∀ d os, Calls Tryd.prog 15 #[x.agg (.slice ax x.l.length cx), y.agg (.slice ay y.l.length cy)] (Go.Sort.grow (redrawn w8 d) os) fun e w' => e = .returned (.bool (same x y)) ∧ Below (Go.Sort.grow (redrawn w8 d) os).heap.size (Go.Sort.grow (redrawn w8 d) os) w') := fun d os =>
        vSame_any x y HF0.out HF1.out (.slice ax x.l.length cx) (.slice ay y.l.length cy) _ B (Nat.le_trans hB (HBG.out d os).size) (isL_below Hsx.out (HBG.out d os) hB) (isL_below Hsy.out (HBG.out d os) hB)
      simp only [GV.agg] at HC1
      have HHZ := Lib.hid hzero
      obtain ⟨D, hD⟩ : ∃ D, D = same x y := ⟨_, rfl⟩
      rw [← hD] at hb1' hb2' HC1 HHZ
      subst hb1'
      subst hb2'
      have q8 := HQ8.out w8 (Below.refl _ _)
      obtain ⟨l1, r1⟩ := HI1.out
      obtain ⟨l2, r2⟩ := HI2.out
      have gq := cell_grow (Below.refl w8.heap.size w8) (Nat.le_refl _) hg8
      have g1 := cell_grow (Below.refl w8.heap.size w8) (Nat.le_refl _) l1
      have g2 := cell_grow (Below.refl w8.heap.size w8) (Nat.le_refl _) l2
      have d1 : (b1 == !b1) = false := by cases b1 <;> rfl
      have d2 : (b1 != b1) = false := by cases b1 <;> rfl
      have d3 : (e3 != e3) = false := by simp
      clear hD hzero HBG HK8
      go_wp2_with fail
      refine wp_region_quiet_below (by kernel_rfl) (by kernel_rfl) ?_
      repeat (quiet_step (fail))
      quiet_step (exact Calls.regrown_of (HC1.out _ _))
      repeat (quiet_step (fail))
      refine wpQuiet_nil ?_
      intro w9 hw9
      have hb9 : Below w8.heap.size w8 w9 := by
        obtain ⟨q, hq⟩ := hw9
        rw [hq]
        exact below_grow (Below.refl _ _) (Nat.le_refl _) _ _
      have HW9 := Lib.hid (below_down HW8.out hb9 (Nat.le_refl _))
      have HX9 := Lib.hid ((hb9.block w.heap.size (by omega)).trans HX8.out)
      have hsz9 := hb9.size
      clear hw9 q8 l1 r1 l2 r2 gq g1 g2
      clear d1 d2 d3
      rcases HEE.out with rfl | ⟨rfl, hb3', hb4', hb5', hb6'⟩
      · clear HEE
        go_wp2_with fail
        go_roundw
        case rel => exact ⟨k + 1, by omega, by omega, by go_num, HW9.out, by omega, HX9⟩
        case measure => simp [intOf]; omega
      clear HEE
      have HC2 : Hid (∀ d os, Calls Tryd.prog 17 #[x.agg (.slice ax x.l.length cx), y.agg (.slice ay y.l.length cy)] (Go.Sort.grow (redrawn w9 d) os) fun e w' => e = .returned (.int .i64 (ordV x y)) ∧ Below (Go.Sort.grow (redrawn w9 d) os).heap.size (Go.Sort.grow (redrawn w9 d) os) w') := fun d os =>
        vOrder_any x y HF0.out HF1.out (.slice ax x.l.length cx) (.slice ay y.l.length cy) _ B (Nat.le_trans hB (below_grow HW9.out (Nat.le_refl _) d os).size) (isL_below Hsx.out (below_grow HW9.out (Nat.le_refl _) d os) hB) (isL_below Hsy.out (below_grow HW9.out (Nat.le_refl _) d os) hB)
      simp only [GV.agg] at HC2
      obtain ⟨C, hC⟩ : ∃ C, C = ordV x y := ⟨_, rfl⟩
      have hz := HHZ.out
      rw [← hC] at hb3' hb4' hb5' hb6' HC2 hz
      have hbd := ordV_bound x y
      rw [← hC] at hbd
      have hC3 : C = -1 ∨ C = 0 ∨ C = 1 := by omega
      have HBS := Lib.hid (And.intro hb3' (And.intro hb4' (And.intro hb5' (And.intro hb6' (And.intro hz hC3)))))
      clear hC HHZ hbd hb3' hb4' hb5' hb6' hz hC3
      have q9 := HQ8.out w9 hb9
      have hg9 : g < w9.heap.size := by omega
      have gq := cell_grow (Below.refl w9.heap.size w9) (Nat.le_refl _) hg9
      go_wp2_with fail
      refine wp_region_quiet_below (by kernel_rfl) (by kernel_rfl) ?_
      repeat (quiet_step (fail))
      quiet_step (exact Calls.regrown_of (HC2.out _ _))
      repeat (quiet_step (fail))
      refine wpQuiet_nil ?_
      intro w10 hw10
      have hb10 : Below w9.heap.size w9 w10 := by
        obtain ⟨q, hq⟩ := hw10
        rw [hq]
        exact below_grow (Below.refl _ _) (Nat.le_refl _) _ _
      have HW10 := Lib.hid (below_down HW9.out hb10 (Nat.le_refl _))
      have HX10 := Lib.hid ((hb10.block w.heap.size (by omega)).trans HX9.out)
      have hsz10 := hb10.size
      obtain ⟨l1, r1⟩ := bitB_below (bitB_below HI1.out hb9) hb10
      obtain ⟨l3, r3⟩ := bitB_below (bitB_below HI3.out hb9) hb10
      obtain ⟨l4, r4⟩ := bitB_below (bitB_below HI4.out hb9) hb10
      obtain ⟨l5, r5⟩ := bitB_below (bitB_below HI5.out hb9) hb10
      obtain ⟨l6, r6⟩ := bitB_below (bitB_below HI6.out hb9) hb10
      clear hw10 hb10 q9 gq
      obtain ⟨hb3', hb4', hb5', hb6', hz, hC3⟩ := HBS.out
      clear HBS
      rcases hC3 with rfl | rfl | rfl
      all_goals
        simp only [Int.reduceLT, Int.reduceLE, Int.reduceNeg, Int.reduceEq, decide_true, decide_false] at hb3' hb4' hb5' hb6' hz
        subst hb3'
        subst hb4'
        subst hb5'
        subst hb6'
        subst hz
        go_wp2_with fail
        go_roundw
        case rel => exact ⟨k + 1, by omega, by omega, by go_num, HW10.out, by omega, HX10⟩
        case measure => simp [intOf]; omega
end Go.Proofs.YtndnondneelgjaaDoor
