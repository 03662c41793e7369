/-
  ValueOrder returns true, whatever values it is handed. Conditions: lists and texts shorter than 2^31, values of bulk at most 2^40; the table of the tests lies.
-/
import Derived.Test.YtndnondneelgjaaDoorVExact
import Derived.Test.YtndnondneelgjaaDoorOrdSame
import Derived.Deep.RegionHeld3
import Derived.Deep.DeepCutAuto
import Derived.Deep.CutBlock
import Derived.Deep.CutRange
namespace Go.Proofs.YtndnondneelgjaaDoor
open Go Go.RowKit
set_option maxRecDepth 100000
set_option linter.unusedVariables false
/-- block b holds the value x, whose list lies at a -/
def atB (w : World) (b : Nat) (x : GV) (a : Option Addr) (c : Nat) : Prop := w.cell? ⟨b, 0, none⟩ = some (.int .i64 x.k) ∧ w.cell? ⟨b, 1, none⟩ = some (.bool x.b) ∧ w.cell? ⟨b, 2, none⟩ = some (.int .i64 x.n) ∧ w.cell? ⟨b, 3, none⟩ = some (.string x.t) ∧ w.cell? ⟨b, 4, none⟩ = some (.slice a x.l.length c)
theorem atB_below {w w' : World} {b : Nat} {x : GV} {a : Option Addr} {c : Nat} (h : atB w b x a c) (hb : Below w.heap.size w w') (hlt : b < w.heap.size) : atB w' b x a c := by
  have k : ∀ o, w'.cell? ⟨b, o, none⟩ = w.cell? ⟨b, o, none⟩ := fun o => hb.cell (p := ⟨b, o, none⟩) hlt
  exact ⟨(k _).trans h.1, (k _).trans h.2.1, (k _).trans h.2.2.1, (k _).trans h.2.2.2.1, (k _).trans h.2.2.2.2⟩
theorem atB_mk {w : World} {b : Nat} {x : GV} {a : Option Addr} {c : Nat} {T : TypeId} (h : w.heap[b]? = some (.cells #[.int .i64 x.k, .bool x.b, .int .i64 x.n, .string x.t, .slice a x.l.length c] T (0, 0))) : atB w b x a c := by
  have q := fun o => cell_of h o
  exact ⟨(q 0).trans rfl, (q 1).trans rfl, (q 2).trans rfl, (q 3).trans rfl, (q 4).trans rfl⟩
theorem third_at {w : World} {o1 o2 o3 : Obj} : (((w.alloc o1).alloc o2).alloc o3).drew.heap[w.heap.size + 1 + 1]? = some o3 := by
  have := @heap_last ((w.alloc o1).alloc o2) o3
  rwa [show ((w.alloc o1).alloc o2).heap.size = w.heap.size + 1 + 1 from by simp] at this
theorem first_at {w : World} {o1 o2 o3 : Obj} : (((w.alloc o1).alloc o2).alloc o3).drew.heap[w.heap.size]? = some o1 := heap_three
theorem second_at {w : World} {o1 o2 o3 : Obj} : (((w.alloc o1).alloc o2).alloc o3).drew.heap[w.heap.size + 1]? = some o2 := heap_three2
theorem below_three {w : World} {o1 o2 o3 : Obj} : Below w.heap.size w (((w.alloc o1).alloc o2).alloc o3).drew := ((((Below.refl _ _).alloc (Nat.le_refl _) _).alloc (by simp) _).alloc (by simp; omega) _).drew
theorem three_size {w : World} {o1 o2 o3 : Obj} {n : Nat} (h : n < w.heap.size + 3) : n < (((w.alloc o1).alloc o2).alloc o3).drew.heap.size := by
  show n < (((w.alloc o1).alloc o2).alloc o3).heap.size
  simpa using h
attribute [local go_sem ↓] Go.wp_at_zero Go.wp_at_succ
set_option maxHeartbeats 1600000 in
theorem vorder_any (l : List GV) (fl : fitL l) (hbk : bulkL l ≤ 1099511627776) (hll : l.length ≤ 2147483647) (s : Value) (w : World) (B : Nat) (hB : B ≤ w.heap.size) (ht : tabOk w) (hs : isL w 0 B s l) :
    Calls Tryd.prog 4 #[.agg #[s]] w fun e w' => e = .returned (.bool true) ∧ Below w.heap.size w w' := by
  obtain ⟨a, c, bb, off, rfl, hc, ha, hA⟩ := isL_open hs
  have HS := Lib.hid hs
  have HFL := Lib.hid fl
  have HBK := Lib.hid hbk
  have HT := Lib.hid ht
  have HA := Lib.hid hA
  have Ha := Lib.hid ha
  have hb0 := (Below.refl w.heap.size w).alloc (Nat.le_refl _) (.cells #[.slice a l.length c] 24)
  have HLT := Lib.hid (light_any l hbk (.slice a l.length c) _ B (Nat.le_trans hB hb0.size) (isL_below hs hb0 hB))
  have HB0 := Lib.hid hb0
  clear fl ht hs hA ha hbk hb0
  have hfin : Hid (∀ w2, Below w.heap.size w w2 → Calls Tryd.prog 9 #[] w2 fun e w' => e = .returned (.bool true) ∧ Below w2.heap.size w2 w') := fun w2 h2 => wakesV_any w2 (tabOk_below HT.out h2)
  go_enter Tryd.func4, Tryd.ntmps4
  go_wp2_with fail
  refine HLT.out.mono ?_
  rintro e w1 ⟨rfl, hb1⟩
  have HB1 := Lib.hid (below_down HB0.out hb1 (Nat.le_refl _))
  have HX1 := Lib.hid ((hb1.block w.heap.size (by simp)).trans (heap_last (w := w)))
  have hs1 : w.heap.size + 1 ≤ w1.heap.size := by have := hb1.size; simpa using this
  clear hb1
  cases hd0 : decide (vsize l ≤ 9000)
  · go_wp2_with fail
    refine (hfin.out _ HB1.out).mono ?_
    rintro e w2 ⟨rfl, hb2⟩
    go_wp2_with fail
    go_ret
    exact ⟨rfl, below_down HB1.out hb2 (Nat.le_refl _)⟩
  go_wp2_with fail
  clear hd0
  go_loopw [3] (fun i wr => ∃ k : Nat, k ≤ l.length ∧ k ≤ 20 ∧ i = .int .i64 k ∧ Below w.heap.size w wr ∧ w.heap.size + 1 ≤ wr.heap.size ∧ Hid (wr.heap[w.heap.size]? = some (.cells #[.slice a l.length c] 24 (0, 0)))) (fun i _ => 20 - (intOf i).toNat)
  case atStart => exact ⟨0, Nat.zero_le _, by omega, rfl, HB1.out, hs1, HX1⟩
  case round =>
    obtain ⟨k, hk, hk6, rfl, hbel, hsz, hbox⟩ := hrel
    have q1 := fun o => cell_of hbox.out o
    by_cases hlt : k + 2 < l.length
    rotate_left
    · have hd : decide ((k : Int) + 2 < (l.length : Int)) = false := by simp; omega
      have hd2 : decide (k + 2 < l.length) = false := by simp; omega
      go_wp2_with fail
      refine (hfin.out _ hbel).mono ?_
      rintro e w1 ⟨rfl, hb1⟩
      go_wp2_with fail
      go_ret
      exact ⟨rfl, below_down hbel hb1 (Nat.le_refl _)⟩
    by_cases h6 : k < 20
    rotate_left
    · obtain rfl : k = 20 := by omega
      go_wp2_with fail
      refine (hfin.out _ hbel).mono ?_
      rintro e w1 ⟨rfl, hb1⟩
      go_wp2_with fail
      go_ret
      exact ⟨rfl, below_down hbel hb1 (Nat.le_refl _)⟩
    obtain ⟨rfl, hb2, hb2'⟩ := Ha.out (by omega)
    obtain ⟨ax, cx, x0, x1, x2, x3, x4, hsx⟩ := cellsV_slice (HA.out k (by omega))
    obtain ⟨ay, cy, y0, y1, y2, y3, y4, hsy⟩ := cellsV_slice (HA.out (k + 1) (by omega))
    obtain ⟨az, cz, z0, z1, z2, z3, z4, hsz⟩ := cellsV_slice (HA.out (k + 2) (by omega))
    have HB := Lib.hid hbel
    have hgr : ∀ o, wr.cell? ⟨bb, o, none⟩ = w.cell? ⟨bb, o, none⟩ := fun o => HB.out.cell (p := ⟨bb, o, none⟩) (Nat.lt_of_lt_of_le hb2' hB)
    have hzb : bb < wr.heap.size := by omega
    have Hsx := Lib.hid hsx
    have Hsy := Lib.hid hsy
    have Hsz := Lib.hid hsz
    have hd2 : decide (k + 2 < l.length) = true := by simp; omega
    have hk1 : k + 1 < l.length := by omega
    have i1 : IntKind.i64.wrap ((k : Int) + 1) = (k : Int) + 1 := IntWalk.i64_in _ (by omega)
    have i2 : IntKind.i64.wrap ((k : Int) + 2) = (k : Int) + 2 := IntWalk.i64_in _ (by omega)
    clear hsx hsy hsz hbel Ha
    have l0 : w.heap.size < wr.heap.size := by omega
    have qq := q1
    have SH : Hid (∀ w' : World, Below wr.heap.size wr w' → (w'.cell? ⟨w.heap.size, 0, none⟩ = some (.slice (some ⟨bb, off, none⟩) l.length c) ∧ w'.cell? ⟨bb, off + k * 5, none⟩ = some (.int .i64 l[k].k) ∧ w'.cell? ⟨bb, off + k * 5 + 1, none⟩ = some (.bool l[k].b) ∧ w'.cell? ⟨bb, off + k * 5 + 2, none⟩ = some (.int .i64 l[k].n) ∧ w'.cell? ⟨bb, off + k * 5 + 3, none⟩ = some (.string l[k].t) ∧ w'.cell? ⟨bb, off + k * 5 + 4, none⟩ = some (.slice ax l[k].l.length cx) ∧ w'.cell? ⟨bb, off + (k + 1) * 5, none⟩ = some (.int .i64 l[k + 1].k) ∧ w'.cell? ⟨bb, off + (k + 1) * 5 + 1, none⟩ = some (.bool l[k + 1].b) ∧ w'.cell? ⟨bb, off + (k + 1) * 5 + 2, none⟩ = some (.int .i64 l[k + 1].n) ∧ w'.cell? ⟨bb, off + (k + 1) * 5 + 3, none⟩ = some (.string l[k + 1].t) ∧ w'.cell? ⟨bb, off + (k + 1) * 5 + 4, none⟩ = some (.slice ay l[k + 1].l.length cy) ∧ w'.cell? ⟨bb, off + (k + 2) * 5, none⟩ = some (.int .i64 l[k + 2].k) ∧ w'.cell? ⟨bb, off + (k + 2) * 5 + 1, none⟩ = some (.bool l[k + 2].b) ∧ w'.cell? ⟨bb, off + (k + 2) * 5 + 2, none⟩ = some (.int .i64 l[k + 2].n) ∧ w'.cell? ⟨bb, off + (k + 2) * 5 + 3, none⟩ = some (.string l[k + 2].t) ∧ w'.cell? ⟨bb, off + (k + 2) * 5 + 4, none⟩ = some (.slice az l[k + 2].l.length cz))) := fun w' hb => ⟨(hb.cell (p := ⟨w.heap.size, 0, none⟩) l0).trans ((qq 0).trans rfl), (hb.cell (p := ⟨bb, off + k * 5, none⟩) hzb).trans ((hgr _).trans x0), (hb.cell (p := ⟨bb, off + k * 5 + 1, none⟩) hzb).trans ((hgr _).trans x1), (hb.cell (p := ⟨bb, off + k * 5 + 2, none⟩) hzb).trans ((hgr _).trans x2), (hb.cell (p := ⟨bb, off + k * 5 + 3, none⟩) hzb).trans ((hgr _).trans x3), (hb.cell (p := ⟨bb, off + k * 5 + 4, none⟩) hzb).trans ((hgr _).trans x4), (hb.cell (p := ⟨bb, off + (k + 1) * 5, none⟩) hzb).trans ((hgr _).trans y0), (hb.cell (p := ⟨bb, off + (k + 1) * 5 + 1, none⟩) hzb).trans ((hgr _).trans y1), (hb.cell (p := ⟨bb, off + (k + 1) * 5 + 2, none⟩) hzb).trans ((hgr _).trans y2), (hb.cell (p := ⟨bb, off + (k + 1) * 5 + 3, none⟩) hzb).trans ((hgr _).trans y3), (hb.cell (p := ⟨bb, off + (k + 1) * 5 + 4, none⟩) hzb).trans ((hgr _).trans y4), (hb.cell (p := ⟨bb, off + (k + 2) * 5, none⟩) hzb).trans ((hgr _).trans z0), (hb.cell (p := ⟨bb, off + (k + 2) * 5 + 1, none⟩) hzb).trans ((hgr _).trans z1), (hb.cell (p := ⟨bb, off + (k + 2) * 5 + 2, none⟩) hzb).trans ((hgr _).trans z2), (hb.cell (p := ⟨bb, off + (k + 2) * 5 + 3, none⟩) hzb).trans ((hgr _).trans z3), (hb.cell (p := ⟨bb, off + (k + 2) * 5 + 4, none⟩) hzb).trans ((hgr _).trans z4)⟩
    clear q1 qq hgr x0 x1 x2 x3 x4 y0 y1 y2 y3 y4 z0 z1 z2 z3 z4
    have s0 := SH.out wr (Below.refl _ _)
    obtain ⟨t0, x0, x1, x2, x3, x4, y0, y1, y2, y3, y4, z0, z1, z2, z3, z4⟩ := s0
    have hk0 : k < l.length := by omega
    have j0 : (0 : Int) ≤ (k : Int) := by omega
    have j1 : (0 : Int) ≤ (k : Int) + 1 := by omega
    have j2 : (k : Int) + 1 < (l.length : Int) := by omega
    have j3 : ((k : Int) + 1).toNat = k + 1 := by omega
    have j4 : (0 : Int) ≤ (k : Int) + 2 := by omega
    have j5 : (k : Int) + 2 < (l.length : Int) := by omega
    have j6 : ((k : Int) + 2).toNat = k + 2 := by omega
    have j7 : (k : Int) < (l.length : Int) := by omega
    go_upto_region 6 with fail
    go_cut [4, 5, 6] (fun s4 s5 s6 wx => ∃ b4 b5 b6 : Nat, s4 = .pointer (some ⟨b4, 0, none⟩) ∧ s5 = .pointer (some ⟨b5, 0, none⟩) ∧ s6 = .pointer (some ⟨b6, 0, none⟩) ∧ Below wr.heap.size wr wx ∧ (b4 < wx.heap.size ∧ b5 < wx.heap.size ∧ b6 < wx.heap.size) ∧ Hid (atB wx b4 l[k] ax cx) ∧ Hid (atB wx b5 l[k + 1] ay cy) ∧ Hid (atB wx b6 l[k + 2] az cz))
    case first =>
      go_region_held3 (fun w' => w'.cell? ⟨w.heap.size, 0, none⟩ = some (.slice (some ⟨bb, off, none⟩) l.length c) ∧ w'.cell? ⟨bb, off + k * 5, none⟩ = some (.int .i64 l[k].k) ∧ w'.cell? ⟨bb, off + k * 5 + 1, none⟩ = some (.bool l[k].b) ∧ w'.cell? ⟨bb, off + k * 5 + 2, none⟩ = some (.int .i64 l[k].n) ∧ w'.cell? ⟨bb, off + k * 5 + 3, none⟩ = some (.string l[k].t) ∧ w'.cell? ⟨bb, off + k * 5 + 4, none⟩ = some (.slice ax l[k].l.length cx) ∧ w'.cell? ⟨bb, off + (k + 1) * 5, none⟩ = some (.int .i64 l[k + 1].k) ∧ w'.cell? ⟨bb, off + (k + 1) * 5 + 1, none⟩ = some (.bool l[k + 1].b) ∧ w'.cell? ⟨bb, off + (k + 1) * 5 + 2, none⟩ = some (.int .i64 l[k + 1].n) ∧ w'.cell? ⟨bb, off + (k + 1) * 5 + 3, none⟩ = some (.string l[k + 1].t) ∧ w'.cell? ⟨bb, off + (k + 1) * 5 + 4, none⟩ = some (.slice ay l[k + 1].l.length cy) ∧ w'.cell? ⟨bb, off + (k + 2) * 5, none⟩ = some (.int .i64 l[k + 2].k) ∧ w'.cell? ⟨bb, off + (k + 2) * 5 + 1, none⟩ = some (.bool l[k + 2].b) ∧ w'.cell? ⟨bb, off + (k + 2) * 5 + 2, none⟩ = some (.int .i64 l[k + 2].n) ∧ w'.cell? ⟨bb, off + (k + 2) * 5 + 3, none⟩ = some (.string l[k + 2].t) ∧ w'.cell? ⟨bb, off + (k + 2) * 5 + 4, none⟩ = some (.slice az l[k + 2].l.length cz))
        (first
          | (refine SH.out _ ?_
             repeat (first | exact Below.refl _ _ | exact (Below.refl _ _).drew | refine Below.alloc ?_ (by simp; try omega) _ | refine Below.setCell ?_ (by simp; try omega) _ | refine Below.drew ?_)))
        (fail)
      all_goals
        go_wp2_with fail
        go_meet
        refine ⟨_, _, _, rfl, rfl, rfl, below_three, ⟨three_size (by omega), three_size (by omega), three_size (by omega)⟩, ?_, ?_, ?_⟩
      all_goals first
        | exact atB_mk first_at
        | exact atB_mk second_at
        | exact atB_mk third_at
    case rest =>
      obtain ⟨b4, b5, b6, rfl, rfl, rfl, hbc, ⟨h4, h5, h6'⟩, hx, hy, hz⟩ := hcut
      have HK := Lib.hid hbc
      have hwc := hbc.size
      have HWC := Lib.hid (below_down HB.out hbc (Nat.le_refl _))
      have HXC := Lib.hid ((hbc.block w.heap.size l0).trans hbox.out)
      have HF0 := Lib.hid (fitL_mem HFL.out _ (List.getElem_mem hk0))
      have HF1 := Lib.hid (fitL_mem HFL.out _ (List.getElem_mem hk1))
      have HF2 := Lib.hid (fitL_mem HFL.out _ (List.getElem_mem hlt))
      clear hbc SH t0 x0 x1 x2 x3 x4 y0 y1 y2 y3 y4 z0 z1 z2 z3 z4 i1 i2 j0 j1 j2 j3 j4 j5 j6 j7 hd2
      obtain ⟨c0, c1, c2, c3, c4⟩ := hx.out
      obtain ⟨d0, d1, d2, d3, d4⟩ := hy.out
      go_wp2_with fail
      refine (vOrder_any l[k] l[k + 1] HF0.out HF1.out (.slice ax l[k].l.length cx) (.slice ay l[k + 1].l.length cy) wc B (Nat.le_trans hB HWC.out.size) (isL_below Hsx.out HWC.out hB) (isL_below Hsy.out HWC.out hB)).mono ?_
      rintro e w4 ⟨rfl, hb4⟩
      have HW4 := Lib.hid (below_down HWC.out hb4 (Nat.le_refl _))
      have hx4 := Lib.hid (atB_below hx.out hb4 (by omega))
      have hy4 := Lib.hid (atB_below hy.out hb4 (by omega))
      have hz4 := Lib.hid (atB_below hz.out hb4 (by omega))
      have HX4 := Lib.hid ((hb4.block w.heap.size (by omega)).trans HXC.out)
      have hsz4 := hb4.size
      clear hb4
      clear c0 c1 c2 c3 c4 d0 d1 d2 d3 d4
      have hrow := ordV_row l[k] l[k + 1] l[k + 2]
      have hbA := ordV_bound l[k] l[k + 1]
      have hbB := ordV_bound l[k + 1] l[k + 2]
      have hbC := ordV_bound l[k] l[k + 2]
      obtain ⟨A, hA⟩ : ∃ A, A = ordV l[k] l[k + 1] := ⟨_, rfl⟩
      obtain ⟨Bo, hBo⟩ : ∃ A, A = ordV l[k + 1] l[k + 2] := ⟨_, rfl⟩
      obtain ⟨C, hC⟩ : ∃ A, A = ordV l[k] l[k + 2] := ⟨_, rfl⟩
      rw [← hA, ← hBo, ← hC] at hrow
      rw [← hA] at hbA ⊢
      rw [← hBo] at hbB
      rw [← hC] at hbC
      have HRW := Lib.hid hrow
      have HAE := Lib.hid hA
      have HBE := Lib.hid hBo
      have HCE := Lib.hid hC
      clear hrow hA hBo hC
      obtain ⟨c0, c1, c2, c3, c4⟩ := hy4.out
      obtain ⟨d0, d1, d2, d3, d4⟩ := hz4.out
      go_wp2_with fail
      refine (vOrder_any l[k + 1] l[k + 2] HF1.out HF2.out (.slice ay l[k + 1].l.length cy) (.slice az l[k + 2].l.length cz) w4 B (Nat.le_trans hB HW4.out.size) (isL_below Hsy.out HW4.out hB) (isL_below Hsz.out HW4.out hB)).mono ?_
      rintro e w5 ⟨rfl, hb5⟩
      rw [← HBE.out]
      have HW5 := Lib.hid (below_down HW4.out hb5 (Nat.le_refl _))
      have hx5 := Lib.hid (atB_below hx4.out hb5 (by omega))
      have hy5 := Lib.hid (atB_below hy4.out hb5 (by omega))
      have hz5 := Lib.hid (atB_below hz4.out hb5 (by omega))
      have HX5 := Lib.hid ((hb5.block w.heap.size (by omega)).trans HX4.out)
      have hsz5 := hb5.size
      clear hb5
      clear c0 c1 c2 c3 c4 d0 d1 d2 d3 d4
      obtain ⟨c0, c1, c2, c3, c4⟩ := hx5.out
      obtain ⟨d0, d1, d2, d3, d4⟩ := hz5.out
      go_wp2_with fail
      refine (vOrder_any l[k] l[k + 2] HF0.out HF2.out (.slice ax l[k].l.length cx) (.slice az l[k + 2].l.length cz) w5 B (Nat.le_trans hB HW5.out.size) (isL_below Hsx.out HW5.out hB) (isL_below Hsz.out HW5.out hB)).mono ?_
      rintro e w6 ⟨rfl, hb6⟩
      rw [← HCE.out]
      have HW6 := Lib.hid (below_down HW5.out hb6 (Nat.le_refl _))
      have hx6 := Lib.hid (atB_below hx5.out hb6 (by omega))
      have hy6 := Lib.hid (atB_below hy5.out hb6 (by omega))
      have hz6 := Lib.hid (atB_below hz5.out hb6 (by omega))
      have HX6 := Lib.hid ((hb6.block w.heap.size (by omega)).trans HX5.out)
      have hsz6 := hb6.size
      clear hb6
      clear c0 c1 c2 c3 c4 d0 d1 d2 d3 d4
      obtain ⟨c0, c1, c2, c3, c4⟩ := hx6.out
      obtain ⟨d0, d1, d2, d3, d4⟩ := hy6.out
      go_wp2_with fail
      refine (vOrder_any l[k + 1] l[k] HF1.out HF0.out (.slice ay l[k + 1].l.length cy) (.slice ax l[k].l.length cx) w6 B (Nat.le_trans hB HW6.out.size) (isL_below Hsy.out HW6.out hB) (isL_below Hsx.out HW6.out hB)).mono ?_
      rintro e w7 ⟨rfl, hb7⟩
      rw [ordV_neg l[k + 1] l[k], ← HAE.out]
      have HW7 := Lib.hid (below_down HW6.out hb7 (Nat.le_refl _))
      have hx7 := Lib.hid (atB_below hx6.out hb7 (by omega))
      have hy7 := Lib.hid (atB_below hy6.out hb7 (by omega))
      have hz7 := Lib.hid (atB_below hz6.out hb7 (by omega))
      have HX7 := Lib.hid ((hb7.block w.heap.size (by omega)).trans HX6.out)
      have hsz7 := hb7.size
      clear hb7
      clear c0 c1 c2 c3 c4 d0 d1 d2 d3 d4
      have hA3 : A = -1 ∨ A = 0 ∨ A = 1 := by omega
      have hB3 : Bo = -1 ∨ Bo = 0 ∨ Bo = 1 := by omega
      have hC3 : C = -1 ∨ C = 0 ∨ C = 1 := by omega
      clear hbA hbB hbC HBE HCE
      rcases hA3 with rfl | rfl | rfl <;> rcases hB3 with rfl | rfl | rfl <;> rcases hC3 with rfl | rfl | rfl
      all_goals try
        exfalso
        have h := HRW.out
        unfold row6 at h
        omega
      all_goals
        obtain ⟨c0, c1, c2, c3, c4⟩ := hx7.out
        go_wp2_with fail
        refine (vCheck_any l[k] HF0.out (.slice ax l[k].l.length cx) w7 B (Nat.le_trans hB HW7.out.size) (isL_below Hsx.out HW7.out hB)).mono ?_
        rintro e w8 ⟨rfl, hb8⟩
        have HW8 := Lib.hid (below_down HW7.out hb8 (Nat.le_refl _))
        have hx8 := Lib.hid (atB_below hx7.out hb8 (by omega))
        have hy8 := Lib.hid (atB_below hy7.out hb8 (by omega))
        have HX8 := Lib.hid ((hb8.block w.heap.size (by omega)).trans HX7.out)
        have hsz8 := hb8.size
        clear hb8 c0 c1 c2 c3 c4
        cases hva : vmay l[k]
        · clear hva
          go_wp2_with fail
          go_roundw
          case rel => exact ⟨k + 1, by omega, by omega, by go_num, HW8.out, by omega, HX8⟩
          case measure => simp [intOf]; omega
        have HVA := Lib.hid hva
        clear hva
        obtain ⟨d0, d1, d2, d3, d4⟩ := hy8.out
        go_wp2_with fail
        refine (vCheck_any l[k + 1] HF1.out (.slice ay l[k + 1].l.length cy) w8 B (Nat.le_trans hB HW8.out.size) (isL_below Hsy.out HW8.out hB)).mono ?_
        rintro e w9 ⟨rfl, hb9⟩
        have HW9 := Lib.hid (below_down HW8.out hb9 (Nat.le_refl _))
        have hx9 := Lib.hid (atB_below hx8.out hb9 (by omega))
        have hy9 := Lib.hid (atB_below hy8.out hb9 (by omega))
        have HX9 := Lib.hid ((hb9.block w.heap.size (by omega)).trans HX8.out)
        have hsz9 := hb9.size
        clear hb9 d0 d1 d2 d3 d4
        cases hvb : vmay l[k + 1]
        · clear hvb
          go_wp2_with fail
          go_roundw
          case rel => exact ⟨k + 1, by omega, by omega, by go_num, HW9.out, by omega, HX9⟩
          case measure => simp [intOf]; omega
        have HVB := Lib.hid hvb
        clear hvb
        obtain ⟨c0, c1, c2, c3, c4⟩ := hx9.out
        obtain ⟨d0, d1, d2, d3, d4⟩ := hy9.out
        go_wp2_with fail
        refine (vSame_any l[k] l[k + 1] HF0.out HF1.out (.slice ax l[k].l.length cx) (.slice ay l[k + 1].l.length cy) w9 B (Nat.le_trans hB HW9.out.size) (isL_below Hsx.out HW9.out hB) (isL_below Hsy.out HW9.out hB)).mono ?_
        rintro e w10 ⟨rfl, hb10⟩
        rw [ord_zero l[k] l[k + 1] HVA.out HVB.out, ← HAE.out]
        have HW10 := Lib.hid (below_down HW9.out hb10 (Nat.le_refl _))
        have HX10 := Lib.hid ((hb10.block w.heap.size (by omega)).trans HX9.out)
        have hsz10 := hb10.size
        clear hb10 c0 c1 c2 c3 c4 d0 d1 d2 d3 d4
        go_wp2_with fail
        go_roundw
        case rel => exact ⟨k + 1, by omega, by omega, by go_num, HW10.out, by omega, HX10⟩
        case measure => simp [intOf]; omega
end Go.Proofs.YtndnondneelgjaaDoor
