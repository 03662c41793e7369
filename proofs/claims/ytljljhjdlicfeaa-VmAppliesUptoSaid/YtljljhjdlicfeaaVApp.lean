/-
  proctorlaw11.VmApplies answers true. Conditions: what it is handed is of bulk at most 1048576.
-/
import Derived.Test.YtljljhjdlicfeaaNK
import Derived.Test.YtljljhjdlicfeaaVl4
import Derived.Test.YtljljhjdlicfeaaNL
import Derived.Test.YtljljhjdlicfeaaNQ
import Derived.Test.YtljljhjdlicfeaaVab
import Derived.Deep.DeepCutAuto
namespace Go.Proofs.Ytljljhjdlicfeaa
open Go Go.RowKit
set_option maxRecDepth 100000
set_option linter.unusedVariables false
def TrueA (w : World) (e : Ending) (w' : World) : Prop := e = .returned (.bool true) ∧ Below w.heap.size w w'
set_option maxHeartbeats 6400000 in
theorem vapplies_any (W : WV) (fW : W.fit) (hW : W.small) (fv : ∀ f ∈ W.facts, f.vals.length ≤ 2147483647) (sL sI s0 s1 s2 s3 : Value) (fuel : Int) (w : World) (B : Nat) (hB : B ≤ w.heap.size) (h : isAsk w B W s0 s1 s2 s3) :
    Calls Try.prog 3 #[.agg #[sL, sI, s0, s1, s2, s3, .int .i64 fuel]] w (TrueA w) := by
  obtain ⟨a0, c0, rfl⟩ := isG_form h.1
  have H := Lib.hid h
  have HW := Lib.hid hW
  have HFW := Lib.hid fW
  clear h hW
  go_enter Try.func3, Try.ntmps3
  go_upto_region 1 with fail
  obtain ⟨w1, hw1⟩ : ∃ u, u = w.alloc (.cells #[sL, sI, .slice a0 W.vars.length c0, s1, s2, s3, .int .i64 fuel] 28) := ⟨_, rfl⟩
  have hb1 : Below w.heap.size w w1 := by rw [hw1]; exact (Below.refl _ _).alloc (Nat.le_refl _) _
  have hx1 : w1.heap[w.heap.size]? = some (.cells #[sL, sI, .slice a0 W.vars.length c0, s1, s2, s3, .int .i64 fuel] 28 (0, 0)) := by rw [hw1]; exact heap_last
  rw [← hw1]
  clear hw1
  have HB1 := Lib.hid hb1
  have HX1 := Lib.hid hx1
  have HZ1 : Hid (w.heap.size < w1.heap.size) := (Array.getElem?_eq_some_iff.1 hx1).1
  have q1 := fun o => cell_of hx1 o
  clear hb1 hx1
  go_wp2_with fail
  refine (light_any W sL sI (.slice a0 W.vars.length c0) s1 s2 s3 fuel w1 B (Nat.le_trans hB HB1.out.size) (isAsk_below H.out (HB1.out.mono hB)) HW.out).mono ?_
  rintro e w2 hO
  obtain ⟨b, rfl, hfew, hb2⟩ := hO
  have HB2 := Lib.hid (below_down HB1.out hb2 (Nat.le_refl _))
  have HX2 := Lib.hid ((hb2.block _ HZ1.out).trans HX1.out)
  have HZ2 : Hid (w.heap.size < w2.heap.size) := Nat.lt_of_lt_of_le HZ1.out hb2.size
  have q2 := fun o => cell_of HX2.out o
  clear hb2 q1
  cases b
  · clear hfew
    go_wp2_with fail
    refine (vwakes_any w2).mono ?_
    rintro e w3 ⟨rfl, hb3⟩
    have HB3 := Lib.hid (below_down HB2.out hb3 (Nat.le_refl _))
    clear hb3
    go_wp2_with fail
    go_ret
    exact ⟨rfl, HB3.out⟩
  have HF := Lib.hid (hfew rfl)
  clear hfew
  go_wp2_with fail
  refine (world_any W sL sI (.slice a0 W.vars.length c0) s1 s2 s3 fuel w2 B (Nat.le_trans hB HB2.out.size) (isAsk_below H.out (HB2.out.mono hB)) (by have := HF.out.1; omega) (by have := HF.out.2.1; omega) (by have := HF.out.2.2.1; omega) (by have := HF.out.2.2.2.1; omega) (fun c hc => by have := HF.out.2.2.2.2 c hc; omega)).mono ?_
  rintro e w3 ⟨be, rfl, hen, hb3⟩
  have HE3 := Lib.hid (env_ok be w3.heap.size W fW fv w3 hen)
  have HB3 := Lib.hid (below_down HB2.out hb3 (Nat.le_refl _))
  have HX3 := Lib.hid ((hb3.block _ HZ2.out).trans HX2.out)
  have HZ3 : Hid (w.heap.size < w3.heap.size) := Nat.lt_of_lt_of_le HZ2.out hb3.size
  have hvl : W.vars.length ≤ 100 := HF.out.1
  clear hen hb3 q2
  go_wp2_with fail
  go_loopw [4] (fun i wr => ∃ k : Nat, 1 ≤ k ∧ k ≤ 6 ∧ i = .int .i64 k ∧ Below w.heap.size w wr ∧ Below w3.heap.size w3 wr ∧ Hid (wr.heap[w.heap.size]? = some (.cells #[sL, sI, .slice a0 W.vars.length c0, s1, s2, s3, .int .i64 fuel] 28 (0, 0)))) (fun i _ => 6 - (intOf i).toNat)
  case atStart => exact ⟨1, by omega, by omega, rfl, HB3.out, Below.refl _ _, HX3.out⟩
  case round =>
    obtain ⟨k, hk1, hk6, rfl, hbel, hbe, hbox⟩ := hrel
    obtain ⟨wo, hren⟩ : ∃ u, u = wr := ⟨_, rfl⟩
    subst hren
    have q := fun o => cell_of hbox.out o
    have HB := Lib.hid hbel
    have HBE := Lib.hid hbe
    have hz : w.heap.size < wo.heap.size := (Array.getElem?_eq_some_iff.1 hbox.out).1
    by_cases hlt : k < W.vars.length
    case neg =>
      clear hbel hbe
      go_wp2_with fail
      refine (num_any 1 wo).mono ?_
      rintro e w4 ⟨rfl, hb4⟩
      have HB4 := Lib.hid (below_down HB.out hb4 (Nat.le_refl _))
      clear hb4
      simp only [GE.agg]
      go_wp2_with fail
      refine (May_any (litE (numV 1)) (lit_fit num1_fit) (.slice none 0 0) (.slice none 0 0) w4 w4.heap.size (Nat.le_refl _) (isL_nil _ _) (isX_nil5 _ _)).mono ?_
      rw [num1_may]
      rintro e w5 ⟨rfl, hb5⟩
      have HB5 := Lib.hid (below_down HB4.out hb5 (Nat.le_refl _))
      clear hb5
      go_wp2_with fail
      refine (vwakes_any w5).mono ?_
      rintro e w6 ⟨rfl, hb6⟩
      have HB6 := Lib.hid (below_down HB5.out hb6 (Nat.le_refl _))
      clear hb6
      go_wp2_with fail
      go_ret
      exact ⟨rfl, HB6.out⟩
    by_cases h6 : k < 6
    case neg =>
      clear hbel hbe
      go_wp2_with fail
      refine (num_any 1 wo).mono ?_
      rintro e w4 ⟨rfl, hb4⟩
      have HB4 := Lib.hid (below_down HB.out hb4 (Nat.le_refl _))
      clear hb4
      simp only [GE.agg]
      go_wp2_with fail
      refine (May_any (litE (numV 1)) (lit_fit num1_fit) (.slice none 0 0) (.slice none 0 0) w4 w4.heap.size (Nat.le_refl _) (isL_nil _ _) (isX_nil5 _ _)).mono ?_
      rw [num1_may]
      rintro e w5 ⟨rfl, hb5⟩
      have HB5 := Lib.hid (below_down HB4.out hb5 (Nat.le_refl _))
      clear hb5
      go_wp2_with fail
      refine (vwakes_any w5).mono ?_
      rintro e w6 ⟨rfl, hb6⟩
      have HB6 := Lib.hid (below_down HB5.out hb6 (Nat.le_refl _))
      clear hb6
      go_wp2_with fail
      go_ret
      exact ⟨rfl, HB6.out⟩
    obtain ⟨a0', c0', bb, off, e, hc, ha, hA⟩ := H.out.1
    simp only [Value.slice.injEq] at e
    obtain ⟨rfl, _, rfl⟩ := e
    obtain ⟨rfl, hb2⟩ := ha (by omega)
    obtain ⟨j, hj⟩ : ∃ j, j = k - 1 := ⟨_, rfl⟩
    have hj0 : j < W.vars.length := by omega
    obtain ⟨csx, ⟨slx, rfl, hslx⟩, hcx⟩ := hA j hj0
    obtain ⟨csy, ⟨sly, rfl, hsly⟩, hcy⟩ := hA k hlt
    obtain ⟨ax, cx, rfl⟩ := isL_form hslx
    obtain ⟨ay, cy, rfl⟩ := isL_form hsly
    have hgr : ∀ o, wo.cell? ⟨bb, o, none⟩ = w.cell? ⟨bb, o, none⟩ := fun o => hbel.cell (p := ⟨bb, o, none⟩) (Nat.lt_of_lt_of_le hb2 hB)
    have x1 : w.cell? ⟨bb, off + j * 6 + 1, none⟩ = some (.int .i64 W.vars[j].v.k) := hcx 1 _ rfl
    have x2 : w.cell? ⟨bb, off + j * 6 + 2, none⟩ = some (.bool W.vars[j].v.b) := hcx 2 _ rfl
    have x3 : w.cell? ⟨bb, off + j * 6 + 3, none⟩ = some (.int .i64 W.vars[j].v.n) := hcx 3 _ rfl
    have x4 : w.cell? ⟨bb, off + j * 6 + 4, none⟩ = some (.string W.vars[j].v.t) := hcx 4 _ rfl
    have x5 : w.cell? ⟨bb, off + j * 6 + 5, none⟩ = some (.slice ax W.vars[j].v.l.length cx) := hcx 5 _ rfl
    have y1 : w.cell? ⟨bb, off + k * 6 + 1, none⟩ = some (.int .i64 W.vars[k].v.k) := hcy 1 _ rfl
    have y2 : w.cell? ⟨bb, off + k * 6 + 2, none⟩ = some (.bool W.vars[k].v.b) := hcy 2 _ rfl
    have y3 : w.cell? ⟨bb, off + k * 6 + 3, none⟩ = some (.int .i64 W.vars[k].v.n) := hcy 3 _ rfl
    have y4 : w.cell? ⟨bb, off + k * 6 + 4, none⟩ = some (.string W.vars[k].v.t) := hcy 4 _ rfl
    have y5 : w.cell? ⟨bb, off + k * 6 + 5, none⟩ = some (.slice ay W.vars[k].v.l.length cy) := hcy 5 _ rfl
    have HSX := Lib.hid (isL_below hslx HB.out hB)
    have HSY := Lib.hid (isL_below hsly HB.out hB)
    have HFX := Lib.hid (HFW.out.1 _ (List.getElem_mem hj0))
    have HFY := Lib.hid (HFW.out.1 _ (List.getElem_mem hlt))
    obtain ⟨x, hx⟩ : ∃ x, x = W.vars[j].v := ⟨_, rfl⟩
    obtain ⟨y, hy⟩ : ∃ y, y = W.vars[k].v := ⟨_, rfl⟩
    rw [← hx] at x1 x2 x3 x4 x5 HSX HFX
    rw [← hy] at y1 y2 y3 y4 y5 HSY HFY
    have hzb : bb < wo.heap.size := by omega
    have i3 : (k : Int) - 1 = (j : Int) := by omega
    have i4 : IntKind.i64.wrap (j : Int) = (j : Int) := IntWalk.i64_in _ (by omega)
    have j0 : (0 : Int) ≤ (j : Int) := by omega
    have j1 : (j : Int) < (W.vars.length : Int) := by omega
    have hvl2 : (W.vars.length : Int) ≤ 2147483647 := by omega
    have HJ := Lib.hid hj
    have hBr : B ≤ wo.heap.size := Nat.le_trans hB HB.out.size
    clear hslx hsly hcx hcy hx hy hj hA ha hbel hbe
    have qq := q
    have SH : Hid (∀ w' : World, Below wo.heap.size wo w' → (w'.cell? ⟨w.heap.size, 2, none⟩ = some (.slice (some ⟨bb, off, none⟩) W.vars.length c0) ∧ w'.cell? ⟨bb, off + j * 6 + 1, none⟩ = some (.int .i64 x.k) ∧ w'.cell? ⟨bb, off + j * 6 + 2, none⟩ = some (.bool x.b) ∧ w'.cell? ⟨bb, off + j * 6 + 3, none⟩ = some (.int .i64 x.n) ∧ w'.cell? ⟨bb, off + j * 6 + 4, none⟩ = some (.string x.t) ∧ w'.cell? ⟨bb, off + j * 6 + 5, none⟩ = some (.slice ax x.l.length cx) ∧ w'.cell? ⟨bb, off + k * 6 + 1, none⟩ = some (.int .i64 y.k) ∧ w'.cell? ⟨bb, off + k * 6 + 2, none⟩ = some (.bool y.b) ∧ w'.cell? ⟨bb, off + k * 6 + 3, none⟩ = some (.int .i64 y.n) ∧ w'.cell? ⟨bb, off + k * 6 + 4, none⟩ = some (.string y.t) ∧ w'.cell? ⟨bb, off + k * 6 + 5, none⟩ = some (.slice ay y.l.length cy))) := fun w' hb => ⟨(hb.cell (p := ⟨w.heap.size, 2, none⟩) hz).trans ((qq 2).trans rfl), (hb.cell (p := ⟨bb, off + j * 6 + 1, none⟩) hzb).trans ((hgr _).trans x1), (hb.cell (p := ⟨bb, off + j * 6 + 2, none⟩) hzb).trans ((hgr _).trans x2), (hb.cell (p := ⟨bb, off + j * 6 + 3, none⟩) hzb).trans ((hgr _).trans x3), (hb.cell (p := ⟨bb, off + j * 6 + 4, none⟩) hzb).trans ((hgr _).trans x4), (hb.cell (p := ⟨bb, off + j * 6 + 5, none⟩) hzb).trans ((hgr _).trans x5), (hb.cell (p := ⟨bb, off + k * 6 + 1, none⟩) hzb).trans ((hgr _).trans y1), (hb.cell (p := ⟨bb, off + k * 6 + 2, none⟩) hzb).trans ((hgr _).trans y2), (hb.cell (p := ⟨bb, off + k * 6 + 3, none⟩) hzb).trans ((hgr _).trans y3), (hb.cell (p := ⟨bb, off + k * 6 + 4, none⟩) hzb).trans ((hgr _).trans y4), (hb.cell (p := ⟨bb, off + k * 6 + 5, none⟩) hzb).trans ((hgr _).trans y5)⟩
    clear q qq hgr x1 x2 x3 x4 x5 y1 y2 y3 y4 y5
    have s0 := SH.out wo (Below.refl _ _)
    obtain ⟨t0, x1, x2, x3, x4, x5, y1, y2, y3, y4, y5⟩ := s0
    go_upto_region 7 with fail
    go_cut [5, 6] (fun s5 s6 wx => ∃ p q : Nat, s5 = .pointer (some ⟨p, 0, none⟩) ∧ s6 = .pointer (some ⟨q, 0, none⟩) ∧ Hid (TwoV wo wx p q x (.slice ax x.l.length cx) y (.slice ay y.l.length cy)))
    case first =>
      go_region_held3 (fun w' => (w'.cell? ⟨w.heap.size, 2, none⟩ = some (.slice (some ⟨bb, off, none⟩) W.vars.length c0) ∧ w'.cell? ⟨bb, off + j * 6 + 1, none⟩ = some (.int .i64 x.k) ∧ w'.cell? ⟨bb, off + j * 6 + 2, none⟩ = some (.bool x.b) ∧ w'.cell? ⟨bb, off + j * 6 + 3, none⟩ = some (.int .i64 x.n) ∧ w'.cell? ⟨bb, off + j * 6 + 4, none⟩ = some (.string x.t) ∧ w'.cell? ⟨bb, off + j * 6 + 5, none⟩ = some (.slice ax x.l.length cx) ∧ w'.cell? ⟨bb, off + k * 6 + 1, none⟩ = some (.int .i64 y.k) ∧ w'.cell? ⟨bb, off + k * 6 + 2, none⟩ = some (.bool y.b) ∧ w'.cell? ⟨bb, off + k * 6 + 3, none⟩ = some (.int .i64 y.n) ∧ w'.cell? ⟨bb, off + k * 6 + 4, none⟩ = some (.string y.t) ∧ w'.cell? ⟨bb, off + k * 6 + 5, none⟩ = some (.slice ay y.l.length cy)) ∧ wo.heap.size < w'.heap.size + 1 ∧ wo.heap.size ≤ w'.heap.size)
        (first
          | (refine ⟨?_, ?_, ?_⟩
             · with_reducible refine SH.out _ ?_
               repeat (with_reducible first | exact Below.refl _ _ | refine Below.alloc ?_ (by simp <;> omega) _ | refine Below.setCell ?_ (by simp <;> omega) _ | refine Below.drew ?_)
             · simp <;> omega
             · simp <;> omega))
        (fail)
      all_goals
        go_wp2_with fail
        go_meet
        exact ⟨_, _, rfl, rfl, Lib.hid (by first | exact twoV_ab (Below.refl _ _).drew | exact twoV_ba (Below.refl _ _).drew)⟩
    case rest =>
      obtain ⟨p5, p6, rfl, rfl, HT5⟩ := hcut
      obtain ⟨wb, hren⟩ : ∃ u, u = wc := ⟨_, rfl⟩
      subst hren
      clear SH t0 x1 x2 x3 x4 x5 y1 y2 y3 y4 y5 i3 i4 j0 j1 hvl2
      have HRb := Lib.hid HT5.out.1
      have HP5wb := Lib.hid HT5.out.2.2.2.1
      have HP6wb := Lib.hid HT5.out.2.2.2.2
      have l5wb : p5 < wb.heap.size := (Array.getElem?_eq_some_iff.1 HP5wb.out).1
      have l6wb : p6 < wb.heap.size := (Array.getElem?_eq_some_iff.1 HP6wb.out).1
      have HXwb := Lib.hid (isL_below HSX.out HRb.out hBr)
      have HYwb := Lib.hid (isL_below HSY.out HRb.out hBr)
      have hBwb : B ≤ wb.heap.size := Nat.le_trans hBr HRb.out.size
      have q5b := fun o => cell_of HP5wb.out o
      have q6b := fun o => cell_of HP6wb.out o
      go_wp2_with fail
      refine (vCheck_any x HFX.out (.slice ax x.l.length cx) wb B hBwb HXwb.out).mono ?_
      rintro e we ⟨rfl, hbe1⟩
      have HNe : Hid (Below wb.heap.size wb we) := hbe1
      have HP5e := Lib.hid ((HNe.out.block _ l5wb).trans HP5wb.out)
      have q5e := fun o => cell_of HP5e.out o
      have l5e : p5 < we.heap.size := Nat.lt_of_lt_of_le l5wb HNe.out.size
      have HP6e := Lib.hid ((HNe.out.block _ l6wb).trans HP6wb.out)
      have q6e := fun o => cell_of HP6e.out o
      have l6e : p6 < we.heap.size := Nat.lt_of_lt_of_le l6wb HNe.out.size
      have HXe := Lib.hid (isL_below HXwb.out HNe.out hBwb)
      have HYe := Lib.hid (isL_below HYwb.out HNe.out hBwb)
      have hBe : B ≤ we.heap.size := Nat.le_trans hBwb HNe.out.size
      have HRe := Lib.hid (below_down HRb.out hbe1 (Nat.le_refl _))
      clear hbe1 q5b q6b
      cases hvx : vmay x
      · clear hvx
        go_wp2_with fail
        go_roundw
        case rel => exact ⟨k + 1, by omega, by omega, by go_num, below_down HB.out HRe.out (Nat.le_refl _), below_down HBE.out HRe.out (Nat.le_refl _), (HRe.out.block _ hz).trans hbox.out⟩
        case measure => simp [intOf]; omega
      have HVX := Lib.hid hvx
      clear hvx
      go_wp2_with fail
      refine (vCheck_any y HFY.out (.slice ay y.l.length cy) we B hBe HYe.out).mono ?_
      rintro e wf ⟨rfl, hbf⟩
      have HNf : Hid (Below wb.heap.size wb wf) := below_down HNe.out hbf (Nat.le_refl _)
      have HP5f := Lib.hid ((HNf.out.block _ l5wb).trans HP5wb.out)
      have q5f := fun o => cell_of HP5f.out o
      have l5f : p5 < wf.heap.size := Nat.lt_of_lt_of_le l5wb HNf.out.size
      have HP6f := Lib.hid ((HNf.out.block _ l6wb).trans HP6wb.out)
      have q6f := fun o => cell_of HP6f.out o
      have l6f : p6 < wf.heap.size := Nat.lt_of_lt_of_le l6wb HNf.out.size
      have HXf := Lib.hid (isL_below HXwb.out HNf.out hBwb)
      have HYf := Lib.hid (isL_below HYwb.out HNf.out hBwb)
      have hBf : B ≤ wf.heap.size := Nat.le_trans hBwb HNf.out.size
      have HRf := Lib.hid (below_down HRe.out hbf (Nat.le_refl _))
      clear hbf q5e q6e
      cases hvy : vmay y
      · clear hvy
        go_wp2_with fail
        go_roundw
        case rel => exact ⟨k + 1, by omega, by omega, by go_num, below_down HB.out HRf.out (Nat.le_refl _), below_down HBE.out HRf.out (Nat.le_refl _), (HRf.out.block _ hz).trans hbox.out⟩
        case measure => simp [intOf]; omega
      have HVY := Lib.hid hvy
      clear hvy
      go_upto_region 9 with fail
      have SH : Hid (∀ w' : World, Below wf.heap.size wf w' → (w'.cell? ⟨p5, 0, none⟩ = some (.int .i64 x.k) ∧ w'.cell? ⟨p5, 1, none⟩ = some (.bool x.b) ∧ w'.cell? ⟨p5, 2, none⟩ = some (.int .i64 x.n) ∧ w'.cell? ⟨p5, 3, none⟩ = some (.string x.t) ∧ w'.cell? ⟨p5, 4, none⟩ = some (.slice ax x.l.length cx) ∧ w'.cell? ⟨p6, 0, none⟩ = some (.int .i64 y.k) ∧ w'.cell? ⟨p6, 1, none⟩ = some (.bool y.b) ∧ w'.cell? ⟨p6, 2, none⟩ = some (.int .i64 y.n) ∧ w'.cell? ⟨p6, 3, none⟩ = some (.string y.t) ∧ w'.cell? ⟨p6, 4, none⟩ = some (.slice ay y.l.length cy))) := fun w' hb => ⟨(hb.cell (p := ⟨p5, 0, none⟩) l5f).trans ((q5f 0).trans rfl), (hb.cell (p := ⟨p5, 1, none⟩) l5f).trans ((q5f 1).trans rfl), (hb.cell (p := ⟨p5, 2, none⟩) l5f).trans ((q5f 2).trans rfl), (hb.cell (p := ⟨p5, 3, none⟩) l5f).trans ((q5f 3).trans rfl), (hb.cell (p := ⟨p5, 4, none⟩) l5f).trans ((q5f 4).trans rfl), (hb.cell (p := ⟨p6, 0, none⟩) l6f).trans ((q6f 0).trans rfl), (hb.cell (p := ⟨p6, 1, none⟩) l6f).trans ((q6f 1).trans rfl), (hb.cell (p := ⟨p6, 2, none⟩) l6f).trans ((q6f 2).trans rfl), (hb.cell (p := ⟨p6, 3, none⟩) l6f).trans ((q6f 3).trans rfl), (hb.cell (p := ⟨p6, 4, none⟩) l6f).trans ((q6f 4).trans rfl)⟩
      have s0 := SH.out wf (Below.refl _ _)
      clear q5f q6f
      obtain ⟨x1, x2, x3, x4, x5, y1, y2, y3, y4, y5⟩ := s0
      go_cut [7, 8] (fun s7 s8 wx => ∃ p q : Nat, s7 = .pointer (some ⟨p, 0, none⟩) ∧ s8 = .pointer (some ⟨q, 0, none⟩) ∧ Hid (TwoL wf wx p q x (.slice ax x.l.length cx) y (.slice ay y.l.length cy)))
      case first =>
        go_region_held3 (fun w' => (w'.cell? ⟨p5, 0, none⟩ = some (.int .i64 x.k) ∧ w'.cell? ⟨p5, 1, none⟩ = some (.bool x.b) ∧ w'.cell? ⟨p5, 2, none⟩ = some (.int .i64 x.n) ∧ w'.cell? ⟨p5, 3, none⟩ = some (.string x.t) ∧ w'.cell? ⟨p5, 4, none⟩ = some (.slice ax x.l.length cx) ∧ w'.cell? ⟨p6, 0, none⟩ = some (.int .i64 y.k) ∧ w'.cell? ⟨p6, 1, none⟩ = some (.bool y.b) ∧ w'.cell? ⟨p6, 2, none⟩ = some (.int .i64 y.n) ∧ w'.cell? ⟨p6, 3, none⟩ = some (.string y.t) ∧ w'.cell? ⟨p6, 4, none⟩ = some (.slice ay y.l.length cy)) ∧ wf.heap.size < w'.heap.size + 1 ∧ wf.heap.size ≤ w'.heap.size)
          (first
            | (refine ⟨?_, ?_, ?_⟩
               · with_reducible refine SH.out _ ?_
                 repeat (with_reducible first | exact Below.refl _ _ | refine Below.alloc ?_ (by simp <;> omega) _ | refine Below.setCell ?_ (by simp <;> omega) _ | refine Below.drew ?_)
               · simp <;> omega
               · simp <;> omega))
          (fail)
        all_goals
          go_wp2_with fail
          go_meet
          exact ⟨_, _, rfl, rfl, Lib.hid (by first | exact twoL_ab (Below.refl _ _).drew | exact twoL_ba (Below.refl _ _).drew)⟩
      case rest =>
        obtain ⟨p7, p8, rfl, rfl, HT7⟩ := hcut
        obtain ⟨wd, hren⟩ : ∃ u, u = wc := ⟨_, rfl⟩
        subst hren
        clear SH x1 x2 x3 x4 x5 y1 y2 y3 y4 y5
        have HNfd := Lib.hid HT7.out.1
        have HRd := Lib.hid (below_down HRf.out HNfd.out (Nat.le_refl _))
        have HP7wd := Lib.hid HT7.out.2.2.2.1
        have HP8wd := Lib.hid HT7.out.2.2.2.2
        have HP5wd := Lib.hid ((HNfd.out.block _ l5f).trans HP5f.out)
        have HP6wd := Lib.hid ((HNfd.out.block _ l6f).trans HP6f.out)
        have l5wd : p5 < wd.heap.size := (Array.getElem?_eq_some_iff.1 HP5wd.out).1
        have l6wd : p6 < wd.heap.size := (Array.getElem?_eq_some_iff.1 HP6wd.out).1
        have l7wd : p7 < wd.heap.size := (Array.getElem?_eq_some_iff.1 HP7wd.out).1
        have l8wd : p8 < wd.heap.size := (Array.getElem?_eq_some_iff.1 HP8wd.out).1
        have HXwd := Lib.hid (isL_below HXf.out HNfd.out hBf)
        have HYwd := Lib.hid (isL_below HYf.out HNfd.out hBf)
        have hBwd : B ≤ wd.heap.size := Nat.le_trans hBf HNfd.out.size
        have HKwd : Hid (Below w3.heap.size w3 wd) := below_down HBE.out HRd.out (Nat.le_refl _)
        go_wp2_with fail
        go_loopw [9] (fun s9 wr => ∃ op : Nat, 10 ≤ op ∧ op ≤ 23 ∧ s9 = .int .i64 op ∧ Below wd.heap.size wd wr) (fun s9 _ => 23 - (intOf s9).toNat)
        case atStart => exact ⟨10, by omega, by omega, rfl, Below.refl _ _⟩
        case round =>
          obtain ⟨op, hop1, hop2, rfl, hbo⟩ := hrel
          obtain ⟨wq, hren⟩ : ∃ u, u = wr := ⟨_, rfl⟩
          subst hren
          have HNq : Hid (Below wd.heap.size wd wq) := hbo
          have HP5q := Lib.hid ((HNq.out.block _ l5wd).trans HP5wd.out)
          have q5q := fun o => cell_of HP5q.out o
          have l5q : p5 < wq.heap.size := Nat.lt_of_lt_of_le l5wd HNq.out.size
          have HP6q := Lib.hid ((HNq.out.block _ l6wd).trans HP6wd.out)
          have q6q := fun o => cell_of HP6q.out o
          have l6q : p6 < wq.heap.size := Nat.lt_of_lt_of_le l6wd HNq.out.size
          have HP7q := Lib.hid ((HNq.out.block _ l7wd).trans HP7wd.out)
          have q7q := fun o => cell_of HP7q.out o
          have l7q : p7 < wq.heap.size := Nat.lt_of_lt_of_le l7wd HNq.out.size
          have HP8q := Lib.hid ((HNq.out.block _ l8wd).trans HP8wd.out)
          have q8q := fun o => cell_of HP8q.out o
          have l8q : p8 < wq.heap.size := Nat.lt_of_lt_of_le l8wd HNq.out.size
          have HXq := Lib.hid (isL_below HXwd.out HNq.out hBwd)
          have HYq := Lib.hid (isL_below HYwd.out HNq.out hBwd)
          have hBq : B ≤ wq.heap.size := Nat.le_trans hBwd HNq.out.size
          clear hbo
          have HKq : Hid (Below w3.heap.size w3 wq) := HKwd.out.trans (HNq.out.mono HKwd.out.size)
          by_cases hop : op ≤ 22
          case neg =>
            go_upto_region 19 with fail
            obtain ⟨wr1, hwwr1⟩ : ∃ u, u = wq.alloc (.cells #[.int .i64 1, .string { data := #[] }, .int .i64 x.k, .bool x.b, .int .i64 x.n, .string x.t, .slice ax x.l.length cx, .slice none 0 0, .int .i64 1, .string { data := #[] }, .int .i64 y.k, .bool y.b, .int .i64 y.n, .string y.t, .slice ay y.l.length cy, .slice none 0 0] 40) := ⟨_, rfl⟩
            rw [← hwwr1]
            obtain ⟨g14, hpwr1⟩ : ∃ u, u = wq.heap.size := ⟨_, rfl⟩
            try rw [← hpwr1]
            have hdwr1 : Below wq.heap.size wq wr1 := by rw [hwwr1]; exact (Below.refl _ _).alloc (Nat.le_refl _) _
            have hbwr1 : Below wd.heap.size wd wr1 := below_down (HNq.out) hdwr1 (Nat.le_refl _)
            have hxwr1 : wr1.heap[g14]? = some (.cells #[.int .i64 1, .string { data := #[] }, .int .i64 x.k, .bool x.b, .int .i64 x.n, .string x.t, .slice ax x.l.length cx, .slice none 0 0, .int .i64 1, .string { data := #[] }, .int .i64 y.k, .bool y.b, .int .i64 y.n, .string y.t, .slice ay y.l.length cy, .slice none 0 0] 40 (0, 0)) := by rw [hwwr1, hpwr1]; exact heap_last
            have hzwr1 : wr1.heap.size = g14 + 1 := by rw [hwwr1, hpwr1]; simp
            clear hwwr1 hpwr1
            obtain ⟨ws, hwws⟩ : ∃ u, u = wr1.alloc (.cells #[.int .i64 5, .string { data := #[] }, .int .i64 0, .bool false, .int .i64 0, .string { data := #[] }, .slice none 0 0, .slice (some ⟨g14, 0, none⟩) 2 2] 40) := ⟨_, rfl⟩
            rw [← hwws]
            obtain ⟨p14, hpws⟩ : ∃ u, u = g14 + 1 := ⟨_, rfl⟩
            try rw [← hpws]
            have hdws : Below wr1.heap.size wr1 ws := by rw [hwws]; exact (Below.refl _ _).alloc (Nat.le_refl _) _
            have hbws : Below wd.heap.size wd ws := below_down (hbwr1) hdws (Nat.le_refl _)
            have hxws : ws.heap[p14]? = some (.cells #[.int .i64 5, .string { data := #[] }, .int .i64 0, .bool false, .int .i64 0, .string { data := #[] }, .slice none 0 0, .slice (some ⟨g14, 0, none⟩) 2 2] 40 (0, 0)) := by rw [hwws, hpws, ← hzwr1]; exact heap_last
            have hzws : ws.heap.size = p14 + 1 := by rw [hwws, hpws, ← hzwr1]; simp
            clear hwws hpws
            have hp14 : PairAt ws g14 (litE x) (.slice ax x.l.length cx) (.slice none 0 0) (litE y) (.slice ay y.l.length cy) (.slice none 0 0) := ⟨_, (hdws.block _ (by omega)).trans hxwr1⟩
            have hqs : Below wq.heap.size wq ws := below_down hdwr1 hdws (Nat.le_refl _)
            have HTX := Lib.hid (pair_up hqs hp14 hBq HXq.out (isX_nil5 _ _) HYq.out (isX_nil5 _ _))
            have HP14 := Lib.hid hxws
            have l14 : p14 < ws.heap.size := by omega
            clear hp14 hqs hxws hxwr1 hdwr1 hbwr1 hdws hzws hzwr1 q5q q6q q7q q8q
            have HNs : Hid (Below wd.heap.size wd ws) := hbws
            have HP5s := Lib.hid ((HNs.out.block _ l5wd).trans HP5wd.out)
            have q5s := fun o => cell_of HP5s.out o
            have l5s : p5 < ws.heap.size := Nat.lt_of_lt_of_le l5wd HNs.out.size
            have HP6s := Lib.hid ((HNs.out.block _ l6wd).trans HP6wd.out)
            have q6s := fun o => cell_of HP6s.out o
            have l6s : p6 < ws.heap.size := Nat.lt_of_lt_of_le l6wd HNs.out.size
            have HP8s := Lib.hid ((HNs.out.block _ l8wd).trans HP8wd.out)
            have q8s := fun o => cell_of HP8s.out o
            have l8s : p8 < ws.heap.size := Nat.lt_of_lt_of_le l8wd HNs.out.size
            have HXs := Lib.hid (isL_below HXwd.out HNs.out hBwd)
            have HYs := Lib.hid (isL_below HYwd.out HNs.out hBwd)
            have hBs : B ≤ ws.heap.size := Nat.le_trans hBwd HNs.out.size
            clear hbws q5s q6s q8s
            have q14 := fun o => cell_of HP14.out o
            have HKs := Lib.hid (HKwd.out.trans (HNs.out.mono HKwd.out.size))
            have hfl : fitE [litE x, litE y] := ⟨lit_fit HFX.out, lit_fit HFY.out, trivial⟩
            have HFL := Lib.hid (list_fit [litE x, litE y] (by simp) hfl)
            clear hfl
            have HGF : Hid ((listG [x, y]).fit) := by
              simp only [Hid, listG, GV.fit]
              exact ⟨by omega, by omega, by omega, by omega, by decide, by simp, HFX.out, HFY.out, trivial⟩
            cases hv : vmay (listG [x, y])
            · have HV := Lib.hid hv
              clear hv
              go_wp2_with fail
              refine (veval_any (envP W) (envP_fit fW) (.agg #[.pointer (some ⟨be, 0, none⟩)]) w3.heap.size (listE [litE x, litE y]) HFL.out 9 (.slice none 0 0) (.slice (some ⟨g14, 0, none⟩) 2 2) ws ws.heap.size (Nat.le_refl _) HKs.out.size (isL_nil _ _) HTX.out (HE3.out.keep HKs.out)).mono ?_
              rw [list_law (envP W) x y HVX.out HVY.out, if_neg (by rw [HV.out]; simp)]
              rintro e wt ⟨ap15, cp15, rfl, hrp15, hbwt⟩
              clear hrp15
              simp only [GV.agg, nullG, List.length_nil]
              go_upto_region 20 with fail
              obtain ⟨wu, hwwu⟩ : ∃ u, u = wt.alloc (.cells #[.int .i64 0, .bool false, .int .i64 0, .string { data := #[] }, .slice ap15 0 cp15] 35) := ⟨_, rfl⟩
              rw [← hwwu]
              obtain ⟨p15, hpwu⟩ : ∃ u, u = wt.heap.size := ⟨_, rfl⟩
              try rw [← hpwu]
              have hdwu : Below wt.heap.size wt wu := by rw [hwwu]; exact (Below.refl _ _).alloc (Nat.le_refl _) _
              have hbwu : Below wd.heap.size wd wu := below_down (below_down HNs.out hbwt (Nat.le_refl _)) hdwu (Nat.le_refl _)
              have hxwu : wu.heap[p15]? = some (.cells #[.int .i64 0, .bool false, .int .i64 0, .string { data := #[] }, .slice ap15 0 cp15] 35 (0, 0)) := by rw [hwwu, hpwu]; exact heap_last
              have hzwu : wu.heap.size = p15 + 1 := by rw [hwwu, hpwu]; simp
              clear hwwu hpwu
              have hsu : Below ws.heap.size ws wu := below_down hbwt hdwu (Nat.le_refl _)
              have HSU := Lib.hid hsu
              have HNu := Lib.hid hbwu
              have HP14u := Lib.hid ((hsu.block _ l14).trans HP14.out)
              have q14u := fun o => cell_of HP14u.out o
              have l14u : p14 < wu.heap.size := Nat.lt_of_lt_of_le l14 hsu.size
              clear hsu hbwt hdwu hbwu hxwu hzwu q14
              go_wp2_with fail
              obtain ⟨wv, hwwv⟩ : ∃ u, u = wu.alloc (.cells #[.int .i64 5, .string { data := #[] }, .int .i64 0, .bool false, .int .i64 0, .string { data := #[] }, .slice none 0 0, .slice (some ⟨g14, 0, none⟩) 2 2] 40) := ⟨_, rfl⟩
              rw [← hwwv]
              obtain ⟨g20, hpwv⟩ : ∃ u, u = wu.heap.size := ⟨_, rfl⟩
              try rw [← hpwv]
              have hdwv : Below wu.heap.size wu wv := by rw [hwwv]; exact (Below.refl _ _).alloc (Nat.le_refl _) _
              have hbwv : Below ws.heap.size ws wv := below_down (HSU.out) hdwv (Nat.le_refl _)
              have hxwv : wv.heap[g20]? = some (.cells #[.int .i64 5, .string { data := #[] }, .int .i64 0, .bool false, .int .i64 0, .string { data := #[] }, .slice none 0 0, .slice (some ⟨g14, 0, none⟩) 2 2] 40 (0, 0)) := by rw [hwwv, hpwv]; exact heap_last
              have hzwv : wv.heap.size = g20 + 1 := by rw [hwwv, hpwv]; simp
              clear hwwv hpwv
              have HTV := Lib.hid (isX_wide (isX_below HTX.out hbwv (Nat.le_refl _)) hbwv.size)
              have HTS := Lib.hid (isX_single (x := (listE [litE x, litE y])) hxwv (by omega : g20 < wv.heap.size) (isL_nil _ _) HTV.out)
              have HNv := Lib.hid (below_down HNs.out hbwv (Nat.le_refl _))
              have HSV := Lib.hid hbwv
              have HUV := Lib.hid hdwv
              clear hbwv hdwv hxwv hzwv q14u
              have HKv := Lib.hid (HKwd.out.trans (HNv.out.mono HKwd.out.size))
              refine (veval_any (envP W) (envP_fit fW) (.agg #[.pointer (some ⟨be, 0, none⟩)]) w3.heap.size (sizE (listE [litE x, litE y])) (size_fit1 HFL.out) 9 (.slice none 0 0) (.slice (some ⟨g20, 0, none⟩) 1 1) wv wv.heap.size (Nat.le_refl _) HKv.out.size (isL_nil _ _) HTS.out (HE3.out.keep HKv.out)).mono ?_
              rw [size_law (envP W) x y HVX.out HVY.out, if_neg (by rw [HV.out]; simp)]
              rintro e wx ⟨ap17, cp17, rfl, hrp17, hbwx⟩
              clear hrp17
              simp only [GV.agg, nullG, List.length_nil]
              go_upto_region 21 with fail
              obtain ⟨wy, hwwy⟩ : ∃ u, u = wx.alloc (.cells #[.int .i64 0, .bool false, .int .i64 0, .string { data := #[] }, .slice ap17 0 cp17] 35) := ⟨_, rfl⟩
              rw [← hwwy]
              obtain ⟨p17, hpwy⟩ : ∃ u, u = wx.heap.size := ⟨_, rfl⟩
              try rw [← hpwy]
              have hdwy : Below wx.heap.size wx wy := by rw [hwwy]; exact (Below.refl _ _).alloc (Nat.le_refl _) _
              have hbwy : Below ws.heap.size ws wy := below_down (below_down HSV.out hbwx (Nat.le_refl _)) hdwy (Nat.le_refl _)
              have hxwy : wy.heap[p17]? = some (.cells #[.int .i64 0, .bool false, .int .i64 0, .string { data := #[] }, .slice ap17 0 cp17] 35 (0, 0)) := by rw [hwwy, hpwy]; exact heap_last
              have hzwy : wy.heap.size = p17 + 1 := by rw [hwwy, hpwy]; simp
              clear hwwy hpwy
              have HSY2 := Lib.hid hbwy
              have HNy := Lib.hid (below_down HNs.out hbwy (Nat.le_refl _))
              have HP14y := Lib.hid ((hbwy.block _ l14).trans HP14.out)
              have q14y := fun o => cell_of HP14y.out o
              have l14y : p14 < wy.heap.size := Nat.lt_of_lt_of_le l14 hbwy.size
              have HP8y := Lib.hid ((hbwy.block _ l8s).trans HP8s.out)
              have q8y := fun o => cell_of HP8y.out o
              have HUY := Lib.hid (below_down HUV.out (below_down hbwx hdwy (Nat.le_refl _)) (Nat.le_refl _))
              clear hbwx hbwy hdwy hxwy hzwy
              have HKy := Lib.hid (HKwd.out.trans (HNy.out.mono HKwd.out.size))
              have HTY := Lib.hid (isX_below HTX.out HSY2.out (Nat.le_refl _))
              have HYY := Lib.hid (isL_below (isL_wide HYs.out (Nat.le_refl _) hBs) HSY2.out (Nat.le_refl _))
              go_wp2_with fail
              refine (two_raw 22 (listE [litE x, litE y]) (litE y) (.slice none 0 0) (.slice (some ⟨g14, 0, none⟩) 2 2) (.slice ay y.l.length cy) (.slice none 0 0) wy ws.heap.size HSY2.out.size (isL_nil _ _) HTY.out HYY.out (isX_nil5 _ _)).mono ?_
              rintro e w7 ⟨g21, rfl, hg3, hp3, hb3⟩
              have HT7 := Lib.hid (pair_up hb3 hp3 HSY2.out.size (isL_nil _ _) HTY.out HYY.out (isX_nil5 _ _))
              have HS7 := Lib.hid (below_down HSY2.out hb3 (Nat.le_refl _))
              have HY7 := Lib.hid hb3
              have HN7 := Lib.hid (below_down HNs.out HS7.out (Nat.le_refl _))
              clear hg3 hp3 hb3 q14y q8y
              simp only [GE.agg, twoE, noV, emp_eq]
              go_wp2_with fail
              have HK7 := Lib.hid (HKwd.out.trans (HN7.out.mono HKwd.out.size))
              refine (veval_any (envP W) (envP_fit fW) (.agg #[.pointer (some ⟨be, 0, none⟩)]) w3.heap.size (twoE 22 (listE [litE x, litE y]) (litE y)) (two_fit 22 _ _ (by omega) HFL.out (lit_fit HFY.out)) 9 (.slice none 0 0) (.slice (some ⟨g21, 0, none⟩) 2 2) w7 w7.heap.size (Nat.le_refl _) HK7.out.size (isL_nil _ _) HT7.out (HE3.out.keep HK7.out)).mono ?_
              rw [has_law (envP W) x y HVX.out HVY.out, if_neg (by rw [HV.out]; simp)]
              rintro e w8 ⟨ap19, cp19, rfl, hrp19, hbw8⟩
              clear hrp19
              simp only [GV.agg, nullG, List.length_nil]
              go_upto_region 22 with fail
              obtain ⟨w9, hww9⟩ : ∃ u, u = w8.alloc (.cells #[.int .i64 0, .bool false, .int .i64 0, .string { data := #[] }, .slice ap19 0 cp19] 35) := ⟨_, rfl⟩
              rw [← hww9]
              obtain ⟨p19, hpw9⟩ : ∃ u, u = w8.heap.size := ⟨_, rfl⟩
              try rw [← hpw9]
              have hdw9 : Below w8.heap.size w8 w9 := by rw [hww9]; exact (Below.refl _ _).alloc (Nat.le_refl _) _
              have hbw9 : Below ws.heap.size ws w9 := below_down (below_down HS7.out hbw8 (Nat.le_refl _)) hdw9 (Nat.le_refl _)
              have hxw9 : w9.heap[p19]? = some (.cells #[.int .i64 0, .bool false, .int .i64 0, .string { data := #[] }, .slice ap19 0 cp19] 35 (0, 0)) := by rw [hww9, hpw9]; exact heap_last
              have hzw9 : w9.heap.size = p19 + 1 := by rw [hww9, hpw9]; simp
              clear hww9 hpw9
              have HS9 := Lib.hid hbw9
              have HN9 := Lib.hid (below_down HNs.out hbw9 (Nat.le_refl _))
              have HP5_9 := Lib.hid ((hbw9.block _ l5s).trans HP5s.out)
              have HP6_9 := Lib.hid ((hbw9.block _ l6s).trans HP6s.out)
              have q5_9 := fun o => cell_of HP5_9.out o
              have q6_9 := fun o => cell_of HP6_9.out o
              have HY9 := Lib.hid (below_down HY7.out (below_down hbw8 hdw9 (Nat.le_refl _)) (Nat.le_refl _))
              clear hbw8 hbw9 hdw9 hxw9 hzw9
              go_upto_region 23 with fail
              obtain ⟨wA, hwwA⟩ : ∃ u, u = w9.alloc (.cells #[.int .i64 x.k, .bool x.b, .int .i64 x.n, .string x.t, .slice ax x.l.length cx, .int .i64 y.k, .bool y.b, .int .i64 y.n, .string y.t, .slice ay y.l.length cy] 35) := ⟨_, rfl⟩
              rw [← hwwA]
              obtain ⟨g22, hpwA⟩ : ∃ u, u = w9.heap.size := ⟨_, rfl⟩
              try rw [← hpwA]
              have hdwA : Below w9.heap.size w9 wA := by rw [hwwA]; exact (Below.refl _ _).alloc (Nat.le_refl _) _
              have hbwA : Below ws.heap.size ws wA := below_down (HS9.out) hdwA (Nat.le_refl _)
              have hxwA : wA.heap[g22]? = some (.cells #[.int .i64 x.k, .bool x.b, .int .i64 x.n, .string x.t, .slice ax x.l.length cx, .int .i64 y.k, .bool y.b, .int .i64 y.n, .string y.t, .slice ay y.l.length cy] 35 (0, 0)) := by rw [hwwA, hpwA]; exact heap_last
              have hzwA : wA.heap.size = g22 + 1 := by rw [hwwA, hpwA]; simp
              clear hwwA hpwA
              obtain ⟨wB, hwwB⟩ : ∃ u, u = wA.alloc (.cells #[.int .i64 4, .bool false, .int .i64 0, .string { data := #[] }, .slice (some ⟨g22, 0, none⟩) 2 2] 35) := ⟨_, rfl⟩
              rw [← hwwB]
              obtain ⟨p21, hpwB⟩ : ∃ u, u = g22 + 1 := ⟨_, rfl⟩
              try rw [← hpwB]
              have hdwB : Below wA.heap.size wA wB := by rw [hwwB]; exact (Below.refl _ _).alloc (Nat.le_refl _) _
              have hbwB : Below ws.heap.size ws wB := below_down (hbwA) hdwB (Nat.le_refl _)
              have hxwB : wB.heap[p21]? = some (.cells #[.int .i64 4, .bool false, .int .i64 0, .string { data := #[] }, .slice (some ⟨g22, 0, none⟩) 2 2] 35 (0, 0)) := by rw [hwwB, hpwB, ← hzwA]; exact heap_last
              have hzwB : wB.heap.size = p21 + 1 := by rw [hwwB, hpwB, ← hzwA]; simp
              clear hwwB hpwB
              have HLA := isL_two (B := B) (x := x) (y := y) (by have := hBs; have := HS9.out.size; have := hdwA.size; omega) hxwA (isL_below HXs.out hbwA hBs) (isL_below HYs.out hbwA hBs)
              have HLB := Lib.hid (isL_wide (isL_below HLA hdwB (by omega)) (Nat.le_refl _) (by have := hdwB.size; omega : g22 + 1 ≤ wB.heap.size))
              have HP21 := Lib.hid hxwB
              have q21 := fun o => cell_of HP21.out o
              have HSB := Lib.hid hbwB
              have HRB2 := Lib.hid (below_down HRd.out (below_down HNs.out hbwB (Nat.le_refl _)) (Nat.le_refl _))
              have H9B := Lib.hid (below_down hdwA hdwB (Nat.le_refl _))
              clear HLA hxwA hdwA hbwA hzwA hxwB hdwB hbwB hzwB q5_9 q6_9
              go_wp2_with fail
              refine (vCheck_any (listG [x, y]) HGF.out (.slice (some ⟨g22, 0, none⟩) 2 2) wB wB.heap.size (Nat.le_refl _) HLB.out).mono ?_
              rw [HV.out]
              rintro e wC ⟨rfl, hbC⟩
              have HRC := Lib.hid (below_down HRB2.out hbC (Nat.le_refl _))
              have HBC := Lib.hid hbC
              clear hbC q21
              go_wp2_with fail
              go_roundw
              case rel => exact ⟨k + 1, by omega, by omega, by go_num, below_down HB.out HRC.out (Nat.le_refl _), below_down HBE.out HRC.out (Nat.le_refl _), (HRC.out.block _ hz).trans hbox.out⟩
              case measure => simp [intOf]; omega
            · have HV := Lib.hid hv
              clear hv
              go_wp2_with fail
              refine (veval_any (envP W) (envP_fit fW) (.agg #[.pointer (some ⟨be, 0, none⟩)]) w3.heap.size (listE [litE x, litE y]) HFL.out 9 (.slice none 0 0) (.slice (some ⟨g14, 0, none⟩) 2 2) ws ws.heap.size (Nat.le_refl _) HKs.out.size (isL_nil _ _) HTX.out (HE3.out.keep HKs.out)).mono ?_
              rw [list_law (envP W) x y HVX.out HVY.out, if_pos HV.out]
              rintro e wt ⟨ap15, cp15, rfl, hrp15, hbwt⟩
              have HLp15 : Hid (isL wt 0 wt.heap.size (.slice ap15 2 cp15) [x, y]) := isR_isL hrp15 (fun b hb => ⟨Nat.zero_le _, hb.2⟩)
              clear hrp15
              simp only [GV.agg, listG, List.length_cons, List.length_nil, Nat.zero_add, Nat.reduceAdd]
              go_upto_region 20 with fail
              obtain ⟨wu, hwwu⟩ : ∃ u, u = wt.alloc (.cells #[.int .i64 4, .bool false, .int .i64 0, .string { data := #[] }, .slice ap15 2 cp15] 35) := ⟨_, rfl⟩
              rw [← hwwu]
              obtain ⟨p15, hpwu⟩ : ∃ u, u = wt.heap.size := ⟨_, rfl⟩
              try rw [← hpwu]
              have hdwu : Below wt.heap.size wt wu := by rw [hwwu]; exact (Below.refl _ _).alloc (Nat.le_refl _) _
              have hbwu : Below wd.heap.size wd wu := below_down (below_down HNs.out hbwt (Nat.le_refl _)) hdwu (Nat.le_refl _)
              have hxwu : wu.heap[p15]? = some (.cells #[.int .i64 4, .bool false, .int .i64 0, .string { data := #[] }, .slice ap15 2 cp15] 35 (0, 0)) := by rw [hwwu, hpwu]; exact heap_last
              have hzwu : wu.heap.size = p15 + 1 := by rw [hwwu, hpwu]; simp
              clear hwwu hpwu
              have hsu : Below ws.heap.size ws wu := below_down hbwt hdwu (Nat.le_refl _)
              have HSU := Lib.hid hsu
              have HL15u := Lib.hid (isL_wide (isL_below HLp15.out hdwu (Nat.le_refl _)) (Nat.le_refl _) hdwu.size)
              have HP15u := Lib.hid hxwu
              have l15u : p15 < wu.heap.size := by omega
              have HNu := Lib.hid hbwu
              have HP14u := Lib.hid ((hsu.block _ l14).trans HP14.out)
              have q14u := fun o => cell_of HP14u.out o
              have l14u : p14 < wu.heap.size := Nat.lt_of_lt_of_le l14 hsu.size
              clear hsu hbwt hdwu hbwu hxwu hzwu q14
              go_wp2_with fail
              obtain ⟨wv, hwwv⟩ : ∃ u, u = wu.alloc (.cells #[.int .i64 5, .string { data := #[] }, .int .i64 0, .bool false, .int .i64 0, .string { data := #[] }, .slice none 0 0, .slice (some ⟨g14, 0, none⟩) 2 2] 40) := ⟨_, rfl⟩
              rw [← hwwv]
              obtain ⟨g20, hpwv⟩ : ∃ u, u = wu.heap.size := ⟨_, rfl⟩
              try rw [← hpwv]
              have hdwv : Below wu.heap.size wu wv := by rw [hwwv]; exact (Below.refl _ _).alloc (Nat.le_refl _) _
              have hbwv : Below ws.heap.size ws wv := below_down (HSU.out) hdwv (Nat.le_refl _)
              have hxwv : wv.heap[g20]? = some (.cells #[.int .i64 5, .string { data := #[] }, .int .i64 0, .bool false, .int .i64 0, .string { data := #[] }, .slice none 0 0, .slice (some ⟨g14, 0, none⟩) 2 2] 40 (0, 0)) := by rw [hwwv, hpwv]; exact heap_last
              have hzwv : wv.heap.size = g20 + 1 := by rw [hwwv, hpwv]; simp
              clear hwwv hpwv
              have HTV := Lib.hid (isX_wide (isX_below HTX.out hbwv (Nat.le_refl _)) hbwv.size)
              have HTS := Lib.hid (isX_single (x := (listE [litE x, litE y])) hxwv (by omega : g20 < wv.heap.size) (isL_nil _ _) HTV.out)
              have HNv := Lib.hid (below_down HNs.out hbwv (Nat.le_refl _))
              have HSV := Lib.hid hbwv
              have HUV := Lib.hid hdwv
              clear hbwv hdwv hxwv hzwv q14u
              have HKv := Lib.hid (HKwd.out.trans (HNv.out.mono HKwd.out.size))
              refine (veval_any (envP W) (envP_fit fW) (.agg #[.pointer (some ⟨be, 0, none⟩)]) w3.heap.size (sizE (listE [litE x, litE y])) (size_fit1 HFL.out) 9 (.slice none 0 0) (.slice (some ⟨g20, 0, none⟩) 1 1) wv wv.heap.size (Nat.le_refl _) HKv.out.size (isL_nil _ _) HTS.out (HE3.out.keep HKv.out)).mono ?_
              rw [size_law (envP W) x y HVX.out HVY.out, if_pos HV.out]
              rintro e wx ⟨ap17, cp17, rfl, hrp17, hbwx⟩
              clear hrp17
              simp only [GV.agg, numV, emp_eq, List.length_nil]
              go_upto_region 21 with fail
              obtain ⟨wy, hwwy⟩ : ∃ u, u = wx.alloc (.cells #[.int .i64 2, .bool false, .int .i64 2, .string { data := #[] }, .slice ap17 0 cp17] 35) := ⟨_, rfl⟩
              rw [← hwwy]
              obtain ⟨p17, hpwy⟩ : ∃ u, u = wx.heap.size := ⟨_, rfl⟩
              try rw [← hpwy]
              have hdwy : Below wx.heap.size wx wy := by rw [hwwy]; exact (Below.refl _ _).alloc (Nat.le_refl _) _
              have hbwy : Below ws.heap.size ws wy := below_down (below_down HSV.out hbwx (Nat.le_refl _)) hdwy (Nat.le_refl _)
              have hxwy : wy.heap[p17]? = some (.cells #[.int .i64 2, .bool false, .int .i64 2, .string { data := #[] }, .slice ap17 0 cp17] 35 (0, 0)) := by rw [hwwy, hpwy]; exact heap_last
              have hzwy : wy.heap.size = p17 + 1 := by rw [hwwy, hpwy]; simp
              clear hwwy hpwy
              have HSY2 := Lib.hid hbwy
              have HNy := Lib.hid (below_down HNs.out hbwy (Nat.le_refl _))
              have HP14y := Lib.hid ((hbwy.block _ l14).trans HP14.out)
              have q14y := fun o => cell_of HP14y.out o
              have l14y : p14 < wy.heap.size := Nat.lt_of_lt_of_le l14 hbwy.size
              have HP8y := Lib.hid ((hbwy.block _ l8s).trans HP8s.out)
              have q8y := fun o => cell_of HP8y.out o
              have HUY := Lib.hid (below_down HUV.out (below_down hbwx hdwy (Nat.le_refl _)) (Nat.le_refl _))
              have HP17y := Lib.hid hxwy
              have l17y : p17 < wy.heap.size := by omega
              clear hbwx hbwy hdwy hxwy hzwy
              have HKy := Lib.hid (HKwd.out.trans (HNy.out.mono HKwd.out.size))
              have HTY := Lib.hid (isX_below HTX.out HSY2.out (Nat.le_refl _))
              have HYY := Lib.hid (isL_below (isL_wide HYs.out (Nat.le_refl _) hBs) HSY2.out (Nat.le_refl _))
              go_wp2_with fail
              refine (two_raw 22 (listE [litE x, litE y]) (litE y) (.slice none 0 0) (.slice (some ⟨g14, 0, none⟩) 2 2) (.slice ay y.l.length cy) (.slice none 0 0) wy ws.heap.size HSY2.out.size (isL_nil _ _) HTY.out HYY.out (isX_nil5 _ _)).mono ?_
              rintro e w7 ⟨g21, rfl, hg3, hp3, hb3⟩
              have HT7 := Lib.hid (pair_up hb3 hp3 HSY2.out.size (isL_nil _ _) HTY.out HYY.out (isX_nil5 _ _))
              have HS7 := Lib.hid (below_down HSY2.out hb3 (Nat.le_refl _))
              have HY7 := Lib.hid hb3
              have HN7 := Lib.hid (below_down HNs.out HS7.out (Nat.le_refl _))
              clear hg3 hp3 hb3 q14y q8y
              simp only [GE.agg, twoE, noV, emp_eq]
              go_wp2_with fail
              have HK7 := Lib.hid (HKwd.out.trans (HN7.out.mono HKwd.out.size))
              refine (veval_any (envP W) (envP_fit fW) (.agg #[.pointer (some ⟨be, 0, none⟩)]) w3.heap.size (twoE 22 (listE [litE x, litE y]) (litE y)) (two_fit 22 _ _ (by omega) HFL.out (lit_fit HFY.out)) 9 (.slice none 0 0) (.slice (some ⟨g21, 0, none⟩) 2 2) w7 w7.heap.size (Nat.le_refl _) HK7.out.size (isL_nil _ _) HT7.out (HE3.out.keep HK7.out)).mono ?_
              rw [has_law (envP W) x y HVX.out HVY.out, if_pos HV.out]
              rintro e w8 ⟨ap19, cp19, rfl, hrp19, hbw8⟩
              clear hrp19
              simp only [GV.agg, booV, emp_eq, List.length_nil]
              go_upto_region 22 with fail
              obtain ⟨w9, hww9⟩ : ∃ u, u = w8.alloc (.cells #[.int .i64 1, .bool true, .int .i64 0, .string { data := #[] }, .slice ap19 0 cp19] 35) := ⟨_, rfl⟩
              rw [← hww9]
              obtain ⟨p19, hpw9⟩ : ∃ u, u = w8.heap.size := ⟨_, rfl⟩
              try rw [← hpw9]
              have hdw9 : Below w8.heap.size w8 w9 := by rw [hww9]; exact (Below.refl _ _).alloc (Nat.le_refl _) _
              have hbw9 : Below ws.heap.size ws w9 := below_down (below_down HS7.out hbw8 (Nat.le_refl _)) hdw9 (Nat.le_refl _)
              have hxw9 : w9.heap[p19]? = some (.cells #[.int .i64 1, .bool true, .int .i64 0, .string { data := #[] }, .slice ap19 0 cp19] 35 (0, 0)) := by rw [hww9, hpw9]; exact heap_last
              have hzw9 : w9.heap.size = p19 + 1 := by rw [hww9, hpw9]; simp
              clear hww9 hpw9
              have HS9 := Lib.hid hbw9
              have HN9 := Lib.hid (below_down HNs.out hbw9 (Nat.le_refl _))
              have HP5_9 := Lib.hid ((hbw9.block _ l5s).trans HP5s.out)
              have HP6_9 := Lib.hid ((hbw9.block _ l6s).trans HP6s.out)
              have q5_9 := fun o => cell_of HP5_9.out o
              have q6_9 := fun o => cell_of HP6_9.out o
              have HY9 := Lib.hid (below_down HY7.out (below_down hbw8 hdw9 (Nat.le_refl _)) (Nat.le_refl _))
              have HP19 := Lib.hid hxw9
              have l19 : p19 < w9.heap.size := by omega
              clear hbw8 hbw9 hdw9 hxw9 hzw9
              go_upto_region 23 with fail
              obtain ⟨wA, hwwA⟩ : ∃ u, u = w9.alloc (.cells #[.int .i64 x.k, .bool x.b, .int .i64 x.n, .string x.t, .slice ax x.l.length cx, .int .i64 y.k, .bool y.b, .int .i64 y.n, .string y.t, .slice ay y.l.length cy] 35) := ⟨_, rfl⟩
              rw [← hwwA]
              obtain ⟨g22, hpwA⟩ : ∃ u, u = w9.heap.size := ⟨_, rfl⟩
              try rw [← hpwA]
              have hdwA : Below w9.heap.size w9 wA := by rw [hwwA]; exact (Below.refl _ _).alloc (Nat.le_refl _) _
              have hbwA : Below ws.heap.size ws wA := below_down (HS9.out) hdwA (Nat.le_refl _)
              have hxwA : wA.heap[g22]? = some (.cells #[.int .i64 x.k, .bool x.b, .int .i64 x.n, .string x.t, .slice ax x.l.length cx, .int .i64 y.k, .bool y.b, .int .i64 y.n, .string y.t, .slice ay y.l.length cy] 35 (0, 0)) := by rw [hwwA, hpwA]; exact heap_last
              have hzwA : wA.heap.size = g22 + 1 := by rw [hwwA, hpwA]; simp
              clear hwwA hpwA
              obtain ⟨wB, hwwB⟩ : ∃ u, u = wA.alloc (.cells #[.int .i64 4, .bool false, .int .i64 0, .string { data := #[] }, .slice (some ⟨g22, 0, none⟩) 2 2] 35) := ⟨_, rfl⟩
              rw [← hwwB]
              obtain ⟨p21, hpwB⟩ : ∃ u, u = g22 + 1 := ⟨_, rfl⟩
              try rw [← hpwB]
              have hdwB : Below wA.heap.size wA wB := by rw [hwwB]; exact (Below.refl _ _).alloc (Nat.le_refl _) _
              have hbwB : Below ws.heap.size ws wB := below_down (hbwA) hdwB (Nat.le_refl _)
              have hxwB : wB.heap[p21]? = some (.cells #[.int .i64 4, .bool false, .int .i64 0, .string { data := #[] }, .slice (some ⟨g22, 0, none⟩) 2 2] 35 (0, 0)) := by rw [hwwB, hpwB, ← hzwA]; exact heap_last
              have hzwB : wB.heap.size = p21 + 1 := by rw [hwwB, hpwB, ← hzwA]; simp
              clear hwwB hpwB
              have HLA := isL_two (B := B) (x := x) (y := y) (by have := hBs; have := HS9.out.size; have := hdwA.size; omega) hxwA (isL_below HXs.out hbwA hBs) (isL_below HYs.out hbwA hBs)
              have HLB := Lib.hid (isL_wide (isL_below HLA hdwB (by omega)) (Nat.le_refl _) (by have := hdwB.size; omega : g22 + 1 ≤ wB.heap.size))
              have HP21 := Lib.hid hxwB
              have q21 := fun o => cell_of HP21.out o
              have HSB := Lib.hid hbwB
              have HRB2 := Lib.hid (below_down HRd.out (below_down HNs.out hbwB (Nat.le_refl _)) (Nat.le_refl _))
              have H9B := Lib.hid (below_down hdwA hdwB (Nat.le_refl _))
              clear HLA hxwA hdwA hbwA hzwA hxwB hdwB hbwB hzwB q5_9 q6_9
              go_wp2_with fail
              refine (vCheck_any (listG [x, y]) HGF.out (.slice (some ⟨g22, 0, none⟩) 2 2) wB wB.heap.size (Nat.le_refl _) HLB.out).mono ?_
              rw [HV.out]
              rintro e wC ⟨rfl, hbC⟩
              have HRC := Lib.hid (below_down HRB2.out hbC (Nat.le_refl _))
              have HBC := Lib.hid hbC
              clear hbC q21
              have h9C := below_down H9B.out HBC.out (Nat.le_refl _)
              have hyC := below_down HY9.out h9C (Nat.le_refl _)
              have huC := below_down HUY.out hyC (Nat.le_refl _)
              have HP15C := Lib.hid ((huC.block _ l15u).trans HP15u.out)
              have HP17C := Lib.hid ((hyC.block _ l17y).trans HP17y.out)
              have HP19C := Lib.hid ((h9C.block _ l19).trans HP19.out)
              have HP21C := Lib.hid ((HBC.out.block _ (Array.getElem?_eq_some_iff.1 HP21.out).1).trans HP21.out)
              have HL15C := Lib.hid (isL_wide (isL_below HL15u.out huC (Nat.le_refl _)) (Nat.le_refl _) huC.size)
              have HLBC := Lib.hid (isL_wide (isL_below HLB.out HBC.out (Nat.le_refl _)) (Nat.le_refl _) HBC.out.size)
              have l17C : p17 < wC.heap.size := (Array.getElem?_eq_some_iff.1 HP17C.out).1
              have l19C : p19 < wC.heap.size := (Array.getElem?_eq_some_iff.1 HP19C.out).1
              have q15 := fun o => cell_of HP15C.out o
              have q17 := fun o => cell_of HP17C.out o
              have q19 := fun o => cell_of HP19C.out o
              have q21 := fun o => cell_of HP21C.out o
              clear h9C hyC huC
              go_wp2_with fail
              refine (zSame_any (listG [x, y]) (listG [x, y]) HGF.out HGF.out (.slice ap15 2 cp15) (.slice (some ⟨g22, 0, none⟩) 2 2) wC wC.heap.size (Nat.le_refl _) HL15C.out HLBC.out).mono ?_
              rw [(same_iff (listG [x, y]) (listG [x, y])).2 rfl]
              rintro e wD ⟨rfl, hbD⟩
              have HRD := Lib.hid (below_down HRC.out hbD (Nat.le_refl _))
              have HP17D := Lib.hid ((hbD.block _ l17C).trans HP17C.out)
              have HP19D := Lib.hid ((hbD.block _ l19C).trans HP19C.out)
              have q17D := fun o => cell_of HP17D.out o
              have q19D := fun o => cell_of HP19D.out o
              clear hbD q15 q17 q19 q21
              go_wp2_with fail
              go_roundw
              case rel => exact ⟨k + 1, by omega, by omega, by go_num, below_down HB.out HRD.out (Nat.le_refl _), below_down HBE.out HRD.out (Nat.le_refl _), (HRD.out.block _ hz).trans hbox.out⟩
              case measure => simp [intOf]; omega
          by_cases h21 : op = 21
          · subst h21
            go_wp2_with fail
            go_roundw
            case rel => exact ⟨22, by omega, by omega, by go_num, HNq.out⟩
            case measure => simp [intOf]
          have hi2 : isOp2 (op : Int) := by unfold isOp2; omega
          have HI2 := Lib.hid hi2
          clear hi2
          obtain ⟨rv, re, hr⟩ : ∃ u e, applyP op [x, y] = (u, e) := ⟨_, _, rfl⟩
          have HR := Lib.hid hr
          clear hr
          have HRF : Hid (rv.fit) := by have := applyP_fit op [x, y] ⟨HFX.out, HFY.out, trivial⟩; rw [HR.out] at this; exact this
          go_wp2_with fail
          refine (two_raw op (litE x) (litE y) (.slice ax x.l.length cx) (.slice none 0 0) (.slice ay y.l.length cy) (.slice none 0 0) wq B hBq HXq.out (isX_nil5 _ _) HYq.out (isX_nil5 _ _)).mono ?_
          rintro e wt ⟨g, rfl, hg3, hp3, hb3⟩
          have HTX := Lib.hid (pair_up hb3 hp3 hBq HXq.out (isX_nil5 _ _) HYq.out (isX_nil5 _ _))
          have HKt : Hid (Below w3.heap.size w3 wt) := HKq.out.trans (hb3.mono HKq.out.size)
          have HNt := Lib.hid (below_down HNq.out hb3 (Nat.le_refl _))
          clear hg3 hp3 hb3
          simp only [GE.agg, twoE, noV, emp_eq]
          go_wp2_with fail
          refine (veval_any (envP W) (envP_fit fW) (.agg #[.pointer (some ⟨be, 0, none⟩)]) w3.heap.size (twoE op (litE x) (litE y)) (two_fit op _ _ (by omega) (lit_fit HFX.out) (lit_fit HFY.out)) 9 (.slice none 0 0) (.slice (some ⟨g, 0, none⟩) 2 2) wt wt.heap.size (Nat.le_refl _) HKt.out.size (isL_nil _ _) HTX.out (HE3.out.keep HKt.out)).mono ?_
          rw [apply_law (envP W) HI2.out x y HVX.out HVY.out, HR.out]
          rintro e wu ⟨a1, c1, rfl, hr1, hbu⟩
          have HL1 := Lib.hid (isR_isL hr1 (lo := 0) (hi := wu.heap.size) (fun b hb => ⟨Nat.zero_le _, hb.2⟩))
          clear hr1
          simp only [GV.agg]
          go_upto_region 15 with fail
          obtain ⟨wv, hwwv⟩ : ∃ u, u = wu.alloc (.cells #[.int .i64 rv.k, .bool rv.b, .int .i64 rv.n, .string rv.t, .slice a1 rv.l.length c1] 35) := ⟨_, rfl⟩
          rw [← hwwv]
          obtain ⟨p10, hpwv⟩ : ∃ u, u = wu.heap.size := ⟨_, rfl⟩
          try rw [← hpwv]
          have hdwv : Below wu.heap.size wu wv := by rw [hwwv]; exact (Below.refl _ _).alloc (Nat.le_refl _) _
          have hbwv : Below wd.heap.size wd wv := below_down (below_down HNt.out hbu (Nat.le_refl _)) hdwv (Nat.le_refl _)
          have hxwv : wv.heap[p10]? = some (.cells #[.int .i64 rv.k, .bool rv.b, .int .i64 rv.n, .string rv.t, .slice a1 rv.l.length c1] 35 (0, 0)) := by rw [hwwv, hpwv]; exact heap_last
          have hzwv : wv.heap.size = p10 + 1 := by rw [hwwv, hpwv]; simp
          clear hwwv hpwv
          have HQ10 := Lib.hid hxwv
          have l10 : p10 < wv.heap.size := (Array.getElem?_eq_some_iff.1 hxwv).1
          have HL1v := Lib.hid (isL_wide (isL_below HL1.out hdwv (Nat.le_refl _)) (Nat.le_refl _) hdwv.size)
          clear hxwv hbu HL1 q5q q6q q7q q8q hdwv hzwv
          have HNv : Hid (Below wd.heap.size wd wv) := hbwv
          have HP5v := Lib.hid ((HNv.out.block _ l5wd).trans HP5wd.out)
          have q5v := fun o => cell_of HP5v.out o
          have l5v : p5 < wv.heap.size := Nat.lt_of_lt_of_le l5wd HNv.out.size
          have HP6v := Lib.hid ((HNv.out.block _ l6wd).trans HP6wd.out)
          have q6v := fun o => cell_of HP6v.out o
          have l6v : p6 < wv.heap.size := Nat.lt_of_lt_of_le l6wd HNv.out.size
          have HXv := Lib.hid (isL_below HXwd.out HNv.out hBwd)
          have HYv := Lib.hid (isL_below HYwd.out HNv.out hBwd)
          have hBv : B ≤ wv.heap.size := Nat.le_trans hBwd HNv.out.size
          clear hbwv
          go_wp2_with fail
          obtain ⟨ww, hwww⟩ : ∃ u, u = wv.alloc (.cells #[.int .i64 x.k, .bool x.b, .int .i64 x.n, .string x.t, .slice ax x.l.length cx, .int .i64 y.k, .bool y.b, .int .i64 y.n, .string y.t, .slice ay y.l.length cy] 35) := ⟨_, rfl⟩
          rw [← hwww]
          obtain ⟨pa, hpww⟩ : ∃ u, u = wv.heap.size := ⟨_, rfl⟩
          try rw [← hpww]
          have hdww : Below wv.heap.size wv ww := by rw [hwww]; exact (Below.refl _ _).alloc (Nat.le_refl _) _
          have hbww : Below wd.heap.size wd ww := below_down (HNv.out) hdww (Nat.le_refl _)
          have hxww : ww.heap[pa]? = some (.cells #[.int .i64 x.k, .bool x.b, .int .i64 x.n, .string x.t, .slice ax x.l.length cx, .int .i64 y.k, .bool y.b, .int .i64 y.n, .string y.t, .slice ay y.l.length cy] 35 (0, 0)) := by rw [hwww, hpww]; exact heap_last
          have hzww : ww.heap.size = pa + 1 := by rw [hwww, hpww]; simp
          clear hwww hpww
          have HLW := Lib.hid (isL_two (B := B) (x := x) (y := y) (by have := hBv; have := hdww.size; omega) hxww (isL_below HXwd.out hbww hBwd) (isL_below HYwd.out hbww hBwd))
          have HNw := Lib.hid hbww
          have HDW := Lib.hid hdww
          have hpa : pa + 1 ≤ ww.heap.size := by omega
          clear hxww hbww hdww hzww q5v q6v
          refine (apply_any op [x, y] (by simp) ⟨HFX.out, HFY.out, trivial⟩ (.slice (some ⟨pa, 0, none⟩) 2 2) ww (pa + 1) hpa HLW.out).mono ?_
          rw [HR.out]
          rintro e wx ⟨a2, c2, rfl, hr2, hbx⟩
          have HL2 := Lib.hid (isR_isL hr2 (lo := 0) (hi := wx.heap.size) (fun b hb => ⟨Nat.zero_le _, hb.2⟩))
          clear hr2
          simp only [GV.agg]
          go_upto_region 16 with fail
          obtain ⟨wy, hwwy⟩ : ∃ u, u = wx.alloc (.cells #[.int .i64 rv.k, .bool rv.b, .int .i64 rv.n, .string rv.t, .slice a2 rv.l.length c2] 35) := ⟨_, rfl⟩
          rw [← hwwy]
          obtain ⟨p12, hpwy⟩ : ∃ u, u = wx.heap.size := ⟨_, rfl⟩
          try rw [← hpwy]
          have hdwy : Below wx.heap.size wx wy := by rw [hwwy]; exact (Below.refl _ _).alloc (Nat.le_refl _) _
          have hbwy : Below wd.heap.size wd wy := below_down (below_down HNw.out hbx (Nat.le_refl _)) hdwy (Nat.le_refl _)
          have hxwy : wy.heap[p12]? = some (.cells #[.int .i64 rv.k, .bool rv.b, .int .i64 rv.n, .string rv.t, .slice a2 rv.l.length c2] 35 (0, 0)) := by rw [hwwy, hpwy]; exact heap_last
          have hzwy : wy.heap.size = p12 + 1 := by rw [hwwy, hpwy]; simp
          clear hwwy hpwy
          have hbvy : Below wv.heap.size wv wy := below_down HDW.out (below_down hbx hdwy (Nat.le_refl _)) (Nat.le_refl _)
          have HL1y := Lib.hid (isL_wide (isL_below HL1v.out hbvy (Nat.le_refl _)) (Nat.le_refl _) hbvy.size)
          have HL2y := Lib.hid (isL_wide (isL_below HL2.out hdwy (Nat.le_refl _)) (Nat.le_refl _) hdwy.size)
          have HQ10y := Lib.hid ((hbvy.block _ l10).trans HQ10.out)
          have HQ12y := Lib.hid hxwy
          have HNy := Lib.hid hbwy
          have q10 := fun o => cell_of HQ10y.out o
          have q12 := fun o => cell_of HQ12y.out o
          clear hbvy hbwy hdwy hxwy hzwy hbx HL1v HL2
          go_wp2_with fail
          refine (zSame_any rv rv HRF.out HRF.out (.slice a1 rv.l.length c1) (.slice a2 rv.l.length c2) wy wy.heap.size (Nat.le_refl _) HL1y.out HL2y.out).mono ?_
          rw [(same_iff rv rv).2 rfl]
          rintro e wz ⟨rfl, hbz⟩
          have HNz := Lib.hid (below_down HNy.out hbz (Nat.le_refl _))
          clear hbz q10 q12
          go_wp2_with fail
          go_roundw
          case rel => exact ⟨op + 1, by omega, by omega, by go_num, HNz.out⟩
          case measure => simp [intOf]; omega
end Go.Proofs.Ytljljhjdlicfeaa
