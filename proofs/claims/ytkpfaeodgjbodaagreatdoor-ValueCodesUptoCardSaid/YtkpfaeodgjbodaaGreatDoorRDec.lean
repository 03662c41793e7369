/-
  The reference's Decode tells what decP tells. Conditions: fewer than 2^31 bytes.
-/
import Derived.Test.YtkpfaeodgjbodaaGreatDoorRRdA
import Derived.Test.YtkpfaeodgjbodaaGreatDoorDec
import Derived.Test.YtkpfaeodgjbodaaGreatDoorME
namespace Go.Proofs.YtkpfaeodgjbodaaGreatDoor
open Go Go.RowKit
set_option maxRecDepth 100000
set_option linter.unusedVariables false
theorem rNo_d (n : Int) (w : World) : Calls Tryz.prog 23 #[.int .i64 n] w fun e w' => e = .returned (.tuple #[.agg #[.int .i64 0, .bool false, .int .i64 0, .string { data := #[] }, .slice none 0 0], .int .i64 n]) ∧ Below w.heap.size w w' := by
  go_enter Tryz.func23, Tryz.ntmps23
  go_wp2_with fail
  refine bodyPost_ret (v := .tuple #[.agg #[.int .i64 0, .bool false, .int .i64 0, .string { data := #[] }, .slice none 0 0], .int .i64 n]) (by simp [results, Tryz.results23, go_sem]) rfl ⟨rfl, ?_⟩
  exact (Below.refl _ _).alloc (Nat.le_refl _) _
set_option maxHeartbeats 3200000 in
theorem rdecode_any (hi : Nat) (a : Option Addr) (c : Nat) (bs : List Nat) (w : World) (hhi : hi ≤ w.heap.size) (hB : isB w hi a bs) (hc : bs.length ≤ c) (hb : ∀ b ∈ bs, b < 256) (hl : bs.length ≤ 2147483647) :
    Calls Tryz.prog 10 #[.slice a bs.length c] w (DecO w (decP bs)) := by
  have HB := Lib.hid hB
  have HBY := Lib.hid hb
  have HRD := Lib.hid (rr_all 31 0 rfl)
  obtain ⟨R, hR⟩ : ∃ R, R = decP bs := ⟨_, rfl⟩
  rw [← hR]
  have HRR := Lib.hid hR
  clear hB hb hR
  go_enter Tryz.func10, Tryz.ntmps10
  go_upto_region 1 with fail
  obtain ⟨w0, hw0⟩ : ∃ v, v = w.alloc (.cells #[.int .i64 0, .bool false, .int .i64 0, .string { data := #[] }, .slice none 0 0] 33) := ⟨_, rfl⟩
  have hb0 : Below w.heap.size w w0 := by rw [hw0]; exact (Below.refl _ _).alloc (Nat.le_refl _) _
  have hx0 : w0.heap[w.heap.size]? = some (.cells #[.int .i64 0, .bool false, .int .i64 0, .string { data := #[] }, .slice none 0 0] 33 (0, 0)) := by rw [hw0]; exact heap_last
  have l0 : w.heap.size < w0.heap.size := (Array.getElem?_eq_some_iff.1 hx0).1
  rw [← hw0]
  clear hw0
  go_upto_region 2 with fail
  obtain ⟨w1, hw1⟩ : ∃ v, v = w0.alloc (.cells #[.slice a bs.length c, .bool false] 53) := ⟨_, rfl⟩
  have hb1 : Below w0.heap.size w0 w1 := by rw [hw1]; exact (Below.refl _ _).alloc (Nat.le_refl _) _
  have hr1 : w1.heap[w0.heap.size]? = some (.cells #[.slice a bs.length c, .bool false] 53 (0, 0)) := by rw [hw1]; exact heap_last
  rw [← hw1]
  obtain ⟨rb, hrb⟩ : ∃ b, b = w0.heap.size := ⟨_, rfl⟩
  rw [← hrb] at hr1 ⊢
  have HRB := Lib.hid (show w.heap.size < rb by omega)
  have l1 : rb < w1.heap.size := (Array.getElem?_eq_some_iff.1 hr1).1
  have HL1 := Lib.hid l1
  have HX1 := Lib.hid ((hb1.block _ l0).trans hx0)
  have HBW1 := Lib.hid (below_down hb0 hb1 (Nat.le_refl _))
  have HR1 := Lib.hid hr1
  have HB1 : Hid (isB w1 hi a bs) := isB_far HB.out (fun b hb => (hb1.block b (by omega)).trans (hb0.block b (by omega)))
  clear hw1 hb1 hr1 hb0 hx0 hrb l0
  go_wp2_with fail
  refine (HRD.out rb hi a c bs w1 HR1.out (by have := HRB.out; omega) HB1.out hc HBY.out hl).mono ?_
  rintro e w2 ⟨y, ay, cy, rfl, hry, hky, hpy⟩
  have HX2 := Lib.hid (kg_at hky HX1.out (by have := HRB.out; omega))
  have HPY : Hid (RrP w2 rb hi y (rdec 32 bs)) := hpy
  have hbw2 : Below w.heap.size w w2 := ⟨hky.1.trans HBW1.out.os, hky.2.1.trans HBW1.out.tape, hky.2.2.1.trans HBW1.out.output, Nat.le_trans HBW1.out.size hky.2.2.2.1, fun b hb => (hky.2.2.2.2 b (Nat.lt_of_lt_of_le hb HBW1.out.size) (by have := HRB.out; omega)).trans (HBW1.out.block b hb)⟩
  have HBW2 := Lib.hid hbw2
  have HLY : Hid (isL w2 (w.heap.size + 1) w2.heap.size (.slice ay y.l.length cy) y.l) := isR_isL hry (fun b hb => ⟨by have h1 := hb.1; have h2 := HL1.out; have h3 := HRB.out; omega, hb.2⟩)
  have hk12 := hky.2.2.2.1
  simp only [GV.agg]
  clear hry hky hpy hbw2 HR1 HB1
  go_upto_region 3 with fail
  obtain ⟨w3, hw3⟩ : ∃ v, v = w2.alloc (.cells #[.int .i64 y.k, .bool y.b, .int .i64 y.n, .string y.t, .slice ay y.l.length cy] 33) := ⟨_, rfl⟩
  have hb3 : Below w2.heap.size w2 w3 := by rw [hw3]; exact (Below.refl _ _).alloc (Nat.le_refl _) _
  have hx3 : w3.heap[w2.heap.size]? = some (.cells #[.int .i64 y.k, .bool y.b, .int .i64 y.n, .string y.t, .slice ay y.l.length cy] 33 (0, 0)) := by rw [hw3]; exact heap_last
  rw [← hw3]
  obtain ⟨bY, hbY⟩ : ∃ b, b = w2.heap.size := ⟨_, rfl⟩
  rw [← hbY] at hx3 ⊢
  have hA2 : w.heap.size < w2.heap.size := (Array.getElem?_eq_some_iff.1 HX2.out).1
  have HA3 := Lib.hid ((hb3.block _ hA2).trans HX2.out)
  have HY3 := Lib.hid hx3
  have HBW3 := Lib.hid (below_down HBW2.out hb3 (Nat.le_refl _))
  have HLY3 := Lib.hid (isL_wide (isL_below HLY.out hb3 (Nat.le_refl _)) (Nat.le_refl _) hb3.size)
  have HNE := Lib.hid (show w.heap.size < rb ∧ rb < bY ∧ w.heap.size < bY by have := HRB.out; have := HL1.out; omega)
  have p3 := fun o => cell_of HA3.out o
  have fp3 := fun o => frozen_of HA3.out o
  have lp3 : w.heap.size < w3.heap.size := (Array.getElem?_eq_some_iff.1 HA3.out).1
  have y3 := fun o => cell_of hx3 o
  have ly3 : bY < w3.heap.size := (Array.getElem?_eq_some_iff.1 hx3).1
  have rfar : w3.heap[rb]? = w2.heap[rb]? := hb3.block rb (by have := HNE.out; omega)
  have HRF := Lib.hid rfar
  have n1 : w.heap.size ≠ rb := by have := HNE.out; omega
  have n2 : w.heap.size ≠ bY := by have := HNE.out; omega
  have n3 : rb ≠ bY := by have := HNE.out; omega
  clear hw3 hb3 hx3 hbY rfar hA2 hk12
  have hpy := HPY.out
  unfold RrP at hpy
  cases hD : rdec 32 bs with
  | none =>
    rw [hD] at hpy
    obtain ⟨a4, n4, c4, hr4⟩ := hpy
    have HDP : Hid (R = noP 8) := by rw [Hid, HRR.out, ← fin_agree, hD]; rfl
    have HR3 := Lib.hid (HRF.out.trans hr4)
    have r3 := fun o => cell_of HR3.out o
    have lr3 : rb < w3.heap.size := (Array.getElem?_eq_some_iff.1 HR3.out).1
    clear hr4 hD
    go_wp2_with fail
    refine (rNo_d 8 _).mono ?_
    rintro e wN ⟨rfl, hbN⟩
    have HAN := Lib.hid ((hbN.block _ lp3).trans HA3.out)
    have HBN := Lib.hid (below_down HBW3.out hbN (Nat.le_refl _))
    have pN := fun o => cell_of HAN.out o
    have fpN := fun o => frozen_of HAN.out o
    have lpN : w.heap.size < wN.heap.size := (Array.getElem?_eq_some_iff.1 HAN.out).1
    clear hbN p3 fp3
    go_wp2_with fail
    refine bodyPost_ret (v := .tuple #[.agg #[.int .i64 0, .bool false, .int .i64 0, .string { data := #[] }, .slice none 0 0], .int .i64 8]) (by simp [results, Tryz.results10, go_sem, pN]) rfl ?_
    rw [HDP.out]
    exact decO_flat HBN.out (Nat.le_refl _)
  | some p =>
    obtain ⟨v, r⟩ := p
    rw [hD] at hpy
    obtain ⟨rfl, a4, c4, hr4, _, _⟩ := hpy
    have HR3 := Lib.hid (HRF.out.trans hr4)
    have r3 := fun o => cell_of HR3.out o
    have lr3 : rb < w3.heap.size := (Array.getElem?_eq_some_iff.1 HR3.out).1
    cases r with
    | cons c5 r5 =>
      have HDP : Hid (R = noP 8) := by rw [Hid, HRR.out, ← fin_agree, hD]; rfl
      have e1 : decide ((0 : Int) < ((c5 :: r5).length : Int)) = true := by simp
      have e2 : decide (0 < (c5 :: r5).length) = true := by simp
      obtain ⟨L, hL⟩ : ∃ L, L = (c5 :: r5).length := ⟨_, rfl⟩
      rw [← hL] at e1 e2 r3
      have e3 : 0 < L := by rw [hL]; simp
      clear hr4 hD hL
      go_wp2_with fail
      refine (rNo_d 8 _).mono ?_
      rintro e wN ⟨rfl, hbN⟩
      have HAN := Lib.hid ((hbN.block _ lp3).trans HA3.out)
      have HBN := Lib.hid (below_down HBW3.out hbN (Nat.le_refl _))
      have pN := fun o => cell_of HAN.out o
      have fpN := fun o => frozen_of HAN.out o
      have lpN : w.heap.size < wN.heap.size := (Array.getElem?_eq_some_iff.1 HAN.out).1
      clear hbN p3 fp3
      go_wp2_with fail
      refine bodyPost_ret (v := .tuple #[.agg #[.int .i64 0, .bool false, .int .i64 0, .string { data := #[] }, .slice none 0 0], .int .i64 8]) (by simp [results, Tryz.results10, go_sem, pN]) rfl ?_
      rw [HDP.out]
      exact decO_flat HBN.out (Nat.le_refl _)
    | nil =>
      have hfit := (rdec_fit 32 bs y [] hl HBY.out hD).1
      have HCK : Hid (Calls Tryz.prog 19 #[.agg #[.int .i64 y.k, .bool y.b, .int .i64 y.n, .string y.t, .slice ay y.l.length cy]] w3 fun e w' => e = .returned (.bool (vmay y)) ∧ Below w3.heap.size w3 w') := rCheck_any y hfit (.slice ay y.l.length cy) w3 w3.heap.size (Nat.le_refl _) (isL_wide HLY3.out (Nat.zero_le _) (Nat.le_refl _))
      have HDP : Hid (R = if vmay y = true then (y, 0) else noP 8) := by rw [Hid, HRR.out, ← fin_agree, hD]; rfl
      obtain ⟨V, hV⟩ : ∃ V, V = vmay y := ⟨_, rfl⟩
      rw [← hV] at HCK HDP
      clear hr4 hD hV hfit
      simp only [List.length_nil] at r3
      go_wp2_with fail
      refine HCK.out.mono ?_
      rintro e w4 ⟨rfl, hb4⟩
      have HA4 := Lib.hid ((hb4.block _ lp3).trans HA3.out)
      have HY4 := Lib.hid ((hb4.block _ ly3).trans HY3.out)
      have HBW4 := Lib.hid (below_down HBW3.out hb4 (Nat.le_refl _))
      have HLY4 := Lib.hid (isL_wide (isL_below HLY3.out hb4 (Nat.le_refl _)) (Nat.le_refl _) hb4.size)
      have p4 := fun o => cell_of HA4.out o
      have fp4 := fun o => frozen_of HA4.out o
      have lp4 : w.heap.size < w4.heap.size := (Array.getElem?_eq_some_iff.1 HA4.out).1
      have y4 := fun o => cell_of HY4.out o
      have ly4 : bY < w4.heap.size := (Array.getElem?_eq_some_iff.1 HY4.out).1
      clear hb4 p3 fp3 y3 r3
      cases V
      · have HDP : Hid (R = noP 8) := by rw [Hid, HDP.out, if_neg (by simp)]
        go_wp2_with fail
        refine (rNo_d 8 _).mono ?_
        rintro e wN ⟨rfl, hbN⟩
        have HAN := Lib.hid ((hbN.block _ lp4).trans HA4.out)
        have HBN := Lib.hid (below_down HBW4.out hbN (Nat.le_refl _))
        have pN := fun o => cell_of HAN.out o
        have fpN := fun o => frozen_of HAN.out o
        have lpN : w.heap.size < wN.heap.size := (Array.getElem?_eq_some_iff.1 HAN.out).1
        clear hbN p4 fp4
        go_wp2_with fail
        refine bodyPost_ret (v := .tuple #[.agg #[.int .i64 0, .bool false, .int .i64 0, .string { data := #[] }, .slice none 0 0], .int .i64 8]) (by simp [results, Tryz.results10, go_sem, pN]) rfl ?_
        rw [HDP.out]
        exact decO_flat HBN.out (Nat.le_refl _)
      · go_wp2_with fail
        refine bodyPost_ret (v := .tuple #[.agg #[.int .i64 y.k, .bool y.b, .int .i64 y.n, .string y.t, .slice ay y.l.length cy], .int .i64 0]) (by simp [results, Tryz.results10, go_sem, p4]) rfl ?_
        have hdp := HDP.out
        first | rw [if_pos rfl] at hdp | rw [if_pos trivial] at hdp
        rw [hdp]
        exact decO_val HBW4.out (Nat.le_refl _) HLY4.out
end Go.Proofs.YtkpfaeodgjbodaaGreatDoor
