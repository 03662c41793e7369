/-
  proctorref1.Sorted tells the one sorted list. Conditions: lists and texts shorter than 2^31; the values may be.
-/
import Derived.Test.YtaclkegoaajdgaaGreatDoorRowN
import Derived.Test.YtaclkegoaajdgaaGreatDoorAggG
namespace Go.Proofs.YtaclkegoaajdgaaGreatDoor
open Go Go.RowKit
set_option maxRecDepth 100000
set_option linter.unusedVariables false
def InN (w wr : World) (lo g cap : Nat) (l : List GV) (k : Nat) : Prop := ∃ m, Mov 0 l.length l m ∧ srt (vat m) 0 k ∧ rowN wr lo g cap m ∧ Kg g w wr
def JnN (w wr : World) (lo g cap : Nat) (l : List GV) (k j : Nat) : Prop := ∃ m, Mov 0 l.length l m ∧ sinks (vat m) 0 k j ∧ rowN wr lo g cap m ∧ Kg g w wr
set_option maxHeartbeats 1600000 in
theorem rSorted_any (l : List GV) (hl : l.length ≤ 2147483647) (fl : fitL l) (hmay : ∀ x ∈ l, vmay x = true) (s : Value) (w : World) (B : Nat) (hB : B ≤ w.heap.size) (hs : isL w 0 B s l) :
    Calls Tryz.prog 30 #[s] w fun e w' => (∃ v, e = .returned v ∧ isL w' w.heap.size w'.heap.size v (sortG l)) ∧ Below w.heap.size w w' := by
  have HCV := Lib.hid (zCopyVals_own l hl (fun x hx => zCopyValue_any x (fitL_mem fl x hx)) s w B hB hs)
  have HFL := Lib.hid fl
  have HMAY := Lib.hid hmay
  have HL := Lib.hid hl
  clear hs fl hmay hl
  go_enter Tryz.func30, Tryz.ntmps30
  go_wp2_with fail
  refine HCV.out.mono ?_
  rintro e w1 ⟨v, rfl, hown, hb1⟩
  have HB1 := Lib.hid hb1
  by_cases h0 : l.length = 0
  · have HE := Lib.hid (List.eq_nil_of_length_eq_zero h0)
    obtain ⟨a1, c1, rfl⟩ := isS_form (ownL_isR hown)
    rw [h0]
    clear hown hb1 HCV
    go_wp2_with fail
    go_loopw [4] (fun i wr => i = .int .i64 1 ∧ wr = w1) (fun i _ => 0)
    case atStart => exact ⟨rfl, rfl⟩
    case round =>
      obtain ⟨rfl, rfl⟩ := hrel
      go_wp2_with fail
      go_ret
      exact ⟨⟨.slice a1 0 c1, rfl, by rw [HE.out, show sortG [] = [] by simp [sortG]]; exact isL_nil _ _⟩, HB1.out⟩
  obtain ⟨g, cap, rfl, hg, hrow⟩ := rowN_of hown (by omega)
  have HG := Lib.hid hg
  have HR0 : Hid (InN w1 w1 w.heap.size g cap l 1) := ⟨l, Mov.refl _ _ _, fun i j h1 h2 h3 => by omega, hrow, Kg.refl g w1⟩
  obtain ⟨n, hn⟩ : ∃ n, n = l.length := ⟨_, rfl⟩
  rw [← hn] at HL ⊢
  have HN := Lib.hid hn
  have hn0 : 0 < n := by omega
  have HN0 := Lib.hid hn0
  clear hown hb1 hg hrow hn HCV h0 hn0
  go_wp2_with fail
  go_loopw [4] (fun i wr => ∃ k : Nat, Hid (1 ≤ k ∧ k ≤ n) ∧ i = .int .i64 k ∧ Hid (InN w1 wr w.heap.size g cap l k)) (fun i _ => n + 1 - (intOf i).toNat)
  case atStart => exact ⟨1, by have := HN0.out; exact Lib.hid (by omega), rfl, HR0⟩
  case round =>
    obtain ⟨k, HKK, rfl, HR⟩ := hrel
    by_cases hlt : k < n
    rotate_left
    · have d2 : decide (k < n) = false := by simp; omega
      go_wp2_with fail
      go_ret
      obtain ⟨m, h1, h2, h3, h4⟩ := HR.out
      have hk := HKK.out
      have hms : m = sortG l := sort_is HMAY.out h1 (by rw [← HN.out]; exact srt_sub h2 (Nat.le_refl _) (by omega))
      have hml : m.length = n := h1.1.trans HN.out.symm
      have hb := HB1.out
      have hg := HG.out
      refine ⟨⟨.slice (some ⟨g, 0, none⟩) n cap, rfl, ?_⟩, h4.1.trans hb.os, h4.2.1.trans hb.tape, h4.2.2.1.trans hb.output, Nat.le_trans hb.size h4.2.2.2.1, fun b h => (h4.2.2.2.2 b (Nat.lt_of_lt_of_le h hb.size) (by omega)).trans (hb.block b h)⟩
      rw [← hms, ← hml]
      exact rowN_isL h3 hg
    have HJ0 : Hid (JnN w1 wr w.heap.size g cap l k k) := by
      obtain ⟨m, h1, h2, h3, h4⟩ := HR.out
      exact ⟨m, h1, sinks_start h2, h3, h4⟩
    clear HR
    go_wp2_with fail
    go_loopw [5] (fun i wr => ∃ j : Nat, Hid (j ≤ k) ∧ i = .int .i64 j ∧ Hid (JnN w1 wr w.heap.size g cap l k j)) (fun i _ => (intOf i).toNat)
    case atStart => exact ⟨k, Nat.le_refl _, rfl, HJ0⟩
    case round =>
      obtain ⟨j, HJK, rfl, HR2⟩ := hrel
      have k1 : IntKind.i64.wrap ((k : Int) + 1) = (k : Int) + 1 := IntWalk.i64_in _ (by have := HL.out; omega)
      by_cases hj0 : 0 < j
      rotate_left
      · obtain rfl : j = 0 := by omega
        go_wp2_with fail
        go_quiet (fail)
        go_wp2_with fail
        go_roundw
        case rel =>
          obtain ⟨m, h1, h2, h3, h4⟩ := HR2.out
          exact ⟨k + 1, Lib.hid (by have := HKK.out; omega), by go_num, m, h1, sinks_end h2 (.inl rfl), rowN_below h3 ⟨rfl, rfl, rfl, Nat.le_refl _, fun _ _ => rfl⟩, h4.below ⟨rfl, rfl, rfl, Nat.le_refl _, fun _ _ => rfl⟩⟩
        case measure => simp [intOf]; omega
      obtain ⟨m, hm, hs, hrow, hkg⟩ := HR2.out
      obtain ⟨p, hp⟩ : ∃ p, p = j - 1 := ⟨_, rfl⟩
      have hjn : j < n := by have := HJK.out; omega
      have hml : m.length = n := hm.1.trans HN.out.symm
      have HPN : Hid (j < m.length) := Lib.hid (by omega)
      have HQN : Hid (p < m.length) := Lib.hid (by omega)
      have HM := Lib.hid hm
      have HSK := Lib.hid hs
      have HROW := Lib.hid hrow
      have HKG := Lib.hid hkg
      have HFM := Lib.hid (mov_fit hm HFL.out)
      have HML := Lib.hid hml
      have HP := Lib.hid (show p + 1 = j by omega)
      have i3 : (j : Int) - 1 = (p : Int) := by omega
      have i4 : IntKind.i64.wrap (p : Int) = (p : Int) := IntWalk.i64_in _ (by have := HL.out; omega)
      have j0 : (0 : Int) ≤ (p : Int) := by omega
      have j1 : (p : Int) < (n : Int) := by omega
      have j2 : (0 : Int) ≤ (j : Int) := by omega
      have j3 : (j : Int) < (n : Int) := by omega
      clear hm hs hrow hkg hml hp HR2 HJ0
      obtain ⟨ax, cx, X0, X1, X2, X3, X4, hsx⟩ := rowN_open HROW.out HPN.out
      obtain ⟨ay, cy, Y0, Y1, Y2, Y3, Y4, hsy⟩ := rowN_open HROW.out HQN.out
      have hg := rowN_lt HROW.out
      have gg := cell_grow (Below.refl wr.heap.size wr) (Nat.le_refl _) hg
      have hcc := rowN_order HROW.out HFM.out HPN.out HQN.out hsx hsy
      obtain ⟨x, hx⟩ : ∃ x, x = vat m j := ⟨_, rfl⟩
      obtain ⟨y, hy⟩ : ∃ y, y = vat m p := ⟨_, rfl⟩
      obtain ⟨C, hC⟩ : ∃ C, C = ordV (vat m j) (vat m p) := ⟨_, rfl⟩
      rw [← hC] at hcc
      rw [← hx, ← hy] at hcc
      rw [← hx] at X0 X1 X2 X3 X4
      rw [← hy] at Y0 Y1 Y2 Y3 Y4
      have HC1 := Lib.hid hcc
      have HCO := Lib.hid hC
      simp only [GV.agg] at HC1
      clear hx hy hcc hsx hsy hC
      go_wp2_with fail
      refine wp_region_quiet_below (by kernel_rfl) (by kernel_rfl) ?_
      repeat (quiet_step (fail))
      quiet_step (exact Calls.regrown_of (HC1.out _ _))
      repeat (quiet_step (fail))
      refine wpQuiet_nil ?_
      intro w3 hw3
      have hb3 : Below wr.heap.size wr w3 := by
        obtain ⟨q, hq⟩ := hw3
        rw [hq]
        exact below_grow (Below.refl _ _) (Nat.le_refl _) _ _
      have HROW3 := Lib.hid (rowN_below HROW.out hb3)
      have HKG3 := Lib.hid (HKG.out.below hb3)
      clear hw3 hb3 gg HC1 X0 X1 X2 X3 X4 Y0 Y1 Y2 Y3 Y4 hg
      by_cases hc0 : C < 0
      rotate_left
      · have d1 : decide (C < 0) = false := by simpa using hc0
        go_wp2_with fail
        go_roundw
        case rel =>
          have h8 := HP.out
          have h9 := HCO.out
          rw [h9] at hc0
          exact ⟨k + 1, Lib.hid (by have := HKK.out; omega), by go_num, m, HM.out, sinks_end HSK.out (.inr ⟨hj0, by rw [show j - 1 = p by omega]; exact hc0⟩), HROW3.out, HKG3.out⟩
        case measure => simp [intOf]; omega
      obtain ⟨ax, cx, X0, X1, X2, X3, X4, hsx⟩ := rowN_open HROW3.out HPN.out
      obtain ⟨ay, cy, Y0, Y1, Y2, Y3, Y4, hsy⟩ := rowN_open HROW3.out HQN.out
      have hg := rowN_lt HROW3.out
      obtain ⟨x, hx⟩ : ∃ x, x = vat m j := ⟨_, rfl⟩
      obtain ⟨y, hy⟩ : ∃ y, y = vat m p := ⟨_, rfl⟩
      rw [← hx] at X0 X1 X2 X3 X4 hsx
      rw [← hy] at Y0 Y1 Y2 Y3 Y4 hsy
      have HXX := Lib.hid hx
      have HYY := Lib.hid hy
      have HSX := Lib.hid hsx
      have HSY := Lib.hid hsy
      clear hx hy hsx hsy
      go_upto_region 9 with fail
      obtain ⟨w4, hw4⟩ : ∃ v, v = w3.alloc (.cells #[.int .i64 x.k, .bool x.b, .int .i64 x.n, .string x.t, .slice ax x.l.length cx] 29) := ⟨_, rfl⟩
      have hb4 : Below w3.heap.size w3 w4 := by rw [hw4]; exact (Below.refl _ _).alloc (Nat.le_refl _) _
      have hx4 : w4.heap[w3.heap.size]? = some (.cells #[.int .i64 x.k, .bool x.b, .int .i64 x.n, .string x.t, .slice ax x.l.length cx] 29 (0, 0)) := by rw [hw4]; exact heap_last
      have hs4 : w4.heap.size = w3.heap.size + 1 := by rw [hw4]; simp
      rw [← hw4]
      obtain ⟨bx, hbx⟩ : ∃ b, b = w3.heap.size := ⟨_, rfl⟩
      rw [← hbx] at hx4 hs4 ⊢
      have hne : bx ≠ g := by omega
      have hg4 : g < w4.heap.size := by omega
      have hbl : bx < w4.heap.size := by omega
      have HROW4 := Lib.hid (rowN_below HROW3.out hb4)
      have HKG4 := Lib.hid (HKG3.out.below hb4)
      have HSX4 := Lib.hid (isN_below HSX.out hb4)
      have HSY4 := Lib.hid (isN_below HSY.out hb4)
      have kc : ∀ o u, w3.cell? ⟨g, o, none⟩ = some u → w4.cell? ⟨g, o, none⟩ = some u := fun o u hu => (hb4.cell (p := ⟨g, o, none⟩) hg).trans hu
      have Y0 := kc _ _ Y0
      have Y1 := kc _ _ Y1
      have Y2 := kc _ _ Y2
      have Y3 := kc _ _ Y3
      have Y4 := kc _ _ Y4
      have X0 := kc _ _ X0
      have X1 := kc _ _ X1
      have X2 := kc _ _ X2
      have X3 := kc _ _ X3
      have X4 := kc _ _ X4
      have ff := rowN_frozen HROW4.out
      have HX4 := Lib.hid hx4
      clear hw4 hb4 hx4 hs4 hbx kc HSX HSY HROW3 HKG3 hg
      go_upto_region 10 with fail
      obtain ⟨w5, hw5⟩ : ∃ v, v = ((((w4.setCell ⟨g, j * 5, none⟩ (.int .i64 y.k)).setCell ⟨g, j * 5 + 1, none⟩ (.bool y.b)).setCell ⟨g, j * 5 + 2, none⟩ (.int .i64 y.n)).setCell ⟨g, j * 5 + 3, none⟩ (.string y.t)).setCell ⟨g, j * 5 + 4, none⟩ (.slice ay y.l.length cy) := ⟨_, rfl⟩
      rw [← hw5]
      have hx5 : w5.heap[bx]? = some (.cells #[.int .i64 x.k, .bool x.b, .int .i64 x.n, .string x.t, .slice ax x.l.length cx] 29 (0, 0)) := by rw [hw5, heap_far5 hne]; exact HX4.out
      have HROW5 : Hid (rowN w5 w.heap.size g cap (m.set j y)) := by rw [hw5]; exact rowN_set HROW4.out j HPN.out y ay cy HSY4.out
      have HKG5 : Hid (Kg g w1 w5) := by rw [hw5]; exact Kg.set (Kg.set (Kg.set (Kg.set (Kg.set HKG4.out))))
      have HSX5 : Hid (isN w5 w.heap.size g (.slice ax x.l.length cx) x.l) := by rw [hw5]; exact isN_set5 HSX4.out
      have q5 := fun o => cell_of hx5 o
      have ff := rowN_frozen HROW5.out
      have hg5 := rowN_lt HROW5.out
      have hbl5 : bx < w5.heap.size := (Array.getElem?_eq_some_iff.1 hx5).1
      obtain ⟨az, cz, Z0, Z1, Z2, Z3, Z4, _⟩ := rowN_open (j := p) HROW5.out (by simpa using HQN.out)
      clear hw5 hx5 X0 X1 X2 X3 X4 Y0 Y1 Y2 Y3 Y4 HROW4 HKG4 HSX4 HSY4 HX4 hg4 hbl
      go_wp2_with fail
      go_roundw
      case rel =>
        have h5 := HJK.out
        have h8 := HP.out
        have h9 := HCO.out
        have hpn := HPN.out
        have hqn := HQN.out
        have hml := HML.out
        have hnn := HN.out
        rw [h9] at hc0
        have hsk := HSK.out
        have hm := HM.out
        subst h8
        refine ⟨p, Lib.hid (by omega), rfl, swp m (p + 1) p, hm.trans (swp_mov hpn hqn (by omega) (by omega) (by omega) (by omega)), sinks_step hsk (by omega) (by omega) (by omega) hc0, ?_, ?_⟩
        · have := rowN_set HROW5.out p (by simpa using hqn) x ax cx HSX5.out
          rw [HXX.out, HYY.out] at this
          rw [HXX.out]
          exact this
        · exact Kg.set (Kg.set (Kg.set (Kg.set (Kg.set HKG5.out))))
      case measure => have h8 := HP.out; simp [intOf]; omega
end Go.Proofs.YtaclkegoaajdgaaGreatDoor
