/-
  slices.symMergeCmpFunc over value.Order: one value goes among a sorted part. Conditions: lists and texts shorter than 2^31.
-/
import Derived.Test.YtaclkegoaajdgaaGreatDoorInsR
namespace Go.Proofs.YtaclkegoaajdgaaGreatDoor
open Go Go.RowKit
set_option maxRecDepth 100000
set_option linter.unusedVariables false
/-- the part from a on, below b, stands in order -/
def SyE (w wr : World) (g cap B : Nat) (l : List GV) (a b : Nat) : Prop := ∃ m, Mov a b l m ∧ srt (vat m) a b ∧ rowO wr g cap B m ∧ Kg g w wr
def SeR (P : Nat → Prop) (lo hi : Nat) (Q : Prop) (x y : Value) : Prop := ∃ i j : Nat, x = .int .i64 i ∧ y = .int .i64 j ∧ Hid (bsI P lo hi i j) ∧ Q
theorem SeR.mk {P : Nat → Prop} {lo hi : Nat} {Q : Prop} {x y : Value} (i j : Nat) (hx : x = .int .i64 i) (hy : y = .int .i64 j) (hb : bsI P lo hi i j) (hq : Q) : SeR P lo hi Q x y := ⟨i, j, hx, hy, Lib.hid hb, hq⟩
def FiI (w wr : World) (g cap B : Nat) (l : List GV) (a b k : Nat) : Prop := ∃ m, (∀ q, vat m q = vat l (rotI a (a + 1) (k + 1) q)) ∧ Mov a b l m ∧ rowO wr g cap B m ∧ Kg g w wr
def lastP (l : List GV) (m q : Nat) : Prop := ¬ ordV (vat l m) (vat l q) < 0
def LaI (w wr : World) (g cap B : Nat) (l : List GV) (a m b k : Nat) : Prop := ∃ l', (∀ q, vat l' q = vat l (rotI k m (m + 1) q)) ∧ Mov a b l l' ∧ rowO wr g cap B l' ∧ Kg g w wr
set_option maxHeartbeats 1600000 in
theorem sym_first (l : List GV) (hl : l.length ≤ 2147483647) (fl : fitL l) (a m b g cap B : Nat) (ham : m = a + 1) (hmb : m < b) (hbn : b ≤ l.length) (w : World) (hB : B ≤ g) (h1 : srt (vat l) a m) (h2 : srt (vat l) m b) (hr : rowO w g cap B l) :
    Calls Tryz.prog 107 #[.slice (some ⟨g, 0, none⟩) l.length cap, .int .i64 a, .int .i64 m, .int .i64 b, .func (.func 16) #[] #[]] w fun e w' => e = .returned (.tuple #[]) ∧ SyE w w' g cap B l a b := by
  obtain ⟨n, hn⟩ : ∃ n, n = l.length := ⟨_, rfl⟩
  rw [← hn] at hl hbn ⊢
  have HN := Lib.hid hn
  have HFL := Lib.hid fl
  have H1 := Lib.hid h1
  have H2 := Lib.hid h2
  have HAB := Lib.hid (show m = a + 1 ∧ m < b ∧ b ≤ n ∧ n ≤ 2147483647 from ⟨ham, hmb, hbn, hl⟩)
  have hr0 : Hid (rowO w g cap B l ∧ Kg g w w) := ⟨hr, Kg.refl g w⟩
  have HLH := Lib.hid (show m ≤ b by omega)
  have H2' : Hid (srt (vat l) (a + 1) b) := by rw [← ham]; exact h2
  have e1 : (m : Int) - (a : Int) = 1 := by omega
  have HD : Hid (down (fun q => ordV (vat l q) (vat l a) < 0) m b) := down_first h2
  clear hr hn fl hl hbn h1 h2 hmb ham
  go_enter Tryz.func107, Tryz.ntmps107
  go_wp2_with fail
  clear e1
  go_loopw [10, 11, 12] (fun x y z' wr => SeR (fun q => ordV (vat l q) (vat l a) < 0) m b (Hid (rowO wr g cap B l ∧ Kg g w wr)) x y) (fun x y _ _ => (intOf y).toNat - (intOf x).toNat)
  case atStart => exact SeR.mk m b (by go_num) (by go_num) (bs_start HLH.out) hr0
  case round =>
    obtain ⟨i, j, rfl, rfl, HBS, HR⟩ := hrel
    by_cases hlt : i < j
    · obtain ⟨h, hh⟩ : ∃ h, h = (i + j) / 2 := ⟨_, rfl⟩
      have i1 : ((i : Int) + (j : Int)) / 2 = (h : Int) := by omega
      have HH := Lib.hid (show i ≤ h ∧ h < j by omega)
      have hjM : j ≤ 2147483647 := by have := HBS.out.2.2.1; have := HAB.out; omega
      have HJ := Lib.hid (show m ≤ i ∧ j ≤ b from ⟨HBS.out.1, HBS.out.2.2.1⟩)
      have i2 : IntKind.i64.wrap ((h : Int) + 1) = (h : Int) + 1 := IntWalk.i64_in _ (by have := HH.out; have := HJ.out; have := HAB.out; omega)
      have HROW := Lib.hid HR.out.1
      have HKG := Lib.hid HR.out.2
      have HFM := HFL
      have HPN : Hid (h < l.length) := Lib.hid (by have := HH.out; have := HJ.out; have := HAB.out; have := HN.out; omega)
      have HQN : Hid (a < l.length) := Lib.hid (by have := HH.out; have := HJ.out; have := HAB.out; have := HN.out; omega)
      have j0 : (0 : Int) ≤ (h : Int) := by omega
      have j1 : (h : Int) < (n : Int) := by have := HPN.out; have := HN.out; omega
      have j2 : (0 : Int) ≤ (a : Int) := by omega
      have j3 : (a : Int) < (n : Int) := by have := HQN.out; have := HN.out; omega
      clear hh HR
      obtain ⟨ax, cx, X0, X1, X2, X3, X4, hsx⟩ := row_open HROW.out HPN.out
      obtain ⟨ay, cy, Y0, Y1, Y2, Y3, Y4, hsy⟩ := row_open HROW.out HQN.out
      have hg := row_lt HROW.out
      have gg := cell_grow (Below.refl wr.heap.size wr) (Nat.le_refl _) hg
      have hcc := row_order HROW.out hB HFM.out HPN.out HQN.out hsx hsy
      obtain ⟨x, hx⟩ : ∃ x, x = vat l h := ⟨_, rfl⟩
      obtain ⟨y, hy⟩ : ∃ y, y = vat l a := ⟨_, rfl⟩
      obtain ⟨C, hC⟩ : ∃ C, C = ordV (vat l h) (vat l a) := ⟨_, rfl⟩
      rw [← hC] at hcc
      rw [← hx, ← hy] at hcc
      rw [← hx] at X0 X1 X2 X3 X4
      rw [← hy] at Y0 Y1 Y2 Y3 Y4
      have HC1 := Lib.hid hcc
      have HCO := Lib.hid hC
      simp only [GV.agg] at HC1
      clear hx hy hcc hsx hsy hC
      go_wp2_with fail
      refine wp_region_quiet_below (by kernel_rfl) (by kernel_rfl) ?_
      repeat (quiet_step (fail))
      quiet_step (exact Calls.regrown_of (HC1.out _ _))
      repeat (quiet_step (fail))
      refine wpQuiet_nil ?_
      intro w3 hw3
      have hb3 : Below wr.heap.size wr w3 := by
        obtain ⟨q, hq⟩ := hw3
        rw [hq]
        exact below_grow (Below.refl _ _) (Nat.le_refl _) _ _
      have HROW3 := Lib.hid (rowO_below HROW.out hb3 hB)
      have HKG3 := Lib.hid (HKG.out.below hb3)
      clear hw3 hb3 gg HC1 X0 X1 X2 X3 X4 Y0 Y1 Y2 Y3 Y4 hg
      by_cases hc0 : C < 0
      · have d1 : decide (0 ≤ C) = false := by simp; omega
        have d2 : ¬ 0 ≤ C := by omega
        have d3 : (!decide (C < 0)) = false := by rw [decide_eq_true hc0]; rfl
        clear d3
        go_wp2_with fail
        go_roundw
        case rel =>
          have h5 := HH.out
          rw [HCO.out] at hc0
          exact SeR.mk (h + 1) j (by go_num) rfl (bs_up HD.out HBS.out h5.1 h5.2 hc0) ⟨HROW3.out, HKG3.out⟩
        case measure => have h5 := HH.out; simp [intOf]; omega
      · have d1 : decide (C < 0) = false := by simpa using hc0
        have d2 : 0 ≤ C := by omega
        have d3 : (!decide (C < 0)) = true := by rw [d1]; rfl
        clear d3
        go_wp2_with fail
        go_roundw
        case rel =>
          have h5 := HH.out
          rw [HCO.out] at hc0
          exact SeR.mk i h rfl rfl (bs_dn HD.out HBS.out h5.1 h5.2 hc0) ⟨HROW3.out, HKG3.out⟩
        case measure => have h5 := HH.out; simp [intOf]; omega
    · obtain rfl : i = j := by have := HBS.out.2.1; omega
      have ham := HAB.out.1
      subst ham

      obtain ⟨e, he⟩ : ∃ e, e = i - 1 := ⟨_, rfl⟩
      have HIB := Lib.hid (show a + 1 ≤ i ∧ i ≤ b ∧ e + 1 = i by have h5 := HBS.out.1; have h6 := HBS.out.2.2.1; omega)
      have i1 : (i : Int) - 1 = (e : Int) := by have := HIB.out; omega
      have i2 : IntKind.i64.wrap (e : Int) = (e : Int) := IntWalk.i64_in _ (by have := HIB.out; have := HAB.out; omega)
      have HF0 : Hid (FiI w wr g cap B l a b a) := ⟨l, fun q => by rw [rotI_right], Mov.refl _ _ _, HR.out.1, HR.out.2⟩
      clear he HR
      go_wp2_with fail
      go_loopw [13] (fun x wq => ∃ k : Nat, x = .int .i64 k ∧ Hid (a ≤ k ∧ k ≤ e) ∧ Hid (FiI w wq g cap B l a b k)) (fun x _ => e - (intOf x).toNat)
      case atStart => exact ⟨a, rfl, Lib.hid (by have := HIB.out; omega), HF0⟩
      case round =>
        obtain ⟨k, rfl, HKE, HR2⟩ := hrel
        by_cases hke : k < e
        rotate_left
        · obtain rfl : k = e := by have := HKE.out; omega
          go_wp2_with fail
          first | go_end0 | refine bodyPost_ret (results_none rfl _ _ _) rfl ?_
          obtain ⟨l', s1, s2, s3, s4⟩ := HR2.out
          have hs := first_in H2'.out HBS.out
          refine ⟨rfl, l', s2, srt_congr hs fun q _ _ => ?_, s3, s4⟩
          rw [s1 q, HIB.out.2.2]
        obtain ⟨q, hq⟩ : ∃ q, q = k + 1 := ⟨_, rfl⟩
        have f1 : (k : Int) + 1 = (q : Int) := by omega
        have f2 : IntKind.i64.wrap (q : Int) = (q : Int) := IntWalk.i64_in _ (by have := HIB.out; have := HAB.out; omega)

        obtain ⟨l', s1, s2, s3, s4⟩ := HR2.out
        have HML := Lib.hid (show l'.length = n from s2.1.trans HN.out.symm)
        have HPN : Hid (k < l'.length) := Lib.hid (by have := HML.out; have := HKE.out; have := HIB.out; have := HAB.out; omega)
        have HQN : Hid (q < l'.length) := Lib.hid (by have := HML.out; have := HKE.out; have := HIB.out; have := HAB.out; omega)
        have S1 := Lib.hid (fun q => s1 q)
        have S2 := Lib.hid s2
        have HROW3 := Lib.hid s3
        have S4 := Lib.hid s4
        have j0 : (0 : Int) ≤ (k : Int) := by omega
        have j1 : (k : Int) < (n : Int) := by have := HPN.out; have := HML.out; omega
        have j2 : (0 : Int) ≤ (q : Int) := by omega
        have j3 : (q : Int) < (n : Int) := by have := HQN.out; have := HML.out; omega
        clear s1 s2 s3 s4 HR2

        have HQ := Lib.hid hq
        clear hq
        obtain ⟨ax, cx, X0, X1, X2, X3, X4, hsx⟩ := row_open HROW3.out HPN.out
        obtain ⟨ay, cy, Y0, Y1, Y2, Y3, Y4, hsy⟩ := row_open HROW3.out HQN.out
        have hg := row_lt HROW3.out
        have ff := row_frozen HROW3.out
        have hw := row_swap HROW3.out hB HPN.out HQN.out hsx hsy
        obtain ⟨x, hx⟩ : ∃ x, x = vat l' k := ⟨_, rfl⟩
        obtain ⟨y, hy⟩ : ∃ y, y = vat l' q := ⟨_, rfl⟩
        rw [← hx, ← hy] at hw
        have HW := Lib.hid hw
        rw [← hx] at X0 X1 X2 X3 X4
        rw [← hy] at Y0 Y1 Y2 Y3 Y4
        clear hx hy hw hsx hsy
        go_wp2_with fail
        go_region
        go_wp2_with fail
        go_roundw
        case rel =>
          have hq := HQ.out
          have hk := HKE.out
          have hib := HIB.out
          have hml := HML.out
          have hab := HAB.out
          have hw := HW.out
          have hpn := HPN.out
          have hqn := HQN.out
          subst hq
          exact ⟨k + 1, by go_num, Lib.hid (by omega), _, first_step S1.out hk.1 hqn, S2.out.trans (swp_mov hpn hqn (by omega) (by omega) (by omega) (by omega)), hw, kg_swap S4.out⟩
        case measure => have hq := HQ.out; simp [intOf]; omega
set_option maxHeartbeats 1600000 in
theorem sym_last (l : List GV) (hl : l.length ≤ 2147483647) (fl : fitL l) (a m b g cap B : Nat) (ham : a + 1 < m) (hmb : b = m + 1) (hbn : b ≤ l.length) (w : World) (hB : B ≤ g) (h1 : srt (vat l) a m) (h2 : srt (vat l) m b) (hr : rowO w g cap B l) :
    Calls Tryz.prog 107 #[.slice (some ⟨g, 0, none⟩) l.length cap, .int .i64 a, .int .i64 m, .int .i64 b, .func (.func 16) #[] #[]] w fun e w' => e = .returned (.tuple #[]) ∧ SyE w w' g cap B l a b := by
  obtain ⟨n, hn⟩ : ∃ n, n = l.length := ⟨_, rfl⟩
  rw [← hn] at hl hbn ⊢
  have HN := Lib.hid hn
  have HFL := Lib.hid fl
  have H1 := Lib.hid h1
  have H2 := Lib.hid h2
  have HAB := Lib.hid (show a + 1 < m ∧ b = m + 1 ∧ b ≤ n ∧ n ≤ 2147483647 from ⟨ham, hmb, hbn, hl⟩)
  have HBM := Lib.hid hmb
  have hr0 : Hid (rowO w g cap B l ∧ Kg g w w) := ⟨hr, Kg.refl g w⟩
  have HLH := Lib.hid (show a ≤ m by omega)
  obtain ⟨d, hd⟩ : ∃ d, d = m - a := ⟨_, rfl⟩
  have e1 : (m : Int) - (a : Int) = (d : Int) := by omega
  have e2 : IntKind.i64.wrap (d : Int) = (d : Int) := IntWalk.i64_in _ (by omega)
  have e3 : ((d : Int) == 1) = false := by simp; omega
  have e4 : (d == 1) = false := by simp; omega
  have e5 : ¬ d = 1 := by omega
  have e6 : (b : Int) - (m : Int) = 1 := by omega
  have HD : Hid (down (lastP l m) a m) := down_last h1
  clear hr hn fl hl hbn h1 h2 hmb ham hd
  go_enter Tryz.func107, Tryz.ntmps107
  go_wp2_with fail
  clear e1 e2 e3 e4 e5 e6
  go_loopw [14, 15, 16] (fun x y z' wr => SeR (lastP l m) a m (Hid (rowO wr g cap B l ∧ Kg g w wr)) x y) (fun x y _ _ => (intOf y).toNat - (intOf x).toNat)
  case atStart => exact SeR.mk a m (by go_num) (by go_num) (bs_start HLH.out) hr0
  case round =>
    obtain ⟨i, j, rfl, rfl, HBS, HR⟩ := hrel
    by_cases hlt : i < j
    · obtain ⟨h, hh⟩ : ∃ h, h = (i + j) / 2 := ⟨_, rfl⟩
      have i1 : ((i : Int) + (j : Int)) / 2 = (h : Int) := by omega
      have HH := Lib.hid (show i ≤ h ∧ h < j by omega)
      have hjM : j ≤ 2147483647 := by have := HBS.out.2.2.1; have := HAB.out; omega
      have HJ := Lib.hid (show a ≤ i ∧ j ≤ m from ⟨HBS.out.1, HBS.out.2.2.1⟩)
      have i2 : IntKind.i64.wrap ((h : Int) + 1) = (h : Int) + 1 := IntWalk.i64_in _ (by have := HH.out; have := HJ.out; have := HAB.out; omega)
      have HROW := Lib.hid HR.out.1
      have HKG := Lib.hid HR.out.2
      have HFM := HFL
      have HPN : Hid (m < l.length) := Lib.hid (by have := HH.out; have := HJ.out; have := HAB.out; have := HN.out; omega)
      have HQN : Hid (h < l.length) := Lib.hid (by have := HH.out; have := HJ.out; have := HAB.out; have := HN.out; omega)
      have j0 : (0 : Int) ≤ (m : Int) := by omega
      have j1 : (m : Int) < (n : Int) := by have := HPN.out; have := HN.out; omega
      have j2 : (0 : Int) ≤ (h : Int) := by omega
      have j3 : (h : Int) < (n : Int) := by have := HQN.out; have := HN.out; omega
      clear hh HR
      obtain ⟨ax, cx, X0, X1, X2, X3, X4, hsx⟩ := row_open HROW.out HPN.out
      obtain ⟨ay, cy, Y0, Y1, Y2, Y3, Y4, hsy⟩ := row_open HROW.out HQN.out
      have hg := row_lt HROW.out
      have gg := cell_grow (Below.refl wr.heap.size wr) (Nat.le_refl _) hg
      have hcc := row_order HROW.out hB HFM.out HPN.out HQN.out hsx hsy
      obtain ⟨x, hx⟩ : ∃ x, x = vat l m := ⟨_, rfl⟩
      obtain ⟨y, hy⟩ : ∃ y, y = vat l h := ⟨_, rfl⟩
      obtain ⟨C, hC⟩ : ∃ C, C = ordV (vat l m) (vat l h) := ⟨_, rfl⟩
      rw [← hC] at hcc
      rw [← hx, ← hy] at hcc
      rw [← hx] at X0 X1 X2 X3 X4
      rw [← hy] at Y0 Y1 Y2 Y3 Y4
      have HC1 := Lib.hid hcc
      have HCO := Lib.hid hC
      simp only [GV.agg] at HC1
      clear hx hy hcc hsx hsy hC
      go_wp2_with fail
      refine wp_region_quiet_below (by kernel_rfl) (by kernel_rfl) ?_
      repeat (quiet_step (fail))
      quiet_step (exact Calls.regrown_of (HC1.out _ _))
      repeat (quiet_step (fail))
      refine wpQuiet_nil ?_
      intro w3 hw3
      have hb3 : Below wr.heap.size wr w3 := by
        obtain ⟨q, hq⟩ := hw3
        rw [hq]
        exact below_grow (Below.refl _ _) (Nat.le_refl _) _ _
      have HROW3 := Lib.hid (rowO_below HROW.out hb3 hB)
      have HKG3 := Lib.hid (HKG.out.below hb3)
      clear hw3 hb3 gg HC1 X0 X1 X2 X3 X4 Y0 Y1 Y2 Y3 Y4 hg
      by_cases hc0 : C < 0
      · have d1 : decide (0 ≤ C) = false := by simp; omega
        have d2 : ¬ 0 ≤ C := by omega
        have d3 : (!decide (C < 0)) = false := by rw [decide_eq_true hc0]; rfl
        rw [d3]
        go_wp2_with fail
        go_roundw
        case rel =>
          have h5 := HH.out
          rw [HCO.out] at hc0
          exact SeR.mk i h rfl rfl (bs_dn HD.out HBS.out h5.1 h5.2 (fun g => g hc0)) ⟨HROW3.out, HKG3.out⟩
        case measure => have h5 := HH.out; simp [intOf]; omega
      · have d1 : decide (C < 0) = false := by simpa using hc0
        have d2 : 0 ≤ C := by omega
        have d3 : (!decide (C < 0)) = true := by rw [d1]; rfl
        rw [d3]
        go_wp2_with fail
        go_roundw
        case rel =>
          have h5 := HH.out
          rw [HCO.out] at hc0
          exact SeR.mk (h + 1) j (by go_num) rfl (bs_up HD.out HBS.out h5.1 h5.2 hc0) ⟨HROW3.out, HKG3.out⟩
        case measure => have h5 := HH.out; simp [intOf]; omega
    · obtain rfl : i = j := by have := HBS.out.2.1; omega
      have HIB := Lib.hid (show a ≤ i ∧ i ≤ m by have h5 := HBS.out.1; have h6 := HBS.out.2.2.1; omega)
      have HF0 : Hid (LaI w wr g cap B l a m b m) := ⟨l, fun q => by rw [rotI_left], Mov.refl _ _ _, HR.out.1, HR.out.2⟩
      clear HR
      go_wp2_with fail
      go_loopw [17] (fun x wq => ∃ k : Nat, x = .int .i64 k ∧ Hid (i ≤ k ∧ k ≤ m) ∧ Hid (LaI w wq g cap B l a m b k)) (fun x _ => (intOf x).toNat)
      case atStart => exact ⟨m, rfl, Lib.hid (by have := HIB.out; omega), HF0⟩
      case round =>
        obtain ⟨k, rfl, HKE, HR2⟩ := hrel
        by_cases hke : i < k
        rotate_left
        · obtain rfl : k = i := by have := HKE.out; omega
          go_wp2_with fail
          first | go_end0 | refine bodyPost_ret (results_none rfl _ _ _) rfl ?_
          obtain ⟨l', s1, s2, s3, s4⟩ := HR2.out
          have hs := last_in H1.out HBS.out
          refine ⟨rfl, l', s2, srt_congr (srt_sub hs (Nat.le_refl _) (by have := HBM.out; omega)) fun q _ _ => s1 q, s3, s4⟩
        obtain ⟨q, hq⟩ : ∃ q, q = k - 1 := ⟨_, rfl⟩
        have f1 : (k : Int) - 1 = (q : Int) := by omega
        have f2 : IntKind.i64.wrap (q : Int) = (q : Int) := IntWalk.i64_in _ (by have := HKE.out; have := HIB.out; have := HAB.out; omega)

        obtain ⟨l', s1, s2, s3, s4⟩ := HR2.out
        have HML := Lib.hid (show l'.length = n from s2.1.trans HN.out.symm)
        have HPN : Hid (k < l'.length) := Lib.hid (by have := HML.out; have := HKE.out; have := HIB.out; have := HAB.out; omega)
        have HQN : Hid (q < l'.length) := Lib.hid (by have := HML.out; have := HKE.out; have := HIB.out; have := HAB.out; omega)
        have S1 := Lib.hid (fun q => s1 q)
        have S2 := Lib.hid s2
        have HROW3 := Lib.hid s3
        have S4 := Lib.hid s4
        have j0 : (0 : Int) ≤ (k : Int) := by omega
        have j1 : (k : Int) < (n : Int) := by have := HPN.out; have := HML.out; omega
        have j2 : (0 : Int) ≤ (q : Int) := by omega
        have j3 : (q : Int) < (n : Int) := by have := HQN.out; have := HML.out; omega
        clear s1 s2 s3 s4 HR2

        have HQ := Lib.hid (show q + 1 = k by omega)
        clear hq
        obtain ⟨ax, cx, X0, X1, X2, X3, X4, hsx⟩ := row_open HROW3.out HPN.out
        obtain ⟨ay, cy, Y0, Y1, Y2, Y3, Y4, hsy⟩ := row_open HROW3.out HQN.out
        have hg := row_lt HROW3.out
        have ff := row_frozen HROW3.out
        have hw := row_swap HROW3.out hB HPN.out HQN.out hsx hsy
        obtain ⟨x, hx⟩ : ∃ x, x = vat l' k := ⟨_, rfl⟩
        obtain ⟨y, hy⟩ : ∃ y, y = vat l' q := ⟨_, rfl⟩
        rw [← hx, ← hy] at hw
        have HW := Lib.hid hw
        rw [← hx] at X0 X1 X2 X3 X4
        rw [← hy] at Y0 Y1 Y2 Y3 Y4
        clear hx hy hw hsx hsy
        go_wp2_with fail
        go_region
        go_wp2_with fail
        go_roundw
        case rel =>
          have hq := HQ.out
          have hk := HKE.out
          have hib := HIB.out
          have hml := HML.out
          have hab := HAB.out
          have hbm := HBM.out
          have hw := HW.out
          have hpn := HPN.out
          have hqn := HQN.out
          subst hq
          exact ⟨q, rfl, Lib.hid (by omega), _, last_step S1.out hk.2 (by have := S2.out.1; omega), S2.out.trans (swp_mov hpn hqn (by omega) (by omega) (by omega) (by omega)), hw, kg_swap S4.out⟩
        case measure => have hq := HQ.out; simp [intOf]; omega
end Go.Proofs.YtaclkegoaajdgaaGreatDoor
