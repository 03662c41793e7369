/-
  slices.symMergeCmpFunc over value.Order: two sorted parts, where the first ends ahead of the middle. Conditions: lists and texts shorter than 2^31.
-/
import Derived.Test.YtaclkegoaajdgaaGreatDoorSymB
namespace Go.Proofs.YtaclkegoaajdgaaGreatDoor
open Go Go.RowKit
set_option maxRecDepth 100000
set_option linter.unusedVariables false
set_option maxHeartbeats 3200000 in
theorem sym_restB (l : List GV) (hl : l.length ≤ 2147483647) (fl : fitL l) (a m b g cap B : Nat) (ham : a + 1 < m) (hmb : m + 1 < b) (c : Nat) (hc : c = (a + b) / 2) (hmc : ¬ c < m) (hbn : b ≤ l.length) (w : World) (hB : B ≤ g) (h1 : srt (vat l) a m) (h2 : srt (vat l) m b) (hr : rowO w g cap B l) (hih : SymC l.length g cap B (b - a)) :
    Calls Tryz.prog 107 #[.slice (some ⟨g, 0, none⟩) l.length cap, .int .i64 a, .int .i64 m, .int .i64 b, .func (.func 16) #[] #[]] w fun e w' => e = .returned (.tuple #[]) ∧ SyE w w' g cap B l a b := by
  obtain ⟨n, hn⟩ : ∃ n, n = l.length := ⟨_, rfl⟩
  rw [← hn] at hl hbn hih ⊢
  have HN := Lib.hid hn
  have HFL := Lib.hid fl
  have H1 := Lib.hid h1
  have H2 := Lib.hid h2
  have HIH := Lib.hid hih
  have hr0 : Hid (rowO w g cap B l ∧ Kg g w w) := ⟨hr, Kg.refl g w⟩
  have HROT : Hid (∀ (a m b : Nat) (w' : World), a < m → m < b → b ≤ n → rowO w' g cap B l → Calls Tryz.prog 117 #[.slice (some ⟨g, 0, none⟩) n cap, .int .i64 a, .int .i64 m, .int .i64 b, .func (.func 16) #[] #[]] w' fun e w2 => e = .returned (.tuple #[]) ∧ RoE w' w2 g cap B l a m b) := fun a m b w' h1 h2 h3 h4 => by
    rw [hn] at hl h3 ⊢
    exact rot_any l hl a m b g cap B h1 h2 h3 w' hB h4
  obtain ⟨d, hd⟩ : ∃ d, d = m - a := ⟨_, rfl⟩
  obtain ⟨d2, hd2⟩ : ∃ d, d = b - m := ⟨_, rfl⟩
  obtain ⟨z, hz⟩ : ∃ z, z = c + m := ⟨_, rfl⟩
  obtain ⟨p, hp⟩ : ∃ p, p = z - 1 := ⟨_, rfl⟩
  have e9 : decide (c < m) = false := by simp; omega
  have HAB := Lib.hid (show a + 1 < m ∧ m + 1 < b ∧ b ≤ n ∧ n ≤ 2147483647 ∧ z = c + m ∧ p + 1 = z ∧ a < c ∧ c < b ∧ c = (a + b) / 2 ∧ m ≤ c by omega)
  have HLH := Lib.hid (show a ≤ m by omega)
  have HD : Hid (down (midP (vat l) z) a m) := down_sym h1 h2 (by omega) (by omega) (by omega) (by omega)
  have e1 : (m : Int) - (a : Int) = (d : Int) := by omega
  have e2 : IntKind.i64.wrap (d : Int) = (d : Int) := IntWalk.i64_in _ (by omega)
  have e3 : ((d : Int) == 1) = false := by simp; omega
  have e4 : (d == 1) = false := by simp; omega
  have e5 : ¬ d = 1 := by omega
  have f1 : (b : Int) - (m : Int) = (d2 : Int) := by omega
  have f2 : IntKind.i64.wrap (d2 : Int) = (d2 : Int) := IntWalk.i64_in _ (by omega)
  have f3 : ((d2 : Int) == 1) = false := by simp; omega
  have f4 : (d2 == 1) = false := by simp; omega
  have f5 : ¬ d2 = 1 := by omega
  have g1 : ((a : Int) + (b : Int)) / 2 = (c : Int) := by omega
  have g2 : (c : Int) + (m : Int) = (z : Int) := by omega
  have g3 : IntKind.i64.wrap (z : Int) = (z : Int) := IntWalk.i64_in _ (by omega)
  have g4 : (z : Int) - 1 = (p : Int) := by omega
  have g5 : IntKind.i64.wrap (p : Int) = (p : Int) := IntWalk.i64_in _ (by omega)
  have haM : a ≤ 2147483647 := by omega
  have hbM : b ≤ 2147483647 := by omega
  clear hr hn fl hl hbn h1 h2 hmb ham hd hd2 hz hp hih hc 
  go_enter Tryz.func107, Tryz.ntmps107
  go_wp2_with fail
  clear e1 e2 e3 e4 e5 f1 f2 f3 f4 f5 g1 g2 g3 g4 g5 haM hbM e9
  go_loopw [20, 21, 23] (fun x y z' wr => SeR (midP (vat l) z) a m (Hid (rowO wr g cap B l ∧ Kg g w wr)) x y) (fun x y _ _ => (intOf y).toNat - (intOf x).toNat)
  case atStart => exact SeR.mk a m (by go_num) (by go_num) (bs_start HLH.out) hr0
  case round =>
    obtain ⟨i, j, rfl, rfl, HBS, HR⟩ := hrel
    by_cases hlt : i < j
    · obtain ⟨h, hh⟩ : ∃ h, h = (i + j) / 2 := ⟨_, rfl⟩
      have i1 : ((i : Int) + (j : Int)) / 2 = (h : Int) := by omega
      have HH := Lib.hid (show i ≤ h ∧ h < j by omega)
      have hjM : j ≤ 2147483647 := by have := HBS.out.2.2.1; have := HAB.out; omega
      have HJ := Lib.hid (show a ≤ i ∧ j ≤ m from ⟨HBS.out.1, HBS.out.2.2.1⟩)
      have i2 : IntKind.i64.wrap ((h : Int) + 1) = (h : Int) + 1 := IntWalk.i64_in _ (by have := HH.out; have := HJ.out; have := HAB.out; omega)
      have HROW := Lib.hid HR.out.1
      have HKG := Lib.hid HR.out.2
      have HFM := HFL
      obtain ⟨pc, hpc⟩ : ∃ x, x = p - h := ⟨_, rfl⟩
      have HPC := Lib.hid (show pc = z - 1 - h ∧ pc < b by have := HH.out; have := HJ.out; have := HAB.out; omega)
      have y1 : (p : Int) - (h : Int) = (pc : Int) := by have := HH.out; have := HJ.out; have := HAB.out; omega
      have y2 : IntKind.i64.wrap (pc : Int) = (pc : Int) := IntWalk.i64_in _ (by have := HPC.out; have := HAB.out; omega)
      have HPN : Hid (pc < l.length) := Lib.hid (by have := HPC.out; have := HAB.out; have := HN.out; omega)
      have HQN : Hid (h < l.length) := Lib.hid (by have := HH.out; have := HJ.out; have := HAB.out; have := HN.out; omega)
      have j0 : (0 : Int) ≤ (pc : Int) := by omega
      have j1 : (pc : Int) < (n : Int) := by have := HPN.out; have := HN.out; omega
      have j2 : (0 : Int) ≤ (h : Int) := by omega
      have j3 : (h : Int) < (n : Int) := by have := HQN.out; have := HN.out; omega
      clear hpc
      clear hh HR
      obtain ⟨ax, cx, X0, X1, X2, X3, X4, hsx⟩ := row_open HROW.out HPN.out
      obtain ⟨ay, cy, Y0, Y1, Y2, Y3, Y4, hsy⟩ := row_open HROW.out HQN.out
      have hg := row_lt HROW.out
      have gg := cell_grow (Below.refl wr.heap.size wr) (Nat.le_refl _) hg
      have hcc := row_order HROW.out hB HFM.out HPN.out HQN.out hsx hsy
      obtain ⟨x, hx⟩ : ∃ x, x = vat l pc := ⟨_, rfl⟩
      obtain ⟨y, hy⟩ : ∃ y, y = vat l h := ⟨_, rfl⟩
      obtain ⟨C, hC⟩ : ∃ C, C = ordV (vat l pc) (vat l h) := ⟨_, rfl⟩
      rw [← hC] at hcc
      rw [← hx, ← hy] at hcc
      rw [← hx] at X0 X1 X2 X3 X4
      rw [← hy] at Y0 Y1 Y2 Y3 Y4
      have HC1 := Lib.hid hcc
      have HCO := Lib.hid hC
      simp only [GV.agg] at HC1
      clear hx hy hcc hsx hsy hC
      go_wp2_with fail
      refine wp_region_quiet_below (by kernel_rfl) (by kernel_rfl) ?_
      repeat (quiet_step (fail))
      quiet_step (exact Calls.regrown_of (HC1.out _ _))
      repeat (quiet_step (fail))
      refine wpQuiet_nil ?_
      intro w3 hw3
      have hb3 : Below wr.heap.size wr w3 := by
        obtain ⟨q, hq⟩ := hw3
        rw [hq]
        exact below_grow (Below.refl _ _) (Nat.le_refl _) _ _
      have HROW3 := Lib.hid (rowO_below HROW.out hb3 hB)
      have HKG3 := Lib.hid (HKG.out.below hb3)
      clear hw3 hb3 gg HC1 X0 X1 X2 X3 X4 Y0 Y1 Y2 Y3 Y4 hg
      by_cases hc0 : C < 0
      · have d1 : decide (0 ≤ C) = false := by simp; omega
        have d2 : ¬ 0 ≤ C := by omega
        have d3 : (!decide (C < 0)) = false := by rw [decide_eq_true hc0]; rfl
        rw [d3]
        go_wp2_with fail
        go_roundw
        case rel =>
          have h5 := HH.out
          rw [HCO.out, HPC.out.1] at hc0
          exact SeR.mk i h rfl rfl (bs_dn HD.out HBS.out h5.1 h5.2 (fun g => g hc0)) ⟨HROW3.out, HKG3.out⟩
        case measure => have h5 := HH.out; simp [intOf]; omega
      · have d1 : decide (C < 0) = false := by simpa using hc0
        have d2 : 0 ≤ C := by omega
        have d3 : (!decide (C < 0)) = true := by rw [d1]; rfl
        rw [d3]
        go_wp2_with fail
        go_roundw
        case rel =>
          have h5 := HH.out
          rw [HCO.out, HPC.out.1] at hc0
          exact SeR.mk (h + 1) j (by go_num) rfl (bs_up HD.out HBS.out h5.1 h5.2 hc0) ⟨HROW3.out, HKG3.out⟩
        case measure => have h5 := HH.out; simp [intOf]; omega
    · obtain rfl : i = j := by have := HBS.out.2.1; omega
      obtain ⟨s, hs⟩ : ∃ s, s = i := ⟨_, rfl⟩
      rw [← hs] at HBS ⊢
      clear hs hlt i
      obtain ⟨e, he⟩ : ∃ e, e = z - s := ⟨_, rfl⟩
      have hsb : a ≤ s ∧ s ≤ m := ⟨HBS.out.1, HBS.out.2.2.1⟩
      have HCR : Hid (CrossP l a m b s e) := by
        have hab := HAB.out
        rw [he]
        exact sym_parts (mid := c) H1.out H2.out HBS.out (by omega) (by omega) (by omega) (by omega) (by omega) (.inl rfl) (.inl rfl)
      have HE := Lib.hid (show (a ≤ s ∧ s ≤ m ∧ m ≤ e ∧ e ≤ b ∧ c = s + (e - m)) ∧ c ≤ n ∧ e ≤ n ∧ c - a < b - a ∧ b ≤ n ∧ b - c < b - a ∧ a ≤ c ∧ c ≤ e ∧ c ≤ b ∧ s ≤ c by have hab := HAB.out; omega)
      have y1 : (z : Int) - (s : Int) = (e : Int) := by have hab := HAB.out; omega
      have y2 : IntKind.i64.wrap (e : Int) = (e : Int) := IntWalk.i64_in _ (by have := HE.out; have := HAB.out; omega)
      have HS0 := HR
      clear he hsb HBS HR
      by_cases hA : s < m
      · by_cases hB2 : m < e
        · go_wp2_with fail
          obtain ⟨HR0, HK0⟩ := HS0.out
          refine (HROT.out s m e _ hA hB2 HE.out.2.2.1 HR0).mono ?_
          rintro e1 v1 ⟨rfl, hw⟩
          have HS1 : Hid (SyR w v1 g cap B l a s c e b) := sy_rot H1.out H2.out HK0 hw HE.out.1 HCR.out
          clear hw HS0
          clear hA hB2
          by_cases hA : a < s
          · by_cases hB2 : s < c
            · go_wp2_with fail
              obtain ⟨l1, r1, r2, r3, r4⟩ := HS1.out
              have hl1 : l1.length = n := r1.1.trans HN.out.symm
              have R1 := Lib.hid r1
              have R2 := Lib.hid r2
              have R4 := Lib.hid r4
              refine (HIH.out l1 a s c _ hl1 (mov_fit r1 HFL.out) hA hB2 HE.out.2.1 HE.out.2.2.2.1 r2.1 r2.2.1 r3).mono ?_
              clear r1 r2 r3 r4
              rintro e1 v2 ⟨rfl, hw⟩
              have HS2 : Hid (SyS w v2 g cap B l a s c e b) := sy_left R1.out R2.out R4.out hw (by have := HE.out.2.2.2.2; omega)
              clear hw HS1
              clear hA hB2
              by_cases hA : c < e
              · by_cases hB2 : e < b
                · go_wp2_with fail
                  obtain ⟨l1, l2, r1, r2, r3, r4, r5, r6, r7, r8⟩ := HS2.out
                  have R1 := Lib.hid r1
                  have R2 := Lib.hid r2
                  have R3 := Lib.hid r3
                  have R4 := Lib.hid r4
                  have R8 := Lib.hid r8
                  refine (HIH.out l2 c e b _ ((r3.1.trans r1.1).trans HN.out.symm) (mov_fit (r1.trans (r3.wide (Nat.le_refl _) (by have := HE.out.2.2.2.2; omega))) HFL.out) hA hB2 HE.out.2.2.2.2.1 HE.out.2.2.2.2.2.1 r5 r6 r7).mono ?_
                  clear r1 r2 r3 r4 r5 r6 r7 r8
                  rintro e1 v3 ⟨rfl, hw⟩
                  have HS3 : Hid (SyE w v3 g cap B l a b) := sy_right R1.out R2.out R3.out R4.out R8.out hw (by have := HE.out.2.2.2.2; omega)
                  clear hw HS2
                  go_wp2_with fail
                  first | go_end0 | (go_wp2_with fail; go_end0)
                  exact ⟨rfl, HS3.out⟩
                · have dB : decide (e < b) = false := by simp; omega
                  have HS3 : Hid (SyE w v2 g cap B l a b) := sy_noright HS2.out (by have := HE.out; omega) (by have := HE.out.2.2.2.2; omega)
                  clear HS2
                  go_wp2_with fail
                  first | go_end0 | (go_wp2_with fail; go_end0)
                  exact ⟨rfl, HS3.out⟩
              · have dA : decide (c < e) = false := by simp; omega
                have HS3 : Hid (SyE w v2 g cap B l a b) := sy_noright HS2.out (by have := HE.out; omega) (by have := HE.out.2.2.2.2; omega)
                clear HS2
                go_wp2_with fail
                first | go_end0 | (go_wp2_with fail; go_end0)
                exact ⟨rfl, HS3.out⟩
            · have dB : decide (s < c) = false := by simp; omega
              have HS2 : Hid (SyS w v1 g cap B l a s c e b) := sy_noleft HS1.out (by have := HE.out; omega)
              clear HS1
              by_cases hA : c < e
              · by_cases hB2 : e < b
                · go_wp2_with fail
                  obtain ⟨l1, l2, r1, r2, r3, r4, r5, r6, r7, r8⟩ := HS2.out
                  have R1 := Lib.hid r1
                  have R2 := Lib.hid r2
                  have R3 := Lib.hid r3
                  have R4 := Lib.hid r4
                  have R8 := Lib.hid r8
                  refine (HIH.out l2 c e b _ ((r3.1.trans r1.1).trans HN.out.symm) (mov_fit (r1.trans (r3.wide (Nat.le_refl _) (by have := HE.out.2.2.2.2; omega))) HFL.out) hA hB2 HE.out.2.2.2.2.1 HE.out.2.2.2.2.2.1 r5 r6 r7).mono ?_
                  clear r1 r2 r3 r4 r5 r6 r7 r8
                  rintro e1 v3 ⟨rfl, hw⟩
                  have HS3 : Hid (SyE w v3 g cap B l a b) := sy_right R1.out R2.out R3.out R4.out R8.out hw (by have := HE.out.2.2.2.2; omega)
                  clear hw HS2
                  go_wp2_with fail
                  first | go_end0 | (go_wp2_with fail; go_end0)
                  exact ⟨rfl, HS3.out⟩
                · have dB : decide (e < b) = false := by simp; omega
                  have HS3 : Hid (SyE w v1 g cap B l a b) := sy_noright HS2.out (by have := HE.out; omega) (by have := HE.out.2.2.2.2; omega)
                  clear HS2
                  go_wp2_with fail
                  first | go_end0 | (go_wp2_with fail; go_end0)
                  exact ⟨rfl, HS3.out⟩
              · have dA : decide (c < e) = false := by simp; omega
                have HS3 : Hid (SyE w v1 g cap B l a b) := sy_noright HS2.out (by have := HE.out; omega) (by have := HE.out.2.2.2.2; omega)
                clear HS2
                go_wp2_with fail
                first | go_end0 | (go_wp2_with fail; go_end0)
                exact ⟨rfl, HS3.out⟩
          · have dA : decide (a < s) = false := by simp; omega
            have HS2 : Hid (SyS w v1 g cap B l a s c e b) := sy_noleft HS1.out (by have := HE.out; omega)
            clear HS1
            by_cases hA : c < e
            · by_cases hB2 : e < b
              · go_wp2_with fail
                obtain ⟨l1, l2, r1, r2, r3, r4, r5, r6, r7, r8⟩ := HS2.out
                have R1 := Lib.hid r1
                have R2 := Lib.hid r2
                have R3 := Lib.hid r3
                have R4 := Lib.hid r4
                have R8 := Lib.hid r8
                refine (HIH.out l2 c e b _ ((r3.1.trans r1.1).trans HN.out.symm) (mov_fit (r1.trans (r3.wide (Nat.le_refl _) (by have := HE.out.2.2.2.2; omega))) HFL.out) hA hB2 HE.out.2.2.2.2.1 HE.out.2.2.2.2.2.1 r5 r6 r7).mono ?_
                clear r1 r2 r3 r4 r5 r6 r7 r8
                rintro e1 v3 ⟨rfl, hw⟩
                have HS3 : Hid (SyE w v3 g cap B l a b) := sy_right R1.out R2.out R3.out R4.out R8.out hw (by have := HE.out.2.2.2.2; omega)
                clear hw HS2
                go_wp2_with fail
                first | go_end0 | (go_wp2_with fail; go_end0)
                exact ⟨rfl, HS3.out⟩
              · have dB : decide (e < b) = false := by simp; omega
                have HS3 : Hid (SyE w v1 g cap B l a b) := sy_noright HS2.out (by have := HE.out; omega) (by have := HE.out.2.2.2.2; omega)
                clear HS2
                go_wp2_with fail
                first | go_end0 | (go_wp2_with fail; go_end0)
                exact ⟨rfl, HS3.out⟩
            · have dA : decide (c < e) = false := by simp; omega
              have HS3 : Hid (SyE w v1 g cap B l a b) := sy_noright HS2.out (by have := HE.out; omega) (by have := HE.out.2.2.2.2; omega)
              clear HS2
              go_wp2_with fail
              first | go_end0 | (go_wp2_with fail; go_end0)
              exact ⟨rfl, HS3.out⟩
        · have dB : decide (m < e) = false := by simp; omega
          have HS1 : Hid (SyR w wr g cap B l a s c e b) := sy_norot H1.out H2.out HS0.out.2 HS0.out.1 HE.out.1 (by have := HE.out; omega) HCR.out
          clear HS0
          by_cases hA : a < s
          · by_cases hB2 : s < c
            · go_wp2_with fail
              obtain ⟨l1, r1, r2, r3, r4⟩ := HS1.out
              have hl1 : l1.length = n := r1.1.trans HN.out.symm
              have R1 := Lib.hid r1
              have R2 := Lib.hid r2
              have R4 := Lib.hid r4
              refine (HIH.out l1 a s c _ hl1 (mov_fit r1 HFL.out) hA hB2 HE.out.2.1 HE.out.2.2.2.1 r2.1 r2.2.1 r3).mono ?_
              clear r1 r2 r3 r4
              rintro e1 v2 ⟨rfl, hw⟩
              have HS2 : Hid (SyS w v2 g cap B l a s c e b) := sy_left R1.out R2.out R4.out hw (by have := HE.out.2.2.2.2; omega)
              clear hw HS1
              clear hA hB2
              by_cases hA : c < e
              · by_cases hB2 : e < b
                · go_wp2_with fail
                  obtain ⟨l1, l2, r1, r2, r3, r4, r5, r6, r7, r8⟩ := HS2.out
                  have R1 := Lib.hid r1
                  have R2 := Lib.hid r2
                  have R3 := Lib.hid r3
                  have R4 := Lib.hid r4
                  have R8 := Lib.hid r8
                  refine (HIH.out l2 c e b _ ((r3.1.trans r1.1).trans HN.out.symm) (mov_fit (r1.trans (r3.wide (Nat.le_refl _) (by have := HE.out.2.2.2.2; omega))) HFL.out) hA hB2 HE.out.2.2.2.2.1 HE.out.2.2.2.2.2.1 r5 r6 r7).mono ?_
                  clear r1 r2 r3 r4 r5 r6 r7 r8
                  rintro e1 v3 ⟨rfl, hw⟩
                  have HS3 : Hid (SyE w v3 g cap B l a b) := sy_right R1.out R2.out R3.out R4.out R8.out hw (by have := HE.out.2.2.2.2; omega)
                  clear hw HS2
                  go_wp2_with fail
                  first | go_end0 | (go_wp2_with fail; go_end0)
                  exact ⟨rfl, HS3.out⟩
                · have dB : decide (e < b) = false := by simp; omega
                  have HS3 : Hid (SyE w v2 g cap B l a b) := sy_noright HS2.out (by have := HE.out; omega) (by have := HE.out.2.2.2.2; omega)
                  clear HS2
                  go_wp2_with fail
                  first | go_end0 | (go_wp2_with fail; go_end0)
                  exact ⟨rfl, HS3.out⟩
              · have dA : decide (c < e) = false := by simp; omega
                have HS3 : Hid (SyE w v2 g cap B l a b) := sy_noright HS2.out (by have := HE.out; omega) (by have := HE.out.2.2.2.2; omega)
                clear HS2
                go_wp2_with fail
                first | go_end0 | (go_wp2_with fail; go_end0)
                exact ⟨rfl, HS3.out⟩
            · have dB : decide (s < c) = false := by simp; omega
              have HS2 : Hid (SyS w wr g cap B l a s c e b) := sy_noleft HS1.out (by have := HE.out; omega)
              clear HS1
              by_cases hA : c < e
              · by_cases hB2 : e < b
                · go_wp2_with fail
                  obtain ⟨l1, l2, r1, r2, r3, r4, r5, r6, r7, r8⟩ := HS2.out
                  have R1 := Lib.hid r1
                  have R2 := Lib.hid r2
                  have R3 := Lib.hid r3
                  have R4 := Lib.hid r4
                  have R8 := Lib.hid r8
                  refine (HIH.out l2 c e b _ ((r3.1.trans r1.1).trans HN.out.symm) (mov_fit (r1.trans (r3.wide (Nat.le_refl _) (by have := HE.out.2.2.2.2; omega))) HFL.out) hA hB2 HE.out.2.2.2.2.1 HE.out.2.2.2.2.2.1 r5 r6 r7).mono ?_
                  clear r1 r2 r3 r4 r5 r6 r7 r8
                  rintro e1 v3 ⟨rfl, hw⟩
                  have HS3 : Hid (SyE w v3 g cap B l a b) := sy_right R1.out R2.out R3.out R4.out R8.out hw (by have := HE.out.2.2.2.2; omega)
                  clear hw HS2
                  go_wp2_with fail
                  first | go_end0 | (go_wp2_with fail; go_end0)
                  exact ⟨rfl, HS3.out⟩
                · have dB : decide (e < b) = false := by simp; omega
                  have HS3 : Hid (SyE w wr g cap B l a b) := sy_noright HS2.out (by have := HE.out; omega) (by have := HE.out.2.2.2.2; omega)
                  clear HS2
                  go_wp2_with fail
                  first | go_end0 | (go_wp2_with fail; go_end0)
                  exact ⟨rfl, HS3.out⟩
              · have dA : decide (c < e) = false := by simp; omega
                have HS3 : Hid (SyE w wr g cap B l a b) := sy_noright HS2.out (by have := HE.out; omega) (by have := HE.out.2.2.2.2; omega)
                clear HS2
                go_wp2_with fail
                first | go_end0 | (go_wp2_with fail; go_end0)
                exact ⟨rfl, HS3.out⟩
          · have dA : decide (a < s) = false := by simp; omega
            have HS2 : Hid (SyS w wr g cap B l a s c e b) := sy_noleft HS1.out (by have := HE.out; omega)
            clear HS1
            by_cases hA : c < e
            · by_cases hB2 : e < b
              · go_wp2_with fail
                obtain ⟨l1, l2, r1, r2, r3, r4, r5, r6, r7, r8⟩ := HS2.out
                have R1 := Lib.hid r1
                have R2 := Lib.hid r2
                have R3 := Lib.hid r3
                have R4 := Lib.hid r4
                have R8 := Lib.hid r8
                refine (HIH.out l2 c e b _ ((r3.1.trans r1.1).trans HN.out.symm) (mov_fit (r1.trans (r3.wide (Nat.le_refl _) (by have := HE.out.2.2.2.2; omega))) HFL.out) hA hB2 HE.out.2.2.2.2.1 HE.out.2.2.2.2.2.1 r5 r6 r7).mono ?_
                clear r1 r2 r3 r4 r5 r6 r7 r8
                rintro e1 v3 ⟨rfl, hw⟩
                have HS3 : Hid (SyE w v3 g cap B l a b) := sy_right R1.out R2.out R3.out R4.out R8.out hw (by have := HE.out.2.2.2.2; omega)
                clear hw HS2
                go_wp2_with fail
                first | go_end0 | (go_wp2_with fail; go_end0)
                exact ⟨rfl, HS3.out⟩
              · have dB : decide (e < b) = false := by simp; omega
                have HS3 : Hid (SyE w wr g cap B l a b) := sy_noright HS2.out (by have := HE.out; omega) (by have := HE.out.2.2.2.2; omega)
                clear HS2
                go_wp2_with fail
                first | go_end0 | (go_wp2_with fail; go_end0)
                exact ⟨rfl, HS3.out⟩
            · have dA : decide (c < e) = false := by simp; omega
              have HS3 : Hid (SyE w wr g cap B l a b) := sy_noright HS2.out (by have := HE.out; omega) (by have := HE.out.2.2.2.2; omega)
              clear HS2
              go_wp2_with fail
              first | go_end0 | (go_wp2_with fail; go_end0)
              exact ⟨rfl, HS3.out⟩
      · have dA : decide (s < m) = false := by simp; omega
        have HS1 : Hid (SyR w wr g cap B l a s c e b) := sy_norot H1.out H2.out HS0.out.2 HS0.out.1 HE.out.1 (by have := HE.out; omega) HCR.out
        clear HS0
        by_cases hA : a < s
        · by_cases hB2 : s < c
          · go_wp2_with fail
            obtain ⟨l1, r1, r2, r3, r4⟩ := HS1.out
            have hl1 : l1.length = n := r1.1.trans HN.out.symm
            have R1 := Lib.hid r1
            have R2 := Lib.hid r2
            have R4 := Lib.hid r4
            refine (HIH.out l1 a s c _ hl1 (mov_fit r1 HFL.out) hA hB2 HE.out.2.1 HE.out.2.2.2.1 r2.1 r2.2.1 r3).mono ?_
            clear r1 r2 r3 r4
            rintro e1 v2 ⟨rfl, hw⟩
            have HS2 : Hid (SyS w v2 g cap B l a s c e b) := sy_left R1.out R2.out R4.out hw (by have := HE.out.2.2.2.2; omega)
            clear hw HS1
            clear hA hB2
            by_cases hA : c < e
            · by_cases hB2 : e < b
              · go_wp2_with fail
                obtain ⟨l1, l2, r1, r2, r3, r4, r5, r6, r7, r8⟩ := HS2.out
                have R1 := Lib.hid r1
                have R2 := Lib.hid r2
                have R3 := Lib.hid r3
                have R4 := Lib.hid r4
                have R8 := Lib.hid r8
                refine (HIH.out l2 c e b _ ((r3.1.trans r1.1).trans HN.out.symm) (mov_fit (r1.trans (r3.wide (Nat.le_refl _) (by have := HE.out.2.2.2.2; omega))) HFL.out) hA hB2 HE.out.2.2.2.2.1 HE.out.2.2.2.2.2.1 r5 r6 r7).mono ?_
                clear r1 r2 r3 r4 r5 r6 r7 r8
                rintro e1 v3 ⟨rfl, hw⟩
                have HS3 : Hid (SyE w v3 g cap B l a b) := sy_right R1.out R2.out R3.out R4.out R8.out hw (by have := HE.out.2.2.2.2; omega)
                clear hw HS2
                go_wp2_with fail
                first | go_end0 | (go_wp2_with fail; go_end0)
                exact ⟨rfl, HS3.out⟩
              · have dB : decide (e < b) = false := by simp; omega
                have HS3 : Hid (SyE w v2 g cap B l a b) := sy_noright HS2.out (by have := HE.out; omega) (by have := HE.out.2.2.2.2; omega)
                clear HS2
                go_wp2_with fail
                first | go_end0 | (go_wp2_with fail; go_end0)
                exact ⟨rfl, HS3.out⟩
            · have dA : decide (c < e) = false := by simp; omega
              have HS3 : Hid (SyE w v2 g cap B l a b) := sy_noright HS2.out (by have := HE.out; omega) (by have := HE.out.2.2.2.2; omega)
              clear HS2
              go_wp2_with fail
              first | go_end0 | (go_wp2_with fail; go_end0)
              exact ⟨rfl, HS3.out⟩
          · have dB : decide (s < c) = false := by simp; omega
            have HS2 : Hid (SyS w wr g cap B l a s c e b) := sy_noleft HS1.out (by have := HE.out; omega)
            clear HS1
            by_cases hA : c < e
            · by_cases hB2 : e < b
              · go_wp2_with fail
                obtain ⟨l1, l2, r1, r2, r3, r4, r5, r6, r7, r8⟩ := HS2.out
                have R1 := Lib.hid r1
                have R2 := Lib.hid r2
                have R3 := Lib.hid r3
                have R4 := Lib.hid r4
                have R8 := Lib.hid r8
                refine (HIH.out l2 c e b _ ((r3.1.trans r1.1).trans HN.out.symm) (mov_fit (r1.trans (r3.wide (Nat.le_refl _) (by have := HE.out.2.2.2.2; omega))) HFL.out) hA hB2 HE.out.2.2.2.2.1 HE.out.2.2.2.2.2.1 r5 r6 r7).mono ?_
                clear r1 r2 r3 r4 r5 r6 r7 r8
                rintro e1 v3 ⟨rfl, hw⟩
                have HS3 : Hid (SyE w v3 g cap B l a b) := sy_right R1.out R2.out R3.out R4.out R8.out hw (by have := HE.out.2.2.2.2; omega)
                clear hw HS2
                go_wp2_with fail
                first | go_end0 | (go_wp2_with fail; go_end0)
                exact ⟨rfl, HS3.out⟩
              · have dB : decide (e < b) = false := by simp; omega
                have HS3 : Hid (SyE w wr g cap B l a b) := sy_noright HS2.out (by have := HE.out; omega) (by have := HE.out.2.2.2.2; omega)
                clear HS2
                go_wp2_with fail
                first | go_end0 | (go_wp2_with fail; go_end0)
                exact ⟨rfl, HS3.out⟩
            · have dA : decide (c < e) = false := by simp; omega
              have HS3 : Hid (SyE w wr g cap B l a b) := sy_noright HS2.out (by have := HE.out; omega) (by have := HE.out.2.2.2.2; omega)
              clear HS2
              go_wp2_with fail
              first | go_end0 | (go_wp2_with fail; go_end0)
              exact ⟨rfl, HS3.out⟩
        · have dA : decide (a < s) = false := by simp; omega
          have HS2 : Hid (SyS w wr g cap B l a s c e b) := sy_noleft HS1.out (by have := HE.out; omega)
          clear HS1
          by_cases hA : c < e
          · by_cases hB2 : e < b
            · go_wp2_with fail
              obtain ⟨l1, l2, r1, r2, r3, r4, r5, r6, r7, r8⟩ := HS2.out
              have R1 := Lib.hid r1
              have R2 := Lib.hid r2
              have R3 := Lib.hid r3
              have R4 := Lib.hid r4
              have R8 := Lib.hid r8
              refine (HIH.out l2 c e b _ ((r3.1.trans r1.1).trans HN.out.symm) (mov_fit (r1.trans (r3.wide (Nat.le_refl _) (by have := HE.out.2.2.2.2; omega))) HFL.out) hA hB2 HE.out.2.2.2.2.1 HE.out.2.2.2.2.2.1 r5 r6 r7).mono ?_
              clear r1 r2 r3 r4 r5 r6 r7 r8
              rintro e1 v3 ⟨rfl, hw⟩
              have HS3 : Hid (SyE w v3 g cap B l a b) := sy_right R1.out R2.out R3.out R4.out R8.out hw (by have := HE.out.2.2.2.2; omega)
              clear hw HS2
              go_wp2_with fail
              first | go_end0 | (go_wp2_with fail; go_end0)
              exact ⟨rfl, HS3.out⟩
            · have dB : decide (e < b) = false := by simp; omega
              have HS3 : Hid (SyE w wr g cap B l a b) := sy_noright HS2.out (by have := HE.out; omega) (by have := HE.out.2.2.2.2; omega)
              clear HS2
              go_wp2_with fail
              first | go_end0 | (go_wp2_with fail; go_end0)
              exact ⟨rfl, HS3.out⟩
          · have dA : decide (c < e) = false := by simp; omega
            have HS3 : Hid (SyE w wr g cap B l a b) := sy_noright HS2.out (by have := HE.out; omega) (by have := HE.out.2.2.2.2; omega)
            clear HS2
            go_wp2_with fail
            first | go_end0 | (go_wp2_with fail; go_end0)
            exact ⟨rfl, HS3.out⟩
end Go.Proofs.YtaclkegoaajdgaaGreatDoor
