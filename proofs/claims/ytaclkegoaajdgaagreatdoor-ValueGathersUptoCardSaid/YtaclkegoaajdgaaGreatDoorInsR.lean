/-
  slices.insertionSortCmpFunc over value.Order: the part from a on, below b, stands in order. Conditions: lists and texts shorter than 2^31.
-/
import Derived.Test.YtaclkegoaajdgaaGreatDoorRowS
namespace Go.Proofs.YtaclkegoaajdgaaGreatDoor
open Go Go.RowKit
set_option maxRecDepth 100000
set_option linter.unusedVariables false
def InI (w wr : World) (g cap B : Nat) (l : List GV) (a b k : Nat) : Prop := ∃ m, Mov a b l m ∧ srt (vat m) a k ∧ rowO wr g cap B m ∧ Kg g w wr
def InJ (w wr : World) (g cap B : Nat) (l : List GV) (a b k j : Nat) : Prop := ∃ m, Mov a b l m ∧ sinks (vat m) a k j ∧ rowO wr g cap B m ∧ Kg g w wr
set_option maxHeartbeats 1600000 in
theorem insr_any (l : List GV) (hl : l.length ≤ 2147483647) (fl : fitL l) (a b g cap B : Nat) (hab : a ≤ b) (hbn : b ≤ l.length) (w : World) (hB : B ≤ g) (hr : rowO w g cap B l) :
    Calls Tryz.prog 106 #[.slice (some ⟨g, 0, none⟩) l.length cap, .int .i64 a, .int .i64 b, .func (.func 16) #[] #[]] w fun e w' => e = .returned (.tuple #[]) ∧ InI w w' g cap B l a b b := by
  have HR0 : Hid (InI w w g cap B l a b (a + 1)) := ⟨l, Mov.refl _ _ _, fun i j h1 h2 h3 => by omega, hr, Kg.refl g w⟩
  obtain ⟨n, hn⟩ : ∃ n, n = l.length := ⟨_, rfl⟩
  rw [← hn] at hl hbn ⊢
  have HN := Lib.hid hn
  have HFL := Lib.hid fl
  have HAB := Lib.hid (show a ≤ b ∧ b ≤ n ∧ n ≤ 2147483647 from ⟨hab, hbn, hl⟩)
  obtain ⟨a1, ha1⟩ : ∃ x, x = a + 1 := ⟨_, rfl⟩
  have s1 : (a : Int) + 1 = (a1 : Int) := by omega
  have s2 : IntKind.i64.wrap (a1 : Int) = (a1 : Int) := IntWalk.i64_in _ (by omega)
  rw [← ha1] at HR0
  have HA1 := Lib.hid ha1
  clear hr hn fl hab hbn hl ha1
  go_enter Tryz.func106, Tryz.ntmps106
  go_wp2_with fail
  clear s1 s2
  go_loopw [8] (fun i wr => ∃ k : Nat, Hid (a + 1 ≤ k ∧ (k ≤ b ∨ k = a + 1)) ∧ i = .int .i64 k ∧ Hid (InI w wr g cap B l a b k)) (fun i _ => n + 1 - (intOf i).toNat)
  case atStart => exact ⟨a1, by have := HA1.out; exact Lib.hid (by omega), rfl, HR0⟩
  case round =>
    obtain ⟨k, HKK, rfl, HR⟩ := hrel
    by_cases hlt : k < b
    rotate_left
    · have d1 : decide ((k : Int) < (b : Int)) = false := by simp; omega
      have d2 : decide (k < b) = false := by simp; omega
      go_wp2_with fail
      go_end0
      obtain ⟨m, h1, h2, h3, h4⟩ := HR.out
      exact ⟨rfl, m, h1, srt_sub h2 (Nat.le_refl _) (by have := HKK.out; omega), h3, h4⟩
    have HJ0 : Hid (InJ w wr g cap B l a b k k) := by
      obtain ⟨m, h1, h2, h3, h4⟩ := HR.out
      exact ⟨m, h1, sinks_start h2, h3, h4⟩
    clear HR
    go_wp2_with fail
    go_loopw [9] (fun i wr => ∃ j : Nat, Hid (a ≤ j ∧ j ≤ k) ∧ i = .int .i64 j ∧ Hid (InJ w wr g cap B l a b k j)) (fun i _ => (intOf i).toNat)
    case atStart => exact ⟨k, Lib.hid (by have := HKK.out; omega), rfl, HJ0⟩
    case round =>
      obtain ⟨j, HJK, rfl, HR2⟩ := hrel
      have k1 : IntKind.i64.wrap ((k : Int) + 1) = (k : Int) + 1 := IntWalk.i64_in _ (by have := HAB.out; omega)
      by_cases hj0 : a < j
      rotate_left
      · have d1 : decide (a < j) = false := by simp; omega
        go_wp2_with fail
        go_quiet (fail)
        go_wp2_with fail
        go_roundw
        case rel =>
          have h5 := HJK.out
          have h6 := HAB.out
          have h7 := HKK.out
          obtain ⟨m, h1, h2, h3, h4⟩ := HR2.out
          exact ⟨k + 1, Lib.hid (by omega), by go_num, m, h1, sinks_end h2 (.inl (by omega)), rowO_below h3 ⟨rfl, rfl, rfl, Nat.le_refl _, fun _ _ => rfl⟩ hB, h4.below ⟨rfl, rfl, rfl, Nat.le_refl _, fun _ _ => rfl⟩⟩
        case measure => have h6 := HAB.out; simp [intOf]; omega
      obtain ⟨m, hm, hs, hrow, hkg⟩ := HR2.out
      obtain ⟨p, hp⟩ : ∃ p, p = j - 1 := ⟨_, rfl⟩
      have hjn : j < n := by have := HJK.out; have := HAB.out; omega
      have hml : m.length = n := hm.1.trans HN.out.symm
      have HPN : Hid (j < m.length) := Lib.hid (by omega)
      have HQN : Hid (p < m.length) := Lib.hid (by omega)
      have HM := Lib.hid hm
      have HSK := Lib.hid hs
      have HROW := Lib.hid hrow
      have HKG := Lib.hid hkg
      have HFM := Lib.hid (mov_fit hm HFL.out)
      have HML := Lib.hid hml
      have HP := Lib.hid (show p + 1 = j by omega)
      have i3 : (j : Int) - 1 = (p : Int) := by omega
      have i4 : IntKind.i64.wrap (p : Int) = (p : Int) := IntWalk.i64_in _ (by have := HAB.out; omega)
      have j0 : (0 : Int) ≤ (p : Int) := by omega
      have j1 : (p : Int) < (n : Int) := by omega
      have j2 : (0 : Int) ≤ (j : Int) := by omega
      have j3 : (j : Int) < (n : Int) := by omega
      clear hm hs hrow hkg hml hp HR2 HJ0
      obtain ⟨ax, cx, X0, X1, X2, X3, X4, hsx⟩ := row_open HROW.out HPN.out
      obtain ⟨ay, cy, Y0, Y1, Y2, Y3, Y4, hsy⟩ := row_open HROW.out HQN.out
      have hg := row_lt HROW.out
      have gg := cell_grow (Below.refl wr.heap.size wr) (Nat.le_refl _) hg
      have hcc := row_order HROW.out hB HFM.out HPN.out HQN.out hsx hsy
      obtain ⟨x, hx⟩ : ∃ x, x = vat m j := ⟨_, rfl⟩
      obtain ⟨y, hy⟩ : ∃ y, y = vat m p := ⟨_, rfl⟩
      obtain ⟨C, hC⟩ : ∃ C, C = ordV (vat m j) (vat m p) := ⟨_, rfl⟩
      rw [← hC] at hcc
      rw [← hx, ← hy] at hcc
      rw [← hx] at X0 X1 X2 X3 X4
      rw [← hy] at Y0 Y1 Y2 Y3 Y4
      have HC1 := Lib.hid hcc
      have HCO := Lib.hid hC
      simp only [GV.agg] at HC1
      clear hx hy hcc hsx hsy hC
      go_wp2_with fail
      refine wp_region_quiet_below (by kernel_rfl) (by kernel_rfl) ?_
      repeat (quiet_step (fail))
      quiet_step (exact Calls.regrown_of (HC1.out _ _))
      repeat (quiet_step (fail))
      refine wpQuiet_nil ?_
      intro w3 hw3
      have hb3 : Below wr.heap.size wr w3 := by
        obtain ⟨q, hq⟩ := hw3
        rw [hq]
        exact below_grow (Below.refl _ _) (Nat.le_refl _) _ _
      have HROW3 := Lib.hid (rowO_below HROW.out hb3 hB)
      have HKG3 := Lib.hid (HKG.out.below hb3)
      clear hw3 hb3 gg HC1 X0 X1 X2 X3 X4 Y0 Y1 Y2 Y3 Y4 hg
      by_cases hc0 : C < 0
      rotate_left
      · have d1 : decide (C < 0) = false := by simpa using hc0
        go_wp2_with fail
        go_roundw
        case rel =>
          have h5 := HJK.out
          have h6 := HAB.out
          have h7 := HKK.out
          have h8 := HP.out
          have h9 := HCO.out
          rw [h9] at hc0
          exact ⟨k + 1, Lib.hid (by omega), by go_num, m, HM.out, sinks_end HSK.out (.inr ⟨hj0, by rw [show j - 1 = p by omega]; exact hc0⟩), HROW3.out, HKG3.out⟩
        case measure => have h6 := HAB.out; simp [intOf]; omega
      obtain ⟨ax, cx, X0, X1, X2, X3, X4, hsx⟩ := row_open HROW3.out HPN.out
      obtain ⟨ay, cy, Y0, Y1, Y2, Y3, Y4, hsy⟩ := row_open HROW3.out HQN.out
      have hg := row_lt HROW3.out
      have ff := row_frozen HROW3.out
      have hw := row_swap HROW3.out hB HPN.out HQN.out hsx hsy
      obtain ⟨x, hx⟩ : ∃ x, x = vat m j := ⟨_, rfl⟩
      obtain ⟨y, hy⟩ : ∃ y, y = vat m p := ⟨_, rfl⟩
      rw [← hx, ← hy] at hw
      have HW := Lib.hid hw
      rw [← hx] at X0 X1 X2 X3 X4
      rw [← hy] at Y0 Y1 Y2 Y3 Y4
      clear hx hy hw hsx hsy
      go_wp2_with fail
      go_region
      go_wp2_with fail
      go_roundw
      case rel =>
        have h5 := HJK.out
        have h6 := HAB.out
        have h7 := HKK.out
        have h8 := HP.out
        have h9 := HCO.out
        have hpn := HPN.out
        have hqn := HQN.out
        have hml := HML.out
        rw [h9] at hc0
        have hsk := HSK.out
        have hm := HM.out
        subst h8
        exact ⟨p, Lib.hid (by omega), rfl, _, hm.trans (swp_mov hpn hqn (by omega) (by omega) (by omega) (by omega)), sinks_step hsk (by omega) (by omega) (by omega) hc0, HW.out, kg_swap HKG3.out⟩
      case measure => have h8 := HP.out; simp [intOf]; omega
end Go.Proofs.YtaclkegoaajdgaaGreatDoor
