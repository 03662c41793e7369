/-
  What code.name computes: whether a text is a name. Conditions: texts shorter than 2^31.
-/
import Derived.Test.YtnmolgmchoihmaaDoorScal
namespace Go.Proofs.YtnmolgmchoihmaaDoor
open Go Go.RowKit
set_option maxRecDepth 100000
set_option linter.unusedVariables false
set_option maxHeartbeats 2000000 in
theorem name_round (s : ByteArray) (k : Nat) (hlt : k < s.size) : ((97 ≤ ((s[k].toNat : Nat) : Int) ∧ ((s[k].toNat : Nat) : Int) ≤ 122) ∨ (65 ≤ ((s[k].toNat : Nat) : Int) ∧ ((s[k].toNat : Nat) : Int) ≤ 90) ∨ (0 ≤ ((s[k].toNat : Nat) : Int) ∧ ((s[k].toNat : Nat) : Int) ≤ 47) ∨ (48 ≤ ((s[k].toNat : Nat) : Int) ∧ ((s[k].toNat : Nat) : Int) ≤ 57) ∨ (58 ≤ ((s[k].toNat : Nat) : Int) ∧ ((s[k].toNat : Nat) : Int) ≤ 64) ∨ (91 ≤ ((s[k].toNat : Nat) : Int) ∧ ((s[k].toNat : Nat) : Int) ≤ 94) ∨ (95 ≤ ((s[k].toNat : Nat) : Int) ∧ ((s[k].toNat : Nat) : Int) ≤ 95) ∨ (96 ≤ ((s[k].toNat : Nat) : Int) ∧ ((s[k].toNat : Nat) : Int) ≤ 96) ∨ (123 ≤ ((s[k].toNat : Nat) : Int) ∧ ((s[k].toNat : Nat) : Int) ≤ 255)) := by
  have := s[k].toNat_lt
  omega
set_option maxHeartbeats 4000000 in
theorem name_any (s : ByteArray) (hs : s.size ≤ 2147483647) (w : World) : Calls Tryd.prog 48 #[.string s] w fun e w' => e = .returned (.bool (nameB s.data.toList)) ∧ w = w' := by
  go_enter Tryd.func48, Tryd.ntmps48
  go_wp2_with fail
  go_loop [8] (fun i => ∃ k : Nat, k ≤ s.size ∧ i = .int .i64 k ∧ Hid (∀ j (g : j < s.size), j < k → tailI ((s[j].toNat : Nat) : Int) = true) ∧ Hid (∀ (g : 0 < s.size), 0 < k → letterI ((s[0].toNat : Nat) : Int) = true)) (fun i => s.size - (intOf i).toNat)
  case atStart => exact ⟨0, Nat.zero_le _, rfl, fun j _ hj => by omega, fun g h => by omega⟩
  case round =>
    obtain ⟨k, hk, rfl, hR, hF⟩ := hrel
    by_cases hlt : k < s.size
    · have hcase := name_round s k hlt
      rcases hcase with ⟨hlo, hhi⟩ | ⟨hlo, hhi⟩ | ⟨hlo, hhi⟩ | ⟨hlo, hhi⟩ | ⟨hlo, hhi⟩ | ⟨hlo, hhi⟩ | ⟨hlo, hhi⟩ | ⟨hlo, hhi⟩ | ⟨hlo, hhi⟩
      · have f0 : decide (97 ≤ ((s[k].toNat : Nat) : Int)) = true := by simp; omega
        have f1 : decide (((s[k].toNat : Nat) : Int) ≤ 122) = true := by simp; omega
        have f2 : decide (65 ≤ ((s[k].toNat : Nat) : Int)) = true := by simp; omega
        have f3 : decide (((s[k].toNat : Nat) : Int) ≤ 90) = false := by simp; omega
        have f4 : decide (((s[k].toNat : Nat) : Int) < 48) = false := by simp; omega
        have f5 : decide (57 < ((s[k].toNat : Nat) : Int)) = true := by simp; omega
        have f6 : (((s[k].toNat : Nat) : Int) != 95) = true := by simp only [bne_iff_ne, ne_eq]; omega
        have HL := Lib.hid hlo; have HH := Lib.hid hhi; clear hlo hhi
        go_wp2_with fail
        go_round
        case rel => exact ⟨k + 1, by omega, by go_num, fun j g hj => by
          by_cases e : j = k
          · subst e; have h1 := HL.out; have h2 := HH.out; simp only [tailI, decide_eq_true_eq]; omega
          · exact hR.out j g (by omega), fun g h => by
          by_cases e : k = 0
          · subst e; have h1 := HL.out; have h2 := HH.out; simp only [letterI, decide_eq_true_eq]; omega
          · exact hF.out g (by omega)⟩
        case measure => simp [intOf]; omega
      · have f0 : decide (97 ≤ ((s[k].toNat : Nat) : Int)) = false := by simp; omega
        have f1 : decide (((s[k].toNat : Nat) : Int) ≤ 122) = true := by simp; omega
        have f2 : decide (65 ≤ ((s[k].toNat : Nat) : Int)) = true := by simp; omega
        have f3 : decide (((s[k].toNat : Nat) : Int) ≤ 90) = true := by simp; omega
        have f4 : decide (((s[k].toNat : Nat) : Int) < 48) = false := by simp; omega
        have f5 : decide (57 < ((s[k].toNat : Nat) : Int)) = true := by simp; omega
        have f6 : (((s[k].toNat : Nat) : Int) != 95) = true := by simp only [bne_iff_ne, ne_eq]; omega
        have HL := Lib.hid hlo; have HH := Lib.hid hhi; clear hlo hhi
        go_wp2_with fail
        go_round
        case rel => exact ⟨k + 1, by omega, by go_num, fun j g hj => by
          by_cases e : j = k
          · subst e; have h1 := HL.out; have h2 := HH.out; simp only [tailI, decide_eq_true_eq]; omega
          · exact hR.out j g (by omega), fun g h => by
          by_cases e : k = 0
          · subst e; have h1 := HL.out; have h2 := HH.out; simp only [letterI, decide_eq_true_eq]; omega
          · exact hF.out g (by omega)⟩
        case measure => simp [intOf]; omega
      · by_cases hk0 : k = 0
        · have HX := Lib.hid (nameB_first s (Nat.lt_of_le_of_lt (Nat.zero_le _) hlt) (by subst hk0; simp only [letterI, decide_eq_false_iff_not]; omega))
          have fk : ((k : Int) == 0) = true := by simp; omega
          clear hk0
          have f0 : decide (97 ≤ ((s[k].toNat : Nat) : Int)) = false := by simp; omega
          have f1 : decide (((s[k].toNat : Nat) : Int) ≤ 122) = true := by simp; omega
          have f2 : decide (65 ≤ ((s[k].toNat : Nat) : Int)) = false := by simp; omega
          have f3 : decide (((s[k].toNat : Nat) : Int) ≤ 90) = true := by simp; omega
          have f4 : decide (((s[k].toNat : Nat) : Int) < 48) = true := by simp; omega
          have f5 : decide (57 < ((s[k].toNat : Nat) : Int)) = false := by simp; omega
          have f6 : (((s[k].toNat : Nat) : Int) != 95) = true := by simp only [bne_iff_ne, ne_eq]; omega
          have HL := Lib.hid hlo; have HH := Lib.hid hhi; clear hlo hhi
          go_wp2_with fail
          go_ret
          exact ⟨ret_bool HX.out.symm, rfl⟩
        · have HX := Lib.hid (nameB_tail s k hlt (by simp only [tailI, decide_eq_false_iff_not]; omega))
          have fk : ((k : Int) == 0) = false := by simp; omega
          have f0 : decide (97 ≤ ((s[k].toNat : Nat) : Int)) = false := by simp; omega
          have f1 : decide (((s[k].toNat : Nat) : Int) ≤ 122) = true := by simp; omega
          have f2 : decide (65 ≤ ((s[k].toNat : Nat) : Int)) = false := by simp; omega
          have f3 : decide (((s[k].toNat : Nat) : Int) ≤ 90) = true := by simp; omega
          have f4 : decide (((s[k].toNat : Nat) : Int) < 48) = true := by simp; omega
          have f5 : decide (57 < ((s[k].toNat : Nat) : Int)) = false := by simp; omega
          have f6 : (((s[k].toNat : Nat) : Int) != 95) = true := by simp only [bne_iff_ne, ne_eq]; omega
          have HL := Lib.hid hlo; have HH := Lib.hid hhi; clear hlo hhi
          go_wp2_with fail
          go_ret
          exact ⟨ret_bool HX.out.symm, rfl⟩
      · by_cases hk0 : k = 0
        · have HX := Lib.hid (nameB_first s (Nat.lt_of_le_of_lt (Nat.zero_le _) hlt) (by subst hk0; simp only [letterI, decide_eq_false_iff_not]; omega))
          have fk : ((k : Int) == 0) = true := by simp; omega
          clear hk0
          have f0 : decide (97 ≤ ((s[k].toNat : Nat) : Int)) = false := by simp; omega
          have f1 : decide (((s[k].toNat : Nat) : Int) ≤ 122) = true := by simp; omega
          have f2 : decide (65 ≤ ((s[k].toNat : Nat) : Int)) = false := by simp; omega
          have f3 : decide (((s[k].toNat : Nat) : Int) ≤ 90) = true := by simp; omega
          have f4 : decide (((s[k].toNat : Nat) : Int) < 48) = false := by simp; omega
          have f5 : decide (57 < ((s[k].toNat : Nat) : Int)) = false := by simp; omega
          have f6 : (((s[k].toNat : Nat) : Int) != 95) = true := by simp only [bne_iff_ne, ne_eq]; omega
          have HL := Lib.hid hlo; have HH := Lib.hid hhi; clear hlo hhi
          go_wp2_with fail
          go_ret
          exact ⟨ret_bool HX.out.symm, rfl⟩
        · have fk : ((k : Int) == 0) = false := by simp; omega
          have f0 : decide (97 ≤ ((s[k].toNat : Nat) : Int)) = false := by simp; omega
          have f1 : decide (((s[k].toNat : Nat) : Int) ≤ 122) = true := by simp; omega
          have f2 : decide (65 ≤ ((s[k].toNat : Nat) : Int)) = false := by simp; omega
          have f3 : decide (((s[k].toNat : Nat) : Int) ≤ 90) = true := by simp; omega
          have f4 : decide (((s[k].toNat : Nat) : Int) < 48) = false := by simp; omega
          have f5 : decide (57 < ((s[k].toNat : Nat) : Int)) = false := by simp; omega
          have f6 : (((s[k].toNat : Nat) : Int) != 95) = true := by simp only [bne_iff_ne, ne_eq]; omega
          have HL := Lib.hid hlo; have HH := Lib.hid hhi; clear hlo hhi
          go_wp2_with fail
          go_round
          case rel => exact ⟨k + 1, by omega, by go_num, fun j g hj => by
            by_cases e : j = k
            · subst e; have h1 := HL.out; have h2 := HH.out; simp only [tailI, decide_eq_true_eq]; omega
            · exact hR.out j g (by omega), fun g h => hF.out g (by omega)⟩
          case measure => simp [intOf]; omega
      · by_cases hk0 : k = 0
        · have HX := Lib.hid (nameB_first s (Nat.lt_of_le_of_lt (Nat.zero_le _) hlt) (by subst hk0; simp only [letterI, decide_eq_false_iff_not]; omega))
          have fk : ((k : Int) == 0) = true := by simp; omega
          clear hk0
          have f0 : decide (97 ≤ ((s[k].toNat : Nat) : Int)) = false := by simp; omega
          have f1 : decide (((s[k].toNat : Nat) : Int) ≤ 122) = true := by simp; omega
          have f2 : decide (65 ≤ ((s[k].toNat : Nat) : Int)) = false := by simp; omega
          have f3 : decide (((s[k].toNat : Nat) : Int) ≤ 90) = true := by simp; omega
          have f4 : decide (((s[k].toNat : Nat) : Int) < 48) = false := by simp; omega
          have f5 : decide (57 < ((s[k].toNat : Nat) : Int)) = true := by simp; omega
          have f6 : (((s[k].toNat : Nat) : Int) != 95) = true := by simp only [bne_iff_ne, ne_eq]; omega
          have HL := Lib.hid hlo; have HH := Lib.hid hhi; clear hlo hhi
          go_wp2_with fail
          go_ret
          exact ⟨ret_bool HX.out.symm, rfl⟩
        · have HX := Lib.hid (nameB_tail s k hlt (by simp only [tailI, decide_eq_false_iff_not]; omega))
          have fk : ((k : Int) == 0) = false := by simp; omega
          have f0 : decide (97 ≤ ((s[k].toNat : Nat) : Int)) = false := by simp; omega
          have f1 : decide (((s[k].toNat : Nat) : Int) ≤ 122) = true := by simp; omega
          have f2 : decide (65 ≤ ((s[k].toNat : Nat) : Int)) = false := by simp; omega
          have f3 : decide (((s[k].toNat : Nat) : Int) ≤ 90) = true := by simp; omega
          have f4 : decide (((s[k].toNat : Nat) : Int) < 48) = false := by simp; omega
          have f5 : decide (57 < ((s[k].toNat : Nat) : Int)) = true := by simp; omega
          have f6 : (((s[k].toNat : Nat) : Int) != 95) = true := by simp only [bne_iff_ne, ne_eq]; omega
          have HL := Lib.hid hlo; have HH := Lib.hid hhi; clear hlo hhi
          go_wp2_with fail
          go_ret
          exact ⟨ret_bool HX.out.symm, rfl⟩
      · by_cases hk0 : k = 0
        · have HX := Lib.hid (nameB_first s (Nat.lt_of_le_of_lt (Nat.zero_le _) hlt) (by subst hk0; simp only [letterI, decide_eq_false_iff_not]; omega))
          have fk : ((k : Int) == 0) = true := by simp; omega
          clear hk0
          have f0 : decide (97 ≤ ((s[k].toNat : Nat) : Int)) = false := by simp; omega
          have f1 : decide (((s[k].toNat : Nat) : Int) ≤ 122) = true := by simp; omega
          have f2 : decide (65 ≤ ((s[k].toNat : Nat) : Int)) = true := by simp; omega
          have f3 : decide (((s[k].toNat : Nat) : Int) ≤ 90) = false := by simp; omega
          have f4 : decide (((s[k].toNat : Nat) : Int) < 48) = false := by simp; omega
          have f5 : decide (57 < ((s[k].toNat : Nat) : Int)) = true := by simp; omega
          have f6 : (((s[k].toNat : Nat) : Int) != 95) = true := by simp only [bne_iff_ne, ne_eq]; omega
          have HL := Lib.hid hlo; have HH := Lib.hid hhi; clear hlo hhi
          go_wp2_with fail
          go_ret
          exact ⟨ret_bool HX.out.symm, rfl⟩
        · have HX := Lib.hid (nameB_tail s k hlt (by simp only [tailI, decide_eq_false_iff_not]; omega))
          have fk : ((k : Int) == 0) = false := by simp; omega
          have f0 : decide (97 ≤ ((s[k].toNat : Nat) : Int)) = false := by simp; omega
          have f1 : decide (((s[k].toNat : Nat) : Int) ≤ 122) = true := by simp; omega
          have f2 : decide (65 ≤ ((s[k].toNat : Nat) : Int)) = true := by simp; omega
          have f3 : decide (((s[k].toNat : Nat) : Int) ≤ 90) = false := by simp; omega
          have f4 : decide (((s[k].toNat : Nat) : Int) < 48) = false := by simp; omega
          have f5 : decide (57 < ((s[k].toNat : Nat) : Int)) = true := by simp; omega
          have f6 : (((s[k].toNat : Nat) : Int) != 95) = true := by simp only [bne_iff_ne, ne_eq]; omega
          have HL := Lib.hid hlo; have HH := Lib.hid hhi; clear hlo hhi
          go_wp2_with fail
          go_ret
          exact ⟨ret_bool HX.out.symm, rfl⟩
      · by_cases hk0 : k = 0
        · have HX := Lib.hid (nameB_first s (Nat.lt_of_le_of_lt (Nat.zero_le _) hlt) (by subst hk0; simp only [letterI, decide_eq_false_iff_not]; omega))
          have fk : ((k : Int) == 0) = true := by simp; omega
          clear hk0
          have f0 : decide (97 ≤ ((s[k].toNat : Nat) : Int)) = false := by simp; omega
          have f1 : decide (((s[k].toNat : Nat) : Int) ≤ 122) = true := by simp; omega
          have f2 : decide (65 ≤ ((s[k].toNat : Nat) : Int)) = true := by simp; omega
          have f3 : decide (((s[k].toNat : Nat) : Int) ≤ 90) = false := by simp; omega
          have f4 : decide (((s[k].toNat : Nat) : Int) < 48) = false := by simp; omega
          have f5 : decide (57 < ((s[k].toNat : Nat) : Int)) = true := by simp; omega
          have f6 : (((s[k].toNat : Nat) : Int) != 95) = false := by simp only [bne_eq_false_iff_eq]; omega
          have HL := Lib.hid hlo; have HH := Lib.hid hhi; clear hlo hhi
          go_wp2_with fail
          go_ret
          exact ⟨ret_bool HX.out.symm, rfl⟩
        · have fk : ((k : Int) == 0) = false := by simp; omega
          have f0 : decide (97 ≤ ((s[k].toNat : Nat) : Int)) = false := by simp; omega
          have f1 : decide (((s[k].toNat : Nat) : Int) ≤ 122) = true := by simp; omega
          have f2 : decide (65 ≤ ((s[k].toNat : Nat) : Int)) = true := by simp; omega
          have f3 : decide (((s[k].toNat : Nat) : Int) ≤ 90) = false := by simp; omega
          have f4 : decide (((s[k].toNat : Nat) : Int) < 48) = false := by simp; omega
          have f5 : decide (57 < ((s[k].toNat : Nat) : Int)) = true := by simp; omega
          have f6 : (((s[k].toNat : Nat) : Int) != 95) = false := by simp only [bne_eq_false_iff_eq]; omega
          have HL := Lib.hid hlo; have HH := Lib.hid hhi; clear hlo hhi
          go_wp2_with fail
          go_round
          case rel => exact ⟨k + 1, by omega, by go_num, fun j g hj => by
            by_cases e : j = k
            · subst e; have h1 := HL.out; have h2 := HH.out; simp only [tailI, decide_eq_true_eq]; omega
            · exact hR.out j g (by omega), fun g h => hF.out g (by omega)⟩
          case measure => simp [intOf]; omega
      · by_cases hk0 : k = 0
        · have HX := Lib.hid (nameB_first s (Nat.lt_of_le_of_lt (Nat.zero_le _) hlt) (by subst hk0; simp only [letterI, decide_eq_false_iff_not]; omega))
          have fk : ((k : Int) == 0) = true := by simp; omega
          clear hk0
          have f0 : decide (97 ≤ ((s[k].toNat : Nat) : Int)) = false := by simp; omega
          have f1 : decide (((s[k].toNat : Nat) : Int) ≤ 122) = true := by simp; omega
          have f2 : decide (65 ≤ ((s[k].toNat : Nat) : Int)) = true := by simp; omega
          have f3 : decide (((s[k].toNat : Nat) : Int) ≤ 90) = false := by simp; omega
          have f4 : decide (((s[k].toNat : Nat) : Int) < 48) = false := by simp; omega
          have f5 : decide (57 < ((s[k].toNat : Nat) : Int)) = true := by simp; omega
          have f6 : (((s[k].toNat : Nat) : Int) != 95) = true := by simp only [bne_iff_ne, ne_eq]; omega
          have HL := Lib.hid hlo; have HH := Lib.hid hhi; clear hlo hhi
          go_wp2_with fail
          go_ret
          exact ⟨ret_bool HX.out.symm, rfl⟩
        · have HX := Lib.hid (nameB_tail s k hlt (by simp only [tailI, decide_eq_false_iff_not]; omega))
          have fk : ((k : Int) == 0) = false := by simp; omega
          have f0 : decide (97 ≤ ((s[k].toNat : Nat) : Int)) = false := by simp; omega
          have f1 : decide (((s[k].toNat : Nat) : Int) ≤ 122) = true := by simp; omega
          have f2 : decide (65 ≤ ((s[k].toNat : Nat) : Int)) = true := by simp; omega
          have f3 : decide (((s[k].toNat : Nat) : Int) ≤ 90) = false := by simp; omega
          have f4 : decide (((s[k].toNat : Nat) : Int) < 48) = false := by simp; omega
          have f5 : decide (57 < ((s[k].toNat : Nat) : Int)) = true := by simp; omega
          have f6 : (((s[k].toNat : Nat) : Int) != 95) = true := by simp only [bne_iff_ne, ne_eq]; omega
          have HL := Lib.hid hlo; have HH := Lib.hid hhi; clear hlo hhi
          go_wp2_with fail
          go_ret
          exact ⟨ret_bool HX.out.symm, rfl⟩
      · by_cases hk0 : k = 0
        · have HX := Lib.hid (nameB_first s (Nat.lt_of_le_of_lt (Nat.zero_le _) hlt) (by subst hk0; simp only [letterI, decide_eq_false_iff_not]; omega))
          have fk : ((k : Int) == 0) = true := by simp; omega
          clear hk0
          have f0 : decide (97 ≤ ((s[k].toNat : Nat) : Int)) = true := by simp; omega
          have f1 : decide (((s[k].toNat : Nat) : Int) ≤ 122) = false := by simp; omega
          have f2 : decide (65 ≤ ((s[k].toNat : Nat) : Int)) = true := by simp; omega
          have f3 : decide (((s[k].toNat : Nat) : Int) ≤ 90) = false := by simp; omega
          have f4 : decide (((s[k].toNat : Nat) : Int) < 48) = false := by simp; omega
          have f5 : decide (57 < ((s[k].toNat : Nat) : Int)) = true := by simp; omega
          have f6 : (((s[k].toNat : Nat) : Int) != 95) = true := by simp only [bne_iff_ne, ne_eq]; omega
          have HL := Lib.hid hlo; have HH := Lib.hid hhi; clear hlo hhi
          go_wp2_with fail
          go_ret
          exact ⟨ret_bool HX.out.symm, rfl⟩
        · have HX := Lib.hid (nameB_tail s k hlt (by simp only [tailI, decide_eq_false_iff_not]; omega))
          have fk : ((k : Int) == 0) = false := by simp; omega
          have f0 : decide (97 ≤ ((s[k].toNat : Nat) : Int)) = true := by simp; omega
          have f1 : decide (((s[k].toNat : Nat) : Int) ≤ 122) = false := by simp; omega
          have f2 : decide (65 ≤ ((s[k].toNat : Nat) : Int)) = true := by simp; omega
          have f3 : decide (((s[k].toNat : Nat) : Int) ≤ 90) = false := by simp; omega
          have f4 : decide (((s[k].toNat : Nat) : Int) < 48) = false := by simp; omega
          have f5 : decide (57 < ((s[k].toNat : Nat) : Int)) = true := by simp; omega
          have f6 : (((s[k].toNat : Nat) : Int) != 95) = true := by simp only [bne_iff_ne, ne_eq]; omega
          have HL := Lib.hid hlo; have HH := Lib.hid hhi; clear hlo hhi
          go_wp2_with fail
          go_ret
          exact ⟨ret_bool HX.out.symm, rfl⟩
    · by_cases h1 : s.size < 1
      · have HN := Lib.hid (nameB_len s (.inl h1))
        go_wp2_with fail
        go_ret
        exact ⟨ret_bool (by first | (rw [HN.out]; done) | (rw [HN.out]; simp <;> omega)), rfl⟩
      · by_cases h2 : 64 < s.size
        · have HN := Lib.hid (nameB_len s (.inr h2))
          go_wp2_with fail
          go_ret
          exact ⟨ret_bool (by first | (rw [HN.out]; done) | (rw [HN.out]; simp <;> omega)), rfl⟩
        · have HN := Lib.hid (nameB_of s (by omega) (by omega) (hF.out (by omega) (by omega)) (fun j g => hR.out j g (by omega)))
          go_wp2_with fail
          go_ret
          exact ⟨ret_bool (by first | (rw [HN.out]; done) | (rw [HN.out]; simp <;> omega)), rfl⟩
end Go.Proofs.YtnmolgmchoihmaaDoor
