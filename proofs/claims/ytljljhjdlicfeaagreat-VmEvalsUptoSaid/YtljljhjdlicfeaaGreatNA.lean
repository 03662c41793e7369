/-
  What small functions of bytes, numbers and names compute: letter, Word, name, takes, Takes, sign, bit, cmp.Compare. Conditions: texts shorter than 2^31.
-/
import Derived.Test.YtljljhjdlicfeaaGreatMA
import Derived.Test.YtljljhjdlicfeaaGreatProg
import Derived.WalkLawsBesides
import Derived.Deep.QuietTactic
import Derived.BigQuiet
import Derived.Outline
namespace Go.Proofs.YtljljhjdlicfeaaGreat
open Go Go.RowKit
set_option maxRecDepth 100000
set_option linter.unusedVariables false
def letterI (c : Int) : Bool := decide ((97 ≤ c ∧ c ≤ 122) ∨ (65 ≤ c ∧ c ≤ 90))
def tailI (c : Int) : Bool := decide ((97 ≤ c ∧ c ≤ 122) ∨ (65 ≤ c ∧ c ≤ 90) ∨ (48 ≤ c ∧ c ≤ 57) ∨ c = 95)
def nameB (l : List UInt8) : Bool := decide (1 ≤ l.length ∧ l.length ≤ 64) && (letterI (((l.getD 0 0).toNat : Nat) : Int) && l.all fun c => tailI ((c.toNat : Nat) : Int))
def takesOf (op : Int) : Int := if op = 6 ∨ op = 7 ∨ op = 21 then 1 else if (10 ≤ op ∧ op ≤ 20) ∨ op = 22 then 2 else 0
theorem takesOf_cases (op : Int) : takesOf op = 0 ∨ takesOf op = 1 ∨ takesOf op = 2 := by
  unfold takesOf; split <;> (try split) <;> simp
theorem letter_yes (c : Int) (w : World) (h : letterI c = true) : Calls Tryz.prog 69 #[.int .u8 c] w fun e w' => e = .returned (.bool true) ∧ w = w' := by
  have h' : (97 ≤ c ∧ c ≤ 122) ∨ (65 ≤ c ∧ c ≤ 90) := by simpa [letterI] using h
  clear h
  rcases h' with ⟨h1, h2⟩ | ⟨h1, h2⟩
  · go_enter Tryz.func69, Tryz.ntmps69
    go_wp2_with fail
    go_ret
    exact ⟨rfl, rfl⟩
  · have h3 : c < 97 := by omega
    go_enter Tryz.func69, Tryz.ntmps69
    go_wp2_with fail
    go_ret
    exact ⟨rfl, rfl⟩
theorem letter_no (c : Int) (w : World) (h : letterI c = false) : Calls Tryz.prog 69 #[.int .u8 c] w fun e w' => e = .returned (.bool false) ∧ w = w' := by
  have h' : c < 65 ∨ (90 < c ∧ c < 97) ∨ 122 < c := by simp [letterI] at h; omega
  clear h
  rcases h' with h1 | ⟨h1, h2⟩ | h1
  · have h2 : c < 97 := by omega
    go_enter Tryz.func69, Tryz.ntmps69
    go_wp2_with fail
    go_ret
    exact ⟨ret_bool (by simp; try omega), rfl⟩
  · have h3 : 65 ≤ c := by omega
    go_enter Tryz.func69, Tryz.ntmps69
    go_wp2_with fail
    go_ret
    exact ⟨ret_bool (by simp; try omega), rfl⟩
  · have h2 : 97 ≤ c := by omega
    have h3 : 90 < c := by omega
    have h4 : 65 ≤ c := by omega
    go_enter Tryz.func69, Tryz.ntmps69
    go_wp2_with fail
    go_ret
    exact ⟨ret_bool (by simp; try omega), rfl⟩
theorem takes_any (op : Int) (w : World) : Calls Tryz.prog 61 #[.int .i64 op] w fun e w' => e = .returned (.int .i64 (takesOf op)) ∧ w = w' := by
  have h : (op = 6 ∨ op = 7 ∨ op = 21 ∨ op = 22) ∨ (op < 6 ∨ (7 < op ∧ op < 10) ∨ 22 < op) ∨ (10 ≤ op ∧ op ≤ 20) := by omega
  rcases h with (rfl | rfl | rfl | rfl) | h | h
  all_goals try
    have e6 : (op == 6) = false := by simp; omega
    have e7 : (op == 7) = false := by simp; omega
    have e21 : (op == 21) = false := by simp; omega
    have e22 : (op == 22) = false := by simp; omega
  rotate_right
  · obtain ⟨h1, h2⟩ := h
    go_enter Tryz.func61, Tryz.ntmps61
    go_wp2_with fail
    go_ret
    refine ⟨ret_int ?_, rfl⟩
    unfold takesOf
    rw [if_neg (by omega), if_pos (by omega)]
  rotate_right
  · rcases h with h | ⟨h, h'⟩ | h
    all_goals
      go_enter Tryz.func61, Tryz.ntmps61
      go_wp2_with fail
    all_goals go_ret
    all_goals refine ⟨ret_int ?_, rfl⟩
    all_goals unfold takesOf
    all_goals rw [if_neg (by omega), if_neg (by omega)]
  all_goals
    go_enter Tryz.func61, Tryz.ntmps61
    go_wp2_with fail
    go_ret
    exact ⟨ret_int (by decide), rfl⟩
theorem rTakes_any (op : Int) (w : World) : Calls Tryz.prog 48 #[.int .i64 op] w fun e w' => e = .returned (.int .i64 (takesOf op)) ∧ w = w' := by
  have h : (op = 6 ∨ op = 7 ∨ op = 21 ∨ op = 22) ∨ (op = 10 ∨ op = 11 ∨ op = 12 ∨ op = 13 ∨ op = 14 ∨ op = 15 ∨ op = 16 ∨ op = 17 ∨ op = 18 ∨ op = 19 ∨ op = 20) ∨ op < 6 ∨ (7 < op ∧ op < 10) ∨ 22 < op := by omega
  rcases h with (rfl | rfl | rfl | rfl) | (rfl | rfl | rfl | rfl | rfl | rfl | rfl | rfl | rfl | rfl | rfl) | h | ⟨h1, h2⟩ | h
  all_goals
    go_enter Tryz.func48, Tryz.ntmps48
    go_wp2_with fail
  all_goals go_ret
  all_goals refine ⟨ret_int ?_, rfl⟩
  all_goals unfold takesOf
  all_goals first | rfl | (rw [if_neg (by omega), if_neg (by omega)]; done)
theorem nameB_of (s : ByteArray) (h0 : 1 ≤ s.size) (h1 : s.size ≤ 64) (hl : letterI ((s[0].toNat : Nat) : Int) = true) (h : ∀ j (g : j < s.size), tailI ((s[j].toNat : Nat) : Int) = true) : nameB s.data.toList = true := by
  have e : s.data.toList.getD 0 0 = s[0] := by
    rw [List.getD_eq_getElem?_getD, List.getElem?_eq_getElem (by simp; omega)]; rfl
  have a : s.data.toList.all (fun c => tailI ((c.toNat : Nat) : Int)) = true := by
    rw [List.all_eq_true]
    intro c hc
    obtain ⟨j, g, rfl⟩ := List.getElem_of_mem hc
    exact h j (by simpa using g)
  unfold nameB
  rw [e, hl, a]
  simp
  exact ⟨h0, h1⟩
theorem nameB_len (s : ByteArray) (h : s.size < 1 ∨ 64 < s.size) : nameB s.data.toList = false := by
  unfold nameB
  have : decide (1 ≤ s.data.toList.length ∧ s.data.toList.length ≤ 64) = false := by simp; intro h1; rcases h with h | h <;> omega
  rw [this]; rfl
theorem nameB_first (s : ByteArray) (h0 : 0 < s.size) (h : letterI ((s[0].toNat : Nat) : Int) = false) : nameB s.data.toList = false := by
  have e : s.data.toList.getD 0 0 = s[0] := by
    rw [List.getD_eq_getElem?_getD, List.getElem?_eq_getElem (by simpa using h0)]; rfl
  unfold nameB
  rw [e, h]; simp
theorem nameB_tail (s : ByteArray) (j : Nat) (hj : j < s.size) (h : tailI ((s[j].toNat : Nat) : Int) = false) : nameB s.data.toList = false := by
  have a : s.data.toList.all (fun c => tailI ((c.toNat : Nat) : Int)) = false := by
    rw [List.all_eq_false]
    exact ⟨s.data.toList[j]'(by simpa using hj), List.getElem_mem _, by rw [Bool.not_eq_true]; exact h⟩
  unfold nameB
  rw [a]; simp
set_option maxHeartbeats 1000000 in
theorem rWord_any (s : ByteArray) (hs : s.size ≤ 2147483647) (w : World) : Calls Tryz.prog 47 #[.string s] w fun e w' => e = .returned (.bool (nameB s.data.toList)) ∧ w = w' := by
  by_cases h1 : s.size < 1
  · have HN := Lib.hid (nameB_len s (.inl h1))
    go_enter Tryz.func47, Tryz.ntmps47
    go_wp2_with fail
    go_ret
    exact ⟨ret_bool HN.out.symm, rfl⟩
  by_cases h2 : 64 < s.size
  · have HN := Lib.hid (nameB_len s (.inr h2))
    go_enter Tryz.func47, Tryz.ntmps47
    go_wp2_with fail
    go_ret
    exact ⟨ret_bool HN.out.symm, rfl⟩
  have h3 : 0 < s.size := by omega
  cases hf : letterI ((s[0].toNat : Nat) : Int)
  · have HN := Lib.hid (nameB_first s h3 hf)
    have HF := Lib.hid hf
    clear hf
    go_enter Tryz.func47, Tryz.ntmps47
    go_wp2_with fail
    refine (letter_no _ _ HF.out).mono ?_
    rintro e w' ⟨rfl, rfl⟩
    go_wp2_with fail
    go_ret
    exact ⟨ret_bool HN.out.symm, rfl⟩
  have HF := Lib.hid hf
  clear hf
  go_enter Tryz.func47, Tryz.ntmps47
  go_wp2_with fail
  refine (letter_yes _ _ HF.out).mono ?_
  rintro e w' ⟨rfl, rfl⟩
  go_wp2_with fail
  go_loop [3] (fun i => ∃ k : Nat, k ≤ s.size ∧ i = .int .i64 k ∧ Hid (∀ j (g : j < s.size), j < k → tailI ((s[j].toNat : Nat) : Int) = true)) (fun i => s.size - (intOf i).toNat)
  case atStart => exact ⟨0, Nat.zero_le _, rfl, fun j _ hj => by omega⟩
  case round =>
    obtain ⟨k, hk, rfl, hR⟩ := hrel
    by_cases hlt : k < s.size
    · have hcase : letterI ((s[k].toNat : Nat) : Int) = true ∨ (letterI ((s[k].toNat : Nat) : Int) = false ∧ ((48 ≤ ((s[k].toNat : Nat) : Int) ∧ ((s[k].toNat : Nat) : Int) ≤ 57) ∨ ((s[k].toNat : Nat) : Int) = 95 ∨ (tailI ((s[k].toNat : Nat) : Int) = false ∧ (((s[k].toNat : Nat) : Int) < 48 ∨ (57 < ((s[k].toNat : Nat) : Int) ∧ (((s[k].toNat : Nat) : Int) == 95) = false))))) := by
        simp only [letterI, tailI, decide_eq_true_eq, decide_eq_false_iff_not, beq_eq_false_iff_ne]; omega
      rcases hcase with hy | ⟨hn, hc⟩
      · have HY := Lib.hid hy
        clear hy
        go_wp2_with fail
        refine (letter_yes _ _ HY.out).mono ?_
        rintro e w' ⟨rfl, rfl⟩
        go_wp2_with fail
        go_round
        case rel => exact ⟨k + 1, by omega, by go_num, fun j g hj => by
          by_cases e : j = k
          · subst e; have := HY.out; simp only [letterI, tailI, decide_eq_true_eq] at this ⊢; omega
          · exact hR.out j g (by omega)⟩
        case measure => simp [intOf]; omega
      have HN := Lib.hid hn
      clear hn
      rcases hc with ⟨h48, h57⟩ | h95 | ⟨ht, h48 | ⟨h57, h95⟩⟩
      rotate_left
      · have hne : (((s[k].toNat : Nat) : Int) != 95) = false := by simp only [bne_eq_false_iff_eq]; exact h95
        have hge : 57 < ((s[k].toNat : Nat) : Int) := by omega
        have H95 := Lib.hid h95
        clear h95
        go_wp2_with fail
        refine (letter_no _ _ HN.out).mono ?_
        rintro e w' ⟨rfl, rfl⟩
        go_wp2_with fail
        go_round
        case rel => exact ⟨k + 1, by omega, by go_num, fun j g hj => by
          by_cases e : j = k
          · subst e; have := H95.out; simp only [tailI, decide_eq_true_eq]; omega
          · exact hR.out j g (by omega)⟩
        case measure => simp [intOf]; omega
      rotate_right
      · go_wp2_with fail
        refine (letter_no _ _ HN.out).mono ?_
        rintro e w' ⟨rfl, rfl⟩
        go_wp2_with fail
        go_round
        case rel => exact ⟨k + 1, by omega, by go_num, fun j g hj => by
          by_cases e : j = k
          · subst e; simp only [tailI, decide_eq_true_eq]; omega
          · exact hR.out j g (by omega)⟩
        case measure => simp [intOf]; omega
      · have HT := Lib.hid ht
        clear ht
        go_wp2_with fail
        refine (letter_no _ _ HN.out).mono ?_
        rintro e w' ⟨rfl, rfl⟩
        go_wp2_with fail
        go_ret
        exact ⟨ret_bool (nameB_tail s k hlt HT.out).symm, rfl⟩
      · have HT := Lib.hid ht
        have hne : (((s[k].toNat : Nat) : Int) != 95) = true := by simp only [bne_iff_ne]; simpa using h95
        have hle : decide (((s[k].toNat : Nat) : Int) ≤ 57) = false := by simp; omega
        clear ht h95
        go_wp2_with fail
        refine (letter_no _ _ HN.out).mono ?_
        rintro e w' ⟨rfl, rfl⟩
        go_wp2_with fail
        go_ret
        exact ⟨ret_bool (nameB_tail s k hlt HT.out).symm, rfl⟩
    · go_wp2_with fail
      go_ret
      exact ⟨ret_bool (nameB_of s (by omega) (by omega) HF.out (fun j g => hR.out j g (by omega))).symm, rfl⟩
end Go.Proofs.YtljljhjdlicfeaaGreat
namespace Go.Proofs.YtljljhjdlicfeaaGreat
open Go Go.RowKit
set_option maxRecDepth 100000
set_option linter.unusedVariables false
set_option maxHeartbeats 2000000 in
theorem name_round (s : ByteArray) (k : Nat) (hlt : k < s.size) : ((97 ≤ ((s[k].toNat : Nat) : Int) ∧ ((s[k].toNat : Nat) : Int) ≤ 122) ∨ (65 ≤ ((s[k].toNat : Nat) : Int) ∧ ((s[k].toNat : Nat) : Int) ≤ 90) ∨ (0 ≤ ((s[k].toNat : Nat) : Int) ∧ ((s[k].toNat : Nat) : Int) ≤ 47) ∨ (48 ≤ ((s[k].toNat : Nat) : Int) ∧ ((s[k].toNat : Nat) : Int) ≤ 57) ∨ (58 ≤ ((s[k].toNat : Nat) : Int) ∧ ((s[k].toNat : Nat) : Int) ≤ 64) ∨ (91 ≤ ((s[k].toNat : Nat) : Int) ∧ ((s[k].toNat : Nat) : Int) ≤ 94) ∨ (95 ≤ ((s[k].toNat : Nat) : Int) ∧ ((s[k].toNat : Nat) : Int) ≤ 95) ∨ (96 ≤ ((s[k].toNat : Nat) : Int) ∧ ((s[k].toNat : Nat) : Int) ≤ 96) ∨ (123 ≤ ((s[k].toNat : Nat) : Int) ∧ ((s[k].toNat : Nat) : Int) ≤ 255)) := by
  have := s[k].toNat_lt
  omega
set_option maxHeartbeats 4000000 in
theorem name_any (s : ByteArray) (hs : s.size ≤ 2147483647) (w : World) : Calls Tryz.prog 62 #[.string s] w fun e w' => e = .returned (.bool (nameB s.data.toList)) ∧ w = w' := by
  go_enter Tryz.func62, Tryz.ntmps62
  go_wp2_with fail
  go_loop [8] (fun i => ∃ k : Nat, k ≤ s.size ∧ i = .int .i64 k ∧ Hid (∀ j (g : j < s.size), j < k → tailI ((s[j].toNat : Nat) : Int) = true) ∧ Hid (∀ (g : 0 < s.size), 0 < k → letterI ((s[0].toNat : Nat) : Int) = true)) (fun i => s.size - (intOf i).toNat)
  case atStart => exact ⟨0, Nat.zero_le _, rfl, fun j _ hj => by omega, fun g h => by omega⟩
  case round =>
    obtain ⟨k, hk, rfl, hR, hF⟩ := hrel
    by_cases hlt : k < s.size
    · have hcase := name_round s k hlt
      rcases hcase with ⟨hlo, hhi⟩ | ⟨hlo, hhi⟩ | ⟨hlo, hhi⟩ | ⟨hlo, hhi⟩ | ⟨hlo, hhi⟩ | ⟨hlo, hhi⟩ | ⟨hlo, hhi⟩ | ⟨hlo, hhi⟩ | ⟨hlo, hhi⟩
      · have f0 : decide (97 ≤ ((s[k].toNat : Nat) : Int)) = true := by simp; omega
        have f1 : decide (((s[k].toNat : Nat) : Int) ≤ 122) = true := by simp; omega
        have f2 : decide (65 ≤ ((s[k].toNat : Nat) : Int)) = true := by simp; omega
        have f3 : decide (((s[k].toNat : Nat) : Int) ≤ 90) = false := by simp; omega
        have f4 : decide (((s[k].toNat : Nat) : Int) < 48) = false := by simp; omega
        have f5 : decide (57 < ((s[k].toNat : Nat) : Int)) = true := by simp; omega
        have f6 : (((s[k].toNat : Nat) : Int) != 95) = true := by simp only [bne_iff_ne, ne_eq]; omega
        have HL := Lib.hid hlo; have HH := Lib.hid hhi; clear hlo hhi
        go_wp2_with fail
        go_round
        case rel => exact ⟨k + 1, by omega, by go_num, fun j g hj => by
          by_cases e : j = k
          · subst e; have h1 := HL.out; have h2 := HH.out; simp only [tailI, decide_eq_true_eq]; omega
          · exact hR.out j g (by omega), fun g h => by
          by_cases e : k = 0
          · subst e; have h1 := HL.out; have h2 := HH.out; simp only [letterI, decide_eq_true_eq]; omega
          · exact hF.out g (by omega)⟩
        case measure => simp [intOf]; omega
      · have f0 : decide (97 ≤ ((s[k].toNat : Nat) : Int)) = false := by simp; omega
        have f1 : decide (((s[k].toNat : Nat) : Int) ≤ 122) = true := by simp; omega
        have f2 : decide (65 ≤ ((s[k].toNat : Nat) : Int)) = true := by simp; omega
        have f3 : decide (((s[k].toNat : Nat) : Int) ≤ 90) = true := by simp; omega
        have f4 : decide (((s[k].toNat : Nat) : Int) < 48) = false := by simp; omega
        have f5 : decide (57 < ((s[k].toNat : Nat) : Int)) = true := by simp; omega
        have f6 : (((s[k].toNat : Nat) : Int) != 95) = true := by simp only [bne_iff_ne, ne_eq]; omega
        have HL := Lib.hid hlo; have HH := Lib.hid hhi; clear hlo hhi
        go_wp2_with fail
        go_round
        case rel => exact ⟨k + 1, by omega, by go_num, fun j g hj => by
          by_cases e : j = k
          · subst e; have h1 := HL.out; have h2 := HH.out; simp only [tailI, decide_eq_true_eq]; omega
          · exact hR.out j g (by omega), fun g h => by
          by_cases e : k = 0
          · subst e; have h1 := HL.out; have h2 := HH.out; simp only [letterI, decide_eq_true_eq]; omega
          · exact hF.out g (by omega)⟩
        case measure => simp [intOf]; omega
      · by_cases hk0 : k = 0
        · have HX := Lib.hid (nameB_first s (Nat.lt_of_le_of_lt (Nat.zero_le _) hlt) (by subst hk0; simp only [letterI, decide_eq_false_iff_not]; omega))
          have fk : ((k : Int) == 0) = true := by simp; omega
          clear hk0
          have f0 : decide (97 ≤ ((s[k].toNat : Nat) : Int)) = false := by simp; omega
          have f1 : decide (((s[k].toNat : Nat) : Int) ≤ 122) = true := by simp; omega
          have f2 : decide (65 ≤ ((s[k].toNat : Nat) : Int)) = false := by simp; omega
          have f3 : decide (((s[k].toNat : Nat) : Int) ≤ 90) = true := by simp; omega
          have f4 : decide (((s[k].toNat : Nat) : Int) < 48) = true := by simp; omega
          have f5 : decide (57 < ((s[k].toNat : Nat) : Int)) = false := by simp; omega
          have f6 : (((s[k].toNat : Nat) : Int) != 95) = true := by simp only [bne_iff_ne, ne_eq]; omega
          have HL := Lib.hid hlo; have HH := Lib.hid hhi; clear hlo hhi
          go_wp2_with fail
          go_ret
          exact ⟨ret_bool HX.out.symm, rfl⟩
        · have HX := Lib.hid (nameB_tail s k hlt (by simp only [tailI, decide_eq_false_iff_not]; omega))
          have fk : ((k : Int) == 0) = false := by simp; omega
          have f0 : decide (97 ≤ ((s[k].toNat : Nat) : Int)) = false := by simp; omega
          have f1 : decide (((s[k].toNat : Nat) : Int) ≤ 122) = true := by simp; omega
          have f2 : decide (65 ≤ ((s[k].toNat : Nat) : Int)) = false := by simp; omega
          have f3 : decide (((s[k].toNat : Nat) : Int) ≤ 90) = true := by simp; omega
          have f4 : decide (((s[k].toNat : Nat) : Int) < 48) = true := by simp; omega
          have f5 : decide (57 < ((s[k].toNat : Nat) : Int)) = false := by simp; omega
          have f6 : (((s[k].toNat : Nat) : Int) != 95) = true := by simp only [bne_iff_ne, ne_eq]; omega
          have HL := Lib.hid hlo; have HH := Lib.hid hhi; clear hlo hhi
          go_wp2_with fail
          go_ret
          exact ⟨ret_bool HX.out.symm, rfl⟩
      · by_cases hk0 : k = 0
        · have HX := Lib.hid (nameB_first s (Nat.lt_of_le_of_lt (Nat.zero_le _) hlt) (by subst hk0; simp only [letterI, decide_eq_false_iff_not]; omega))
          have fk : ((k : Int) == 0) = true := by simp; omega
          clear hk0
          have f0 : decide (97 ≤ ((s[k].toNat : Nat) : Int)) = false := by simp; omega
          have f1 : decide (((s[k].toNat : Nat) : Int) ≤ 122) = true := by simp; omega
          have f2 : decide (65 ≤ ((s[k].toNat : Nat) : Int)) = false := by simp; omega
          have f3 : decide (((s[k].toNat : Nat) : Int) ≤ 90) = true := by simp; omega
          have f4 : decide (((s[k].toNat : Nat) : Int) < 48) = false := by simp; omega
          have f5 : decide (57 < ((s[k].toNat : Nat) : Int)) = false := by simp; omega
          have f6 : (((s[k].toNat : Nat) : Int) != 95) = true := by simp only [bne_iff_ne, ne_eq]; omega
          have HL := Lib.hid hlo; have HH := Lib.hid hhi; clear hlo hhi
          go_wp2_with fail
          go_ret
          exact ⟨ret_bool HX.out.symm, rfl⟩
        · have fk : ((k : Int) == 0) = false := by simp; omega
          have f0 : decide (97 ≤ ((s[k].toNat : Nat) : Int)) = false := by simp; omega
          have f1 : decide (((s[k].toNat : Nat) : Int) ≤ 122) = true := by simp; omega
          have f2 : decide (65 ≤ ((s[k].toNat : Nat) : Int)) = false := by simp; omega
          have f3 : decide (((s[k].toNat : Nat) : Int) ≤ 90) = true := by simp; omega
          have f4 : decide (((s[k].toNat : Nat) : Int) < 48) = false := by simp; omega
          have f5 : decide (57 < ((s[k].toNat : Nat) : Int)) = false := by simp; omega
          have f6 : (((s[k].toNat : Nat) : Int) != 95) = true := by simp only [bne_iff_ne, ne_eq]; omega
          have HL := Lib.hid hlo; have HH := Lib.hid hhi; clear hlo hhi
          go_wp2_with fail
          go_round
          case rel => exact ⟨k + 1, by omega, by go_num, fun j g hj => by
            by_cases e : j = k
            · subst e; have h1 := HL.out; have h2 := HH.out; simp only [tailI, decide_eq_true_eq]; omega
            · exact hR.out j g (by omega), fun g h => hF.out g (by omega)⟩
          case measure => simp [intOf]; omega
      · by_cases hk0 : k = 0
        · have HX := Lib.hid (nameB_first s (Nat.lt_of_le_of_lt (Nat.zero_le _) hlt) (by subst hk0; simp only [letterI, decide_eq_false_iff_not]; omega))
          have fk : ((k : Int) == 0) = true := by simp; omega
          clear hk0
          have f0 : decide (97 ≤ ((s[k].toNat : Nat) : Int)) = false := by simp; omega
          have f1 : decide (((s[k].toNat : Nat) : Int) ≤ 122) = true := by simp; omega
          have f2 : decide (65 ≤ ((s[k].toNat : Nat) : Int)) = false := by simp; omega
          have f3 : decide (((s[k].toNat : Nat) : Int) ≤ 90) = true := by simp; omega
          have f4 : decide (((s[k].toNat : Nat) : Int) < 48) = false := by simp; omega
          have f5 : decide (57 < ((s[k].toNat : Nat) : Int)) = true := by simp; omega
          have f6 : (((s[k].toNat : Nat) : Int) != 95) = true := by simp only [bne_iff_ne, ne_eq]; omega
          have HL := Lib.hid hlo; have HH := Lib.hid hhi; clear hlo hhi
          go_wp2_with fail
          go_ret
          exact ⟨ret_bool HX.out.symm, rfl⟩
        · have HX := Lib.hid (nameB_tail s k hlt (by simp only [tailI, decide_eq_false_iff_not]; omega))
          have fk : ((k : Int) == 0) = false := by simp; omega
          have f0 : decide (97 ≤ ((s[k].toNat : Nat) : Int)) = false := by simp; omega
          have f1 : decide (((s[k].toNat : Nat) : Int) ≤ 122) = true := by simp; omega
          have f2 : decide (65 ≤ ((s[k].toNat : Nat) : Int)) = false := by simp; omega
          have f3 : decide (((s[k].toNat : Nat) : Int) ≤ 90) = true := by simp; omega
          have f4 : decide (((s[k].toNat : Nat) : Int) < 48) = false := by simp; omega
          have f5 : decide (57 < ((s[k].toNat : Nat) : Int)) = true := by simp; omega
          have f6 : (((s[k].toNat : Nat) : Int) != 95) = true := by simp only [bne_iff_ne, ne_eq]; omega
          have HL := Lib.hid hlo; have HH := Lib.hid hhi; clear hlo hhi
          go_wp2_with fail
          go_ret
          exact ⟨ret_bool HX.out.symm, rfl⟩
      · by_cases hk0 : k = 0
        · have HX := Lib.hid (nameB_first s (Nat.lt_of_le_of_lt (Nat.zero_le _) hlt) (by subst hk0; simp only [letterI, decide_eq_false_iff_not]; omega))
          have fk : ((k : Int) == 0) = true := by simp; omega
          clear hk0
          have f0 : decide (97 ≤ ((s[k].toNat : Nat) : Int)) = false := by simp; omega
          have f1 : decide (((s[k].toNat : Nat) : Int) ≤ 122) = true := by simp; omega
          have f2 : decide (65 ≤ ((s[k].toNat : Nat) : Int)) = true := by simp; omega
          have f3 : decide (((s[k].toNat : Nat) : Int) ≤ 90) = false := by simp; omega
          have f4 : decide (((s[k].toNat : Nat) : Int) < 48) = false := by simp; omega
          have f5 : decide (57 < ((s[k].toNat : Nat) : Int)) = true := by simp; omega
          have f6 : (((s[k].toNat : Nat) : Int) != 95) = true := by simp only [bne_iff_ne, ne_eq]; omega
          have HL := Lib.hid hlo; have HH := Lib.hid hhi; clear hlo hhi
          go_wp2_with fail
          go_ret
          exact ⟨ret_bool HX.out.symm, rfl⟩
        · have HX := Lib.hid (nameB_tail s k hlt (by simp only [tailI, decide_eq_false_iff_not]; omega))
          have fk : ((k : Int) == 0) = false := by simp; omega
          have f0 : decide (97 ≤ ((s[k].toNat : Nat) : Int)) = false := by simp; omega
          have f1 : decide (((s[k].toNat : Nat) : Int) ≤ 122) = true := by simp; omega
          have f2 : decide (65 ≤ ((s[k].toNat : Nat) : Int)) = true := by simp; omega
          have f3 : decide (((s[k].toNat : Nat) : Int) ≤ 90) = false := by simp; omega
          have f4 : decide (((s[k].toNat : Nat) : Int) < 48) = false := by simp; omega
          have f5 : decide (57 < ((s[k].toNat : Nat) : Int)) = true := by simp; omega
          have f6 : (((s[k].toNat : Nat) : Int) != 95) = true := by simp only [bne_iff_ne, ne_eq]; omega
          have HL := Lib.hid hlo; have HH := Lib.hid hhi; clear hlo hhi
          go_wp2_with fail
          go_ret
          exact ⟨ret_bool HX.out.symm, rfl⟩
      · by_cases hk0 : k = 0
        · have HX := Lib.hid (nameB_first s (Nat.lt_of_le_of_lt (Nat.zero_le _) hlt) (by subst hk0; simp only [letterI, decide_eq_false_iff_not]; omega))
          have fk : ((k : Int) == 0) = true := by simp; omega
          clear hk0
          have f0 : decide (97 ≤ ((s[k].toNat : Nat) : Int)) = false := by simp; omega
          have f1 : decide (((s[k].toNat : Nat) : Int) ≤ 122) = true := by simp; omega
          have f2 : decide (65 ≤ ((s[k].toNat : Nat) : Int)) = true := by simp; omega
          have f3 : decide (((s[k].toNat : Nat) : Int) ≤ 90) = false := by simp; omega
          have f4 : decide (((s[k].toNat : Nat) : Int) < 48) = false := by simp; omega
          have f5 : decide (57 < ((s[k].toNat : Nat) : Int)) = true := by simp; omega
          have f6 : (((s[k].toNat : Nat) : Int) != 95) = false := by simp only [bne_eq_false_iff_eq]; omega
          have HL := Lib.hid hlo; have HH := Lib.hid hhi; clear hlo hhi
          go_wp2_with fail
          go_ret
          exact ⟨ret_bool HX.out.symm, rfl⟩
        · have fk : ((k : Int) == 0) = false := by simp; omega
          have f0 : decide (97 ≤ ((s[k].toNat : Nat) : Int)) = false := by simp; omega
          have f1 : decide (((s[k].toNat : Nat) : Int) ≤ 122) = true := by simp; omega
          have f2 : decide (65 ≤ ((s[k].toNat : Nat) : Int)) = true := by simp; omega
          have f3 : decide (((s[k].toNat : Nat) : Int) ≤ 90) = false := by simp; omega
          have f4 : decide (((s[k].toNat : Nat) : Int) < 48) = false := by simp; omega
          have f5 : decide (57 < ((s[k].toNat : Nat) : Int)) = true := by simp; omega
          have f6 : (((s[k].toNat : Nat) : Int) != 95) = false := by simp only [bne_eq_false_iff_eq]; omega
          have HL := Lib.hid hlo; have HH := Lib.hid hhi; clear hlo hhi
          go_wp2_with fail
          go_round
          case rel => exact ⟨k + 1, by omega, by go_num, fun j g hj => by
            by_cases e : j = k
            · subst e; have h1 := HL.out; have h2 := HH.out; simp only [tailI, decide_eq_true_eq]; omega
            · exact hR.out j g (by omega), fun g h => hF.out g (by omega)⟩
          case measure => simp [intOf]; omega
      · by_cases hk0 : k = 0
        · have HX := Lib.hid (nameB_first s (Nat.lt_of_le_of_lt (Nat.zero_le _) hlt) (by subst hk0; simp only [letterI, decide_eq_false_iff_not]; omega))
          have fk : ((k : Int) == 0) = true := by simp; omega
          clear hk0
          have f0 : decide (97 ≤ ((s[k].toNat : Nat) : Int)) = false := by simp; omega
          have f1 : decide (((s[k].toNat : Nat) : Int) ≤ 122) = true := by simp; omega
          have f2 : decide (65 ≤ ((s[k].toNat : Nat) : Int)) = true := by simp; omega
          have f3 : decide (((s[k].toNat : Nat) : Int) ≤ 90) = false := by simp; omega
          have f4 : decide (((s[k].toNat : Nat) : Int) < 48) = false := by simp; omega
          have f5 : decide (57 < ((s[k].toNat : Nat) : Int)) = true := by simp; omega
          have f6 : (((s[k].toNat : Nat) : Int) != 95) = true := by simp only [bne_iff_ne, ne_eq]; omega
          have HL := Lib.hid hlo; have HH := Lib.hid hhi; clear hlo hhi
          go_wp2_with fail
          go_ret
          exact ⟨ret_bool HX.out.symm, rfl⟩
        · have HX := Lib.hid (nameB_tail s k hlt (by simp only [tailI, decide_eq_false_iff_not]; omega))
          have fk : ((k : Int) == 0) = false := by simp; omega
          have f0 : decide (97 ≤ ((s[k].toNat : Nat) : Int)) = false := by simp; omega
          have f1 : decide (((s[k].toNat : Nat) : Int) ≤ 122) = true := by simp; omega
          have f2 : decide (65 ≤ ((s[k].toNat : Nat) : Int)) = true := by simp; omega
          have f3 : decide (((s[k].toNat : Nat) : Int) ≤ 90) = false := by simp; omega
          have f4 : decide (((s[k].toNat : Nat) : Int) < 48) = false := by simp; omega
          have f5 : decide (57 < ((s[k].toNat : Nat) : Int)) = true := by simp; omega
          have f6 : (((s[k].toNat : Nat) : Int) != 95) = true := by simp only [bne_iff_ne, ne_eq]; omega
          have HL := Lib.hid hlo; have HH := Lib.hid hhi; clear hlo hhi
          go_wp2_with fail
          go_ret
          exact ⟨ret_bool HX.out.symm, rfl⟩
      · by_cases hk0 : k = 0
        · have HX := Lib.hid (nameB_first s (Nat.lt_of_le_of_lt (Nat.zero_le _) hlt) (by subst hk0; simp only [letterI, decide_eq_false_iff_not]; omega))
          have fk : ((k : Int) == 0) = true := by simp; omega
          clear hk0
          have f0 : decide (97 ≤ ((s[k].toNat : Nat) : Int)) = true := by simp; omega
          have f1 : decide (((s[k].toNat : Nat) : Int) ≤ 122) = false := by simp; omega
          have f2 : decide (65 ≤ ((s[k].toNat : Nat) : Int)) = true := by simp; omega
          have f3 : decide (((s[k].toNat : Nat) : Int) ≤ 90) = false := by simp; omega
          have f4 : decide (((s[k].toNat : Nat) : Int) < 48) = false := by simp; omega
          have f5 : decide (57 < ((s[k].toNat : Nat) : Int)) = true := by simp; omega
          have f6 : (((s[k].toNat : Nat) : Int) != 95) = true := by simp only [bne_iff_ne, ne_eq]; omega
          have HL := Lib.hid hlo; have HH := Lib.hid hhi; clear hlo hhi
          go_wp2_with fail
          go_ret
          exact ⟨ret_bool HX.out.symm, rfl⟩
        · have HX := Lib.hid (nameB_tail s k hlt (by simp only [tailI, decide_eq_false_iff_not]; omega))
          have fk : ((k : Int) == 0) = false := by simp; omega
          have f0 : decide (97 ≤ ((s[k].toNat : Nat) : Int)) = true := by simp; omega
          have f1 : decide (((s[k].toNat : Nat) : Int) ≤ 122) = false := by simp; omega
          have f2 : decide (65 ≤ ((s[k].toNat : Nat) : Int)) = true := by simp; omega
          have f3 : decide (((s[k].toNat : Nat) : Int) ≤ 90) = false := by simp; omega
          have f4 : decide (((s[k].toNat : Nat) : Int) < 48) = false := by simp; omega
          have f5 : decide (57 < ((s[k].toNat : Nat) : Int)) = true := by simp; omega
          have f6 : (((s[k].toNat : Nat) : Int) != 95) = true := by simp only [bne_iff_ne, ne_eq]; omega
          have HL := Lib.hid hlo; have HH := Lib.hid hhi; clear hlo hhi
          go_wp2_with fail
          go_ret
          exact ⟨ret_bool HX.out.symm, rfl⟩
    · by_cases h1 : s.size < 1
      · have HN := Lib.hid (nameB_len s (.inl h1))
        go_wp2_with fail
        go_ret
        exact ⟨ret_bool (by first | (rw [HN.out]; done) | (rw [HN.out]; simp <;> omega)), rfl⟩
      · by_cases h2 : 64 < s.size
        · have HN := Lib.hid (nameB_len s (.inr h2))
          go_wp2_with fail
          go_ret
          exact ⟨ret_bool (by first | (rw [HN.out]; done) | (rw [HN.out]; simp <;> omega)), rfl⟩
        · have HN := Lib.hid (nameB_of s (by omega) (by omega) (hF.out (by omega) (by omega)) (fun j g => hR.out j g (by omega)))
          go_wp2_with fail
          go_ret
          exact ⟨ret_bool (by first | (rw [HN.out]; done) | (rw [HN.out]; simp <;> omega)), rfl⟩
end Go.Proofs.YtljljhjdlicfeaaGreat
