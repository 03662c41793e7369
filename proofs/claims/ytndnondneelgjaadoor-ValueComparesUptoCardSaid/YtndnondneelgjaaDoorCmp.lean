/-
  What cmp.Compare tells of two numbers, of two texts; bit, sign. Conditions: none.
-/
import Derived.Test.YtndnondneelgjaaDoorOrderP
namespace Go.Proofs.YtndnondneelgjaaDoor
open Go Go.RowKit
set_option maxRecDepth 100000
set_option linter.unusedVariables false
theorem nanI_any (a : Int) (w : World) : Calls Tryd.prog 54 #[.int .i64 a] w fun e w' => e = .returned (.bool false) ∧ w' = w := by
  have h : (a != a) = false := by simp
  go_enter Tryd.func54, Tryd.ntmps54
  go_wp2_with fail
  go_ret
  exact ⟨rfl, rfl⟩
theorem nan64_any (a : Int) (w : World) : Calls Tryd.prog 55 #[.int .i64 a] w fun e w' => e = .returned (.bool false) ∧ w' = w := by
  have h : (a != a) = false := by simp
  go_enter Tryd.func55, Tryd.ntmps55
  go_wp2_with fail
  go_ret
  exact ⟨rfl, rfl⟩
theorem nanT_any (a : ByteArray) (w : World) : Calls Tryd.prog 56 #[.string a] w fun e w' => e = .returned (.bool false) ∧ w' = w := by
  have h : (a.toList == a.toList) = true := by simp
  have h' : (a.toList != a.toList) = false := by simp
  go_enter Tryd.func56, Tryd.ntmps56
  go_wp2_with fail
  go_ret
  exact ⟨rfl, rfl⟩
theorem cmpI_cases (a b : Int) : (decide (a < b) = true ∧ cmpI a b = -1) ∨ (decide (a < b) = false ∧ decide (b < a) = true ∧ cmpI a b = 1) ∨ (decide (a < b) = false ∧ decide (b < a) = false ∧ cmpI a b = 0) := by
  unfold cmpI
  by_cases h : a < b
  · exact .inl ⟨by simpa using h, if_pos h⟩
  · by_cases h2 : b < a
    · exact .inr (.inl ⟨by simpa using h, by simpa using h2, by rw [if_neg h, if_pos h2]⟩)
    · exact .inr (.inr ⟨by simpa using h, by simpa using h2, by rw [if_neg h, if_neg h2]⟩)
theorem cmpT_cases (a b : List UInt8) : (Op.bytesLess a b = true ∧ cmpT a b = -1) ∨ (Op.bytesLess a b = false ∧ (a == b) = false ∧ cmpT a b = 1) ∨ (Op.bytesLess a b = false ∧ (a == b) = true ∧ cmpT a b = 0) := by
  by_cases h : Op.bytesLess a b = true
  · exact .inl ⟨h, if_pos h⟩
  · have h' : Op.bytesLess a b = false := by simpa using h
    by_cases h2 : a = b
    · exact .inr (.inr ⟨h', by simpa using h2, cmpT_zero.2 h2⟩)
    · have h3 : Op.bytesLess b a = true := by
        cases e : Op.bytesLess b a
        · exact absurd (less_total a b h' e) h2
        · rfl
      exact .inr (.inl ⟨h', by simpa using h2, by unfold cmpT; rw [if_neg h, if_pos h3]⟩)
theorem compareI_any (a b : Int) (w : World) : Calls Tryd.prog 34 #[.int .i64 a, .int .i64 b] w fun e w' => e = .returned (.int .i64 (cmpI a b)) ∧ w' = w := by
  have n1 := Lib.hid (nanI_any a w)
  have n2 := Lib.hid (nanI_any b w)
  rcases cmpI_cases a b with ⟨h1, h⟩ | ⟨h1, h2, h⟩ | ⟨h1, h2, h⟩
  all_goals
    rw [h]
    clear h
    go_enter Tryd.func34, Tryd.ntmps34
    go_wp2_with fail
    refine n1.out.mono ?_
    rintro e w1 ⟨rfl, rfl⟩
    go_wp2_with fail
    refine n2.out.mono ?_
    rintro e w1 ⟨rfl, rfl⟩
    go_wp2_with fail
    go_ret
    exact ⟨rfl, rfl⟩
theorem compare64_any (a b : Int) (w : World) : Calls Tryd.prog 36 #[.int .i64 a, .int .i64 b] w fun e w' => e = .returned (.int .i64 (cmpI a b)) ∧ w' = w := by
  have n1 := Lib.hid (nan64_any a w)
  have n2 := Lib.hid (nan64_any b w)
  rcases cmpI_cases a b with ⟨h1, h⟩ | ⟨h1, h2, h⟩ | ⟨h1, h2, h⟩
  all_goals
    rw [h]
    clear h
    go_enter Tryd.func36, Tryd.ntmps36
    go_wp2_with fail
    refine n1.out.mono ?_
    rintro e w1 ⟨rfl, rfl⟩
    go_wp2_with fail
    refine n2.out.mono ?_
    rintro e w1 ⟨rfl, rfl⟩
    go_wp2_with fail
    go_ret
    exact ⟨rfl, rfl⟩
theorem compareT_any (a b : ByteArray) (w : World) : Calls Tryd.prog 38 #[.string a, .string b] w fun e w' => e = .returned (.int .i64 (cmpT a.toList b.toList)) ∧ w' = w := by
  have n1 := Lib.hid (nanT_any a w)
  have n2 := Lib.hid (nanT_any b w)
  rcases cmpT_cases a.toList b.toList with ⟨h1, h⟩ | ⟨h1, h2, h⟩ | ⟨h1, h2, h⟩
  all_goals
    rw [h]
    clear h
    go_enter Tryd.func38, Tryd.ntmps38
    go_wp2_with fail
    refine n1.out.mono ?_
    rintro e w1 ⟨rfl, rfl⟩
    go_wp2_with fail
    refine n2.out.mono ?_
    rintro e w1 ⟨rfl, rfl⟩
    go_wp2_with fail
    go_ret
    exact ⟨rfl, rfl⟩
theorem bit_any (b : Bool) (w : World) : Calls Tryd.prog 35 #[.bool b] w fun e w' => e = .returned (.int .i64 (bitI b)) ∧ w' = w := by
  cases b
  all_goals
    go_enter Tryd.func35, Tryd.ntmps35
    go_wp2_with fail
    go_ret
    exact ⟨rfl, rfl⟩
theorem sign_any (a b : Bool) (w : World) : Calls Tryd.prog 39 #[.bool a, .bool b] w fun e w' => e = .returned (.int .i64 (if a = true then -1 else if b = true then 1 else 0)) ∧ w' = w := by
  cases a <;> cases b
  all_goals
    go_enter Tryd.func39, Tryd.ntmps39
    go_wp2_with fail
    go_ret
    exact ⟨rfl, rfl⟩
end Go.Proofs.YtndnondneelgjaaDoor
