/-
  What the references' may and Check compute: whether a value may be, as value.Check tells it. Conditions: lists and texts shorter than 2^31.
-/
import Derived.Test.YtndnondneelgjaaDoorChkL
namespace Go.Proofs.YtndnondneelgjaaDoor
open Go Go.RowKit
set_option maxRecDepth 100000
set_option linter.unusedVariables false
set_option maxHeartbeats 1600000 in
theorem rMay_k0 (b : Bool) (n : Int) (t : ByteArray) (len d : Nat) (a : Option Addr) (c : Nat) (w : World) (ht : t.size ≤ 2147483647) (hl : len ≤ 2147483647) (hd : d ≤ 30) :
    Calls Tryd.prog 26 #[.agg #[.int .i64 0, .bool b, .int .i64 n, .string t, .slice a len c], .int .i64 d] w fun e w' => e = .returned (.bool (chkFlat 0 b n t len)) ∧ Below w.heap.size w w' := by
  have HT := Lib.hid (@toList_nil t)
  go_enter Tryd.func26, Tryd.ntmps26
  go_wp2_with fail
  all_goals go_ret
  all_goals refine ⟨ret_bool ?_, ((Below.refl _ _).alloc (Nat.le_refl _) _)⟩
  all_goals have hnil := HT.out
  all_goals clear HT
  all_goals first | (simp [chkFlat, *]; done) | (simp_all; done) | (simp_all [chkFlat]; done) | (rw [Bool.eq_iff_iff]; simp [chkFlat, *]; done) | (rw [Bool.eq_iff_iff]; simp [chkFlat]; omega) | (simp_all [chkFlat]; omega) | (simp [chkFlat]; intros; omega)
set_option maxHeartbeats 1600000 in
theorem rMay_k1 (b : Bool) (n : Int) (t : ByteArray) (len d : Nat) (a : Option Addr) (c : Nat) (w : World) (ht : t.size ≤ 2147483647) (hl : len ≤ 2147483647) (hd : d ≤ 30) :
    Calls Tryd.prog 26 #[.agg #[.int .i64 1, .bool b, .int .i64 n, .string t, .slice a len c], .int .i64 d] w fun e w' => e = .returned (.bool (chkFlat 1 b n t len)) ∧ Below w.heap.size w w' := by
  have HT := Lib.hid (@toList_nil t)
  go_enter Tryd.func26, Tryd.ntmps26
  go_wp2_with fail
  all_goals go_ret
  all_goals refine ⟨ret_bool ?_, ((Below.refl _ _).alloc (Nat.le_refl _) _)⟩
  all_goals have hnil := HT.out
  all_goals clear HT
  all_goals first | (simp [chkFlat, *]; done) | (simp_all; done) | (simp_all [chkFlat]; done) | (rw [Bool.eq_iff_iff]; simp [chkFlat, *]; done) | (rw [Bool.eq_iff_iff]; simp [chkFlat]; omega) | (simp_all [chkFlat]; omega) | (simp [chkFlat]; intros; omega)
set_option maxHeartbeats 1600000 in
theorem rMay_k2 (b : Bool) (n : Int) (t : ByteArray) (len d : Nat) (a : Option Addr) (c : Nat) (w : World) (ht : t.size ≤ 2147483647) (hl : len ≤ 2147483647) (hd : d ≤ 30) :
    Calls Tryd.prog 26 #[.agg #[.int .i64 2, .bool b, .int .i64 n, .string t, .slice a len c], .int .i64 d] w fun e w' => e = .returned (.bool (chkFlat 2 b n t len)) ∧ Below w.heap.size w w' := by
  have HT := Lib.hid (@toList_nil t)
  go_enter Tryd.func26, Tryd.ntmps26
  go_wp2_with fail
  all_goals go_ret
  all_goals refine ⟨ret_bool ?_, ((Below.refl _ _).alloc (Nat.le_refl _) _)⟩
  all_goals have hnil := HT.out
  all_goals clear HT
  all_goals first | (simp [chkFlat, *]; done) | (simp_all; done) | (simp_all [chkFlat]; done) | (rw [Bool.eq_iff_iff]; simp [chkFlat, *]; done) | (rw [Bool.eq_iff_iff]; simp [chkFlat]; omega) | (simp_all [chkFlat]; omega) | (simp [chkFlat]; intros; omega)
set_option maxHeartbeats 1600000 in
theorem rMay_k3 (b : Bool) (n : Int) (t : ByteArray) (len d : Nat) (a : Option Addr) (c : Nat) (w : World) (ht : t.size ≤ 2147483647) (hl : len ≤ 2147483647) (hd : d ≤ 30) :
    Calls Tryd.prog 26 #[.agg #[.int .i64 3, .bool b, .int .i64 n, .string t, .slice a len c], .int .i64 d] w fun e w' => e = .returned (.bool (chkFlat 3 b n t len)) ∧ Below w.heap.size w w' := by
  have HT := Lib.hid (@toList_nil t)
  go_enter Tryd.func26, Tryd.ntmps26
  go_wp2_with fail
  all_goals go_ret
  all_goals refine ⟨ret_bool ?_, ((Below.refl _ _).alloc (Nat.le_refl _) _)⟩
  all_goals have hnil := HT.out
  all_goals clear HT
  all_goals first | (simp [chkFlat, *]; done) | (simp_all; done) | (simp_all [chkFlat]; done) | (rw [Bool.eq_iff_iff]; simp [chkFlat, *]; done) | (rw [Bool.eq_iff_iff]; simp [chkFlat]; omega) | (simp_all [chkFlat]; omega) | (simp [chkFlat]; intros; omega)
set_option maxHeartbeats 1600000 in
theorem rMay_k5 (b : Bool) (n : Int) (t : ByteArray) (len d : Nat) (a : Option Addr) (c : Nat) (w : World) (ht : t.size ≤ 2147483647) (hl : len ≤ 2147483647) (hd : d ≤ 30) :
    Calls Tryd.prog 26 #[.agg #[.int .i64 5, .bool b, .int .i64 n, .string t, .slice a len c], .int .i64 d] w fun e w' => e = .returned (.bool (chkFlat 5 b n t len)) ∧ Below w.heap.size w w' := by
  have HT := Lib.hid (@toList_nil t)
  go_enter Tryd.func26, Tryd.ntmps26
  go_wp2_with fail
  all_goals go_ret
  all_goals refine ⟨ret_bool ?_, ((Below.refl _ _).alloc (Nat.le_refl _) _)⟩
  all_goals have hnil := HT.out
  all_goals clear HT
  all_goals first | (simp [chkFlat, *]; done) | (simp_all; done) | (simp_all [chkFlat]; done) | (rw [Bool.eq_iff_iff]; simp [chkFlat, *]; done) | (rw [Bool.eq_iff_iff]; simp [chkFlat]; omega) | (simp_all [chkFlat]; omega) | (simp [chkFlat]; intros; omega)
set_option maxHeartbeats 1600000 in
theorem rMay_kx (k : Int) (b : Bool) (n : Int) (t : ByteArray) (len d : Nat) (a : Option Addr) (c : Nat) (w : World) (ht : t.size ≤ 2147483647) (hl : len ≤ 2147483647) (hd : d ≤ 30) (h1 : k < 0 ∨ 5 < k) :
    Calls Tryd.prog 26 #[.agg #[.int .i64 k, .bool b, .int .i64 n, .string t, .slice a len c], .int .i64 d] w fun e w' => e = .returned (.bool (chkFlat k b n t len)) ∧ Below w.heap.size w w' := by
  have HT := Lib.hid (@toList_nil t)
  have e0 : (k == 0) = false := by simp; omega
  have e1 : (k == 1) = false := by simp; omega
  have e2 : (k == 2) = false := by simp; omega
  have e3 : (k == 3) = false := by simp; omega
  have e4 : (k == 4) = false := by simp; omega
  have e5 : (k == 5) = false := by simp; omega
  have HK := Lib.hid h1
  clear h1
  go_enter Tryd.func26, Tryd.ntmps26
  go_wp2_with fail
  all_goals go_ret
  all_goals refine ⟨ret_bool ?_, ((Below.refl _ _).alloc (Nat.le_refl _) _)⟩
  all_goals have hnil := HT.out
  all_goals clear HT
  all_goals first | (simp [chkFlat, *]; done) | (simp_all; done) | (simp_all [chkFlat]; done) | (rw [Bool.eq_iff_iff]; simp [chkFlat, *]; done) | (rw [Bool.eq_iff_iff]; simp [chkFlat]; omega) | (simp_all [chkFlat]; omega) | (simp [chkFlat]; intros; omega)
end Go.Proofs.YtndnondneelgjaaDoor
