/-
  What value.checked, value.Check and the references' may, Check compute: whether a value may be. Conditions: lists and texts shorter than 2^31.
-/
import Derived.Test.YtndnondneelgjaaDoorSame1
namespace Go.Proofs.YtndnondneelgjaaDoor
open Go Go.RowKit
set_option maxRecDepth 100000
set_option linter.unusedVariables false

/-- what a value of kind k must have besides: its own field alone -/
def chkFlat (k : Int) (b : Bool) (n : Int) (t : ByteArray) (len : Nat) : Bool :=
  if k = 0 then !b && (n == 0) && (t.toList == []) && (len == 0)
  else if k = 1 then (n == 0) && (t.toList == []) && (len == 0)
  else if k = 2 then !b && (t.toList == []) && (len == 0)
  else if k = 3 then !b && (n == 0) && decide (t.size ≤ 65536) && (len == 0)
  else if k = 5 then !b && decide (1 ≤ n) && (t.toList == []) && (len == 0)
  else if k = 4 then !b && (n == 0) && (t.toList == []) && decide (len ≤ 4096)
  else false
mutual
/-- may the value be, so deep in lists -/
def chk : GV → Nat → Bool
  | ⟨k, b, n, t, l⟩, d => chkFlat k b n t l.length && (k != 4 || (decide (d < 30) && chkL l (d + 1)))
def chkL : List GV → Nat → Bool
  | [], _ => true
  | x :: r, d => chk x d && chkL r d
end
theorem chk_eq (x : GV) (d : Nat) : chk x d = (chkFlat x.k x.b x.n x.t x.l.length && (x.k != 4 || (decide (d < 30) && chkL x.l (d + 1)))) := by
  cases x; simp [chk]

def ChkC (f : Nat) (x : GV) (d : Nat) : Prop := ∀ (s : Value) (w : World) (B : Nat), B ≤ w.heap.size → isL w 0 B s x.l →
  Calls Tryd.prog f #[x.agg s, .int .i64 d] w fun e w' => e = .returned (.bool (chk x d)) ∧ Below w.heap.size w w'

theorem chk_flat {k : Int} {b : Bool} {n : Int} {t : ByteArray} {len : Nat} {d : Nat} {l : List GV} {r : Bool} (h : r = (chkFlat k b n t len && (k != 4 || (decide (d < 30) && chkL l (d + 1))))) (hk : k ≠ 4) : r = chkFlat k b n t len := by
  rw [h]; simp [hk]
set_option maxHeartbeats 1600000 in
theorem vChk_k0 (b : Bool) (n : Int) (t : ByteArray) (len d : Nat) (a : Option Addr) (c : Nat) (w : World) (ht : t.size ≤ 2147483647) (hl : len ≤ 2147483647) (hd : d ≤ 30) :
    Calls Tryd.prog 25 #[.agg #[.int .i64 0, .bool b, .int .i64 n, .string t, .slice a len c], .int .i64 d] w fun e w' => e = .returned (.bool (chkFlat 0 b n t len)) ∧ Below w.heap.size w w' := by
  have HT := Lib.hid (@toList_nil t)
  go_enter Tryd.func25, Tryd.ntmps25
  go_wp2_with fail
  all_goals go_ret
  all_goals refine ⟨ret_bool ?_, ((Below.refl _ _).alloc (Nat.le_refl _) _).alloc (by simp) _⟩
  all_goals have hnil := HT.out
  all_goals clear HT
  all_goals first | (simp [chkFlat, *]; done) | (simp_all [chkFlat]; done) | (rw [Bool.eq_iff_iff]; simp [chkFlat, *]; done) | (simp_all [chkFlat]; omega) | (simp [chkFlat]; refine ⟨⟨⟨?_, ?_⟩, ?_⟩, ?_⟩ <;> first | assumption | omega | simp_all) | (simp [chkFlat]; intros; omega)
set_option maxHeartbeats 1600000 in
theorem vChk_k1 (b : Bool) (n : Int) (t : ByteArray) (len d : Nat) (a : Option Addr) (c : Nat) (w : World) (ht : t.size ≤ 2147483647) (hl : len ≤ 2147483647) (hd : d ≤ 30) :
    Calls Tryd.prog 25 #[.agg #[.int .i64 1, .bool b, .int .i64 n, .string t, .slice a len c], .int .i64 d] w fun e w' => e = .returned (.bool (chkFlat 1 b n t len)) ∧ Below w.heap.size w w' := by
  have HT := Lib.hid (@toList_nil t)
  go_enter Tryd.func25, Tryd.ntmps25
  go_wp2_with fail
  all_goals go_ret
  all_goals refine ⟨ret_bool ?_, ((Below.refl _ _).alloc (Nat.le_refl _) _).alloc (by simp) _⟩
  all_goals have hnil := HT.out
  all_goals clear HT
  all_goals first | (simp [chkFlat, *]; done) | (simp_all [chkFlat]; done) | (rw [Bool.eq_iff_iff]; simp [chkFlat, *]; done) | (simp_all [chkFlat]; omega) | (simp [chkFlat]; refine ⟨⟨⟨?_, ?_⟩, ?_⟩, ?_⟩ <;> first | assumption | omega | simp_all) | (simp [chkFlat]; intros; omega)
set_option maxHeartbeats 1600000 in
theorem vChk_k2 (b : Bool) (n : Int) (t : ByteArray) (len d : Nat) (a : Option Addr) (c : Nat) (w : World) (ht : t.size ≤ 2147483647) (hl : len ≤ 2147483647) (hd : d ≤ 30) :
    Calls Tryd.prog 25 #[.agg #[.int .i64 2, .bool b, .int .i64 n, .string t, .slice a len c], .int .i64 d] w fun e w' => e = .returned (.bool (chkFlat 2 b n t len)) ∧ Below w.heap.size w w' := by
  have HT := Lib.hid (@toList_nil t)
  go_enter Tryd.func25, Tryd.ntmps25
  go_wp2_with fail
  all_goals go_ret
  all_goals refine ⟨ret_bool ?_, ((Below.refl _ _).alloc (Nat.le_refl _) _).alloc (by simp) _⟩
  all_goals have hnil := HT.out
  all_goals clear HT
  all_goals first | (simp [chkFlat, *]; done) | (simp_all [chkFlat]; done) | (rw [Bool.eq_iff_iff]; simp [chkFlat, *]; done) | (simp_all [chkFlat]; omega) | (simp [chkFlat]; refine ⟨⟨⟨?_, ?_⟩, ?_⟩, ?_⟩ <;> first | assumption | omega | simp_all) | (simp [chkFlat]; intros; omega)
set_option maxHeartbeats 1600000 in
theorem vChk_k3 (b : Bool) (n : Int) (t : ByteArray) (len d : Nat) (a : Option Addr) (c : Nat) (w : World) (ht : t.size ≤ 2147483647) (hl : len ≤ 2147483647) (hd : d ≤ 30) :
    Calls Tryd.prog 25 #[.agg #[.int .i64 3, .bool b, .int .i64 n, .string t, .slice a len c], .int .i64 d] w fun e w' => e = .returned (.bool (chkFlat 3 b n t len)) ∧ Below w.heap.size w w' := by
  have HT := Lib.hid (@toList_nil t)
  go_enter Tryd.func25, Tryd.ntmps25
  go_wp2_with fail
  all_goals go_ret
  all_goals refine ⟨ret_bool ?_, ((Below.refl _ _).alloc (Nat.le_refl _) _).alloc (by simp) _⟩
  all_goals have hnil := HT.out
  all_goals clear HT
  all_goals first | (simp [chkFlat, *]; done) | (simp_all [chkFlat]; done) | (rw [Bool.eq_iff_iff]; simp [chkFlat, *]; done) | (simp_all [chkFlat]; omega) | (simp [chkFlat]; refine ⟨⟨⟨?_, ?_⟩, ?_⟩, ?_⟩ <;> first | assumption | omega | simp_all) | (simp [chkFlat]; intros; omega)
set_option maxHeartbeats 1600000 in
theorem vChk_k5y (b : Bool) (n : Int) (t : ByteArray) (len d : Nat) (a : Option Addr) (c : Nat) (w : World) (ht : t.size ≤ 2147483647) (hl : len ≤ 2147483647) (hd : d ≤ 30) (h1 : 1 ≤ n) :
    Calls Tryd.prog 25 #[.agg #[.int .i64 5, .bool b, .int .i64 n, .string t, .slice a len c], .int .i64 d] w fun e w' => e = .returned (.bool (chkFlat 5 b n t len)) ∧ Below w.heap.size w w' := by
  have HT := Lib.hid (@toList_nil t)
  go_enter Tryd.func25, Tryd.ntmps25
  go_wp2_with fail
  all_goals go_ret
  all_goals refine ⟨ret_bool ?_, ((Below.refl _ _).alloc (Nat.le_refl _) _).alloc (by simp) _⟩
  all_goals have hnil := HT.out
  all_goals clear HT
  all_goals first | (simp [chkFlat, *]; done) | (simp_all [chkFlat]; done) | (rw [Bool.eq_iff_iff]; simp [chkFlat, *]; done) | (simp_all [chkFlat]; omega) | (simp [chkFlat]; refine ⟨⟨⟨?_, ?_⟩, ?_⟩, ?_⟩ <;> first | assumption | omega | simp_all) | (simp [chkFlat]; intros; omega)
set_option maxHeartbeats 1600000 in
theorem vChk_k5n (b : Bool) (n : Int) (t : ByteArray) (len d : Nat) (a : Option Addr) (c : Nat) (w : World) (ht : t.size ≤ 2147483647) (hl : len ≤ 2147483647) (hd : d ≤ 30) (h1 : n < 1) :
    Calls Tryd.prog 25 #[.agg #[.int .i64 5, .bool b, .int .i64 n, .string t, .slice a len c], .int .i64 d] w fun e w' => e = .returned (.bool (chkFlat 5 b n t len)) ∧ Below w.heap.size w w' := by
  have HT := Lib.hid (@toList_nil t)
  go_enter Tryd.func25, Tryd.ntmps25
  go_wp2_with fail
  all_goals go_ret
  all_goals refine ⟨ret_bool ?_, ((Below.refl _ _).alloc (Nat.le_refl _) _).alloc (by simp) _⟩
  all_goals have hnil := HT.out
  all_goals clear HT
  all_goals first | (simp [chkFlat, *]; done) | (simp_all [chkFlat]; done) | (rw [Bool.eq_iff_iff]; simp [chkFlat, *]; done) | (simp_all [chkFlat]; omega) | (simp [chkFlat]; refine ⟨⟨⟨?_, ?_⟩, ?_⟩, ?_⟩ <;> first | assumption | omega | simp_all) | (simp [chkFlat]; intros; omega)
set_option maxHeartbeats 1600000 in
theorem vChk_kx (k : Int) (b : Bool) (n : Int) (t : ByteArray) (len d : Nat) (a : Option Addr) (c : Nat) (w : World) (ht : t.size ≤ 2147483647) (hl : len ≤ 2147483647) (hd : d ≤ 30) (h1 : k < 0 ∨ 5 < k) :
    Calls Tryd.prog 25 #[.agg #[.int .i64 k, .bool b, .int .i64 n, .string t, .slice a len c], .int .i64 d] w fun e w' => e = .returned (.bool (chkFlat k b n t len)) ∧ Below w.heap.size w w' := by
  have HT := Lib.hid (@toList_nil t)
  have e0 : (k == 0) = false := by simp; omega
  have e1 : (k == 1) = false := by simp; omega
  have e2 : (k == 2) = false := by simp; omega
  have e3 : (k == 3) = false := by simp; omega
  have e4 : (k == 4) = false := by simp; omega
  have e5 : (k == 5) = false := by simp; omega
  have HK := Lib.hid h1
  clear h1
  go_enter Tryd.func25, Tryd.ntmps25
  go_wp2_with fail
  all_goals go_ret
  all_goals refine ⟨ret_bool ?_, ((Below.refl _ _).alloc (Nat.le_refl _) _).alloc (by simp) _⟩
  all_goals have hnil := HT.out
  all_goals clear HT
  all_goals first | (simp [chkFlat, *]; done) | (simp_all [chkFlat]; done) | (rw [Bool.eq_iff_iff]; simp [chkFlat, *]; done) | (simp_all [chkFlat]; omega) | (simp [chkFlat]; refine ⟨⟨⟨?_, ?_⟩, ?_⟩, ?_⟩ <;> first | assumption | omega | simp_all) | (simp [chkFlat]; intros; omega)
/-- a flat value: whatever the kind, but a list -/
theorem vChk_flat (x : GV) (d : Nat) (hd : d ≤ 30) (a : Option Addr) (c : Nat) (w : World) (hk : x.k ≠ 4) (ht : x.t.size ≤ 2147483647) (hl : x.l.length ≤ 2147483647) :
    Calls Tryd.prog 25 #[x.agg (.slice a x.l.length c), .int .i64 d] w fun e w' => e = .returned (.bool (chk x d)) ∧ Below w.heap.size w w' := by
  have HR := chk_eq x d
  rw [show (x.k != 4) = true from by simpa using hk, Bool.true_or, Bool.and_true] at HR
  rw [HR]
  simp only [GV.agg]
  have hc : x.k = 0 ∨ x.k = 1 ∨ x.k = 2 ∨ x.k = 3 ∨ x.k = 5 ∨ (x.k < 0 ∨ 5 < x.k) := by omega
  rcases hc with h | h | h | h | h | h
  · rw [h]; exact vChk_k0 _ _ _ _ _ _ _ _ ht hl hd
  · rw [h]; exact vChk_k1 _ _ _ _ _ _ _ _ ht hl hd
  · rw [h]; exact vChk_k2 _ _ _ _ _ _ _ _ ht hl hd
  · rw [h]; exact vChk_k3 _ _ _ _ _ _ _ _ ht hl hd
  · rw [h]
    by_cases h1 : 1 ≤ x.n
    · exact vChk_k5y _ _ _ _ _ _ _ _ ht hl hd h1
    · exact vChk_k5n _ _ _ _ _ _ _ _ ht hl hd (by omega)
  · exact vChk_kx _ _ _ _ _ _ _ _ _ ht hl hd h
end Go.Proofs.YtndnondneelgjaaDoor
