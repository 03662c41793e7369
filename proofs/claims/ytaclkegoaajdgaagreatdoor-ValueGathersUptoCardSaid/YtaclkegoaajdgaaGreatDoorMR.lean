/-
  The references' numbers in two words: sums, differences, products, whether they are int64. Conditions: both are int64.
-/
import Derived.Test.YtaclkegoaajdgaaGreatDoorML
import Derived.Laws.Bits64b
import Derived.Deep.QuietTactic
import Derived.BigQuiet
namespace Go.Proofs.YtaclkegoaajdgaaGreatDoor
open Go Go.RowKit
set_option maxRecDepth 100000
set_option linter.unusedVariables false
theorem mask32 (n : Int) : bits .and .i64 n 4294967295 = n % 4294967296 := by
  show IntKind.i64.wrap ((BitVec.ofInt 64 n &&& BitVec.ofInt 64 4294967295).toNat : Int) = _
  have h1 : (BitVec.ofInt 64 n).toNat = (n % 18446744073709551616).toNat := by simp [BitVec.toNat_ofInt]
  have h2 : (BitVec.ofInt 64 4294967295).toNat = 2 ^ 32 - 1 := by decide
  rw [BitVec.toNat_and, h1, h2, Nat.and_two_pow_sub_one_eq_mod, IntWalk.i64_in _ (by omega)]
  omega
/-- a number, and whether it is int64 -/
def okK (n : Int) : Int × Bool := if inI n then (n, true) else (0, false)
theorem wadd_any (hi lo n : Int) (h1 : -4611686018427387904 ≤ hi ∧ hi ≤ 4611686018427387904) (h2 : 0 ≤ lo ∧ lo < 4294967296) (h3 : inI n) (w : World) :
    Calls Tryz.prog 32 #[.agg #[.int .i64 hi, .int .i64 lo], .int .i64 n] w fun e w' => (∃ hi' lo', e = .returned (.agg #[.int .i64 hi', .int .i64 lo']) ∧ hi' * 4294967296 + lo' = hi * 4294967296 + lo + n ∧ 0 ≤ lo' ∧ lo' < 4294967296 ∧ hi - 2147483650 ≤ hi' ∧ hi' ≤ hi + 2147483650) ∧ Below w.heap.size w w' := by
  have m1 := mask32 n
  have m2 : wrap64 (lo + n % 4294967296) = lo + n % 4294967296 := by unfold wrap64; omega
  have m3 := mask32 (lo + n % 4294967296)
  have m4 : wrap64 (hi + n / 4294967296 + (lo + n % 4294967296) / 4294967296) = hi + n / 4294967296 + (lo + n % 4294967296) / 4294967296 := by unfold wrap64; unfold inI at h3; omega
  have m5 : wrap64 (hi + n / 4294967296) = hi + n / 4294967296 := by unfold wrap64; unfold inI at h3; omega
  go_enter Tryz.func32, Tryz.ntmps32
  go_wp2_with fail
  refine bodyPost_ret (v := .agg #[.int .i64 (hi + n / 4294967296 + (lo + n % 4294967296) / 4294967296), .int .i64 ((lo + n % 4294967296) % 4294967296)]) (by simp [results, Tryz.results32, go_sem]) rfl ⟨⟨_, _, rfl, ?_, ?_, ?_, ?_, ?_⟩, ((Below.refl _ _).alloc (Nat.le_refl _) _).alloc (by simp) _⟩
  all_goals
    unfold inI at h3
    omega
theorem wfits_any (hi lo : Int) (h2 : 0 ≤ lo ∧ lo < 4294967296) (w : World) :
    Calls Tryz.prog 34 #[.agg #[.int .i64 hi, .int .i64 lo]] w fun e w' => e = .returned (.tuple #[.int .i64 (okK (hi * 4294967296 + lo)).1, .bool (okK (hi * 4294967296 + lo)).2]) ∧ Below w.heap.size w w' := by
  have hb := (Below.refl w.heap.size w).alloc (Nat.le_refl _) (.cells #[.int .i64 hi, .int .i64 lo] 54)
  by_cases ha : hi < -2147483648
  · have e : okK (hi * 4294967296 + lo) = (0, false) := if_neg (by unfold inI; omega)
    rw [e]
    go_enter Tryz.func34, Tryz.ntmps34
    go_wp2_with fail
    go_ret2
    exact ⟨rfl, hb⟩
  by_cases hc : 2147483647 < hi
  · have e : okK (hi * 4294967296 + lo) = (0, false) := if_neg (by unfold inI; omega)
    have d1 : decide (hi < -2147483648) = false := by simpa using ha
    rw [e]
    go_enter Tryz.func34, Tryz.ntmps34
    go_wp2_with fail
    go_ret2
    exact ⟨rfl, hb⟩
  · have e : okK (hi * 4294967296 + lo) = (hi * 4294967296 + lo, true) := if_pos (by unfold inI; omega)
    have d1 : decide (hi < -2147483648) = false := by simpa using ha
    have d2 : decide (2147483647 < hi) = false := by simpa using hc
    have m1 : wrap64 (hi * 4294967296) = hi * 4294967296 := by unfold wrap64; omega
    have m2 : wrap64 (hi * 4294967296 + lo) = hi * 4294967296 + lo := by unfold wrap64; omega
    have m3 : IntKind.i64.wrap (hi * 4294967296) = hi * 4294967296 := IntWalk.i64_in _ (by omega)
    rw [e]
    go_enter Tryz.func34, Tryz.ntmps34
    go_wp2_with fail
    go_ret2
    exact ⟨rfl, hb⟩
end Go.Proofs.YtaclkegoaajdgaaGreatDoor
/-
  What the references' operations of two numbers tell; the small makers of their answers. Conditions: both are int64.
-/
namespace Go.Proofs.YtaclkegoaajdgaaGreatDoor
open Go Go.RowKit
set_option maxRecDepth 100000
set_option linter.unusedVariables false
/-- the references' answer: a value that can be read, and an error's number -/
def RefO (w : World) (r : GV × Int) (e : Ending) (w' : World) : Prop := ∃ s, e = .returned (.tuple #[r.1.agg s, .int .i64 r.2]) ∧ isL w' 0 w'.heap.size s r.1.l ∧ Below w.heap.size w w'
theorem ref_flat {w w' : World} {r : GV × Int} {e : Ending} (hl : r.1.l = []) (he : e = .returned (.tuple #[.agg #[.int .i64 r.1.k, .bool r.1.b, .int .i64 r.1.n, .string r.1.t, .slice none 0 0], .int .i64 r.2])) (hb : Below w.heap.size w w') : RefO w r e w' :=
  ⟨.slice none 0 0, he, by rw [hl]; exact isL_nil _ _, hb⟩
theorem rInt_any (n : Int) (w : World) : Calls Tryz.prog 31 #[.int .i64 n] w fun e w' => e = .returned (.agg #[.int .i64 2, .bool false, .int .i64 n, .string { data := #[] }, .slice none 0 0]) ∧ Below w.heap.size w w' := by
  go_enter Tryz.func31, Tryz.ntmps31
  go_wp2_with fail
  refine bodyPost_ret (v := .agg #[.int .i64 2, .bool false, .int .i64 n, .string { data := #[] }, .slice none 0 0]) (by simp [results, Tryz.results31, go_sem]) rfl ⟨rfl, ?_⟩
  exact (Below.refl _ _).alloc (Nat.le_refl _) _
theorem rNo_any (n : Int) (w : World) : Calls Tryz.prog 28 #[.int .i64 n] w fun e w' => e = .returned (.tuple #[.agg #[.int .i64 0, .bool false, .int .i64 0, .string { data := #[] }, .slice none 0 0], .int .i64 n]) ∧ Below w.heap.size w w' := by
  go_enter Tryz.func28, Tryz.ntmps28
  go_wp2_with fail
  refine bodyPost_ret (v := .tuple #[.agg #[.int .i64 0, .bool false, .int .i64 0, .string { data := #[] }, .slice none 0 0], .int .i64 n]) (by simp [results, Tryz.results28, go_sem]) rfl ⟨rfl, ?_⟩
  exact (Below.refl _ _).alloc (Nat.le_refl _) _
theorem whole_no (n : Int) (w : World) : Calls Tryz.prog 33 #[.int .i64 n, .bool false] w fun e w' => e = .returned (.tuple #[.agg #[.int .i64 0, .bool false, .int .i64 0, .string { data := #[] }, .slice none 0 0], .int .i64 2]) ∧ Below w.heap.size w w' := by
  go_enter Tryz.func33, Tryz.ntmps33
  go_wp2_with fail
  refine bodyPost_ret (v := .tuple #[.agg #[.int .i64 0, .bool false, .int .i64 0, .string { data := #[] }, .slice none 0 0], .int .i64 2]) (by simp [results, Tryz.results33, go_sem]) rfl ⟨rfl, ?_⟩
  exact (Below.refl _ _).alloc (Nat.le_refl _) _
theorem zero_box (w : World) (T : TypeId) : ∃ wA, wA = w.alloc (.cells #[.int .i64 0, .bool false, .int .i64 0, .string { data := #[] }, .slice none 0 0] T) ∧ Below w.heap.size w wA ∧ wA.heap[w.heap.size]? = some (.cells #[.int .i64 0, .bool false, .int .i64 0, .string { data := #[] }, .slice none 0 0] T (0, 0)) ∧ wA.heap.size = w.heap.size + 1 :=
  ⟨_, rfl, (Below.refl _ _).alloc (Nat.le_refl _) _, heap_last, by simp⟩
theorem whole_yes (n : Int) (w : World) : Calls Tryz.prog 33 #[.int .i64 n, .bool true] w fun e w' => e = .returned (.tuple #[.agg #[.int .i64 2, .bool false, .int .i64 n, .string { data := #[] }, .slice none 0 0], .int .i64 0]) ∧ Below w.heap.size w w' := by
  go_enter Tryz.func33, Tryz.ntmps33
  go_upto_region 1 with fail
  obtain ⟨wA, hwA, hb0, h0, hsz⟩ := zero_box w 29
  rw [← hwA]
  have s0 : w.heap.size < wA.heap.size := by omega
  clear hwA
  go_wp2_with fail
  refine (rInt_any n _).mono ?_
  rintro e w9 ⟨rfl, hb9⟩
  have HB9 := Lib.hid (below_down hb0 hb9 (Nat.le_refl _))
  have hz9 := (hb9.block w.heap.size s0).trans h0
  have s9 : w.heap.size < w9.heap.size := by have := hb9.size; omega
  have q9 := fun o => cell_of hz9 o
  have f9 := fun o => frozen_of hz9 o
  clear hb9 hz9 hb0 h0
  go_wp2_with fail
  refine bodyPost_ret (v := .tuple #[.agg #[.int .i64 2, .bool false, .int .i64 n, .string { data := #[] }, .slice none 0 0], .int .i64 0]) (by simp [results, Tryz.results33, go_sem, q9]) rfl ⟨rfl, below_set5 HB9.out (Nat.le_refl _) _ _ _ _ _⟩
/-- what a number tells, or that it is beyond int64 -/
def wholeP (n : Int) : GV × Int := if inI n then numP n else noP 2
theorem whole_any (n m : Int) (b : Bool) (hb : b = decide (inI n)) (hm : inI n → m = n) (w : World) : Calls Tryz.prog 33 #[.int .i64 m, .bool b] w fun e w' => e = .returned (.tuple #[.agg #[.int .i64 (wholeP n).1.k, .bool (wholeP n).1.b, .int .i64 (wholeP n).1.n, .string (wholeP n).1.t, .slice none 0 0], .int .i64 (wholeP n).2]) ∧ Below w.heap.size w w' := by
  subst hb
  unfold wholeP
  by_cases h : inI n
  · rw [if_pos h, hm h, decide_eq_true h]
    exact whole_yes n w
  · rw [if_neg h, decide_eq_false h]
    exact whole_no m w
theorem wholeP_l (n : Int) : (wholeP n).1.l = [] := by unfold wholeP; by_cases h : inI n <;> simp [h, numP, noP]
end Go.Proofs.YtaclkegoaajdgaaGreatDoor
