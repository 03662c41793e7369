/-
  The references' numbers in two words: sums, differences, products, whether they are int64. Conditions: both are int64.
-/
import Derived.Test.YtljljhjdlicfeaaGreatPAD
import Derived.Laws.Bits64b
import Derived.Deep.QuietTactic
import Derived.BigQuiet
namespace Go.Proofs.YtljljhjdlicfeaaGreat
open Go Go.RowKit
set_option maxRecDepth 100000
set_option linter.unusedVariables false
theorem mask32 (n : Int) : bits .and .i64 n 4294967295 = n % 4294967296 := by
  show IntKind.i64.wrap ((BitVec.ofInt 64 n &&& BitVec.ofInt 64 4294967295).toNat : Int) = _
  have h1 : (BitVec.ofInt 64 n).toNat = (n % 18446744073709551616).toNat := by simp [BitVec.toNat_ofInt]
  have h2 : (BitVec.ofInt 64 4294967295).toNat = 2 ^ 32 - 1 := by decide
  rw [BitVec.toNat_and, h1, h2, Nat.and_two_pow_sub_one_eq_mod, IntWalk.i64_in _ (by omega)]
  omega
def okK (n : Int) : Int × Bool := if inI n then (n, true) else (0, false)
theorem wadd_any (hi lo n : Int) (h1 : -17179869184 ≤ hi ∧ hi ≤ 17179869184) (h2 : 0 ≤ lo ∧ lo < 4294967296) (h3 : inI n) (w : World) :
    Calls Tryz.prog 83 #[.agg #[.int .i64 hi, .int .i64 lo], .int .i64 n] w fun e w' => (∃ hi' lo', e = .returned (.agg #[.int .i64 hi', .int .i64 lo']) ∧ hi' * 4294967296 + lo' = hi * 4294967296 + lo + n ∧ 0 ≤ lo' ∧ lo' < 4294967296 ∧ hi - 2147483650 ≤ hi' ∧ hi' ≤ hi + 2147483650) ∧ Below w.heap.size w w' := by
  have m1 := mask32 n
  have m2 : wrap64 (lo + n % 4294967296) = lo + n % 4294967296 := by unfold wrap64; omega
  have m3 := mask32 (lo + n % 4294967296)
  have m4 : wrap64 (hi + n / 4294967296 + (lo + n % 4294967296) / 4294967296) = hi + n / 4294967296 + (lo + n % 4294967296) / 4294967296 := by unfold wrap64; unfold inI at h3; omega
  have m5 : wrap64 (hi + n / 4294967296) = hi + n / 4294967296 := by unfold wrap64; unfold inI at h3; omega
  go_enter Tryz.func83, Tryz.ntmps83
  go_wp2_with fail
  refine bodyPost_ret (v := .agg #[.int .i64 (hi + n / 4294967296 + (lo + n % 4294967296) / 4294967296), .int .i64 ((lo + n % 4294967296) % 4294967296)]) (by simp [results, Tryz.results83, go_sem]) rfl ⟨⟨_, _, rfl, ?_, ?_, ?_, ?_, ?_⟩, ((Below.refl _ _).alloc (Nat.le_refl _) _).alloc (by simp) _⟩
  all_goals
    unfold inI at h3
    omega
theorem wfits_any (hi lo : Int) (h2 : 0 ≤ lo ∧ lo < 4294967296) (w : World) :
    Calls Tryz.prog 84 #[.agg #[.int .i64 hi, .int .i64 lo]] w fun e w' => e = .returned (.tuple #[.int .i64 (okK (hi * 4294967296 + lo)).1, .bool (okK (hi * 4294967296 + lo)).2]) ∧ Below w.heap.size w w' := by
  have hb := (Below.refl w.heap.size w).alloc (Nat.le_refl _) (.cells #[.int .i64 hi, .int .i64 lo] 136)
  by_cases ha : hi < -2147483648
  · have e : okK (hi * 4294967296 + lo) = (0, false) := if_neg (by unfold inI; omega)
    rw [e]
    go_enter Tryz.func84, Tryz.ntmps84
    go_wp2_with fail
    go_ret2
    exact ⟨rfl, hb⟩
  by_cases hc : 2147483647 < hi
  · have e : okK (hi * 4294967296 + lo) = (0, false) := if_neg (by unfold inI; omega)
    have d1 : decide (hi < -2147483648) = false := by simpa using ha
    rw [e]
    go_enter Tryz.func84, Tryz.ntmps84
    go_wp2_with fail
    go_ret2
    exact ⟨rfl, hb⟩
  · have e : okK (hi * 4294967296 + lo) = (hi * 4294967296 + lo, true) := if_pos (by unfold inI; omega)
    have d1 : decide (hi < -2147483648) = false := by simpa using ha
    have d2 : decide (2147483647 < hi) = false := by simpa using hc
    have m1 : wrap64 (hi * 4294967296) = hi * 4294967296 := by unfold wrap64; omega
    have m2 : wrap64 (hi * 4294967296 + lo) = hi * 4294967296 + lo := by unfold wrap64; omega
    have m3 : IntKind.i64.wrap (hi * 4294967296) = hi * 4294967296 := IntWalk.i64_in _ (by omega)
    rw [e]
    go_enter Tryz.func84, Tryz.ntmps84
    go_wp2_with fail
    go_ret2
    exact ⟨rfl, hb⟩
theorem rAdd_any (a b : Int) (ha : inI a) (hb : inI b) (w : World) : Calls Tryz.prog 75 #[.int .i64 a, .int .i64 b] w fun e w' => e = .returned (.tuple #[.int .i64 (okK (a + b)).1, .bool (okK (a + b)).2]) ∧ Below w.heap.size w w' := by
  go_enter Tryz.func75, Tryz.ntmps75
  go_wp2_with fail
  refine (wadd_any 0 0 a (by omega) (by omega) ha _).mono ?_
  rintro e w1 ⟨⟨h1, l1, rfl, e1, r1, r2, r3, r4⟩, hb1⟩
  go_wp2_with fail
  refine (wadd_any h1 l1 b (by omega) ⟨r1, r2⟩ hb _).mono ?_
  rintro e w2 ⟨⟨h2, l2, rfl, e2, q1, q2, q3, q4⟩, hb2⟩
  go_wp2_with fail
  refine (wfits_any h2 l2 ⟨q1, q2⟩ _).mono ?_
  rintro e w3 ⟨rfl, hb3⟩
  rw [show h2 * 4294967296 + l2 = a + b by omega]
  go_wp2_with fail
  go_ret2
  exact ⟨rfl, below_down (below_down hb1 hb2 (Nat.le_refl _)) hb3 (Nat.le_refl _)⟩
theorem rSub_any (a b : Int) (ha : inI a) (hb : inI b) (w : World) : Calls Tryz.prog 71 #[.int .i64 a, .int .i64 b] w fun e w' => e = .returned (.tuple #[.int .i64 (okK (a - b)).1, .bool (okK (a - b)).2]) ∧ Below w.heap.size w w' := by
  by_cases hm : b = -9223372036854775808
  · subst hm
    go_enter Tryz.func71, Tryz.ntmps71
    go_wp2_with fail
    refine (wadd_any 0 0 a (by omega) (by omega) ha _).mono ?_
    rintro e w1 ⟨⟨h1, l1, rfl, e1, r1, r2, r3, r4⟩, hb1⟩
    go_wp2_with fail
    refine (wadd_any h1 l1 9223372036854775807 (by omega) ⟨r1, r2⟩ (by unfold inI; omega) _).mono ?_
    rintro e w2 ⟨⟨h2, l2, rfl, e2, q1, q2, q3, q4⟩, hb2⟩
    go_wp2_with fail
    refine (wadd_any h2 l2 1 (by omega) ⟨q1, q2⟩ (by unfold inI; omega) _).mono ?_
    rintro e w3 ⟨⟨h3, l3, rfl, e3, p1, p2, p3, p4⟩, hb3⟩
    go_wp2_with fail
    refine (wfits_any h3 l3 ⟨p1, p2⟩ _).mono ?_
    rintro e w4 ⟨rfl, hb4⟩
    rw [show h3 * 4294967296 + l3 = a - -9223372036854775808 by omega]
    go_wp2_with fail
    go_ret2
    exact ⟨rfl, below_down (below_down (below_down hb1 hb2 (Nat.le_refl _)) hb3 (Nat.le_refl _)) hb4 (Nat.le_refl _)⟩
  · have hne : (b == -9223372036854775808) = false := by simpa using hm
    have hi : inI (-b) := by unfold inI at *; omega
    have hw := wrap64I hi
    have HC := Lib.hid (fun w => rAdd_any a (-b) ha hi w)
    rw [show a + -b = a - b by omega] at HC
    clear hm hi ha hb
    go_enter Tryz.func71, Tryz.ntmps71
    go_wp2_with fail
    refine (HC.out _).mono ?_
    rintro e w1 ⟨rfl, hb1⟩
    go_wp2_with fail
    go_ret2
    exact ⟨rfl, hb1⟩
end Go.Proofs.YtljljhjdlicfeaaGreat
namespace Go.Proofs.YtljljhjdlicfeaaGreat
open Go Go.RowKit
set_option maxRecDepth 100000
set_option linter.unusedVariables false
def RefO (w : World) (r : GV × Int) (e : Ending) (w' : World) : Prop := ∃ s, e = .returned (.tuple #[r.1.agg s, .int .i64 r.2]) ∧ isL w' w.heap.size w'.heap.size s r.1.l ∧ Below w.heap.size w w'
theorem ref_flat {w w' : World} {r : GV × Int} {e : Ending} (hl : r.1.l = []) (he : e = .returned (.tuple #[.agg #[.int .i64 r.1.k, .bool r.1.b, .int .i64 r.1.n, .string r.1.t, .slice none 0 0], .int .i64 r.2])) (hb : Below w.heap.size w w') : RefO w r e w' :=
  ⟨.slice none 0 0, he, by rw [hl]; exact isL_nil _ _, hb⟩
theorem rMul_any (a b : Int) (ha : inI a) (hb : inI b) (w : World) : Calls Tryz.prog 76 #[.int .i64 a, .int .i64 b] w fun e w' => (∃ m, e = .returned (.tuple #[.int .i64 m, .bool (decide (inI (a * b)))]) ∧ (inI (a * b) → m = a * b)) ∧ Below w.heap.size w w' := by
  by_cases ha0 : a = 0
  · subst ha0
    have e : decide (inI (0 * b)) = true := by rw [Int.zero_mul]; rfl
    rw [e]
    go_enter Tryz.func76, Tryz.ntmps76
    go_wp2_with fail
    go_ret2
    exact ⟨⟨0, rfl, fun _ => by simp⟩, Below.refl _ _⟩
  have ha1 : (a == 0) = false := by simpa using ha0
  by_cases hb0 : b = 0
  · subst hb0
    have e : decide (inI (a * 0)) = true := by rw [Int.mul_zero]; rfl
    rw [e]
    go_enter Tryz.func76, Tryz.ntmps76
    go_wp2_with fail
    go_ret2
    exact ⟨⟨0, rfl, fun _ => by simp⟩, Below.refl _ _⟩
  have hb1 : (b == 0) = false := by simpa using hb0
  have ok_ne : ∀ n, (okK n).2 = decide (inI n) := fun n => by unfold okK; by_cases h : inI n <;> simp [h]
  have ok_eq : ∀ n, inI n → (okK n).1 = n := fun n h => by unfold okK; rw [if_pos h]
  by_cases hc : a = -1
  · subst hc
    have HC := Lib.hid (fun w => rSub_any 0 b (by unfold inI; omega) hb w)
    have em : -1 * b = -b := by omega
    rw [show (0 : Int) - b = -b by omega] at HC
    rw [em]
    have HO := Lib.hid (And.intro (ok_ne (-b)) (ok_eq (-b)))
    clear ha hb ha0 hb0 ok_ne ok_eq em
    go_enter Tryz.func76, Tryz.ntmps76
    go_wp2_with fail
    refine (HC.out _).mono ?_
    rintro e w1 ⟨rfl, hb1⟩
    go_wp2_with fail
    go_ret2
    exact ⟨⟨_, by rw [← HO.out.1]; rfl, HO.out.2⟩, hb1⟩
  have hc1 : (a == -1) = false := by simpa using hc
  by_cases hd : b = -1
  · subst hd
    have HC := Lib.hid (fun w => rSub_any 0 a (by unfold inI; omega) ha w)
    have em : a * -1 = -a := by omega
    rw [show (0 : Int) - a = -a by omega] at HC
    rw [em]
    have HO := Lib.hid (And.intro (ok_ne (-a)) (ok_eq (-a)))
    clear ha hb hb0 ok_ne ok_eq hc em
    go_enter Tryz.func76, Tryz.ntmps76
    go_wp2_with fail
    refine (HC.out _).mono ?_
    rintro e w1 ⟨rfl, hb1⟩
    go_wp2_with fail
    go_ret2
    exact ⟨⟨_, by rw [← HO.out.1]; rfl, HO.out.2⟩, hb1⟩
  have hd1 : (b == -1) = false := by simpa using hd
  obtain ⟨p, hp⟩ : ∃ p, p = wrap64 (a * b) := ⟨_, rfl⟩
  by_cases hin : inI (a * b)
  · have e : decide (inI (a * b)) = true := decide_eq_true hin
    have hpe : p = a * b := by rw [hp, wrap64I hin]
    obtain ⟨h1, _⟩ := mul_yes ha0 hb hin
    obtain ⟨h2, _⟩ := mul_yes hb0 ha (by rw [Int.mul_comm]; exact hin)
    rw [Int.mul_comm b a] at h2
    rw [← hp] at h1 h2
    have hT1 : (wrap64 (p.tdiv b) == a) = true := by simpa using h2
    have hT2 : (wrap64 (p.tdiv a) == b) = true := by simpa using h1
    have hpw : wrap64 (a * b) = p := hp.symm
    rw [e]
    have HP := Lib.hid hpe
    clear hin e hpe h1 h2 hp ok_ne ok_eq
    go_enter Tryz.func76, Tryz.ntmps76
    go_wp2_with fail
    go_quiet (fail)
    go_wp2_with fail
    go_ret2
    exact ⟨⟨wrap64 (a * b), rfl, fun _ => hpw.trans HP.out⟩, ⟨rfl, rfl, rfl, Nat.le_refl _, fun _ _ => rfl⟩⟩
  · have e : decide (inI (a * b)) = false := decide_eq_false hin
    have h1 := mul_no ha hb ha0 hin (fun h => hc h.1)
    rw [← hp] at h1
    have hT2 : (wrap64 (p.tdiv a) == b) = false := by simpa using h1
    have hpw : wrap64 (a * b) = p := hp.symm
    rw [e]
    obtain ⟨T, hT1⟩ : ∃ T, (wrap64 (p.tdiv b) == a) = T := ⟨_, rfl⟩
    have HN := Lib.hid hin
    clear hin e h1 hp ok_ne ok_eq
    cases T
    all_goals
      go_enter Tryz.func76, Tryz.ntmps76
      go_wp2_with fail
      go_quiet (fail)
      go_wp2_with fail
      go_ret2
      exact ⟨⟨wrap64 (a * b), rfl, fun h => absurd h HN.out⟩, ⟨rfl, rfl, rfl, Nat.le_refl _, fun _ _ => rfl⟩⟩
theorem rInt_any (n : Int) (w : World) : Calls Tryz.prog 72 #[.int .i64 n] w fun e w' => e = .returned (.agg #[.int .i64 2, .bool false, .int .i64 n, .string { data := #[] }, .slice none 0 0]) ∧ Below w.heap.size w w' := by
  go_enter Tryz.func72, Tryz.ntmps72
  go_wp2_with fail
  refine bodyPost_ret (v := .agg #[.int .i64 2, .bool false, .int .i64 n, .string { data := #[] }, .slice none 0 0]) (by simp [results, Tryz.results72, go_sem]) rfl ⟨rfl, ?_⟩
  exact (Below.refl _ _).alloc (Nat.le_refl _) _
theorem rBool_any (b : Bool) (w : World) : Calls Tryz.prog 56 #[.bool b] w fun e w' => e = .returned (.agg #[.int .i64 1, .bool b, .int .i64 0, .string { data := #[] }, .slice none 0 0]) ∧ Below w.heap.size w w' := by
  go_enter Tryz.func56, Tryz.ntmps56
  go_wp2_with fail
  refine bodyPost_ret (v := .agg #[.int .i64 1, .bool b, .int .i64 0, .string { data := #[] }, .slice none 0 0]) (by simp [results, Tryz.results56, go_sem]) rfl ⟨rfl, ?_⟩
  exact (Below.refl _ _).alloc (Nat.le_refl _) _
theorem rNo_any (n : Int) (w : World) : Calls Tryz.prog 54 #[.int .i64 n] w fun e w' => e = .returned (.tuple #[.agg #[.int .i64 0, .bool false, .int .i64 0, .string { data := #[] }, .slice none 0 0], .int .i64 n]) ∧ Below w.heap.size w w' := by
  go_enter Tryz.func54, Tryz.ntmps54
  go_wp2_with fail
  refine bodyPost_ret (v := .tuple #[.agg #[.int .i64 0, .bool false, .int .i64 0, .string { data := #[] }, .slice none 0 0], .int .i64 n]) (by simp [results, Tryz.results54, go_sem]) rfl ⟨rfl, ?_⟩
  exact (Below.refl _ _).alloc (Nat.le_refl _) _
theorem whole_no (n : Int) (w : World) : Calls Tryz.prog 70 #[.int .i64 n, .bool false] w fun e w' => e = .returned (.tuple #[.agg #[.int .i64 0, .bool false, .int .i64 0, .string { data := #[] }, .slice none 0 0], .int .i64 2]) ∧ Below w.heap.size w w' := by
  go_enter Tryz.func70, Tryz.ntmps70
  go_wp2_with fail
  refine bodyPost_ret (v := .tuple #[.agg #[.int .i64 0, .bool false, .int .i64 0, .string { data := #[] }, .slice none 0 0], .int .i64 2]) (by simp [results, Tryz.results70, go_sem]) rfl ⟨rfl, ?_⟩
  exact (Below.refl _ _).alloc (Nat.le_refl _) _
theorem zero_box (w : World) (T : TypeId) : ∃ wA, wA = w.alloc (.cells #[.int .i64 0, .bool false, .int .i64 0, .string { data := #[] }, .slice none 0 0] T) ∧ Below w.heap.size w wA ∧ wA.heap[w.heap.size]? = some (.cells #[.int .i64 0, .bool false, .int .i64 0, .string { data := #[] }, .slice none 0 0] T (0, 0)) ∧ wA.heap.size = w.heap.size + 1 :=
  ⟨_, rfl, (Below.refl _ _).alloc (Nat.le_refl _) _, heap_last, by simp⟩
theorem whole_yes (n : Int) (w : World) : Calls Tryz.prog 70 #[.int .i64 n, .bool true] w fun e w' => e = .returned (.tuple #[.agg #[.int .i64 2, .bool false, .int .i64 n, .string { data := #[] }, .slice none 0 0], .int .i64 0]) ∧ Below w.heap.size w w' := by
  go_enter Tryz.func70, Tryz.ntmps70
  go_upto_region 1 with fail
  obtain ⟨wA, hwA, hb0, h0, hsz⟩ := zero_box w 36
  rw [← hwA]
  have s0 : w.heap.size < wA.heap.size := by omega
  clear hwA
  go_wp2_with fail
  refine (rInt_any n _).mono ?_
  rintro e w9 ⟨rfl, hb9⟩
  have HB9 := Lib.hid (below_down hb0 hb9 (Nat.le_refl _))
  have hz9 := (hb9.block w.heap.size s0).trans h0
  have s9 : w.heap.size < w9.heap.size := by have := hb9.size; omega
  have q9 := fun o => cell_of hz9 o
  have f9 := fun o => frozen_of hz9 o
  clear hb9 hz9 hb0 h0
  go_wp2_with fail
  refine bodyPost_ret (v := .tuple #[.agg #[.int .i64 2, .bool false, .int .i64 n, .string { data := #[] }, .slice none 0 0], .int .i64 0]) (by simp [results, Tryz.results70, go_sem, q9]) rfl ⟨rfl, below_set5 HB9.out (Nat.le_refl _) _ _ _ _ _⟩
def wholeP (n : Int) : GV × Int := if inI n then numP n else noP 2
theorem whole_any (n m : Int) (b : Bool) (hb : b = decide (inI n)) (hm : inI n → m = n) (w : World) : Calls Tryz.prog 70 #[.int .i64 m, .bool b] w fun e w' => e = .returned (.tuple #[.agg #[.int .i64 (wholeP n).1.k, .bool (wholeP n).1.b, .int .i64 (wholeP n).1.n, .string (wholeP n).1.t, .slice none 0 0], .int .i64 (wholeP n).2]) ∧ Below w.heap.size w w' := by
  subst hb
  unfold wholeP
  by_cases h : inI n
  · rw [if_pos h, hm h, decide_eq_true h]
    exact whole_yes n w
  · rw [if_neg h, decide_eq_false h]
    exact whole_no m w
theorem wholeP_l (n : Int) : (wholeP n).1.l = [] := by unfold wholeP; by_cases h : inI n <;> simp [h, numP, noP]
end Go.Proofs.YtljljhjdlicfeaaGreat
namespace Go.Proofs.YtljljhjdlicfeaaGreat
open Go Go.RowKit
set_option maxRecDepth 100000
set_option linter.unusedVariables false
def takesV (op : Int) : Int := if op = 6 ∨ op = 7 ∨ op = 21 then 1 else if op = 10 ∨ op = 11 ∨ op = 12 ∨ op = 13 ∨ op = 14 ∨ op = 15 ∨ op = 16 ∨ op = 17 ∨ op = 18 ∨ op = 19 ∨ op = 20 ∨ op = 22 then 2 else 0
theorem takesW_any (op : Int) (w : World) : Calls Tryz.prog 48 #[.int .i64 op] w fun e w' => e = .returned (.int .i64 (takesV op)) ∧ w' = w := by
  by_cases h6 : op = 6
  · subst h6
    show Calls Tryz.prog 48 #[.int .i64 6] w fun e w' => e = .returned (.int .i64 1) ∧ w' = w
    go_enter Tryz.func48, Tryz.ntmps48
    go_wp2_with fail
    go_ret
    exact ⟨rfl, rfl⟩
  by_cases h7 : op = 7
  · subst h7
    show Calls Tryz.prog 48 #[.int .i64 7] w fun e w' => e = .returned (.int .i64 1) ∧ w' = w
    go_enter Tryz.func48, Tryz.ntmps48
    go_wp2_with fail
    go_ret
    exact ⟨rfl, rfl⟩
  by_cases h21 : op = 21
  · subst h21
    show Calls Tryz.prog 48 #[.int .i64 21] w fun e w' => e = .returned (.int .i64 1) ∧ w' = w
    go_enter Tryz.func48, Tryz.ntmps48
    go_wp2_with fail
    go_ret
    exact ⟨rfl, rfl⟩
  by_cases h10 : op = 10
  · subst h10
    show Calls Tryz.prog 48 #[.int .i64 10] w fun e w' => e = .returned (.int .i64 2) ∧ w' = w
    go_enter Tryz.func48, Tryz.ntmps48
    go_wp2_with fail
    go_ret
    exact ⟨rfl, rfl⟩
  by_cases h11 : op = 11
  · subst h11
    show Calls Tryz.prog 48 #[.int .i64 11] w fun e w' => e = .returned (.int .i64 2) ∧ w' = w
    go_enter Tryz.func48, Tryz.ntmps48
    go_wp2_with fail
    go_ret
    exact ⟨rfl, rfl⟩
  by_cases h12 : op = 12
  · subst h12
    show Calls Tryz.prog 48 #[.int .i64 12] w fun e w' => e = .returned (.int .i64 2) ∧ w' = w
    go_enter Tryz.func48, Tryz.ntmps48
    go_wp2_with fail
    go_ret
    exact ⟨rfl, rfl⟩
  by_cases h13 : op = 13
  · subst h13
    show Calls Tryz.prog 48 #[.int .i64 13] w fun e w' => e = .returned (.int .i64 2) ∧ w' = w
    go_enter Tryz.func48, Tryz.ntmps48
    go_wp2_with fail
    go_ret
    exact ⟨rfl, rfl⟩
  by_cases h14 : op = 14
  · subst h14
    show Calls Tryz.prog 48 #[.int .i64 14] w fun e w' => e = .returned (.int .i64 2) ∧ w' = w
    go_enter Tryz.func48, Tryz.ntmps48
    go_wp2_with fail
    go_ret
    exact ⟨rfl, rfl⟩
  by_cases h15 : op = 15
  · subst h15
    show Calls Tryz.prog 48 #[.int .i64 15] w fun e w' => e = .returned (.int .i64 2) ∧ w' = w
    go_enter Tryz.func48, Tryz.ntmps48
    go_wp2_with fail
    go_ret
    exact ⟨rfl, rfl⟩
  by_cases h16 : op = 16
  · subst h16
    show Calls Tryz.prog 48 #[.int .i64 16] w fun e w' => e = .returned (.int .i64 2) ∧ w' = w
    go_enter Tryz.func48, Tryz.ntmps48
    go_wp2_with fail
    go_ret
    exact ⟨rfl, rfl⟩
  by_cases h17 : op = 17
  · subst h17
    show Calls Tryz.prog 48 #[.int .i64 17] w fun e w' => e = .returned (.int .i64 2) ∧ w' = w
    go_enter Tryz.func48, Tryz.ntmps48
    go_wp2_with fail
    go_ret
    exact ⟨rfl, rfl⟩
  by_cases h18 : op = 18
  · subst h18
    show Calls Tryz.prog 48 #[.int .i64 18] w fun e w' => e = .returned (.int .i64 2) ∧ w' = w
    go_enter Tryz.func48, Tryz.ntmps48
    go_wp2_with fail
    go_ret
    exact ⟨rfl, rfl⟩
  by_cases h19 : op = 19
  · subst h19
    show Calls Tryz.prog 48 #[.int .i64 19] w fun e w' => e = .returned (.int .i64 2) ∧ w' = w
    go_enter Tryz.func48, Tryz.ntmps48
    go_wp2_with fail
    go_ret
    exact ⟨rfl, rfl⟩
  by_cases h20 : op = 20
  · subst h20
    show Calls Tryz.prog 48 #[.int .i64 20] w fun e w' => e = .returned (.int .i64 2) ∧ w' = w
    go_enter Tryz.func48, Tryz.ntmps48
    go_wp2_with fail
    go_ret
    exact ⟨rfl, rfl⟩
  by_cases h22 : op = 22
  · subst h22
    show Calls Tryz.prog 48 #[.int .i64 22] w fun e w' => e = .returned (.int .i64 2) ∧ w' = w
    go_enter Tryz.func48, Tryz.ntmps48
    go_wp2_with fail
    go_ret
    exact ⟨rfl, rfl⟩
  have e : takesV op = 0 := by unfold takesV; rw [if_neg (by omega), if_neg (by omega)]
  rw [e]
  have e6 : (op == 6) = false := by simpa using h6
  have e7 : (op == 7) = false := by simpa using h7
  have e21 : (op == 21) = false := by simpa using h21
  have e10 : (op == 10) = false := by simpa using h10
  have e11 : (op == 11) = false := by simpa using h11
  have e12 : (op == 12) = false := by simpa using h12
  have e13 : (op == 13) = false := by simpa using h13
  have e14 : (op == 14) = false := by simpa using h14
  have e15 : (op == 15) = false := by simpa using h15
  have e16 : (op == 16) = false := by simpa using h16
  have e17 : (op == 17) = false := by simpa using h17
  have e18 : (op == 18) = false := by simpa using h18
  have e19 : (op == 19) = false := by simpa using h19
  have e20 : (op == 20) = false := by simpa using h20
  have e22 : (op == 22) = false := by simpa using h22
  clear h6 h7 h21 h10 h11 h12 h13 h14 h15 h16 h17 h18 h19 h20 h22
  go_enter Tryz.func48, Tryz.ntmps48
  go_wp2_with fail
  go_ret
  exact ⟨rfl, rfl⟩
theorem ok_ne (n : Int) : (okK n).2 = decide (inI n) := by unfold okK; by_cases h : inI n <;> simp [h]
theorem ok_eq (n : Int) (h : inI n) : (okK n).1 = n := by unfold okK; rw [if_pos h]
theorem ints16 (a b : Int) (ha : inI a) (hb : inI b) (w : World) : Calls Tryz.prog 58 #[.int .i64 16, .int .i64 a, .int .i64 b] w (RefO w (wholeP (a + b))) := by
  have HC := Lib.hid (fun w => rAdd_any a b ha hb w)
  clear ha hb
  go_enter Tryz.func58, Tryz.ntmps58
  go_upto_region 1 with fail
  obtain ⟨wA, hwA, hb0, h0, hsz⟩ := zero_box w 36
  rw [← hwA]
  have HB0 := Lib.hid hb0
  have HZ := Lib.hid h0
  have s0 : w.heap.size < wA.heap.size := by omega
  clear hwA hb0 h0 hsz
  go_wp2_with fail
  refine (HC.out _).mono ?_
  rintro e w1 ⟨rfl, hb1⟩
  have HK := Lib.hid (fun w => whole_any (a + b) (okK (a + b)).1 (okK (a + b)).2 (ok_ne _) (ok_eq _) w)
  have HB1 := Lib.hid (below_down HB0.out hb1 (Nat.le_refl _))
  have HZ1 := Lib.hid ((hb1.block w.heap.size s0).trans HZ.out)
  have s1 : w.heap.size < w1.heap.size := by have := hb1.size; omega
  clear hb1
  go_wp2_with fail
  refine (HK.out _).mono ?_
  rintro e w9 ⟨rfl, hb9⟩
  have HB9 := Lib.hid (below_down HB1.out hb9 (Nat.le_refl _))
  have hz9 := (hb9.block (w.heap.size) s1).trans HZ1.out
  have s9 : w.heap.size < w9.heap.size := by have := hb9.size; omega
  have q9 := fun o => cell_of hz9 o
  have f9 := fun o => frozen_of hz9 o
  clear hb9 hz9
  go_wp2_with fail
  refine bodyPost_ret (v := .tuple #[.agg #[.int .i64 (wholeP (a + b)).1.k, .bool (wholeP (a + b)).1.b, .int .i64 (wholeP (a + b)).1.n, .string (wholeP (a + b)).1.t, .slice none 0 0], .int .i64 (wholeP (a + b)).2]) (by simp [results, Tryz.results58, go_sem, q9]) rfl (ref_flat (wholeP_l _) rfl (below_set5 HB9.out (Nat.le_refl _) _ _ _ _ _))
theorem ints17 (a b : Int) (ha : inI a) (hb : inI b) (w : World) : Calls Tryz.prog 58 #[.int .i64 17, .int .i64 a, .int .i64 b] w (RefO w (wholeP (a - b))) := by
  have HC := Lib.hid (fun w => rSub_any a b ha hb w)
  clear ha hb
  go_enter Tryz.func58, Tryz.ntmps58
  go_upto_region 1 with fail
  obtain ⟨wA, hwA, hb0, h0, hsz⟩ := zero_box w 36
  rw [← hwA]
  have HB0 := Lib.hid hb0
  have HZ := Lib.hid h0
  have s0 : w.heap.size < wA.heap.size := by omega
  clear hwA hb0 h0 hsz
  go_wp2_with fail
  refine (HC.out _).mono ?_
  rintro e w1 ⟨rfl, hb1⟩
  have HK := Lib.hid (fun w => whole_any (a - b) (okK (a - b)).1 (okK (a - b)).2 (ok_ne _) (ok_eq _) w)
  have HB1 := Lib.hid (below_down HB0.out hb1 (Nat.le_refl _))
  have HZ1 := Lib.hid ((hb1.block w.heap.size s0).trans HZ.out)
  have s1 : w.heap.size < w1.heap.size := by have := hb1.size; omega
  clear hb1
  go_wp2_with fail
  refine (HK.out _).mono ?_
  rintro e w9 ⟨rfl, hb9⟩
  have HB9 := Lib.hid (below_down HB1.out hb9 (Nat.le_refl _))
  have hz9 := (hb9.block (w.heap.size) s1).trans HZ1.out
  have s9 : w.heap.size < w9.heap.size := by have := hb9.size; omega
  have q9 := fun o => cell_of hz9 o
  have f9 := fun o => frozen_of hz9 o
  clear hb9 hz9
  go_wp2_with fail
  refine bodyPost_ret (v := .tuple #[.agg #[.int .i64 (wholeP (a - b)).1.k, .bool (wholeP (a - b)).1.b, .int .i64 (wholeP (a - b)).1.n, .string (wholeP (a - b)).1.t, .slice none 0 0], .int .i64 (wholeP (a - b)).2]) (by simp [results, Tryz.results58, go_sem, q9]) rfl (ref_flat (wholeP_l _) rfl (below_set5 HB9.out (Nat.le_refl _) _ _ _ _ _))
theorem ints18 (a b : Int) (ha : inI a) (hb : inI b) (w : World) : Calls Tryz.prog 58 #[.int .i64 18, .int .i64 a, .int .i64 b] w (RefO w (wholeP (a * b))) := by
  have HC := Lib.hid (fun w => rMul_any a b ha hb w)
  clear ha hb
  go_enter Tryz.func58, Tryz.ntmps58
  go_upto_region 1 with fail
  obtain ⟨wA, hwA, hb0, h0, hsz⟩ := zero_box w 36
  rw [← hwA]
  have HB0 := Lib.hid hb0
  have HZ := Lib.hid h0
  have s0 : w.heap.size < wA.heap.size := by omega
  clear hwA hb0 h0 hsz
  go_wp2_with fail
  refine (HC.out _).mono ?_
  rintro e w1 ⟨⟨m, rfl, hm⟩, hb1⟩
  have HK := Lib.hid (fun w => whole_any (a * b) m _ rfl hm w)
  clear hm
  have HB1 := Lib.hid (below_down HB0.out hb1 (Nat.le_refl _))
  have HZ1 := Lib.hid ((hb1.block w.heap.size s0).trans HZ.out)
  have s1 : w.heap.size < w1.heap.size := by have := hb1.size; omega
  clear hb1
  go_wp2_with fail
  refine (HK.out _).mono ?_
  rintro e w9 ⟨rfl, hb9⟩
  have HB9 := Lib.hid (below_down HB1.out hb9 (Nat.le_refl _))
  have hz9 := (hb9.block (w.heap.size) s1).trans HZ1.out
  have s9 : w.heap.size < w9.heap.size := by have := hb9.size; omega
  have q9 := fun o => cell_of hz9 o
  have f9 := fun o => frozen_of hz9 o
  clear hb9 hz9
  go_wp2_with fail
  refine bodyPost_ret (v := .tuple #[.agg #[.int .i64 (wholeP (a * b)).1.k, .bool (wholeP (a * b)).1.b, .int .i64 (wholeP (a * b)).1.n, .string (wholeP (a * b)).1.t, .slice none 0 0], .int .i64 (wholeP (a * b)).2]) (by simp [results, Tryz.results58, go_sem, q9]) rfl (ref_flat (wholeP_l _) rfl (below_set5 HB9.out (Nat.le_refl _) _ _ _ _ _))
theorem ints19 (a b : Int) (ha : inI a) (hb : inI b) (w : World) : Calls Tryz.prog 58 #[.int .i64 19, .int .i64 a, .int .i64 b] w (RefO w (if b = 0 then noP 3 else wholeP (a.tdiv b))) := by
  by_cases h0 : b = 0
  · subst h0
    rw [if_pos rfl]
    clear ha hb
    go_enter Tryz.func58, Tryz.ntmps58
    go_upto_region 1 with fail
    obtain ⟨wA, hwA, hb0, h0, hsz⟩ := zero_box w 36
    rw [← hwA]
    have HB0 := Lib.hid hb0
    have HZ := Lib.hid h0
    have s0 : w.heap.size < wA.heap.size := by omega
    clear hwA hb0 h0 hsz
    go_wp2_with fail
    refine (rNo_any 3 _).mono ?_
    rintro e w9 ⟨rfl, hb9⟩
    have HB9 := Lib.hid (below_down HB0.out hb9 (Nat.le_refl _))
    have hz9 := (hb9.block (w.heap.size) s0).trans HZ.out
    have s9 : w.heap.size < w9.heap.size := by have := hb9.size; omega
    have q9 := fun o => cell_of hz9 o
    have f9 := fun o => frozen_of hz9 o
    clear hb9 hz9
    go_wp2_with fail
    refine bodyPost_ret (v := .tuple #[.agg #[.int .i64 0, .bool false, .int .i64 0, .string { data := #[] }, .slice none 0 0], .int .i64 3]) (by simp [results, Tryz.results58, go_sem, q9]) rfl (ref_flat rfl rfl (below_set5 HB9.out (Nat.le_refl _) _ _ _ _ _))
  rw [if_neg h0]
  have hn0 : (b == 0) = false := by simpa using h0
  by_cases h1 : b = -1
  · subst h1
    have HC := Lib.hid (fun w => rSub_any 0 a (by unfold inI; omega) ha w)
    have HK := Lib.hid (fun w => whole_any (0 - a) (okK (0 - a)).1 (okK (0 - a)).2 (ok_ne _) (ok_eq _) w)
    rw [show a.tdiv (-1) = 0 - a by rw [Int.tdiv_neg, Int.tdiv_one]; omega]
    rw [show (0 : Int) - a = -a by omega] at HC HK ⊢
    clear ha hb h0
    go_enter Tryz.func58, Tryz.ntmps58
    go_upto_region 1 with fail
    obtain ⟨wA, hwA, hb0, h0, hsz⟩ := zero_box w 36
    rw [← hwA]
    have HB0 := Lib.hid hb0
    have HZ := Lib.hid h0
    have s0 : w.heap.size < wA.heap.size := by omega
    clear hwA hb0 h0 hsz
    go_wp2_with fail
    refine (HC.out _).mono ?_
    rintro e w1 ⟨rfl, hb1⟩
    have HB1 := Lib.hid (below_down HB0.out hb1 (Nat.le_refl _))
    have HZ1 := Lib.hid ((hb1.block w.heap.size s0).trans HZ.out)
    have s1 : w.heap.size < w1.heap.size := by have := hb1.size; omega
    clear hb1
    go_wp2_with fail
    refine (HK.out _).mono ?_
    rintro e w9 ⟨rfl, hb9⟩
    have HB9 := Lib.hid (below_down HB1.out hb9 (Nat.le_refl _))
    have hz9 := (hb9.block (w.heap.size) s1).trans HZ1.out
    have s9 : w.heap.size < w9.heap.size := by have := hb9.size; omega
    have q9 := fun o => cell_of hz9 o
    have f9 := fun o => frozen_of hz9 o
    clear hb9 hz9
    go_wp2_with fail
    refine bodyPost_ret (v := .tuple #[.agg #[.int .i64 (wholeP (-a)).1.k, .bool (wholeP (-a)).1.b, .int .i64 (wholeP (-a)).1.n, .string (wholeP (-a)).1.t, .slice none 0 0], .int .i64 (wholeP (-a)).2]) (by simp [results, Tryz.results58, go_sem, q9]) rfl (ref_flat (wholeP_l _) rfl (below_set5 HB9.out (Nat.le_refl _) _ _ _ _ _))
  have hn1 : (b == -1) = false := by simpa using h1
  have hin := tdiv_in a b ha hb h0 (fun h => h1 h.2)
  have hw := wrap64I hin
  have e : wholeP (a.tdiv b) = numP (a.tdiv b) := if_pos hin
  rw [e]
  obtain ⟨d, hd⟩ : ∃ d, d = a.tdiv b := ⟨_, rfl⟩
  rw [← hd] at hw ⊢
  have HW : wrap64 (a.tdiv b) = d := by rw [← hd]; exact hw
  clear ha hb h1 hin e hd hw
  go_enter Tryz.func58, Tryz.ntmps58
  go_upto_region 1 with fail
  obtain ⟨wA, hwA, hb0, h0, hsz⟩ := zero_box w 36
  rw [← hwA]
  have HB0 := Lib.hid hb0
  have HZ := Lib.hid h0
  have s0 : w.heap.size < wA.heap.size := by omega
  clear hwA hb0 h0 hsz
  go_wp2_with fail
  refine (rInt_any d _).mono ?_
  rintro e w9 ⟨rfl, hb9⟩
  have HB9 := Lib.hid (below_down HB0.out hb9 (Nat.le_refl _))
  have hz9 := (hb9.block (w.heap.size) s0).trans HZ.out
  have s9 : w.heap.size < w9.heap.size := by have := hb9.size; omega
  have q9 := fun o => cell_of hz9 o
  have f9 := fun o => frozen_of hz9 o
  clear hb9 hz9
  go_wp2_with fail
  refine bodyPost_ret (v := .tuple #[.agg #[.int .i64 2, .bool false, .int .i64 (d), .string { data := #[] }, .slice none 0 0], .int .i64 0]) (by simp [results, Tryz.results58, go_sem, q9]) rfl (ref_flat rfl rfl (below_set5 HB9.out (Nat.le_refl _) _ _ _ _ _))
theorem ints20 (a b : Int) (ha : inI a) (hb : inI b) (w : World) : Calls Tryz.prog 58 #[.int .i64 20, .int .i64 a, .int .i64 b] w (RefO w (if b = 0 then noP 3 else numP (a.tmod b))) := by
  by_cases h0 : b = 0
  · subst h0
    rw [if_pos rfl]
    clear ha hb
    go_enter Tryz.func58, Tryz.ntmps58
    go_upto_region 1 with fail
    obtain ⟨wA, hwA, hb0, h0, hsz⟩ := zero_box w 36
    rw [← hwA]
    have HB0 := Lib.hid hb0
    have HZ := Lib.hid h0
    have s0 : w.heap.size < wA.heap.size := by omega
    clear hwA hb0 h0 hsz
    go_wp2_with fail
    refine (rNo_any 3 _).mono ?_
    rintro e w9 ⟨rfl, hb9⟩
    have HB9 := Lib.hid (below_down HB0.out hb9 (Nat.le_refl _))
    have hz9 := (hb9.block (w.heap.size) s0).trans HZ.out
    have s9 : w.heap.size < w9.heap.size := by have := hb9.size; omega
    have q9 := fun o => cell_of hz9 o
    have f9 := fun o => frozen_of hz9 o
    clear hb9 hz9
    go_wp2_with fail
    refine bodyPost_ret (v := .tuple #[.agg #[.int .i64 0, .bool false, .int .i64 0, .string { data := #[] }, .slice none 0 0], .int .i64 3]) (by simp [results, Tryz.results58, go_sem, q9]) rfl (ref_flat rfl rfl (below_set5 HB9.out (Nat.le_refl _) _ _ _ _ _))
  rw [if_neg h0]
  have hn0 : (b == 0) = false := by simpa using h0
  by_cases h1 : b = -1
  · subst h1
    rw [show a.tmod (-1) = 0 by rw [Int.tmod_neg, Int.tmod_one]]
    clear ha hb h0
    go_enter Tryz.func58, Tryz.ntmps58
    go_upto_region 1 with fail
    obtain ⟨wA, hwA, hb0, h0, hsz⟩ := zero_box w 36
    rw [← hwA]
    have HB0 := Lib.hid hb0
    have HZ := Lib.hid h0
    have s0 : w.heap.size < wA.heap.size := by omega
    clear hwA hb0 h0 hsz
    go_wp2_with fail
    refine (rInt_any 0 _).mono ?_
    rintro e w9 ⟨rfl, hb9⟩
    have HB9 := Lib.hid (below_down HB0.out hb9 (Nat.le_refl _))
    have hz9 := (hb9.block (w.heap.size) s0).trans HZ.out
    have s9 : w.heap.size < w9.heap.size := by have := hb9.size; omega
    have q9 := fun o => cell_of hz9 o
    have f9 := fun o => frozen_of hz9 o
    clear hb9 hz9
    go_wp2_with fail
    refine bodyPost_ret (v := .tuple #[.agg #[.int .i64 2, .bool false, .int .i64 (0), .string { data := #[] }, .slice none 0 0], .int .i64 0]) (by simp [results, Tryz.results58, go_sem, q9]) rfl (ref_flat rfl rfl (below_set5 HB9.out (Nat.le_refl _) _ _ _ _ _))
  have hn1 : (b == -1) = false := by simpa using h1
  clear ha hb h1
  go_enter Tryz.func58, Tryz.ntmps58
  go_upto_region 1 with fail
  obtain ⟨wA, hwA, hb0, h0, hsz⟩ := zero_box w 36
  rw [← hwA]
  have HB0 := Lib.hid hb0
  have HZ := Lib.hid h0
  have s0 : w.heap.size < wA.heap.size := by omega
  clear hwA hb0 h0 hsz
  go_wp2_with fail
  refine (rInt_any (a.tmod b) _).mono ?_
  rintro e w9 ⟨rfl, hb9⟩
  have HB9 := Lib.hid (below_down HB0.out hb9 (Nat.le_refl _))
  have hz9 := (hb9.block (w.heap.size) s0).trans HZ.out
  have s9 : w.heap.size < w9.heap.size := by have := hb9.size; omega
  have q9 := fun o => cell_of hz9 o
  have f9 := fun o => frozen_of hz9 o
  clear hb9 hz9
  go_wp2_with fail
  refine bodyPost_ret (v := .tuple #[.agg #[.int .i64 2, .bool false, .int .i64 (a.tmod b), .string { data := #[] }, .slice none 0 0], .int .i64 0]) (by simp [results, Tryz.results58, go_sem, q9]) rfl (ref_flat rfl rfl (below_set5 HB9.out (Nat.le_refl _) _ _ _ _ _))
end Go.Proofs.YtljljhjdlicfeaaGreat
