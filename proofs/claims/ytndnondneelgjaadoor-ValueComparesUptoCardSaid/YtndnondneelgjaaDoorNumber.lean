/-
  What the references' Number tells of a number: its digits, as strconv does. Conditions: a number of 64 bits.
-/
import Derived.Test.YtndnondneelgjaaDoorVText
namespace Go.Proofs.YtndnondneelgjaaDoor
open Go Go.RowKit
set_option maxRecDepth 100000
set_option linter.unusedVariables false
theorem digits_step (u : Nat) : Lib.decDigits u = (if u / 10 = 0 then [] else Lib.decDigits (u / 10)) ++ [UInt8.ofNat (48 + u % 10)] := by
  by_cases h : u < 10
  · rw [Lib.decDigits, dif_pos h, if_pos (by omega), Nat.mod_eq_of_lt h]
    rfl
  · rw [Lib.decDigits, dif_neg h, if_neg (by omega)]
theorem itoa_abs (n : Int) : Lib.itoa n = (if n < 0 then [45] else []) ++ Lib.decDigits n.natAbs := by
  unfold Lib.itoa
  split
  · rfl
  · rw [show n.toNat = n.natAbs from by omega]; rfl
theorem tmod_abs (m : Int) : (m.tmod 10).natAbs = m.natAbs % 10 := by rw [Int.natAbs_tmod]; rfl
theorem tdiv_abs (m : Int) : (m.tdiv 10).natAbs = m.natAbs / 10 := by rw [Int.natAbs_tdiv]; rfl
theorem wrap_small (x : Int) (h0 : -9223372036854775808 ≤ x) (h1 : x ≤ 9223372036854775807) : wrap64 x = x := by
  unfold wrap64
  omega
theorem digit_pos (m : Int) (h : decide (m.tmod 10 < 0) = false) : UInt8.ofNat (wrap64 (48 + m.tmod 10) % 256).toNat = UInt8.ofNat (48 + m.natAbs % 10) := by
  have h1 := tmod_abs m
  have h2 : ¬ m.tmod 10 < 0 := by simpa using h
  rw [wrap_small _ (by omega) (by omega)]
  congr 1
  omega
theorem digit_neg (m : Int) (h : decide (m.tmod 10 < 0) = true) : UInt8.ofNat (wrap64 (48 + wrap64 (-m.tmod 10)) % 256).toNat = UInt8.ofNat (48 + m.natAbs % 10) := by
  have h1 := tmod_abs m
  have h2 : m.tmod 10 < 0 := by simpa using h
  rw [wrap_small (-m.tmod 10) (by omega) (by omega), wrap_small _ (by omega) (by omega)]
  congr 1
  omega
theorem conv_one (w : World) (d : Int) : (convert 40 9 (.slice (some ⟨w.heap.size, 0, none⟩) 1 1)).run Tryd.prog (w.alloc (.cells #[.int .u8 d] 5)) = .ok (.string ⟨#[UInt8.ofNat d.toNat]⟩) (w.alloc (.cells #[.int .u8 d] 5)) :=
  run_convert_bytes_arg (P := Tryd.prog) (w.alloc (.cells #[.int .u8 d] 5)) 40 5 Tryd.underlying40 Tryd.underlying5 w.heap.size 0 1 1 [d] rfl (fun i hi => by
    have : i = 0 := by omega
    subst this
    rw [cell_last]
    rfl) 9 Tryd.underlying9
theorem lt_of_pos {a b : Nat} (h : a = b / 10) (ha : a ≠ 0) : a < b := by omega
theorem cons_bytes (c : UInt8) (ss : List UInt8) : ({ data := #[c] } : ByteArray) ++ ⟨ss.toArray⟩ = ⟨(c :: ss).toArray⟩ := by
  apply ByteArray.ext
  simp
theorem ofNat_digit (r : Nat) : UInt8.ofNat (48 + r) = 48 + UInt8.ofNat r := by simp
theorem number_end (n m : Int) (ss : List UInt8) (hd : Lib.decDigits n.natAbs = Lib.decDigits m.natAbs ++ ss) (hq : (m.tdiv 10 == 0) = true) :
    itoaB n = ⟨((if decide (n < 0) = true then [45] else []) ++ ((48 + UInt8.ofNat (m.natAbs % 10)) :: ss)).toArray⟩ := by
  have h1 := tdiv_abs m
  have h2 : m.tdiv 10 = 0 := by simpa using hq
  rw [itoaB, itoa_abs, hd, digits_step m.natAbs, if_pos (show m.natAbs / 10 = 0 by omega), ofNat_digit]
  by_cases h : n < 0 <;> simp [h]
theorem number_on (n m : Int) (ss : List UInt8) (hd : Lib.decDigits n.natAbs = Lib.decDigits m.natAbs ++ ss) (hq : (m.tdiv 10 == 0) = false) :
    Lib.decDigits n.natAbs = Lib.decDigits (m.tdiv 10).natAbs ++ ((48 + UInt8.ofNat (m.natAbs % 10)) :: ss) := by
  have h1 := tdiv_abs m
  have h2 : m.tdiv 10 ≠ 0 := by simpa using hq
  rw [hd, digits_step, if_neg (by omega), ofNat_digit, h1]
  simp
set_option maxHeartbeats 1600000 in
theorem number_any (n : Int) (h0 : -9223372036854775808 ≤ n) (h1 : n ≤ 9223372036854775807) (w : World) :
    Calls Tryd.prog 31 #[.int .i64 n] w fun e w' => e = .returned (.string (itoaB n)) ∧ Below w.heap.size w w' := by
  go_enter Tryd.func31, Tryd.ntmps31
  go_wp2_with fail
  go_loopw [3, 4] (fun v i wr => ∃ (ss : List UInt8) (m : Int), m.natAbs ≤ n.natAbs ∧ Lib.decDigits n.natAbs = Lib.decDigits m.natAbs ++ ss ∧ v = .string ⟨ss.toArray⟩ ∧ i = .int .i64 m ∧ -9223372036854775808 ≤ m ∧ m ≤ 9223372036854775807 ∧ Below w.heap.size w wr) (fun _ i _ => (intOf i).natAbs)
  case atStart => exact ⟨[], n, Nat.le_refl _, by simp, rfl, rfl, h0, h1, Below.refl _ _⟩
  case round =>
    obtain ⟨ss, m, hmn, hd, rfl, rfl, m0, m1, hbel⟩ := hrel
    have HD := Lib.hid hd
    have HB := Lib.hid hbel
    clear hd hbel
    have kc := conv_one wr
    have hss : ss.length ≤ 20 := by
      have h := congrArg List.length HD.out
      rw [List.length_append, Lib.decDigits_length] at h
      have := Lib.nDigits_le20 n.natAbs (by omega)
      omega
    have HEND := Lib.hid (number_end n m ss HD.out)
    have HON := Lib.hid (number_on n m ss HD.out)
    have hab := tdiv_abs m
    obtain ⟨sb, hsb⟩ : ∃ sb : ByteArray, sb = ⟨ss.toArray⟩ := ⟨_, rfl⟩
    have hz : sb.size ≤ 20 := by rw [hsb]; simpa [ByteArray.size] using hss
    have HSB := Lib.hid hsb
    rw [← hsb]
    have n0 : ¬ (9223372036854775807 < 1 + sb.size) := by omega
    have n1 : ¬ (9223372036854775807 < 1 + (1 + sb.size)) := by omega
    clear hsb
    cases ht : decide (m.tmod 10 < 0)
    all_goals
      first
        | have hdg := digit_pos m ht
        | have hdg := digit_neg m ht
      cases hq : (m.tdiv 10 == 0)
      · have HQ := Lib.hid hq
        go_wp2_with fail
        go_roundw
        case rel => exact ⟨(48 + UInt8.ofNat (m.natAbs % 10)) :: ss, m.tdiv 10, by omega, HON.out HQ.out, by rw [HSB.out]; exact congrArg Value.string (cons_bytes _ _), rfl, by omega, by omega, HB.out.alloc HB.out.size _⟩
        case measure =>
          have h1 := HQ.out
          have h2 : m.tdiv 10 ≠ 0 := by simpa using h1
          simp only [intOf]
          omega
      · have HQ := Lib.hid hq
        cases hn : decide (n < 0)
        all_goals
          have HN := Lib.hid hn
          go_wp2_with fail
          go_ret
          refine ⟨congrArg (fun b => Ending.returned (Value.string b)) ?_, HB.out.alloc HB.out.size _⟩
          have h := HEND.out HQ.out
          rw [HN.out] at h
          show _ = itoaB n
          rw [h, HSB.out]
          apply ByteArray.ext
          simp
end Go.Proofs.YtndnondneelgjaaDoor
