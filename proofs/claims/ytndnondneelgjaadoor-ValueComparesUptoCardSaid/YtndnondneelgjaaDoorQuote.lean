/-
  What value.quote tells of a text: the text in quotes. Conditions: a text shorter than 2^31.
-/
import Derived.Test.YtndnondneelgjaaDoorVTextP
import Derived.Test.YtndnondneelgjaaDoorTab
import Derived.Test.YtndnondneelgjaaDoorShelfC
namespace Go.Proofs.YtndnondneelgjaaDoor
open Go Go.RowKit
set_option maxRecDepth 100000
set_option linter.unusedVariables false
theorem idx_other (c : UInt8) (h1 : c ≠ 34) (h2 : c ≠ 92) (h3 : c ≠ 10) (h4 : c ≠ 9) : Lib.indexByte [34, 92, 10, 9] c = -1 := by
  have e1 : ((34 : UInt8) == c) = false := by simpa using fun e => h1 e.symm
  have e2 : ((92 : UInt8) == c) = false := by simpa using fun e => h2 e.symm
  have e3 : ((10 : UInt8) == c) = false := by simpa using fun e => h3 e.symm
  have e4 : ((9 : UInt8) == c) = false := by simpa using fun e => h4 e.symm
  simp [Lib.indexByte, e1, e2, e3, e4]
theorem quote_cases (c : UInt8) : (Lib.indexByte [34, 92, 10, 9] c = 0 ∧ quoteC c = [92, 34]) ∨ (Lib.indexByte [34, 92, 10, 9] c = 1 ∧ quoteC c = [92, 92]) ∨ (Lib.indexByte [34, 92, 10, 9] c = 2 ∧ quoteC c = [92, 110]) ∨
    (Lib.indexByte [34, 92, 10, 9] c = 3 ∧ quoteC c = [92, 116]) ∨ (Lib.indexByte [34, 92, 10, 9] c = -1 ∧ quoteC c = [c]) := by
  by_cases h1 : c = 34
  · subst h1; exact .inl ⟨by decide, by decide⟩
  by_cases h2 : c = 92
  · subst h2; exact .inr (.inl ⟨by decide, by decide⟩)
  by_cases h3 : c = 10
  · subst h3; exact .inr (.inr (.inl ⟨by decide, by decide⟩))
  by_cases h4 : c = 9
  · subst h4; exact .inr (.inr (.inr (.inl ⟨by decide, by decide⟩)))
  · exact .inr (.inr (.inr (.inr ⟨idx_other c h1 h2 h3 h4, by simp [quoteC, h1, h2, h3, h4]⟩)))
theorem u8_back (c : UInt8) : ((c.toNat : Int)).toNat.toUInt8 = c := by simp
set_option maxHeartbeats 1600000 in
theorem quote_any (s : ByteArray) (hs : s.size ≤ 2147483647) (w : World) :
    Calls Tryd.prog 29 #[.string s] w fun e w' => e = .returned (.string ⟨(quoteT s).toArray⟩) ∧ Below w.heap.size w w' := by
  have hsl : s.data.toList.length = s.size := Array.length_toList
  have HSL := Lib.hid hsl
  go_enter Tryd.func29, Tryd.ntmps29
  go_wp2_with fail
  refine (Tryd.BuilderB_WriteByte w.heap.size w.heap.size [] 34 _ (Lib.IsBuilderF.of (Lib.fresh_isBuilder _ _ w)) (by simp) (by simp)).mono ?_
  rintro e w1 ⟨rfl, hbt, hb1, _⟩
  have hbw : Below w.heap.size w w1 := ((Below.refl w.heap.size w).alloc (Nat.le_refl _) _).trans hb1
  have HW1 := Lib.hid hbw
  have HB1 : Hid (Lib.IsBuilderF 71 5 w.heap.size w.heap.size (Lib.byteCells [34]) w1) := .inr hbt
  have hz1 : w.heap.size + 1 ≤ w1.heap.size := by have := hb1.size; simpa using this
  clear hbt hb1 hbw hsl
  go_wp2_with fail
  go_loopw [9] (fun i wr => ∃ k : Nat, k ≤ s.size ∧ i = .int .i64 k ∧ Below w.heap.size w wr ∧ w.heap.size + 1 ≤ wr.heap.size ∧ Hid (Lib.IsBuilderF 71 5 w.heap.size w.heap.size (Lib.byteCells (34 :: quoteL (s.data.toList.take k))) wr)) (fun i _ => s.size - (intOf i).toNat)
  case atStart => exact ⟨0, Nat.zero_le _, rfl, HW1.out, hz1, by simpa [quoteL] using HB1⟩
  case round =>
    obtain ⟨k, hk, rfl, hbel, hsz, hI⟩ := hrel
    by_cases hlt : k < s.size
    rotate_left
    · have hfin := hI.out
      rw [List.take_of_length_le (by have := HSL.out; omega)] at hfin
      have HF := Lib.hid hfin
      have HB := Lib.hid hbel
      have hcap := quoteL_len s.data.toList
      rw [HSL.out] at hcap
      clear hfin hbel hI
      go_wp2_with fail
      refine (Tryd.BuilderB_WriteByte w.heap.size w.heap.size _ 34 _ HF.out (by simp [Lib.byteCells]; omega) HB.out.size).mono ?_
      rintro e w2 ⟨rfl, hbt, hb2, _⟩
      have hbt' : Lib.IsBuilderF 71 5 w.heap.size w.heap.size (Lib.byteCells (quoteT s)) w2 := by
        rw [quoteT, Lib.byteCells_append]
        exact .inr hbt
      have HT := Lib.hid hbt'
      have HB2 := Lib.hid (HB.out.trans hb2)
      clear hbt hbt' hb2 hcap
      go_wp2_with fail
      refine (Tryd.Builder_String_any_k w.heap.size w.heap.size _ _ HT.out HB2.out.size).mono ?_
      rintro e w3 ⟨rfl, _, hb3, _⟩
      go_wp2_with fail
      go_ret
      exact ⟨rfl, HB2.out.trans hb3⟩
    have hkl : k < s.data.toList.length := by rw [HSL.out]; exact hlt
    have HQ := Lib.hid (quoteL_take s.data.toList k hkl)
    have HB := Lib.hid hbel
    have hqb : (quoteL (s.data.toList.take k)).length ≤ 4294967294 := by
      have := quoteL_len (s.data.toList.take k)
      have h2 : (s.data.toList.take k).length ≤ k := List.length_take_le _ _
      omega
    have hix : s.data.toList[k]'hkl = s[k] := rfl
    clear hbel
    go_wp2_with fail
    refine (Tryd.strings_IndexByte _ _ wr).mono ?_
    rintro e w2 ⟨rfl, rfl⟩
    rw [u8_back, show ({ data := #[34, 92, 10, 9] } : ByteArray).data.toList = [34, 92, 10, 9] from rfl]
    obtain ⟨c, hc⟩ : ∃ c, c = s[k] := ⟨_, rfl⟩
    rw [hix, ← hc] at HQ
    have hc2 : s.data[k]'(by simpa using hlt) = c := hc.symm
    rw [← hc]
    rcases quote_cases c with ⟨hi, hq⟩ | ⟨hi, hq⟩ | ⟨hi, hq⟩ | ⟨hi, hq⟩ | ⟨hi, hq⟩
    rotate_right
    · rw [hi]
      rw [hq] at HQ
      clear hi hq
      go_wp2_with fail
      refine (Tryd.BuilderB_WriteByte w.heap.size w.heap.size _ _ _ hI.out (by simp [Lib.byteCells]; omega) HB.out.size).mono ?_
      rintro e w3 ⟨rfl, hbt, hb3, _⟩
      have HB3 := Lib.hid (HB.out.trans hb3)
      have hz3 := hb3.size
      have HT3 : Hid (Lib.IsBuilderF 71 5 w.heap.size w.heap.size (Lib.byteCells (34 :: quoteL (s.data.toList.take (k + 1)))) w3) := by
        rw [show (s[k] : UInt8) = c from hc.symm] at hbt
        rw [Hid, HQ.out, ← List.cons_append, Lib.byteCells_append]
        exact .inr hbt
      clear hbt hb3
      go_wp2_with fail
      go_roundw
      case rel => exact ⟨k + 1, by omega, by go_num, HB3.out, by omega, HT3⟩
      case measure => simp [intOf]; omega
    all_goals
      rw [hi]
      rw [hq] at HQ
      clear hi hq
      go_wp2_with fail
      refine (Tryd.BuilderB_WriteByte w.heap.size w.heap.size _ _ _ hI.out (by simp [Lib.byteCells]; omega) HB.out.size).mono ?_
      rintro e w3 ⟨rfl, hbt, hb3, _⟩
      have HB3 := Lib.hid (HB.out.trans hb3)
      have hz3 := hb3.size
      have HT3 : Hid (Lib.IsBuilderF 71 5 w.heap.size w.heap.size (Lib.byteCells (34 :: quoteL (s.data.toList.take k)) ++ [.int .u8 92]) w3) := .inr hbt
      clear hbt hb3
      go_wp2_with fail
      refine (Tryd.BuilderB_WriteByte w.heap.size w.heap.size _ _ _ HT3.out (by simp [Lib.byteCells]; omega) HB3.out.size).mono ?_
      rintro e w4 ⟨rfl, hbt, hb4, _⟩
      have HB4 := Lib.hid (HB3.out.trans hb4)
      have hz4 := hb4.size
      have HT4 : Hid (Lib.IsBuilderF 71 5 w.heap.size w.heap.size (Lib.byteCells (34 :: quoteL (s.data.toList.take (k + 1)))) w4) := by
        rw [List.append_assoc] at hbt
        rw [Hid, HQ.out, ← List.cons_append, Lib.byteCells_append]
        exact .inr hbt
      clear hbt hb4
      go_wp2_with fail
      go_roundw
      case rel => exact ⟨k + 1, by omega, by go_num, HB4.out, by omega, HT4⟩
      case measure => simp [intOf]; omega
end Go.Proofs.YtndnondneelgjaaDoor
