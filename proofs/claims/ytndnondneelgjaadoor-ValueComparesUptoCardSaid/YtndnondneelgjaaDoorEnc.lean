/-
  How many bytes value.Encode tells of a number. Conditions: none.
-/
import Derived.Test.YtndnondneelgjaaDoorQuoteR
import Derived.Test.YtndnondneelgjaaDoorSum
import Derived.Test.YtndnondneelgjaaDoorChkL
namespace Go.Proofs.YtndnondneelgjaaDoor
open Go Go.RowKit
set_option maxRecDepth 100000
set_option linter.unusedVariables false
/-- v is a slice of n bytes that the call has made, from block base on -/
def bytesN (w : World) (base : Nat) (v : Value) (n : Nat) : Prop := ∃ xs, w.ownsRow base 5 1 v n xs
set_option maxHeartbeats 1600000 in
theorem big_any (m : Int) (base n width : Nat) (hn : n ≤ 1099511627776) (hw : width ≤ 8) (v : Value) (w : World) (hb : base ≤ w.heap.size) (hv : bytesN w base v n) :
    Calls Tryd.prog 79 #[v, .int .u64 m, .int .i64 width] w fun e w' => (∃ v', e = .returned v' ∧ bytesN w' base v' (n + width)) ∧ Below base w w' := by
  obtain ⟨i0, hi, hz0, hz1, hz2⟩ := info_parts binfo
  have HI := Lib.hid (And.intro hi (And.intro hz0 (And.intro hz1 hz2)))
  have HV := Lib.hid hv
  clear hi hz0 hz1 hz2 hv
  go_enter Tryd.func79, Tryd.ntmps79
  go_wp2_with fail
  go_loopw [0, 7] (fun u i wr => ∃ (k : Nat), k ≤ width ∧ i = .int .i64 ((width : Int) - 1 - k) ∧ Below base w wr ∧ Hid (bytesN wr base u (n + k))) (fun _ i _ => (intOf i + 1).toNat)
  case atStart => exact ⟨0, Nat.zero_le _, by simp, Below.refl _ _, HV⟩
  case round =>
    obtain ⟨k, hk, rfl, hbel, hU⟩ := hrel
    obtain ⟨xs, hown⟩ := hU.out
    have HO := Lib.hid hown
    have HB := Lib.hid hbel
    have hbz := hbel.size
    clear hbel hown
    by_cases hlt : k < width
    · have hd : decide (0 ≤ (width : Int) - 1 - k) = true := by simp; omega
      go_wp2_with (at_builtin; refine wpList_append_own_at _ rfl _ _ 40 rfl base 5 i0 (.int .u8 0) 1 1 Tryd.underlying40 HI.out.1 HI.out.2.1 HI.out.2.2.1 HI.out.2.2.2 rfl (by decide) _ _ _ rfl (HO.out.alloc _) ⟨wr.heap.size, 0, none⟩ 1 1 [.int .u8 (m / 2 ^ (8 * (width - 1 - k)) % 256)] rfl rfl ?c1 ?c2 ?c3 ?c4 ?c5 ?_)
      case c1 => exact fun j u hj => news_last hj
      case c2 => intro u hu; simp only [List.mem_cons, List.not_mem_nil, or_false] at hu; subst hu; rfl
      case c3 => unfold maxLen; omega
      case c4 => omega
      case c5 => simp; omega
      intro v' w2 hown2 hgrow _ hat
      have hb2 : Below base w w2 := (HB.out.alloc (by omega) (.cells #[.int .u8 (m / 2 ^ (8 * (width - 1 - k)) % 256)] 5)).grown hgrow (by simp; omega) (fun g hg => (ownBlock_lt HO.out hg).1)
      have HU2 : Hid (bytesN w2 base v' (n + (k + 1))) := ⟨_, hown2⟩
      clear hown2 hgrow hat
      go_wp2_with fail
      go_roundw
      case rel => exact ⟨k + 1, by omega, by simp; omega, hb2, HU2⟩
      case measure => simp [intOf]; omega
    · obtain rfl : k = width := by omega
      have hd : decide (0 ≤ (k : Int) - 1 - k) = false := by simp; omega
      go_wp2_with fail
      go_ret
      exact ⟨⟨_, rfl, hU.out⟩, HB.out⟩
set_option maxHeartbeats 1600000 in
theorem lay_num (n : Int) (w : World) : Calls Tryd.prog 46 #[.slice none 0 0, numA n] w fun e w' => (∃ v', e = .returned v' ∧ bytesN w' w.heap.size v' 9) ∧ Below w.heap.size w w' := by
  obtain ⟨i0, hi, hz0, hz1, hz2⟩ := info_parts binfo
  have HI := Lib.hid (And.intro hi (And.intro hz0 (And.intro hz1 hz2)))
  clear hi hz0 hz1 hz2
  unfold numA
  have hbx := (Below.refl w.heap.size w).alloc (Nat.le_refl _) (.cells #[.int .i64 2, .bool false, .int .i64 n, .string { data := #[] }, .slice none 0 0] 28)
  have HBX := Lib.hid hbx
  have hown0 : (w.alloc (.cells #[.int .i64 2, .bool false, .int .i64 n, .string { data := #[] }, .slice none 0 0] 28)).ownsRow (w.heap.size + 1) 5 1 (.slice none 0 0) 0 [] := ⟨rfl, .inl ⟨rfl, rfl⟩⟩
  have HO := Lib.hid hown0
  clear hbx hown0
  go_enter Tryd.func46, Tryd.ntmps46
  go_wp2_with (at_builtin; refine wpList_append_own_at _ rfl _ _ 40 rfl (w.heap.size + 1) 5 i0 (.int .u8 0) 1 1 Tryd.underlying40 HI.out.1 HI.out.2.1 HI.out.2.2.1 HI.out.2.2.2 rfl (by decide) _ _ _ rfl (HO.out.alloc _) ⟨w.heap.size + 1, 0, none⟩ 1 1 [.int .u8 2] rfl rfl ?c1 ?c2 ?c3 ?c4 ?c5 ?_)
  case c1 =>
    intro j u hj
    have := @news_last (w.alloc (.cells #[.int .i64 2, .bool false, .int .i64 n, .string { data := #[] }, .slice none 0 0] 28)) [.int .u8 2] 5 j u hj
    simpa using this
  case c2 => intro u hu; simp only [List.mem_cons, List.not_mem_nil, or_false] at hu; subst hu; rfl
  case c3 => unfold maxLen; omega
  case c4 => omega
  case c5 => simp
  intro v' w2 hown2 hgrow _ hat
  have hb2 : Below (w.heap.size + 1) (w.alloc (.cells #[.int .i64 2, .bool false, .int .i64 n, .string { data := #[] }, .slice none 0 0] 28)) w2 := ((Below.refl _ _).alloc (by simp) (.cells #[.int .u8 2] 5)).grown hgrow (by simp) (fun g hg => by simp [Value.ownBlock] at hg)
  have hx2 := (hb2.block w.heap.size (by omega)).trans (heap_last (w := w))
  have q2 := fun o => cell_of hx2 o
  have HB2 := Lib.hid (HBX.out.trans (hb2.mono (by omega)))
  have HU2 : Hid (bytesN w2 w.heap.size v' 1) := ⟨_, hown2.1, hown2.2.elim .inl fun ⟨g, cap, cur, e, hg, r⟩ => .inr ⟨g, cap, cur, e, by omega, r⟩⟩
  have hs2 : w.heap.size < w2.heap.size := by have := hb2.size; simp at this; omega
  clear hown2 hgrow hat hb2 hx2
  go_wp2_with fail
  refine (big_any _ w.heap.size 1 8 (by omega) (by omega) v' w2 (by omega) HU2.out).mono ?_
  rintro e w3 ⟨⟨v3, rfl, hv3⟩, hb3⟩
  have HB3 := Lib.hid (HB2.out.trans hb3)
  have HV3 := Lib.hid hv3
  clear hb3 hv3 q2
  go_wp2_with fail
  go_ret
  exact ⟨⟨v3, rfl, HV3.out⟩, HB3.out⟩
def numG (n : Int) : GV := ⟨2, false, n, { data := #[] }, []⟩
theorem numG_fit (n : Int) (h0 : -9223372036854775808 ≤ n) (h1 : n ≤ 9223372036854775807) : (numG n).fit := by
  simp only [numG, GV.fit]
  exact ⟨by omega, by omega, h0, h1, by decide, by simp, trivial⟩
theorem numG_may (n : Int) : vmay (numG n) = true := by
  have : ({ data := #[] } : ByteArray).toList = [] := by rw [toList_nil]; rfl
  simp [vmay, chk_eq, numG, chkFlat, this]
theorem encode_num (n : Int) (h0 : -9223372036854775808 ≤ n) (h1 : n ≤ 9223372036854775807) (w : World) :
    Calls Tryd.prog 23 #[numA n] w fun e w' => (∃ g cap, e = .returned (.tuple #[.slice (some ⟨g, 0, none⟩) 9 cap, .int .i64 0])) ∧ Below w.heap.size w w' := by
  have HL := Lib.hid (lay_num n)
  unfold numA at HL ⊢
  go_enter Tryd.func23, Tryd.ntmps23
  go_wp2_with fail
  have hb0 := (Below.refl w.heap.size w).alloc (Nat.le_refl _) (.cells #[.int .i64 2, .bool false, .int .i64 n, .string { data := #[] }, .slice none 0 0] 28)
  refine (vCheck_any (numG n) (numG_fit n h0 h1) (.slice none 0 0) _ 0 (Nat.zero_le _) (isL_nil _ _)).mono ?_
  rintro e w1 ⟨rfl, hb1⟩
  rw [numG_may]
  have hx1 := (hb1.block w.heap.size (by simp)).trans (heap_last (w := w))
  have q1 := fun o => cell_of hx1 o
  have HB1 := Lib.hid (below_down hb0 hb1 (Nat.le_refl _))
  have hs1 : w.heap.size < w1.heap.size := by have := hb1.size; simp at this; omega
  clear hb0 hb1 hx1
  go_wp2_with fail
  refine (HL.out w1).mono ?_
  rintro e w2 ⟨⟨v, rfl, xs, hv⟩, hb2⟩
  obtain ⟨g, cap, rfl⟩ : ∃ g cap, v = .slice (some ⟨g, 0, none⟩) 9 cap := by
    rcases hv.2 with ⟨_, h0⟩ | ⟨g, cap, _, hv, _⟩
    · omega
    · exact ⟨g, cap, hv⟩
  have HB2 := Lib.hid (below_down HB1.out hb2 (Nat.le_refl _))
  clear hb2 hv q1
  go_wp2_with fail
  go_ret2
  exact ⟨⟨g, cap, rfl⟩, HB2.out⟩
end Go.Proofs.YtndnondneelgjaaDoor
