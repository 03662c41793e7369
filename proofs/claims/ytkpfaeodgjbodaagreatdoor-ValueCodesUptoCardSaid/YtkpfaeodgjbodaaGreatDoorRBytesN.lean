/-
  The reference's bytes of a number. Conditions: none.
-/
import Derived.Test.YtkpfaeodgjbodaaGreatDoorRBytes
namespace Go.Proofs.YtkpfaeodgjbodaaGreatDoor
open Go Go.RowKit
set_option maxRecDepth 100000
set_option linter.unusedVariables false
theorem shift_byte (n : Int) (j : Nat) (h : j < 8) : n / 2 ^ (56 - 8 * j) % 256 = ((toU n / 2 ^ (8 * (8 - 1 - j)) % 256 : Nat) : Int) := by
  unfold toU
  match j, h with
  | 0, _ => simp only [Nat.reduceMul, Nat.reduceSub, Nat.reducePow, Int.reducePow]; omega
  | 1, _ => simp only [Nat.reduceMul, Nat.reduceSub, Nat.reducePow, Int.reducePow]; omega
  | 2, _ => simp only [Nat.reduceMul, Nat.reduceSub, Nat.reducePow, Int.reducePow]; omega
  | 3, _ => simp only [Nat.reduceMul, Nat.reduceSub, Nat.reducePow, Int.reducePow]; omega
  | 4, _ => simp only [Nat.reduceMul, Nat.reduceSub, Nat.reducePow, Int.reducePow]; omega
  | 5, _ => simp only [Nat.reduceMul, Nat.reduceSub, Nat.reducePow, Int.reducePow]; omega
  | 6, _ => simp only [Nat.reduceMul, Nat.reduceSub, Nat.reducePow, Int.reducePow]; omega
  | 7, _ => simp only [Nat.reduceMul, Nat.reduceSub, Nat.reducePow, Int.reducePow]; omega
set_option maxHeartbeats 800000 in
theorem rb_2 (bo : Bool) (n : Int) (hn : inB n) (t : ByteArray) (a : Option Addr) (m c : Nat) (w : World) :
    Calls Tryz.prog 20 #[.agg #[.int .i64 2, .bool bo, .int .i64 n, .string t, .slice a m c]] w fun e w' => ∃ v', e = .returned v' ∧ bytesR w' w.heap.size v' (2 :: beN (toU n) 8) ∧ Below w.heap.size w w' := by
  obtain ⟨i0, hi, hz0, hz1, hz2⟩ := info_parts binfo
  have HI := Lib.hid (And.intro hi (And.intro hz0 (And.intro hz1 hz2)))
  have HN := Lib.hid hn
  clear hi hz0 hz1 hz2 hn
  go_enter Tryz.func20, Tryz.ntmps20
  go_upto_region 2 with fail
  obtain ⟨hb2, hx2, hv2⟩ := rb_start w #[.int .i64 2, .bool bo, .int .i64 n, .string t, .slice a m c] 33 2
  obtain ⟨w2, hw2⟩ : ∃ u, u = (w.alloc (.cells #[.int .i64 2, .bool bo, .int .i64 n, .string t, .slice a m c] 33)).alloc (.cells #[.int .u8 2] 5) := ⟨_, rfl⟩
  have hb2 : Below w.heap.size w w2 := by rw [hw2]; exact hb2
  have hx2 : w2.heap[w.heap.size]? = some (.cells #[.int .i64 2, .bool bo, .int .i64 n, .string t, .slice a m c] 33 (0, 0)) := by rw [hw2]; exact hx2
  have hv2 : bytesR w2 (w.heap.size + 1) (.slice (some ⟨w.heap.size + 1, 0, none⟩) 1 1) [2] := by rw [hw2]; exact hv2
  rw [← hw2]
  clear hw2
  obtain ⟨v, hv⟩ : ∃ v, v = Value.slice (some ⟨w.heap.size + 1, 0, none⟩) 1 1 := ⟨_, rfl⟩
  rw [← hv] at hv2 ⊢
  obtain ⟨bx, hbx⟩ : ∃ b, b = w.heap.size := ⟨_, rfl⟩
  have HBX := Lib.hid hbx
  have HNE : Hid (some bx ≠ v.ownBlock) := fun e => by have := (ownBlock_lt hv2 e.symm).1; omega
  rw [← hbx] at hx2 hv2 hb2 ⊢
  have HV2 := Lib.hid hv2
  have HB2 := Lib.hid hb2
  have HX2 := Lib.hid hx2
  have q1 := fun o => cell_of hx2 o
  have l1 : bx < w2.heap.size := (Array.getElem?_eq_some_iff.1 hx2).1
  have HR0 : Hid (bytesR w2 (bx + 1) v (2 :: (beN (toU n) 8).take 0) ∧ GK v.ownBlock w2 w2 ∧ NB v.ownBlock w2 v.ownBlock) := ⟨hv2, GK.refl _ _, NB.refl _ _⟩
  clear hv2 hx2 hbx hv hb2
  go_wp2_with fail
  go_loopw [3, 4] (fun u i wr => ∃ j : Nat, j ≤ 8 ∧ i = .int .i64 (56 - 8 * (j : Int)) ∧ Hid (bytesR wr (bx + 1) u (2 :: (beN (toU n) 8).take j) ∧ GK v.ownBlock w2 wr ∧ NB v.ownBlock w2 u.ownBlock)) (fun _ i _ => (intOf i + 8).toNat)
  case atStart => exact ⟨0, Nat.zero_le _, by simp, HR0⟩
  case round =>
    obtain ⟨j, hj, rfl, HU⟩ := hrel
    by_cases hlt : j < 8
    · have hd : decide (0 ≤ 56 - 8 * (j : Int)) = true := by simp; omega
      have hwr : w2.heap.size ≤ wr.heap.size := HU.out.2.1.2.2.2.1
      have hxr := (HU.out.2.1.far l1 HNE.out).trans HX2.out
      have qr := fun o => cell_of hxr o
      have lr : bx < wr.heap.size := Nat.lt_of_lt_of_le l1 hwr
      have nr : bx ≠ wr.heap.size := by omega
      obtain ⟨p, hp⟩ : ∃ p, p = 56 - 8 * j := ⟨_, rfl⟩
      have hpi : (56 - 8 * (j : Int)) = (p : Int) := by omega
      have HP := Lib.hid hp
      rw [hpi] at hd ⊢
      have ep : min (IntKind.u64.wrap (p : Int)).toNat 64 = p := by
        have : IntKind.u64.wrap (p : Int) = (p : Int) := by show (p : Int) % 18446744073709551616 = _; omega
        rw [this]; omega
      have HLN : Hid ((2 :: (beN (toU n) 8).take j).length = j + 1) := by
        rw [Hid, List.length_cons, List.length_take, beN_length]; omega
      have HBYTE : Hid (n / 2 ^ p % 256 = ((toU n / 2 ^ (8 * (8 - 1 - j)) % 256 : Nat) : Int)) := by rw [Hid, hp]; exact shift_byte n j hlt
      obtain ⟨cs, hcs⟩ : ∃ cs, cs = 2 :: (beN (toU n) 8).take j := ⟨_, rfl⟩
      rw [← hcs] at HU HLN
      have HCS := Lib.hid hcs
      have hwb : bx + 1 ≤ wr.heap.size := lr
      clear hp hpi q1 hxr hcs
      go_wp2_with (at_builtin; refine wpList_append_own_at _ rfl _ _ 28 rfl (bx + 1) 5 i0 (.int .u8 0) 1 1 Tryz.underlying28 HI.out.1 HI.out.2.1 HI.out.2.2.1 HI.out.2.2.2 rfl (by decide) _ _ _ rfl (World.ownsRow.alloc HU.out.1 _) ⟨wr.heap.size, 0, none⟩ 1 1 [.int .u8 (n / 2 ^ p % 256)] rfl rfl ?c1 ?c2 ?c3 ?c4 ?c5 ?_)
      case c1 => exact fun j u hj => news_last hj
      case c2 => intro u hu; simp only [List.mem_cons, List.not_mem_nil, or_false] at hu; subst hu; rfl
      case c3 => have h1 := HLN.out; unfold maxLen; omega
      case c4 => have h1 := HLN.out; omega
      case c5 => simp; omega
      intro v' w3 hown2 hgrow _ hat
      rw [HBYTE.out] at hown2
      have HU2 : Hid (bytesR w3 (bx + 1) v' (2 :: (beN (toU n) 8).take (j + 1)) ∧ GK v.ownBlock w2 w3 ∧ NB v.ownBlock w2 v'.ownBlock) := by
        have e : 2 :: (beN (toU n) 8).take (j + 1) = cs ++ [toU n / 2 ^ (8 * (8 - 1 - j)) % 256] := by
          rw [HCS.out, List.take_add_one, beN_get (toU n) 8 j hlt]; rfl
        rw [e]
        exact push1 HU.out.2.1 HU.out.2.2 hown2 hgrow hat (Nat.le_succ _)
      clear hown2 hgrow hat HU
      go_wp2_with fail
      go_roundw
      case rel => have h9 := HP.out; clear ep; exact ⟨j + 1, by omega, by congr 1; first | omega | (simp [wrap64]; omega), HU2⟩
      case measure => have h9 := HP.out; clear ep; simp only [intOf]; omega
    · obtain rfl : j = 8 := by omega
      go_wp2_with fail
      go_ret
      have hu := HU.out
      rw [List.take_of_length_le (by rw [beN_length]; exact Nat.le_refl _)] at hu
      rw [← HBX.out]
      exact ⟨_, rfl, bytesR_low hu.1 (Nat.le_succ _), HB2.out.trans (hu.2.1.isBelow (bytesR_low HV2.out (Nat.le_succ _)) (Nat.le_of_lt l1))⟩
set_option maxHeartbeats 800000 in
theorem rb_5 (bo : Bool) (n : Int) (hn : inB n) (t : ByteArray) (a : Option Addr) (m c : Nat) (w : World) :
    Calls Tryz.prog 20 #[.agg #[.int .i64 5, .bool bo, .int .i64 n, .string t, .slice a m c]] w fun e w' => ∃ v', e = .returned v' ∧ bytesR w' w.heap.size v' (5 :: beN (toU n) 8) ∧ Below w.heap.size w w' := by
  obtain ⟨i0, hi, hz0, hz1, hz2⟩ := info_parts binfo
  have HI := Lib.hid (And.intro hi (And.intro hz0 (And.intro hz1 hz2)))
  have HN := Lib.hid hn
  clear hi hz0 hz1 hz2 hn
  go_enter Tryz.func20, Tryz.ntmps20
  go_upto_region 2 with fail
  obtain ⟨hb2, hx2, hv2⟩ := rb_start w #[.int .i64 5, .bool bo, .int .i64 n, .string t, .slice a m c] 33 5
  obtain ⟨w2, hw2⟩ : ∃ u, u = (w.alloc (.cells #[.int .i64 5, .bool bo, .int .i64 n, .string t, .slice a m c] 33)).alloc (.cells #[.int .u8 5] 5) := ⟨_, rfl⟩
  have hb2 : Below w.heap.size w w2 := by rw [hw2]; exact hb2
  have hx2 : w2.heap[w.heap.size]? = some (.cells #[.int .i64 5, .bool bo, .int .i64 n, .string t, .slice a m c] 33 (0, 0)) := by rw [hw2]; exact hx2
  have hv2 : bytesR w2 (w.heap.size + 1) (.slice (some ⟨w.heap.size + 1, 0, none⟩) 1 1) [5] := by rw [hw2]; exact hv2
  rw [← hw2]
  clear hw2
  obtain ⟨v, hv⟩ : ∃ v, v = Value.slice (some ⟨w.heap.size + 1, 0, none⟩) 1 1 := ⟨_, rfl⟩
  rw [← hv] at hv2 ⊢
  obtain ⟨bx, hbx⟩ : ∃ b, b = w.heap.size := ⟨_, rfl⟩
  have HBX := Lib.hid hbx
  have HNE : Hid (some bx ≠ v.ownBlock) := fun e => by have := (ownBlock_lt hv2 e.symm).1; omega
  rw [← hbx] at hx2 hv2 hb2 ⊢
  have HV2 := Lib.hid hv2
  have HB2 := Lib.hid hb2
  have HX2 := Lib.hid hx2
  have q1 := fun o => cell_of hx2 o
  have l1 : bx < w2.heap.size := (Array.getElem?_eq_some_iff.1 hx2).1
  have HR0 : Hid (bytesR w2 (bx + 1) v (5 :: (beN (toU n) 8).take 0) ∧ GK v.ownBlock w2 w2 ∧ NB v.ownBlock w2 v.ownBlock) := ⟨hv2, GK.refl _ _, NB.refl _ _⟩
  clear hv2 hx2 hbx hv hb2
  go_wp2_with fail
  go_loopw [3, 4] (fun u i wr => ∃ j : Nat, j ≤ 8 ∧ i = .int .i64 (56 - 8 * (j : Int)) ∧ Hid (bytesR wr (bx + 1) u (5 :: (beN (toU n) 8).take j) ∧ GK v.ownBlock w2 wr ∧ NB v.ownBlock w2 u.ownBlock)) (fun _ i _ => (intOf i + 8).toNat)
  case atStart => exact ⟨0, Nat.zero_le _, by simp, HR0⟩
  case round =>
    obtain ⟨j, hj, rfl, HU⟩ := hrel
    by_cases hlt : j < 8
    · have hd : decide (0 ≤ 56 - 8 * (j : Int)) = true := by simp; omega
      have hwr : w2.heap.size ≤ wr.heap.size := HU.out.2.1.2.2.2.1
      have hxr := (HU.out.2.1.far l1 HNE.out).trans HX2.out
      have qr := fun o => cell_of hxr o
      have lr : bx < wr.heap.size := Nat.lt_of_lt_of_le l1 hwr
      have nr : bx ≠ wr.heap.size := by omega
      obtain ⟨p, hp⟩ : ∃ p, p = 56 - 8 * j := ⟨_, rfl⟩
      have hpi : (56 - 8 * (j : Int)) = (p : Int) := by omega
      have HP := Lib.hid hp
      rw [hpi] at hd ⊢
      have ep : min (IntKind.u64.wrap (p : Int)).toNat 64 = p := by
        have : IntKind.u64.wrap (p : Int) = (p : Int) := by show (p : Int) % 18446744073709551616 = _; omega
        rw [this]; omega
      have HLN : Hid ((5 :: (beN (toU n) 8).take j).length = j + 1) := by
        rw [Hid, List.length_cons, List.length_take, beN_length]; omega
      have HBYTE : Hid (n / 2 ^ p % 256 = ((toU n / 2 ^ (8 * (8 - 1 - j)) % 256 : Nat) : Int)) := by rw [Hid, hp]; exact shift_byte n j hlt
      obtain ⟨cs, hcs⟩ : ∃ cs, cs = 5 :: (beN (toU n) 8).take j := ⟨_, rfl⟩
      rw [← hcs] at HU HLN
      have HCS := Lib.hid hcs
      have hwb : bx + 1 ≤ wr.heap.size := lr
      clear hp hpi q1 hxr hcs
      go_wp2_with (at_builtin; refine wpList_append_own_at _ rfl _ _ 28 rfl (bx + 1) 5 i0 (.int .u8 0) 1 1 Tryz.underlying28 HI.out.1 HI.out.2.1 HI.out.2.2.1 HI.out.2.2.2 rfl (by decide) _ _ _ rfl (World.ownsRow.alloc HU.out.1 _) ⟨wr.heap.size, 0, none⟩ 1 1 [.int .u8 (n / 2 ^ p % 256)] rfl rfl ?c1 ?c2 ?c3 ?c4 ?c5 ?_)
      case c1 => exact fun j u hj => news_last hj
      case c2 => intro u hu; simp only [List.mem_cons, List.not_mem_nil, or_false] at hu; subst hu; rfl
      case c3 => have h1 := HLN.out; unfold maxLen; omega
      case c4 => have h1 := HLN.out; omega
      case c5 => simp; omega
      intro v' w3 hown2 hgrow _ hat
      rw [HBYTE.out] at hown2
      have HU2 : Hid (bytesR w3 (bx + 1) v' (5 :: (beN (toU n) 8).take (j + 1)) ∧ GK v.ownBlock w2 w3 ∧ NB v.ownBlock w2 v'.ownBlock) := by
        have e : 5 :: (beN (toU n) 8).take (j + 1) = cs ++ [toU n / 2 ^ (8 * (8 - 1 - j)) % 256] := by
          rw [HCS.out, List.take_add_one, beN_get (toU n) 8 j hlt]; rfl
        rw [e]
        exact push1 HU.out.2.1 HU.out.2.2 hown2 hgrow hat (Nat.le_succ _)
      clear hown2 hgrow hat HU
      go_wp2_with fail
      go_roundw
      case rel => have h9 := HP.out; clear ep; exact ⟨j + 1, by omega, by congr 1; first | omega | (simp [wrap64]; omega), HU2⟩
      case measure => have h9 := HP.out; clear ep; simp only [intOf]; omega
    · obtain rfl : j = 8 := by omega
      go_wp2_with fail
      go_ret
      have hu := HU.out
      rw [List.take_of_length_le (by rw [beN_length]; exact Nat.le_refl _)] at hu
      rw [← HBX.out]
      exact ⟨_, rfl, bytesR_low hu.1 (Nat.le_succ _), HB2.out.trans (hu.2.1.isBelow (bytesR_low HV2.out (Nat.le_succ _)) (Nat.le_of_lt l1))⟩
end Go.Proofs.YtkpfaeodgjbodaaGreatDoor
