/-
  The reference's bytes of a list. Conditions: fewer than 2^31 elements, fewer than 2^30 bytes.
-/
import Derived.Test.YtkpfaeodgjbodaaGreatDoorRBytesT
import Derived.Lib.AppendZeros
namespace Go.Proofs.YtkpfaeodgjbodaaGreatDoor
open Go Go.RowKit
set_option maxRecDepth 100000
set_option linter.unusedVariables false
set_option maxHeartbeats 800000 in
theorem rb_4 (bo : Bool) (n : Int) (t : ByteArray) (l : List GV) (hll : l.length ≤ 2147483647) (hlen : (encL l).length ≤ 1073741824) (h : ∀ x ∈ l, RbC x) (a : Option Addr) (c : Nat) (w : World) (B : Nat) (hB : B ≤ w.heap.size) (hs : isL w 0 B (.slice a l.length c) l) :
    Calls Tryz.prog 20 #[.agg #[.int .i64 4, .bool bo, .int .i64 n, .string t, .slice a l.length c]] w fun e w' => ∃ v', e = .returned v' ∧ bytesR w' w.heap.size v' (4 :: (beN l.length 4 ++ encL l)) ∧ Below w.heap.size w w' := by
  obtain ⟨i0, hi, hz0, hz1, hz2⟩ := info_parts binfo
  have HI := Lib.hid (And.intro hi (And.intro hz0 (And.intro hz1 hz2)))
  have HLL := Lib.hid hll
  have HLE := Lib.hid hlen
  have HH := Lib.hid h
  have HS := Lib.hid hs
  clear hi hz0 hz1 hz2 hll hlen h hs
  go_enter Tryz.func20, Tryz.ntmps20
  go_upto_region 2 with fail
  obtain ⟨hb2, hx2, hv2⟩ := rb_start w #[.int .i64 4, .bool bo, .int .i64 n, .string t, .slice a l.length c] 33 4
  obtain ⟨w2, hw2⟩ : ∃ u, u = (w.alloc (.cells #[.int .i64 4, .bool bo, .int .i64 n, .string t, .slice a l.length c] 33)).alloc (.cells #[.int .u8 4] 5) := ⟨_, rfl⟩
  have hb2 : Below w.heap.size w w2 := by rw [hw2]; exact hb2
  have hx2 : w2.heap[w.heap.size]? = some (.cells #[.int .i64 4, .bool bo, .int .i64 n, .string t, .slice a l.length c] 33 (0, 0)) := by rw [hw2]; exact hx2
  have hv2 : bytesR w2 (w.heap.size + 1) (.slice (some ⟨w.heap.size + 1, 0, none⟩) 1 1) [4] := by rw [hw2]; exact hv2
  rw [← hw2]
  clear hw2
  obtain ⟨v, hv⟩ : ∃ v, v = Value.slice (some ⟨w.heap.size + 1, 0, none⟩) 1 1 := ⟨_, rfl⟩
  rw [← hv] at hv2 ⊢
  obtain ⟨bx, hbx⟩ : ∃ b, b = w.heap.size := ⟨_, rfl⟩
  have HBX := Lib.hid hbx
  have HNE : Hid (some bx ≠ v.ownBlock) := fun e => by have := (ownBlock_lt hv2 e.symm).1; omega
  rw [← hbx] at hx2 hv2 hb2 ⊢
  have HV2 := Lib.hid hv2
  have HB2 := Lib.hid hb2
  have HX2 := Lib.hid hx2
  have q1 := fun o => cell_of hx2 o
  have l1 : bx < w2.heap.size := (Array.getElem?_eq_some_iff.1 hx2).1
  clear hv2 hx2 hbx hv hb2
  go_wp2_with fail
  refine (four_any l.length HLL.out w2).mono ?_
  rintro e w3 ⟨v3, rfl, h31, h32⟩
  have hx3 := (h32.block bx l1).trans HX2.out
  have hv3 : bytesR w3 (bx + 1) v [4] := bytesR_far HV2.out h32
  have h33 : bx + 1 ≤ w3.heap.size := Nat.le_trans l1 h32.size
  obtain ⟨v4, w4, hr4, h41, h42, h43⟩ := app_row hv3 h31 (by rw [beN_length]; omega) (by rw [beN_length]; decide) h33 28
  have HR4 := Lib.hid hr4
  have hx4 := ((GK.grown h42).far h33 HNE.out).trans hx3
  have HU0 : Hid (bytesR w4 (bx + 1) v4 (4 :: (beN l.length 4 ++ encL (l.take 0))) ∧ Below bx w w4 ∧ w4.heap[bx]? = some (.cells #[.int .i64 4, .bool bo, .int .i64 n, .string t, .slice a l.length c] 33 (0, 0))) := by
    refine ⟨?_, (HB2.out.trans (h32.mono (Nat.le_of_lt l1))).trans ((GK.grown h42).isBelow (bytesR_low hv3 (Nat.le_succ _)) (Nat.le_trans (Nat.le_succ _) h33)), hx4⟩
    simpa [encL] using h41
  clear h31 h32 hr4 h41 h42 h43 hv3 hx3 hx4 q1
  go_wp2_with (at_builtin; refine Lib.wpList_append_run _ rfl _ _ _ _ rfl _ _ rfl rfl _ _ HR4.out ?_)
  go_loopw [3, 5] (fun u i wr => ∃ j : Nat, j ≤ l.length ∧ i = .int .i64 j ∧ Hid (bytesR wr (bx + 1) u (4 :: (beN l.length 4 ++ encL (l.take j))) ∧ Below bx w wr ∧ wr.heap[bx]? = some (.cells #[.int .i64 4, .bool bo, .int .i64 n, .string t, .slice a l.length c] 33 (0, 0)))) (fun _ i _ => l.length - (intOf i).toNat)
  case atStart => exact ⟨0, Nat.zero_le _, rfl, HU0⟩
  case round =>
    obtain ⟨j, hj, rfl, HU⟩ := hrel
    have qr := fun o => cell_of HU.out.2.2 o
    by_cases hlt : j < l.length
    · obtain ⟨a', c', bb, off, e, hc, ha, hA⟩ := isL_open HS.out
      cases e
      obtain ⟨rfl, _, hbB⟩ := ha (by omega)
      obtain ⟨ay, cy, y0, y1, y2, y3, y4, hsy⟩ := cellsV_slice (hA j hlt)
      have hBx : B ≤ bx := by have := HBX.out; omega
      have hgr : ∀ o, wr.cell? ⟨bb, o, none⟩ = w.cell? ⟨bb, o, none⟩ := fun o => HU.out.2.1.cell (p := ⟨bb, o, none⟩) (Nat.lt_of_lt_of_le hbB hBx)
      have lr : bx < wr.heap.size := (Array.getElem?_eq_some_iff.1 HU.out.2.2).1
      have lb : bb < wr.heap.size := by omega
      have hw : w.heap.size ≤ wr.heap.size := HU.out.2.1.size
      have HSY := Lib.hid (isL_below hsy HU.out.2.1 hBx)
      clear hsy hA ha
      go_wp2_with fail
      refine (HH.out l[j] (List.getElem_mem hlt) (.slice ay l[j].l.length cy) wr B (Nat.le_trans hB hw) HSY.out).mono ?_
      rintro e w5 ⟨v5, rfl, h51, h52⟩
      have hx5 := (h52.block bx lr).trans HU.out.2.2
      have hv5 := bytesR_far HU.out.1 h52
      have h53 : bx + 1 ≤ w5.heap.size := Nat.le_trans lr h52.size
      have hne := fun e => Nat.lt_irrefl bx (by have := (ownBlock_lt HU.out.1 (g := bx) e).1; omega)
      have hle : (encL (l.take j)).length ≤ (encL l).length := encL_take_le l j
      have hle2 : (encL (l.take (j + 1))).length ≤ (encL l).length := encL_take_le l (j + 1)
      have het := encL_take l j hlt
      rw [het, List.length_append] at hle2
      obtain ⟨v6, w6, hr6, h61, h62, h63⟩ := app_row hv5 h51 (enc_pos _) (by have := HLE.out; simp only [List.length_cons, List.length_append, beN_length]; omega) h53 28
      have HR6 := Lib.hid hr6
      have hx6 := ((GK.grown h62).far h53 (fun e => hne e.symm)).trans hx5
      have HU2 : Hid (bytesR w6 (bx + 1) v6 (4 :: (beN l.length 4 ++ encL (l.take (j + 1)))) ∧ Below bx w w6 ∧ w6.heap[bx]? = some (.cells #[.int .i64 4, .bool bo, .int .i64 n, .string t, .slice (some ⟨bb, off, none⟩) l.length c] 33 (0, 0))) := by
        refine ⟨?_, (HU.out.2.1.trans (h52.mono (Nat.le_of_lt lr))).trans ((GK.grown h62).isBelow (bytesR_low hv5 (Nat.le_succ _)) (Nat.le_trans (Nat.le_succ _) h53)), hx6⟩
        rw [het]
        simpa using h61
      clear h51 h52 hr6 h61 h62 h63 hv5 hx5 hx6 qr hgr hle hle2 het HU hne
      have h9 := HLL.out
      have h8 : j < 2147483647 := by omega
      go_wp2_with (at_builtin; refine Lib.wpList_append_run _ rfl _ _ _ _ rfl _ _ rfl rfl _ _ HR6.out ?_)
      go_roundw
      case rel => exact ⟨j + 1, by omega, by go_num, HU2⟩
      case measure => simp [intOf]; omega
    · obtain rfl : j = l.length := by omega
      go_wp2_with fail
      go_ret
      have hu := HU.out
      rw [List.take_of_length_le (Nat.le_refl _)] at hu
      rw [← HBX.out]
      exact ⟨_, rfl, bytesR_low hu.1 (Nat.le_succ _), hu.2.1⟩
end Go.Proofs.YtkpfaeodgjbodaaGreatDoor
