/-
  The reference's bytes of a text. Conditions: shorter than 2^31.
-/
import Derived.Test.YtkpfaeodgjbodaaGreatDoorRBytesN
import Derived.Test.YtkpfaeodgjbodaaGreatDoorAppRow
namespace Go.Proofs.YtkpfaeodgjbodaaGreatDoor
open Go Go.RowKit
set_option maxRecDepth 100000
set_option linter.unusedVariables false
theorem bytesR_far {w w' : World} {base : Nat} {v : Value} {bs : List Nat} (h : bytesR w base v bs) (hb : Below w.heap.size w w') : bytesR w' base v bs := by
  obtain ⟨h1, h | ⟨g, cap, cur, e, hg, hh, rest⟩⟩ := h
  · exact ⟨h1, .inl h⟩
  · exact ⟨h1, .inr ⟨g, cap, cur, e, hg, (hb.block g (Array.getElem?_eq_some_iff.1 hh).1).trans hh, rest⟩⟩
set_option maxHeartbeats 800000 in
theorem rb_3 (bo : Bool) (n : Int) (t : ByteArray) (ht : t.size ≤ 2147483647) (a : Option Addr) (m c : Nat) (w : World) :
    Calls Tryz.prog 20 #[.agg #[.int .i64 3, .bool bo, .int .i64 n, .string t, .slice a m c]] w fun e w' => ∃ v', e = .returned v' ∧ bytesR w' w.heap.size v' (3 :: (beN t.size 4 ++ txB t)) ∧ Below w.heap.size w w' := by
  obtain ⟨i0, hi, hz0, hz1, hz2⟩ := info_parts binfo
  have HI := Lib.hid (And.intro hi (And.intro hz0 (And.intro hz1 hz2)))
  have HTS := Lib.hid ht
  clear hi hz0 hz1 hz2 ht
  go_enter Tryz.func20, Tryz.ntmps20
  go_upto_region 2 with fail
  obtain ⟨hb2, hx2, hv2⟩ := rb_start w #[.int .i64 3, .bool bo, .int .i64 n, .string t, .slice a m c] 33 3
  obtain ⟨w2, hw2⟩ : ∃ u, u = (w.alloc (.cells #[.int .i64 3, .bool bo, .int .i64 n, .string t, .slice a m c] 33)).alloc (.cells #[.int .u8 3] 5) := ⟨_, rfl⟩
  have hb2 : Below w.heap.size w w2 := by rw [hw2]; exact hb2
  have hx2 : w2.heap[w.heap.size]? = some (.cells #[.int .i64 3, .bool bo, .int .i64 n, .string t, .slice a m c] 33 (0, 0)) := by rw [hw2]; exact hx2
  have hv2 : bytesR w2 (w.heap.size + 1) (.slice (some ⟨w.heap.size + 1, 0, none⟩) 1 1) [3] := by rw [hw2]; exact hv2
  rw [← hw2]
  clear hw2
  obtain ⟨v, hv⟩ : ∃ v, v = Value.slice (some ⟨w.heap.size + 1, 0, none⟩) 1 1 := ⟨_, rfl⟩
  rw [← hv] at hv2 ⊢
  obtain ⟨bx, hbx⟩ : ∃ b, b = w.heap.size := ⟨_, rfl⟩
  have HBX := Lib.hid hbx
  have HNE : Hid (some bx ≠ v.ownBlock) := fun e => by have := (ownBlock_lt hv2 e.symm).1; omega
  rw [← hbx] at hx2 hv2 hb2 ⊢
  have HV2 := Lib.hid hv2
  have HB2 := Lib.hid hb2
  have HX2 := Lib.hid hx2
  have q1 := fun o => cell_of hx2 o
  have l1 : bx < w2.heap.size := (Array.getElem?_eq_some_iff.1 hx2).1
  clear hv2 hx2 hbx hv hb2
  go_wp2_with fail
  have HF : Hid (∀ w2' : World, Calls Tryz.prog 41 #[.int .i64 (t.size : Int)] w2' fun e w' => ∃ v', e = .returned v' ∧ bytesR w' w2'.heap.size v' (beN t.size 4) ∧ Below w2'.heap.size w2' w') := fun w2' => four_any t.size HTS.out w2'
  have HST := Lib.hid Tryz.underlying9
  have HSL := Lib.hid Tryz.underlying28
  go_region_law (first
    | (refine step_text rfl _ _ 28 9 rfl (bx + 1) 5 i0 HSL.out HST.out HI.out.1 HI.out.2.1 HI.out.2.2.1 HI.out.2.2.2 v4 _ _ rfl HV4.out t rfl ?c1 ?c2 ?c3 ?_
       case c1 => simp
       case c2 => have h2 := HTS.out; simp [beN_length]; omega
       case c3 => exact hb4
       intro v5 w5 hown5 hgrow5 hat5
       have H5 : Hid (bytesR w5 (bx + 1) v5 (3 :: (beN t.size 4 ++ txB t)) ∧ Below bx w w5) := ⟨pushT (cs := [3] ++ beN t.size 4) hown5, HK4.out.trans ((GK.grown hgrow5).isBelow (bytesR_low HV4.out (Nat.le_succ _)) (Nat.le_trans (Nat.le_succ _) hb4))⟩
       clear hown5 hgrow5 hat5)
    | (refine step_append_run rfl _ _ 28 rfl _ _ rfl rfl _ _ HR4.out ?_)
    | (go_simp
       go_at_call 41
       refine (HF.out _).mono ?_
       rintro e w3 ⟨v3, rfl, h31, h32'⟩
       have h32 : Below w2.heap.size w2 w3 := (Below.refl w2.heap.size w2).drew.trans h32'
       have hx3 := (h32.block bx l1).trans HX2.out
       have hv3 : bytesR w3 (bx + 1) v [3] := bytesR_far HV2.out h32
       have h33 : bx + 1 ≤ w3.heap.size := Nat.le_trans l1 h32.size
       obtain ⟨v4, w4, hr4, h41, h42, h43⟩ := app_row hv3 h31 (by rw [beN_length]; omega) (by rw [beN_length]; decide) h33 28
       have HR4 := Lib.hid hr4
       have HV4 := Lib.hid h41
       have HK4 : Hid (Below bx w w4) := (HB2.out.trans (h32.mono (Nat.le_of_lt l1))).trans ((GK.grown h42).isBelow (bytesR_low hv3 (Nat.le_succ _)) (Nat.le_trans (Nat.le_succ _) h33))
       have hb4 : bx + 1 ≤ w4.heap.size := Nat.le_trans h33 (GK.grown h42).2.2.2.1
       have hx4 := ((GK.grown h42).far (Nat.lt_of_lt_of_le l1 h32.size) HNE.out).trans hx3
       have q3 := fun o => cell_of hx3 o
       have q4 := fun o => cell_of hx4 o
       have l3 : bx < w3.heap.size := h33
       have l4 : bx < w4.heap.size := hb4
       clear h31 h32 h32' hr4 h41 h42 h43 hv3 hx3 hx4))
  all_goals
    go_wp2_with fail
    go_ret
    rw [← HBX.out]
    exact ⟨v5, rfl, bytesR_low H5.out.1 (Nat.le_succ _), H5.out.2⟩
end Go.Proofs.YtkpfaeodgjbodaaGreatDoor
