/-
  The reference's bytes of a value: four bytes of a number; Bytes. Conditions: lists and texts shorter than 2^31.
-/
import Derived.Test.YtkpfaeodgjbodaaGreatDoorLay
import Derived.Test.YtkpfaeodgjbodaaGreatDoorME
namespace Go.Proofs.YtkpfaeodgjbodaaGreatDoor
open Go Go.RowKit
set_option maxRecDepth 100000
set_option linter.unusedVariables false
theorem be4 (n : Nat) : beN n 4 = [n / 16777216 % 256, n / 65536 % 256, n / 256 % 256, n % 256] := by
  simp [beN]
theorem bytesR_new (w : World) (base : Nat) (hb : base ≤ w.heap.size) (bs : List Nat) (hl : bs.length ≤ 1048576) : bytesR (w.alloc (.cells (bs.map fun (b : Nat) => Value.int .u8 (b : Int)).toArray 5)) base (.slice (some ⟨w.heap.size, 0, none⟩) bs.length bs.length) bs :=
  ⟨by simp, .inr ⟨w.heap.size, bs.length, _, rfl, hb, heap_last, Nat.le_refl _, by unfold maxLen; omega, by simp, by simp only [Nat.mul_one]; exact List.take_of_length_le (by simp)⟩⟩
theorem four_any (n : Nat) (hn : n ≤ 2147483647) (w : World) : Calls Tryz.prog 41 #[.int .i64 n] w fun e w' => ∃ v', e = .returned v' ∧ bytesR w' w.heap.size v' (beN n 4) ∧ Below w.heap.size w w' := by
  go_enter Tryz.func41, Tryz.ntmps41
  go_wp2_with fail
  go_ret
  have e1 : (n : Int) / 16777216 = ((n / 16777216 % 256 : Nat) : Int) := by omega
  have e2 : (n : Int) / 65536 % 256 = ((n / 65536 % 256 : Nat) : Int) := by omega
  have e3 : (n : Int) / 256 % 256 = ((n / 256 % 256 : Nat) : Int) := by omega
  have e4 : (n : Int) % 256 = ((n % 256 : Nat) : Int) := by omega
  rw [e1, e2, e3, e4]
  have h := bytesR_new w w.heap.size (Nat.le_refl _) (beN n 4) (by rw [beN_length]; decide)
  rw [be4] at h ⊢
  exact ⟨.slice (some ⟨w.heap.size, 0, none⟩) 4 4, rfl, h, (Below.refl _ _).alloc (Nat.le_refl _) _⟩
def RbC (x : GV) : Prop := ∀ (s : Value) (w : World) (B : Nat), B ≤ w.heap.size → isL w 0 B s x.l →
  Calls Tryz.prog 20 #[x.agg s] w fun e w' => ∃ v', e = .returned v' ∧ bytesR w' w.heap.size v' (enc x) ∧ Below w.heap.size w w'
set_option maxHeartbeats 800000 in
theorem rb_flat (k : Int) (bo : Bool) (n : Int) (t : ByteArray) (a : Option Addr) (m c : Nat) (w : World) (h1 : k ≠ 1) (h2 : k ≠ 2) (h3 : k ≠ 3) (h4 : k ≠ 4) (h5 : k ≠ 5) :
    Calls Tryz.prog 20 #[.agg #[.int .i64 k, .bool bo, .int .i64 n, .string t, .slice a m c]] w fun e w' => ∃ v', e = .returned v' ∧ bytesR w' w.heap.size v' [(k % 256).toNat] ∧ Below w.heap.size w w' := by
  have d1 : decide (k = 1) = false := decide_eq_false (by omega)
  have d2 : decide (k = 2) = false := decide_eq_false (by omega)
  have d3 : decide (k = 3) = false := decide_eq_false (by omega)
  have d4 : decide (k = 4) = false := decide_eq_false (by omega)
  have d5 : decide (k = 5) = false := decide_eq_false (by omega)
  go_enter Tryz.func20, Tryz.ntmps20
  go_wp2_with fail
  go_ret
  obtain ⟨w1, hw1⟩ : ∃ u, u = w.alloc (.cells #[.int .i64 k, .bool bo, .int .i64 n, .string t, .slice a m c] 33) := ⟨_, rfl⟩
  have hk : k % 256 = (((k % 256).toNat : Nat) : Int) := by omega
  have hs1 : w1.heap.size = w.heap.size + 1 := by rw [hw1]; simp
  have hb1 : Below w.heap.size w w1 := by rw [hw1]; exact (Below.refl _ _).alloc (Nat.le_refl _) _
  have h := bytesR_new w1 w.heap.size (by omega) [(k % 256).toNat] (by simp)
  rw [hs1] at h
  rw [← hw1]
  simp only [List.map_cons, List.map_nil, ← hk] at h
  exact ⟨.slice (some ⟨w.heap.size + 1, 0, none⟩) 1 1, rfl, h, hb1.alloc (by omega) _⟩
theorem bytesR_low {w : World} {base base' : Nat} {v : Value} {bs : List Nat} (h : bytesR w base v bs) (hb : base' ≤ base) : bytesR w base' v bs := by
  obtain ⟨h1, h | ⟨g, cap, cur, e, hg, rest⟩⟩ := h
  · exact ⟨h1, .inl h⟩
  · exact ⟨h1, .inr ⟨g, cap, cur, e, Nat.le_trans hb hg, rest⟩⟩
theorem rb_start (w : World) (X : Array Value) (T : TypeId) (k : Nat) : Below w.heap.size w ((w.alloc (.cells X T)).alloc (.cells #[.int .u8 (k : Int)] 5)) ∧ ((w.alloc (.cells X T)).alloc (.cells #[.int .u8 (k : Int)] 5)).heap[w.heap.size]? = some (.cells X T (0, 0)) ∧ bytesR ((w.alloc (.cells X T)).alloc (.cells #[.int .u8 (k : Int)] 5)) (w.heap.size + 1) (.slice (some ⟨w.heap.size + 1, 0, none⟩) 1 1) [k] := by
  obtain ⟨w1, hw1⟩ : ∃ u, u = w.alloc (.cells X T) := ⟨_, rfl⟩
  have hs1 : w1.heap.size = w.heap.size + 1 := by rw [hw1]; simp
  have hb1 : Below w.heap.size w w1 := by rw [hw1]; exact (Below.refl _ _).alloc (Nat.le_refl _) _
  have hx1 : w1.heap[w.heap.size]? = some (.cells X T (0, 0)) := by rw [hw1]; exact heap_last
  rw [← hw1]
  have h := bytesR_new w1 (w.heap.size + 1) (by omega) [k] (by simp)
  rw [hs1] at h
  exact ⟨hb1.alloc (by omega) _, (Below.heap_alloc _ _ _ (by omega)).trans hx1, h⟩
set_option maxHeartbeats 800000 in
theorem rb_bool (bo : Bool) (n : Int) (t : ByteArray) (a : Option Addr) (m c : Nat) (w : World) :
    Calls Tryz.prog 20 #[.agg #[.int .i64 1, .bool bo, .int .i64 n, .string t, .slice a m c]] w fun e w' => ∃ v', e = .returned v' ∧ bytesR w' w.heap.size v' [1, if bo then 1 else 0] ∧ Below w.heap.size w w' := by
  obtain ⟨i0, hi, hz0, hz1, hz2⟩ := info_parts binfo
  have HI := Lib.hid (And.intro hi (And.intro hz0 (And.intro hz1 hz2)))
  clear hi hz0 hz1 hz2
  go_enter Tryz.func20, Tryz.ntmps20
  go_upto_region 2 with fail
  obtain ⟨hb2, hx2, hv2⟩ := rb_start w #[.int .i64 1, .bool bo, .int .i64 n, .string t, .slice a m c] 33 1
  obtain ⟨w2, hw2⟩ : ∃ u, u = (w.alloc (.cells #[.int .i64 1, .bool bo, .int .i64 n, .string t, .slice a m c] 33)).alloc (.cells #[.int .u8 1] 5) := ⟨_, rfl⟩
  have hb2 : Below w.heap.size w w2 := by rw [hw2]; exact hb2
  have hx2 : w2.heap[w.heap.size]? = some (.cells #[.int .i64 1, .bool bo, .int .i64 n, .string t, .slice a m c] 33 (0, 0)) := by rw [hw2]; exact hx2
  have hv2 : bytesR w2 (w.heap.size + 1) (.slice (some ⟨w.heap.size + 1, 0, none⟩) 1 1) [1] := by rw [hw2]; exact hv2
  rw [← hw2]
  clear hw2
  obtain ⟨v, hv⟩ : ∃ v, v = Value.slice (some ⟨w.heap.size + 1, 0, none⟩) 1 1 := ⟨_, rfl⟩
  rw [← hv] at hv2 ⊢
  obtain ⟨bx, hbx⟩ : ∃ b, b = w.heap.size := ⟨_, rfl⟩
  have HBX := Lib.hid hbx
  have HNE : Hid (some bx ≠ v.ownBlock) := fun e => by have := (ownBlock_lt hv2 e.symm).1; omega
  rw [← hbx] at hx2 hv2 hb2 ⊢
  have HV2 := Lib.hid hv2
  have HB2 := Lib.hid hb2
  have HX2 := Lib.hid hx2
  have q1 := fun o => cell_of hx2 o
  have l1 : bx < w2.heap.size := (Array.getElem?_eq_some_iff.1 hx2).1
  have n1 : bx ≠ w2.heap.size := by omega
  have hb1' : bx + 1 ≤ w2.heap.size := l1
  clear hv2 hx2 hbx hv hb2
  cases bo
  · go_wp2_with (at_builtin; refine wpList_append_own_at _ rfl _ _ 28 rfl (bx + 1) 5 i0 (.int .u8 0) 1 1 Tryz.underlying28 HI.out.1 HI.out.2.1 HI.out.2.2.1 HI.out.2.2.2 rfl (by decide) _ _ _ rfl (World.ownsRow.alloc HV2.out _) ⟨w2.heap.size, 0, none⟩ 1 1 [.int .u8 0] rfl rfl ?c1 ?c2 ?c3 ?c4 ?c5 ?_)
    case c1 => exact fun j u hj => news_last hj
    case c2 => intro u hu; simp only [List.mem_cons, List.not_mem_nil, or_false] at hu; subst hu; rfl
    case c3 => decide
    case c4 => decide
    case c5 => simp; omega
    intro v2 w3 hown2 hgrow _ hat
    have H2 := Lib.hid (push1 (bs := [1]) (k := 0) (GK.refl _ w2) (NB.refl _ _) hown2 hgrow hat (Nat.le_succ _))
    clear hown2 hgrow hat
    go_wp2_with fail
    go_ret
    rw [← HBX.out]
    exact ⟨v2, rfl, bytesR_low H2.out.1 (Nat.le_succ _), HB2.out.trans (H2.out.2.1.isBelow (bytesR_low HV2.out (Nat.le_succ _)) (Nat.le_of_lt l1))⟩
  · go_wp2_with (at_builtin; refine wpList_append_own_at _ rfl _ _ 28 rfl (bx + 1) 5 i0 (.int .u8 0) 1 1 Tryz.underlying28 HI.out.1 HI.out.2.1 HI.out.2.2.1 HI.out.2.2.2 rfl (by decide) _ _ _ rfl (World.ownsRow.alloc HV2.out _) ⟨w2.heap.size, 0, none⟩ 1 1 [.int .u8 1] rfl rfl ?c1 ?c2 ?c3 ?c4 ?c5 ?_)
    case c1 => exact fun j u hj => news_last hj
    case c2 => intro u hu; simp only [List.mem_cons, List.not_mem_nil, or_false] at hu; subst hu; rfl
    case c3 => decide
    case c4 => decide
    case c5 => simp; omega
    intro v2 w3 hown2 hgrow _ hat
    have H2 := Lib.hid (push1 (bs := [1]) (k := 1) (GK.refl _ w2) (NB.refl _ _) hown2 hgrow hat (Nat.le_succ _))
    clear hown2 hgrow hat
    go_wp2_with fail
    go_ret
    rw [← HBX.out]
    exact ⟨v2, rfl, bytesR_low H2.out.1 (Nat.le_succ _), HB2.out.trans (H2.out.2.1.isBelow (bytesR_low HV2.out (Nat.le_succ _)) (Nat.le_of_lt l1))⟩
end Go.Proofs.YtkpfaeodgjbodaaGreatDoor
