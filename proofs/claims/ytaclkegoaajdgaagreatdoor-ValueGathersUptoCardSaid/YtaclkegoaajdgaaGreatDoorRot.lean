/-
  slices.rotateCmpFunc: two parts of a row change places. Conditions: lists and texts shorter than 2^31.
-/
import Derived.Test.YtaclkegoaajdgaaGreatDoorRowS
namespace Go.Proofs.YtaclkegoaajdgaaGreatDoor
open Go Go.RowKit
set_option maxRecDepth 100000
set_option linter.unusedVariables false
def RoI (w wr : World) (g cap B : Nat) (l : List GV) (a m b i j : Nat) : Prop := ∃ l', (∀ k, vat l' (rotI (m - i) m (m + j) k) = vat l (rotI a m b k)) ∧ Mov a b l l' ∧ rowO wr g cap B l' ∧ Kg g w wr
def RoE (w wr : World) (g cap B : Nat) (l : List GV) (a m b : Nat) : Prop := ∃ l', (∀ k, vat l' k = vat l (rotI a m b k)) ∧ Mov a b l l' ∧ rowO wr g cap B l' ∧ Kg g w wr
theorem ro_left {w wr w1 : World} {g cap B : Nat} {l l' : List GV} {a m b i j : Nat} (h1 : ∀ k, vat l' (rotI (m - i) m (m + j) k) = vat l (rotI a m b k)) (h2 : Mov a b l l') (h4 : Kg g w wr) (h5 : SwI wr w1 g cap B l' (m - i) m j j) (hji : j < i) (ha : a + i ≤ m) (hb : m + j ≤ b) : RoI w w1 g cap B l a m b (i - j) j := by
  obtain ⟨l2, e1, e2, e3, e4⟩ := h5
  exact ⟨l2, fun k => by rw [e1, rot_left m i j k hji (by omega), h1], h2.trans (e2.wide (by omega) (by omega)), e3, h4.trans e4⟩
theorem ro_right {w wr w1 : World} {g cap B : Nat} {l l' : List GV} {a m b i j : Nat} (h1 : ∀ k, vat l' (rotI (m - i) m (m + j) k) = vat l (rotI a m b k)) (h2 : Mov a b l l') (h4 : Kg g w wr) (h5 : SwI wr w1 g cap B l' (m - i) (m + j - i) i i) (hij : i < j) (ha : a + i ≤ m) (hb : m + j ≤ b) : RoI w w1 g cap B l a m b i (j - i) := by
  obtain ⟨l2, e1, e2, e3, e4⟩ := h5
  exact ⟨l2, fun k => by rw [e1, rot_right m i j k hij (by omega), h1], h2.trans (e2.wide (by omega) (by omega)), e3, h4.trans e4⟩
theorem ro_even {w wr w1 : World} {g cap B : Nat} {l l' : List GV} {a m b i : Nat} (h1 : ∀ k, vat l' (rotI (m - i) m (m + i) k) = vat l (rotI a m b k)) (h2 : Mov a b l l') (h4 : Kg g w wr) (h5 : SwI wr w1 g cap B l' (m - i) m i i) (ha : a + i ≤ m) (hb : m + i ≤ b) : RoE w w1 g cap B l a m b := by
  obtain ⟨l2, e1, e2, e3, e4⟩ := h5
  exact ⟨l2, fun k => by rw [e1, rot_even m i k (by omega), h1], h2.trans (e2.wide (by omega) (by omega)), e3, h4.trans e4⟩
set_option maxHeartbeats 800000 in
theorem rot_any (l : List GV) (hl : l.length ≤ 2147483647) (a m b g cap B : Nat) (ham : a < m) (hmb : m < b) (hbn : b ≤ l.length) (w : World) (hB : B ≤ g) (hr : rowO w g cap B l) :
    Calls Tryz.prog 117 #[.slice (some ⟨g, 0, none⟩) l.length cap, .int .i64 a, .int .i64 m, .int .i64 b, .func (.func 16) #[] #[]] w fun e w' => e = .returned (.tuple #[]) ∧ RoE w w' g cap B l a m b := by
  obtain ⟨i0, hi0⟩ : ∃ i, i = m - a := ⟨_, rfl⟩
  obtain ⟨j0, hj0⟩ : ∃ j, j = b - m := ⟨_, rfl⟩
  have HR0 : Hid (RoI w w g cap B l a m b i0 j0) := ⟨l, fun k => by rw [show m - i0 = a by omega, show m + j0 = b by omega], Mov.refl _ _ _, hr, Kg.refl g w⟩
  obtain ⟨n, hn⟩ : ∃ n, n = l.length := ⟨_, rfl⟩
  rw [← hn] at hl hbn ⊢
  have HN := Lib.hid hn
  have HSW : Hid (∀ (l' : List GV) (x y z : Nat) (w' : World), l'.length = n → x + z ≤ y → y + z ≤ n → rowO w' g cap B l' → Calls Tryz.prog 120 #[.slice (some ⟨g, 0, none⟩) n cap, .int .i64 x, .int .i64 y, .int .i64 z, .func (.func 16) #[] #[]] w' fun e w2 => e = .returned (.tuple #[]) ∧ SwI w' w2 g cap B l' x y z z) := fun l' x y z w' e h1 h2 h3 => by
    subst e
    exact swr_any l' hl x y z g cap B h1 h2 w' hB h3
  have e1 : (m : Int) - (a : Int) = (i0 : Int) := by omega
  have e2 : (b : Int) - (m : Int) = (j0 : Int) := by omega
  have e3 : IntKind.i64.wrap (i0 : Int) = (i0 : Int) := IntWalk.i64_in _ (by omega)
  have e4 : IntKind.i64.wrap (j0 : Int) = (j0 : Int) := IntWalk.i64_in _ (by omega)
  have HI := Lib.hid (show 0 < i0 ∧ 0 < j0 ∧ a + i0 ≤ m ∧ m + j0 ≤ b by omega)
  have HBN := Lib.hid (show b ≤ n ∧ n ≤ 2147483647 from ⟨hbn, hl⟩)
  clear hr hn hi0 hj0 ham hmb hbn hl
  go_enter Tryz.func117, Tryz.ntmps117
  go_wp2_with fail
  clear e1 e2 e3 e4
  go_loopw [10, 11] (fun x y wr => ∃ i j : Nat, x = .int .i64 i ∧ y = .int .i64 j ∧ Hid (0 < i ∧ 0 < j ∧ a + i ≤ m ∧ m + j ≤ b) ∧ Hid (RoI w wr g cap B l a m b i j)) (fun x y _ => (intOf x).toNat + (intOf y).toNat)
  case atStart => exact ⟨i0, j0, rfl, rfl, HI, HR0⟩
  case round =>
    obtain ⟨i, j, rfl, rfl, HIJ, HR⟩ := hrel
    obtain ⟨l', r1, r2, r3, r4⟩ := HR.out
    have HL' := Lib.hid (show l'.length = n from r2.1.trans HN.out.symm)
    have R1 := Lib.hid r1
    have R2 := Lib.hid r2
    have R3 := Lib.hid r3
    have R4 := Lib.hid r4
    obtain ⟨p, hp⟩ : ∃ p, p = m - i := ⟨_, rfl⟩
    have f1 : (m : Int) - (i : Int) = (p : Int) := by have := HIJ.out; omega
    have f2 : IntKind.i64.wrap (p : Int) = (p : Int) := IntWalk.i64_in _ (by have := HIJ.out; have := HBN.out; omega)
    have HP := Lib.hid hp
    clear r1 r2 r3 r4 hp HR
    by_cases hij : i = j
    · subst hij
      go_wp2_with fail
      refine (HSW.out l' p m i _ HL'.out (by have := HIJ.out; have := HP.out; omega) (by have := HIJ.out; have := HBN.out; omega) R3.out).mono ?_
      rintro e w1 ⟨rfl, hw1⟩
      have HW1 := Lib.hid hw1
      clear hw1
      go_wp2_with fail
      go_end0
      exact ⟨rfl, ro_even R1.out R2.out R4.out (HP.out ▸ HW1.out) HIJ.out.2.2.1 HIJ.out.2.2.2⟩
    · by_cases hlt : j < i
      · obtain ⟨d, hd⟩ : ∃ d, d = i - j := ⟨_, rfl⟩
        have f3 : (i : Int) - (j : Int) = (d : Int) := by omega
        have f4 : IntKind.i64.wrap (d : Int) = (d : Int) := IntWalk.i64_in _ (by have := HIJ.out; have := HBN.out; omega)
        have HD := Lib.hid hd
        clear hd
        go_wp2_with fail
        refine (HSW.out l' p m j _ HL'.out (by have := HIJ.out; have := HP.out; omega) (by have := HIJ.out; have := HBN.out; omega) R3.out).mono ?_
        rintro e w1 ⟨rfl, hw1⟩
        have HW1 := Lib.hid hw1
        clear hw1
        go_wp2_with fail
        go_roundw
        case rel =>
          have h := HIJ.out
          have hd := HD.out
          refine ⟨d, j, rfl, rfl, ⟨by omega, by omega, by omega, by omega⟩, ?_⟩
          rw [hd]
          exact ro_left R1.out R2.out R4.out (HP.out ▸ HW1.out) hlt h.2.2.1 h.2.2.2
        case measure => have h := HIJ.out; have hd := HD.out; simp [intOf]; omega
      · obtain ⟨d, hd⟩ : ∃ d, d = j - i := ⟨_, rfl⟩
        obtain ⟨s, hs⟩ : ∃ s, s = m + j := ⟨_, rfl⟩
        obtain ⟨q, hq⟩ : ∃ q, q = m + j - i := ⟨_, rfl⟩
        have f3 : (j : Int) - (i : Int) = (d : Int) := by omega
        have f4 : IntKind.i64.wrap (d : Int) = (d : Int) := IntWalk.i64_in _ (by have := HIJ.out; have := HBN.out; omega)
        have f5 : (m : Int) + (j : Int) = (s : Int) := by omega
        have f6 : IntKind.i64.wrap (s : Int) = (s : Int) := IntWalk.i64_in _ (by have := HIJ.out; have := HBN.out; omega)
        have f7 : (s : Int) - (i : Int) = (q : Int) := by have := HIJ.out; omega
        have f8 : IntKind.i64.wrap (q : Int) = (q : Int) := IntWalk.i64_in _ (by have := HIJ.out; have := HBN.out; omega)
        have HD := Lib.hid hd
        have HQ := Lib.hid hq
        clear hd hs hq
        go_wp2_with fail
        refine (HSW.out l' p q i _ HL'.out (by have := HIJ.out; have := HP.out; have := HQ.out; omega) (by have := HIJ.out; have := HBN.out; have := HQ.out; omega) R3.out).mono ?_
        rintro e w1 ⟨rfl, hw1⟩
        have HW1 := Lib.hid hw1
        clear hw1
        go_wp2_with fail
        go_roundw
        case rel =>
          have h := HIJ.out
          have hd := HD.out
          refine ⟨i, d, rfl, rfl, ⟨by omega, by omega, by omega, by omega⟩, ?_⟩
          rw [hd]
          exact ro_right R1.out R2.out R4.out (by rw [← HP.out, ← HQ.out]; exact HW1.out) (by omega) h.2.2.1 h.2.2.2
        case measure => have h := HIJ.out; have hd := HD.out; simp [intOf]; omega
end Go.Proofs.YtaclkegoaajdgaaGreatDoor
