/-
  Of values that may be, the order tells 0 just of the same ones; it tells -1, 0 or 1. Conditions: none.
-/
import Derived.Test.YtaclkegoaajdgaaGreatDoorMG
namespace Go.Proofs.YtaclkegoaajdgaaGreatDoor
open Go Go.RowKit
set_option linter.unusedVariables false
theorem cmpI_bound (a b : Int) : -1 ≤ cmpI a b ∧ cmpI a b ≤ 1 := by
  unfold cmpI
  split
  · omega
  · split <;> omega
theorem cmpT_bound (a b : List UInt8) : -1 ≤ cmpT a b ∧ cmpT a b ≤ 1 := by
  unfold cmpT
  split
  · omega
  · split <;> omega
mutual
theorem ordV_bound : ∀ (x y : GV), -1 ≤ ordV x y ∧ ordV x y ≤ 1
  | ⟨k, b, n, t, l⟩, y => by
    rw [ordV_eq]
    dsimp only
    split
    · exact cmpI_bound _ _
    · split
      · omega
      · split
        · unfold bitI; split <;> split <;> omega
        · split
          · exact cmpI_bound _ _
          · split
            · exact ordL_bound l y.l
            · exact cmpT_bound _ _
theorem ordL_bound : ∀ (l m : List GV), -1 ≤ ordL l m ∧ ordL l m ≤ 1
  | [], [] => by simp [ordL]
  | [], _ :: _ => by simp [ordL]
  | _ :: _, [] => by simp [ordL]
  | x :: r, y :: s => by
    simp only [ordL]
    split
    · exact ordV_bound x y
    · exact ordL_bound r s
end
theorem bit_eq {a b : Bool} (h : bitI a - bitI b = 0) : a = b := by
  cases a <;> cases b <;> simp [bitI] at h ⊢
mutual
theorem ordV_same : ∀ (x y : GV) (d e : Nat), chk x d = true → chk y e = true → ordV x y = 0 → same x y = true
  | ⟨k, b, n, t, l⟩, ⟨k', b', n', t', l'⟩, d, e, hx, hy, h => by
    rw [chk_eq, Bool.and_eq_true] at hx hy
    obtain ⟨hx1, hx2⟩ := hx
    obtain ⟨hy1, hy2⟩ := hy
    dsimp only at hx1 hx2 hy1 hy2
    rw [ordV_eq] at h
    dsimp only at h
    by_cases hk : cmpI k k' = 0
    · rw [if_neg (by omega)] at h
      have hkk := cmpI_zero.1 hk
      subst hkk
      have fx := flat_kind hx1
      have fy := flat_kind hy1
      rw [same_eq]
      dsimp only
      rcases fx with ⟨rfl, x1, x2, x3, x4⟩ | ⟨rfl, x2, x3, x4⟩ | ⟨rfl, x1, x3, x4⟩ | ⟨rfl, x1, x2, x4⟩ | ⟨rfl, x1, x3, x4⟩ | ⟨rfl, x1, x2, x3⟩
      · rcases fy with ⟨_, y1, y2, y3, y4⟩ | ⟨g, _⟩ | ⟨g, _⟩ | ⟨g, _⟩ | ⟨g, _⟩ | ⟨g, _⟩ <;> try omega
        have e1 := List.eq_nil_of_length_eq_zero x4
        have e2 := List.eq_nil_of_length_eq_zero y4
        subst e1 e2
        simp [x1, x2, x3, y1, y2, y3, sameL]
      · rcases fy with ⟨g, _⟩ | ⟨_, y2, y3, y4⟩ | ⟨g, _⟩ | ⟨g, _⟩ | ⟨g, _⟩ | ⟨g, _⟩ <;> try omega
        have e1 := List.eq_nil_of_length_eq_zero x4
        have e2 := List.eq_nil_of_length_eq_zero y4
        have hb : b = b' := bit_eq (by simpa using h)
        subst e1 e2 hb
        simp [x2, x3, y2, y3, sameL]
      · rcases fy with ⟨g, _⟩ | ⟨g, _⟩ | ⟨_, y1, y3, y4⟩ | ⟨g, _⟩ | ⟨g, _⟩ | ⟨g, _⟩ <;> try omega
        have e1 := List.eq_nil_of_length_eq_zero x4
        have e2 := List.eq_nil_of_length_eq_zero y4
        have hn : n = n' := cmpI_zero.1 (by simpa using h)
        subst e1 e2 hn
        simp [x1, x3, y1, y3, sameL]
      · rcases fy with ⟨g, _⟩ | ⟨g, _⟩ | ⟨g, _⟩ | ⟨_, y1, y2, y4⟩ | ⟨g, _⟩ | ⟨g, _⟩ <;> try omega
        have e1 := List.eq_nil_of_length_eq_zero x4
        have e2 := List.eq_nil_of_length_eq_zero y4
        have ht : t.toList = t'.toList := cmpT_zero.1 (by simpa using h)
        subst e1 e2
        simp [x1, x2, y1, y2, ht, sameL]
      · rcases fy with ⟨g, _⟩ | ⟨g, _⟩ | ⟨g, _⟩ | ⟨g, _⟩ | ⟨_, y1, y3, y4⟩ | ⟨g, _⟩ <;> try omega
        have e1 := List.eq_nil_of_length_eq_zero x4
        have e2 := List.eq_nil_of_length_eq_zero y4
        have hn : n = n' := cmpI_zero.1 (by simpa using h)
        subst e1 e2 hn
        simp [x1, x3, y1, y3, sameL]
      · rcases fy with ⟨g, _⟩ | ⟨g, _⟩ | ⟨g, _⟩ | ⟨g, _⟩ | ⟨g, _⟩ | ⟨_, y1, y2, y3⟩ <;> try omega
        have cx : chkL l (d + 1) = true := by simp at hx2; exact hx2.2
        have cy : chkL l' (e + 1) = true := by simp at hy2; exact hy2.2
        have hs := ordL_same l l' (d + 1) (e + 1) cx cy (by simpa using h)
        simp [x1, x2, x3, y1, y2, y3, hs]
    · rw [if_pos hk] at h; exact absurd h hk
theorem ordL_same : ∀ (l m : List GV) (d e : Nat), chkL l d = true → chkL m e = true → ordL l m = 0 → sameL l m = true
  | [], [], _, _, _, _, _ => by simp [sameL]
  | [], _ :: _, _, _, _, _, h => by simp [ordL] at h
  | _ :: _, [], _, _, _, _, h => by simp [ordL] at h
  | x :: r, y :: s, d, e, hx, hy, h => by
    simp only [chkL, Bool.and_eq_true] at hx hy
    simp only [ordL] at h
    by_cases h0 : ordV x y = 0
    · rw [if_neg (by omega)] at h
      simp only [sameL, ordV_same x y d e hx.1 hy.1 h0, ordL_same r s d e hx.2 hy.2 h, Bool.and_self]
    · rw [if_pos h0] at h; exact absurd h h0
end
/-- what the statement asks -/
theorem ord_zero (x y : GV) (hx : vmay x = true) (hy : vmay y = true) : same x y = decide (ordV x y = 0) := by
  by_cases h : ordV x y = 0
  · rw [ordV_same x y 0 0 hx hy h]; simp [h]
  · cases hs : same x y
    · simp [h]
    · exfalso
      have e := (same_iff _ _).1 hs
      subst e
      have := ordV_neg x x
      omega
end Go.Proofs.YtaclkegoaajdgaaGreatDoor
