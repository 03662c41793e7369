/-
  The reference's bytes of any value; its Encode. Conditions: bulk at most 2^24.
-/
import Derived.Test.YtkpfaeodgjbodaaGreatDoorRBytesL
import Derived.Test.YtkpfaeodgjbodaaGreatDoorME
namespace Go.Proofs.YtkpfaeodgjbodaaGreatDoor
open Go Go.RowKit
set_option maxRecDepth 100000
set_option linter.unusedVariables false
theorem rb_all : ∀ (m : Nat) (x : GV), x.size ≤ m → x.fit → x.bulk ≤ 16777216 → RbC x
  | 0, x, h, _, _ => by have := size_l x; omega
  | m + 1, x, h, fx, hb => by
    have hs := size_l x
    have hbl : bulkL x.l ≤ 16777216 := by have := bulk_eq x; omega
    have hlen : (enc x).length ≤ 150994944 := Nat.le_trans (enc_bulk x.size x (Nat.le_refl _)) (Nat.mul_le_mul_left 9 hb)
    have hfo := fit_open fx
    have hmem : ∀ y ∈ x.l, RbC y := fun y hy => rb_all m y (by have := sizeL_mem hy; omega) (fitL_mem hfo.2.2.2.2.2.2 y hy) (Nat.le_trans (bulkL_mem hy) hbl)
    intro s w B hB hi
    obtain ⟨a, c, rfl⟩ := isL_form hi
    rw [enc_eq] at hlen ⊢
    obtain ⟨k, b, n, t, l⟩ := x
    dsimp only at hlen hi hmem hfo ⊢
    simp only [GV.agg]
    by_cases h1 : k = 1
    · subst h1
      exact rb_bool b n t a l.length c w
    by_cases h2 : k = 2
    · subst h2
      exact rb_2 b n ⟨by omega, by omega⟩ t a l.length c w
    by_cases h5 : k = 5
    · subst h5
      exact rb_5 b n ⟨by omega, by omega⟩ t a l.length c w
    by_cases h3 : k = 3
    · subst h3
      exact rb_3 b n t (by omega) a l.length c w
    by_cases h4 : k = 4
    · subst h4
      exact rb_4 b n t l (by omega) (by simp [beN_length] at hlen; omega) hmem a c w B hB hi
    rw [if_neg (by omega), if_neg (by omega), if_neg (by omega), if_neg (by omega)]
    exact rb_flat k b n t a l.length c w h1 h2 h3 h4 h5
end Go.Proofs.YtkpfaeodgjbodaaGreatDoor
