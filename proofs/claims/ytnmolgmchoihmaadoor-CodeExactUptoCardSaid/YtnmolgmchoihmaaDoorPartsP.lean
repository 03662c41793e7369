/-
  Plain words on the references' count of an expression's parts: it is at most the bound just where the expression may be. Conditions: none.
-/
import Derived.Test.YtnmolgmchoihmaaDoorMayP
namespace Go.Proofs.YtnmolgmchoihmaaDoor
open Go Go.RowKit
set_option linter.unusedVariables false
mutual
def partsC : GE → Nat → Nat
  | ⟨op, text, v, args⟩, d => if 30 < d ∨ nodeOk ⟨op, text, v, args⟩ = false then 4097 else partsS args (d + 1) 1
def partsS : List GE → Nat → Nat → Nat
  | [], _, n => n
  | x :: r, d, n => if n ≤ 4096 then partsS r d (n + partsC x d) else n
end
theorem partsC_eq (x : GE) (d : Nat) : partsC x d = if 30 < d ∨ nodeOk x = false then 4097 else partsS x.args (d + 1) 1 := by
  cases x; rw [partsC]
theorem partsS_ge : ∀ (l : List GE) (d n : Nat), n ≤ partsS l d n
  | [], _, _ => Nat.le_refl _
  | x :: r, d, n => by
    rw [partsS]
    split
    · exact Nat.le_trans (Nat.le_add_right _ _) (partsS_ge r d _)
    · exact Nat.le_refl _
theorem partsC_pos (x : GE) (d : Nat) : 1 ≤ partsC x d := by
  rw [partsC_eq]
  split
  · omega
  · exact partsS_ge _ _ _
theorem partsS_shift : ∀ (l : List GE) (d n k : Nat), (partsS l d (n + k) ≤ 4096 ↔ n + partsS l d k ≤ 4096) ∧ (partsS l d (n + k) ≤ 4096 → partsS l d (n + k) = n + partsS l d k)
  | [], d, n, k => by simp [partsS]
  | x :: r, d, n, k => by
    have ih := partsS_shift r d n (k + partsC x d)
    rw [← Nat.add_assoc] at ih
    simp only [partsS]
    by_cases h1 : n + k ≤ 4096
    · rw [if_pos h1, if_pos (by omega)]
      exact ih
    · rw [if_neg h1]
      have := partsS_ge r d (k + partsC x d)
      refine ⟨⟨fun h => absurd h h1, fun h => ?_⟩, fun h => absurd h h1⟩
      split at h <;> omega
mutual
theorem mayC_parts : ∀ (x : GE) (d n : Nat), n ≤ 4096 → ((mayC x d n).1 = true ↔ n + partsC x d ≤ 4096) ∧ ((mayC x d n).1 = true → (mayC x d n).2 = n + partsC x d)
  | ⟨op, text, v, args⟩, d, n, hn => by
    have hp := partsC_pos ⟨op, text, v, args⟩ d
    have ih := fun h => maysC_parts args (d + 1) (n + 1) h
    have sh := partsS_shift args (d + 1) n 1
    rw [mayC]
    by_cases hc : 30 < d ∨ nodeOk ⟨op, text, v, args⟩ = false
    · have e : partsC ⟨op, text, v, args⟩ d = 4097 := by rw [partsC, if_pos hc]
      rw [if_pos (.inr hc), e]
      simp
    · have e : partsC ⟨op, text, v, args⟩ d = partsS args (d + 1) 1 := by rw [partsC, if_neg hc]
      by_cases h1 : 4096 < n + 1
      · rw [if_pos (.inl h1)]
        simp
        omega
      · rw [if_neg (by rintro (h | h) <;> contradiction), e]
        obtain ⟨a, b⟩ := ih (by omega)
        refine ⟨a.trans sh.1, fun h => ?_⟩
        rw [b h, sh.2 (a.1 h)]
theorem maysC_parts : ∀ (l : List GE) (d n : Nat), n ≤ 4096 → ((maysC l d n).1 = true ↔ partsS l d n ≤ 4096) ∧ ((maysC l d n).1 = true → (maysC l d n).2 = partsS l d n)
  | [], d, n, hn => by simp [maysC, partsS, hn]
  | x :: r, d, n, hn => by
    obtain ⟨a, b⟩ := mayC_parts x d n hn
    rw [maysC, partsS, if_pos hn]
    by_cases h : (mayC x d n).1 = true
    · rw [if_pos h, b h]
      exact maysC_parts r d _ (a.1 h)
    · rw [if_neg h]
      have h2 : ¬ n + partsC x d ≤ 4096 := fun h' => h (a.2 h')
      have := partsS_ge r d (n + partsC x d)
      refine ⟨⟨fun h => (by simp at h), fun h => by omega⟩, fun h => (by simp at h)⟩
end
theorem emay_parts (x : GE) : (mayC x 1 0).1 = decide (partsC x 1 ≤ 4096) := by
  have := (mayC_parts x 1 0 (by omega)).1
  rw [Nat.zero_add] at this
  rw [Bool.eq_iff_iff, this]
  simp
mutual
theorem partsC_le : ∀ (x : GE) (d : Nat), d ≤ 31 → partsC x d ≤ 4097 * (32 - d)
  | ⟨op, text, v, args⟩, d, hd => by
    rw [partsC]
    split
    · omega
    · have h30 : d ≤ 30 := by rename_i h; omega
      have := partsS_le args (d + 1) 1 (by omega) (by omega)
      omega
theorem partsS_le : ∀ (l : List GE) (d n : Nat), d ≤ 31 → n ≤ 4096 + 4097 * (32 - d) → partsS l d n ≤ 4096 + 4097 * (32 - d)
  | [], d, n, hd, hn => by simpa [partsS] using hn
  | x :: r, d, n, hd, hn => by
    rw [partsS]
    split
    · exact partsS_le r d _ hd (by have := partsC_le x d hd; omega)
    · exact hn
end
end Go.Proofs.YtnmolgmchoihmaaDoor
