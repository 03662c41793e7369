/-
  Plain words on instructions that may be run: what code.Check and the references' Check tell. Conditions: none.
-/
import Derived.Test.YtnmolgmchoihmaaDoorInstrR
import Derived.Test.YtnmolgmchoihmaaDoorMayP
namespace Go.Proofs.YtnmolgmchoihmaaDoor
open Go Go.RowKit
set_option linter.unusedVariables false
/-- what an instruction takes off, what it leaves, may it be -/
def offOf (x : GI) : Int := if x.op = 3 ∨ x.op = 6 ∨ x.op = 7 ∨ x.op = 8 then 1 else if x.op = 4 then x.arg else if x.op = 5 then takesOf x.arg else 0
def leftOf (x : GI) : Int := if 0 ≤ x.op ∧ x.op ≤ 6 then 1 else 0
def okOf (x : GI) : Bool :=
  if x.op = 0 then vmay x.v && ((x.arg == 0) && (x.s.toList == []))
  else (if x.op = 1 ∨ x.op = 2 ∨ x.op = 3 then nameB x.s.data.toList && (x.arg == 0)
    else (x.s.toList == []) && (if x.op = 4 then decide (0 ≤ x.arg ∧ x.arg ≤ 4096) else if x.op = 5 then takesOf x.arg != 0 else if x.op = 6 then x.arg == 0 else decide (x.op = 7 ∨ x.op = 8))) && same x.v zeroV
theorem okOf_off {x : GI} (h : okOf x = true) : 0 ≤ offOf x ∧ offOf x ≤ 4096 := by
  unfold okOf at h
  unfold offOf
  have := takesOf_cases x.arg
  split
  · omega
  · split
    · rename_i h1 h2
      rw [if_neg (by omega), if_neg (by omega), if_pos h2] at h
      simp at h; omega
    · split <;> omega
def reachB (hs : List Int) (i : Nat) (h : Int) : Bool := (hs.getD i 0 == 0) || (hs.getD i 0 == h + 1)
/-- one instruction of code.Check -/
def stepC (n : Nat) (x : GI) (i : Nat) (hs : List Int) : Bool × List Int :=
  if okOf x = true ∧ offOf x ≤ hs.getD i 0 - 1 ∧ reachB hs (i + 1) (hs.getD i 0 - 1 - offOf x + leftOf x) = true then
    (if x.op = 7 ∨ x.op = 8 then
      (if x.arg ≤ i ∨ (n : Int) < x.arg then (false, hs) else
        (reachB (hs.set (i + 1) (hs.getD i 0 - offOf x + leftOf x)) x.arg.toNat (hs.getD i 0 - 1), (hs.set (i + 1) (hs.getD i 0 - offOf x + leftOf x)).set x.arg.toNat (hs.getD i 0)))
     else (true, hs.set (i + 1) (hs.getD i 0 - offOf x + leftOf x)))
  else (false, hs)
/-- heights: none below 0, none above m -/
def inH (m : Int) (hs : List Int) : Prop := ∀ h ∈ hs, 0 ≤ h ∧ h ≤ m
theorem inH_get {m : Int} {hs : List Int} (h : inH m hs) (hm : 0 ≤ m) (i : Nat) : 0 ≤ hs.getD i 0 ∧ hs.getD i 0 ≤ m := by
  rw [List.getD_eq_getElem?_getD]
  cases e : hs[i]? with
  | none => simp; exact hm
  | some x => exact h x (List.mem_of_getElem? e)
theorem inH_set {m m' : Int} {hs : List Int} (h : inH m hs) (hm : m ≤ m') (i : Nat) (x : Int) (h0 : 0 ≤ x) (h1 : x ≤ m') : inH m' (hs.set i x) := fun y hy => by
  rcases List.mem_or_eq_of_mem_set hy with hy | rfl
  · have := h y hy; omega
  · exact ⟨h0, h1⟩
theorem leftOf_le (x : GI) : 0 ≤ leftOf x ∧ leftOf x ≤ 1 := by unfold leftOf; split <;> omega
theorem stepC_len (n : Nat) (x : GI) (i : Nat) (hs : List Int) : (stepC n x i hs).2.length = hs.length := by
  unfold stepC
  split
  · split
    · split
      · rfl
      · simp
    · simp
  · rfl
theorem stepC_in {m : Int} {n : Nat} {x : GI} {i : Nat} {hs : List Int} (hm : 0 ≤ m) (h : inH m hs) : inH (m + 1) (stepC n x i hs).2 := by
  have hg := inH_get h hm i
  have hl := leftOf_le x
  have hw : inH (m + 1) hs := fun y hy => by have := h y hy; omega
  unfold stepC
  split
  · rename_i hc
    have ho := okOf_off hc.1
    have h1 : inH (m + 1) (hs.set (i + 1) (hs.getD i 0 - offOf x + leftOf x)) := inH_set h (by omega) _ _ (by omega) (by omega)
    split
    · split
      · exact hw
      · exact inH_set h1 (Int.le_refl _) _ _ hg.1 (by omega)
    · exact h1
  · exact hw
/-- one instruction of the references' Check, the heights one more than there -/
def stepR (n : Nat) (x : GI) (i : Nat) (hs : List Int) : Bool × List Int :=
  if okOf x = true ∧ 0 ≤ hs.getD i 0 - 1 ∧ offOf x ≤ hs.getD i 0 - 1 then
    (if x.op = 7 ∨ x.op = 8 then
      (if x.arg ≤ i ∨ (n : Int) < x.arg ∨ (0 ≤ hs.getD x.arg.toNat 0 - 1 ∧ hs.getD x.arg.toNat 0 ≠ hs.getD i 0) then (false, hs) else
        (if 0 ≤ (hs.set x.arg.toNat (hs.getD i 0)).getD (i + 1) 0 - 1 ∧ (hs.set x.arg.toNat (hs.getD i 0)).getD (i + 1) 0 ≠ hs.getD i 0 - 1 then (false, hs) else
          (true, (hs.set x.arg.toNat (hs.getD i 0)).set (i + 1) (hs.getD i 0 - 1))))
     else (if 0 ≤ hs.getD (i + 1) 0 - 1 ∧ hs.getD (i + 1) 0 - 1 ≠ hs.getD i 0 - 1 - offOf x + 1 then (false, hs) else (true, hs.set (i + 1) (hs.getD i 0 - offOf x + 1))))
  else (false, hs)
theorem getD_set (hs : List Int) (i j : Nat) (x : Int) (h : i < hs.length) : (hs.set i x).getD j 0 = if i = j then x else hs.getD j 0 := by
  rw [List.getD_eq_getElem?_getD, List.getD_eq_getElem?_getD, List.getElem?_set]
  split
  · simp_all
  · rfl
theorem okOf_op {x : GI} (h : okOf x = true) : 0 ≤ x.op ∧ x.op ≤ 8 := by
  unfold okOf at h
  split at h
  · omega
  · split at h
    · omega
    · split at h
      · omega
      · split at h
        · omega
        · split at h
          · omega
          · simp at h; omega
theorem stepR_eq {m : Int} {n : Nat} {x : GI} {i : Nat} {hs : List Int} (hm : 0 ≤ m) (h : inH m hs) (hl : hs.length = n + 1) (hi : i < n) :
    (stepR n x i hs).1 = (stepC n x i hs).1 ∧ ((stepC n x i hs).1 = true → (stepR n x i hs).2 = (stepC n x i hs).2) := by
  have hg := inH_get h hm
  have hgi := hg i
  have hgj := hg (i + 1)
  have hga := hg x.arg.toNat
  have gs := getD_set hs
  unfold stepR stepC reachB
  simp only [Bool.or_eq_true, beq_iff_eq]
  cases hok : okOf x
  · simp
  have hoff := okOf_off hok
  have hop := okOf_op hok
  by_cases hj : x.op = 7 ∨ x.op = 8
  · have ho1 : offOf x = 1 := by unfold offOf; rw [if_pos (by omega)]
    have hl0 : leftOf x = 0 := by unfold leftOf; rw [if_neg (by omega)]
    simp only [if_pos hj, ho1, hl0]
    by_cases hb : x.arg ≤ i ∨ (n : Int) < x.arg
    · simp only [if_pos hb]
      have hc : x.arg ≤ i ∨ (n : Int) < x.arg ∨ (0 ≤ hs.getD x.arg.toNat 0 - 1 ∧ hs.getD x.arg.toNat 0 ≠ hs.getD i 0) := by omega
      simp only [if_pos hc]
      simp
    have hai : x.arg.toNat < hs.length := by omega
    simp only [if_neg hb]
    rw [gs _ (i + 1) _ hai, gs (i + 1) _ _ (by omega)]
    by_cases he : x.arg.toNat = i + 1
    · have he' : i + 1 = x.arg.toNat := he.symm
      simp only [if_pos he, if_pos he']
      generalize hs.getD i 0 = A at *
      generalize hs.getD (i + 1) 0 = D at *
      generalize hs.getD x.arg.toNat 0 = C at *
      repeat' split
      all_goals first
        | (refine ⟨?_, fun hh => ?_⟩ <;> first | rfl | (simp at hh; omega) | (symm; simp; omega) | (simp; omega) | (exfalso; simp_all; omega))
        | (exfalso; simp_all; omega)
    · have he' : ¬ i + 1 = x.arg.toNat := fun h => he h.symm
      simp only [if_neg he, if_neg he']
      rw [List.set_comm _ _ he]
      generalize hs.getD i 0 = A at *
      generalize hs.getD (i + 1) 0 = D at *
      generalize hs.getD x.arg.toNat 0 = C at *
      have e1 : A - 1 + 0 = A - 1 := by omega
      simp only [e1]
      repeat' split
      all_goals first
        | (refine ⟨?_, fun hh => ?_⟩ <;> first | rfl | (simp at hh; omega) | (symm; simp; omega) | (simp; omega) | (exfalso; simp_all; omega))
        | (exfalso; simp_all; omega)
  · have hl1 : leftOf x = 1 := by unfold leftOf; rw [if_pos (by omega)]
    simp only [if_neg hj, hl1]
    generalize hs.getD i 0 = A at *
    generalize hs.getD (i + 1) 0 = D at *
    repeat' split
    all_goals first
      | (refine ⟨?_, fun hh => ?_⟩ <;> first | rfl | (simp at hh; omega) | (symm; simp; omega) | (simp; omega) | (exfalso; simp_all; omega))
      | (exfalso; simp_all; omega)
def checkFrom (n : Nat) : List GI → Nat → List Int → Bool
  | [], _, hs => hs.getD n 0 == 2
  | x :: r, i, hs => (stepC n x i hs).1 && checkFrom n r (i + 1) (stepC n x i hs).2
def checkC (l : List GI) : Bool := checkFrom l.length l 0 (1 :: List.replicate l.length 0)
end Go.Proofs.YtnmolgmchoihmaaDoor
