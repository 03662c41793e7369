/-
  Plain words on expressions that may be: what code.May and the references' May tell. Conditions: none.
-/
import Derived.Test.YtnmolgmchoihmaaDoorExpr
import Derived.Test.YtnmolgmchoihmaaDoorChkL
import Derived.Test.YtnmolgmchoihmaaDoorName
namespace Go.Proofs.YtnmolgmchoihmaaDoor
open Go Go.RowKit
set_option linter.unusedVariables false
def zeroV : GV := ⟨0, false, 0, { data := #[] }, []⟩
/-- is the expression fine, but for its arguments -/
def nodeOk (x : GE) : Bool :=
  if x.op = 1 then vmay x.v && (x.text.toList == []) && (x.args.length == 0)
  else same x.v zeroV && (if x.op = 2 ∨ x.op = 3 then nameB x.text.data.toList && (x.args.length == 0)
    else if x.op = 4 then nameB x.text.data.toList && (x.args.length == 1)
    else if x.op = 5 then (x.text.toList == []) && decide (x.args.length ≤ 4096)
    else if x.op = 8 ∨ x.op = 9 then (x.text.toList == []) && (x.args.length == 2)
    else (takesOf x.op != 0) && (x.text.toList == []) && ((x.args.length : Int) == takesOf x.op))
theorem zeroV_fit : zeroV.fit := by simp only [zeroV, GV.fit, fitL]; refine ⟨by omega, by omega, by omega, by omega, ?_, by simp, trivial⟩; decide
mutual
/-- may the expression be, so deep, so many counted; and how many are counted then -/
def mayC : GE → Nat → Nat → Bool × Nat
  | ⟨op, text, v, args⟩, d, n => if 4096 < n + 1 ∨ 30 < d ∨ nodeOk ⟨op, text, v, args⟩ = false then (false, n + 1) else maysC args (d + 1) (n + 1)
def maysC : List GE → Nat → Nat → Bool × Nat
  | [], _, n => (true, n)
  | x :: r, d, n => if (mayC x d n).1 = true then maysC r d (mayC x d n).2 else (false, (mayC x d n).2)
end
theorem mayC_eq (x : GE) (d n : Nat) : mayC x d n = if 4096 < n + 1 ∨ 30 < d ∨ nodeOk x = false then (false, n + 1) else maysC x.args (d + 1) (n + 1) := by
  cases x; rw [mayC]
mutual
theorem mayC_le : ∀ (x : GE) (d n : Nat), (mayC x d n).1 = true → (mayC x d n).2 ≤ 4096
  | ⟨op, text, v, args⟩, d, n, h => by
    rw [mayC] at h ⊢
    split at h
    · cases h
    · rename_i hc
      rw [if_neg hc]
      exact maysC_le args (d + 1) (n + 1) (by omega) h
theorem maysC_le : ∀ (l : List GE) (d n : Nat), n ≤ 4096 → (maysC l d n).1 = true → (maysC l d n).2 ≤ 4096
  | [], d, n, hn, _ => by simpa [maysC] using hn
  | x :: r, d, n, hn, h => by
    rw [maysC] at h ⊢
    split at h
    · rename_i hc
      rw [if_pos hc]
      exact maysC_le r d _ (mayC_le x d n hc) h
    · cases h
end

/-- does the switch name its text; how many arguments it wants; does it let it by -/
def namedOf (op : Int) : Bool := decide (op = 2 ∨ op = 3 ∨ op = 4)
def argcOf (op : Int) (len : Nat) : Int := if op = 1 ∨ op = 2 ∨ op = 3 then 0 else if op = 4 then 1 else if op = 5 then (if (4096 : Int) < len then 4096 else len) else if op = 8 ∨ op = 9 then 2 else takesOf op
def swOk (x : GE) : Bool := if x.op = 1 then vmay x.v else if x.op = 2 ∨ x.op = 3 ∨ x.op = 4 ∨ x.op = 5 ∨ x.op = 8 ∨ x.op = 9 then true else takesOf x.op != 0
theorem nodeOk_sw (x : GE) : nodeOk x = ((decide (x.op = 1) || same x.v zeroV) && (swOk x && !((namedOf x.op && !nameB x.text.data.toList) || ((!namedOf x.op && !(x.text.toList == [])) || ((x.args.length : Int) != argcOf x.op x.args.length))))) := by
  unfold nodeOk swOk namedOf argcOf
  generalize same x.v zeroV = s0
  generalize nameB x.text.data.toList = s1
  generalize (x.text.toList == []) = s2
  generalize vmay x.v = s3
  generalize x.args.length = len
  have ht := takesOf_cases x.op
  generalize hk : takesOf x.op = tk at *
  generalize x.op = op at *
  have h : op = 1 ∨ op = 2 ∨ op = 3 ∨ op = 4 ∨ op = 5 ∨ op = 8 ∨ op = 9 ∨ (op ≠ 1 ∧ op ≠ 2 ∧ op ≠ 3 ∧ op ≠ 4 ∧ op ≠ 5 ∧ op ≠ 8 ∧ op ≠ 9) := by omega
  rw [Bool.eq_iff_iff]
  rcases h with rfl | rfl | rfl | rfl | rfl | rfl | rfl | ⟨h1, h2, h3, h4, h5, h6, h7⟩
  all_goals (cases s0 <;> cases s1 <;> cases s2 <;> cases s3 <;> simp_all)
  all_goals omega
end Go.Proofs.YtnmolgmchoihmaaDoor
