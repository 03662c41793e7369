/-
  The instructions of an expression, in plain Lean. Conditions: none.
-/
import Derived.Test.YtljljhjdlicfeaaWriter
import Derived.Test.YtljljhjdlicfeaaNB
namespace Go.Proofs.Ytljljhjdlicfeaa
open Go Go.RowKit
set_option linter.unusedVariables false
def gi (op arg : Int) (s : ByteArray) (v : GV) : GI := ⟨op, arg, s, v⟩
def noV : GV := ⟨0, false, 0, ByteArray.empty, []⟩
def jop (op : Int) : Int := if op = 9 then 8 else 7
mutual
def compE : GE → Nat → List GI
  | ⟨op, text, v, args⟩ => fun m =>
    if op = 1 then [gi 0 0 ByteArray.empty v]
    else if op = 2 then [gi 1 0 text noV]
    else if op = 3 then [gi 2 0 text noV]
    else if op = 8 ∨ op = 9 then compTwo args op m
    else compEs args m ++ [if op = 4 then gi 3 0 text noV else if op = 5 then gi 4 args.length ByteArray.empty noV else gi 5 op ByteArray.empty noV]
def compTwo : List GE → Int → Nat → List GI
  | [] => fun _ _ => []
  | x :: r => fun op m =>
    (compE x m ++ [gi 6 0 ByteArray.empty noV]) ++ compLast r op (m + (compE x m).length + 1)
def compLast : List GE → Int → Nat → List GI
  | [] => fun _ _ => []
  | y :: _ => fun op m => gi (jop op) (m + 1 + (compE y (m + 1)).length + 1 : Nat) ByteArray.empty noV :: (compE y (m + 1) ++ [gi 6 0 ByteArray.empty noV])
def compEs : List GE → Nat → List GI
  | [] => fun _ => []
  | x :: r => fun m => compE x m ++ compEs r (m + (compE x m).length)
end
theorem compE_eq (x : GE) (m : Nat) : compE x m = if x.op = 1 then [gi 0 0 ByteArray.empty x.v]
    else if x.op = 2 then [gi 1 0 x.text noV]
    else if x.op = 3 then [gi 2 0 x.text noV]
    else if x.op = 8 ∨ x.op = 9 then compTwo x.args x.op m
    else compEs x.args m ++ [if x.op = 4 then gi 3 0 x.text noV else if x.op = 5 then gi 4 x.args.length ByteArray.empty noV else gi 5 x.op ByteArray.empty noV] := by
  obtain ⟨op, text, v, args⟩ := x
  simp only [compE]
theorem compTwo_eq (x y : GE) (op : Int) (m : Nat) : compTwo [x, y] op m = (compE x m ++ [gi 6 0 ByteArray.empty noV]) ++
    (gi (jop op) (m + (compE x m).length + 1 + 1 + (compE y (m + (compE x m).length + 1 + 1)).length + 1 : Nat) ByteArray.empty noV :: (compE y (m + (compE x m).length + 1 + 1) ++ [gi 6 0 ByteArray.empty noV])) := by
  simp only [compTwo, compLast]
theorem compEs_append : ∀ (l r : List GE) (m : Nat), compEs (l ++ r) m = compEs l m ++ compEs r (m + (compEs l m).length)
  | [], r, m => by simp [compEs]
  | x :: l, r, m => by simp [compEs, compEs_append l r, Nat.add_assoc]
theorem compEs_take_succ (l : List GE) (k m : Nat) (h : k < l.length) : compEs (l.take (k + 1)) m = compEs (l.take k) m ++ compE l[k] (m + (compEs (l.take k) m).length) := by
  rw [List.take_succ_eq_append_getElem h, compEs_append]
  simp [compEs]
mutual
def GE.wf : GE → Prop
  | ⟨op, text, v, args⟩ => ((op = 8 ∨ op = 9) → args.length = 2) ∧ wfE args
def wfE : List GE → Prop
  | [] => True
  | x :: r => x.wf ∧ wfE r
end
theorem wf_open {x : GE} (h : x.wf) : ((x.op = 8 ∨ x.op = 9) → x.args.length = 2) ∧ wfE x.args := by
  obtain ⟨op, text, v, args⟩ := x
  simpa only [GE.wf] using h
theorem wfE_mem : ∀ {l : List GE}, wfE l → ∀ x ∈ l, x.wf
  | [], _, _, hx => by cases hx
  | y :: r, h, x, hx => by
    simp only [wfE] at h
    rcases List.mem_cons.1 hx with e | e
    · subst e; exact h.1
    · exact wfE_mem h.2 x e
mutual
theorem compE_len : ∀ (x : GE) (m : Nat), (compE x m).length ≤ 3 * x.size
  | ⟨op, text, v, args⟩, m => by
    have h1 := compTwo_len args op m
    have h2 := compEs_len args m
    simp only [compE, GE.size]
    split
    · simp; omega
    split
    · simp; omega
    split
    · simp; omega
    split
    · omega
    · simp; omega
theorem compTwo_len : ∀ (l : List GE) (op : Int) (m : Nat), (compTwo l op m).length ≤ 3 * sizeE l + 3
  | [], op, m => by simp [compTwo]
  | x :: r, op, m => by
    have h1 := compE_len x m
    have h2 := compLast_len r op (m + (compE x m).length + 1)
    simp only [compTwo, sizeE, List.length_append, List.length_cons, List.length_nil]
    omega
theorem compLast_len : ∀ (l : List GE) (op : Int) (m : Nat), (compLast l op m).length ≤ 3 * sizeE l + 2
  | [], op, m => by simp [compLast]
  | y :: r, op, m => by
    have h1 := compE_len y (m + 1)
    simp only [compLast, sizeE, List.length_append, List.length_cons, List.length_nil]
    omega
theorem compEs_len : ∀ (l : List GE) (m : Nat), (compEs l m).length ≤ 3 * sizeE l
  | [], m => by simp [compEs]
  | x :: r, m => by
    have h1 := compE_len x m
    have h2 := compEs_len r (m + (compE x m).length)
    simp only [compEs, sizeE, List.length_append]
    omega
end
end Go.Proofs.Ytljljhjdlicfeaa
