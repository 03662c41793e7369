/-
  What value.Text tells of a value, as a list of bytes; how long it is. Conditions: none.
-/
import Derived.Test.YtndnondneelgjaaDoorChkL
import Derived.Test.YtndnondneelgjaaDoorSize
import Derived.Lib.ItoaLen
import Derived.Lib.Join
import Derived.Shelf.Small.Wraps
namespace Go.Proofs.YtndnondneelgjaaDoor
open Go Go.RowKit
set_option linter.unusedVariables false
/-- how a text's byte is quoted -/
def quoteC (c : UInt8) : List UInt8 := if c = 34 ∨ c = 92 then [92, c] else if c = 10 then [92, 110] else if c = 9 then [92, 116] else [c]
def quoteL : List UInt8 → List UInt8
  | [] => []
  | c :: r => quoteC c ++ quoteL r
theorem quoteL_append (a b : List UInt8) : quoteL (a ++ b) = quoteL a ++ quoteL b := by
  induction a with
  | nil => rfl
  | cons x r ih => simp [quoteL, ih]
theorem quoteL_take (l : List UInt8) (k : Nat) (h : k < l.length) : quoteL (l.take (k + 1)) = quoteL (l.take k) ++ quoteC l[k] := by
  rw [List.take_succ_eq_append_getElem h, quoteL_append]
  simp [quoteL]
theorem quoteC_len (c : UInt8) : (quoteC c).length ≤ 2 := by
  unfold quoteC
  split
  · simp
  · split
    · simp
    · split <;> simp
theorem quoteL_len (l : List UInt8) : (quoteL l).length ≤ 2 * l.length := by
  induction l with
  | nil => simp [quoteL]
  | cons x r ih =>
    have := quoteC_len x
    simp only [quoteL, List.length_append, List.length_cons]
    omega
/-- a text in quotes -/
def quoteT (s : ByteArray) : List UInt8 := 34 :: quoteL s.data.toList ++ [34]
theorem quoteT_len (s : ByteArray) : (quoteT s).length ≤ 2 * s.size + 2 := by
  have h := quoteL_len s.data.toList
  have e : s.data.toList.length = s.size := Array.length_toList
  simp only [quoteT, List.length_append, List.length_cons, List.length_nil]
  omega
mutual
/-- the text of a value -/
def vtx : GV → List UInt8
  | ⟨k, b, n, t, l⟩ => if chk ⟨k, b, n, t, l⟩ 0 = true then
      (if k = 1 then Lib.formatBool b else if k = 2 then Lib.itoa n else if k = 3 then quoteT t else if k = 5 then 35 :: Lib.itoa n else if k = 4 then 91 :: Lib.join (vtxL l) [44, 32] ++ [93] else [110, 117, 108, 108]) else []
def vtxL : List GV → List (List UInt8)
  | [] => []
  | x :: r => vtx x :: vtxL r
end
theorem vtx_eq (x : GV) : vtx x = if vmay x = true then
      (if x.k = 1 then Lib.formatBool x.b else if x.k = 2 then Lib.itoa x.n else if x.k = 3 then quoteT x.t else if x.k = 5 then 35 :: Lib.itoa x.n else if x.k = 4 then 91 :: Lib.join (vtxL x.l) [44, 32] ++ [93] else [110, 117, 108, 108]) else [] := by
  cases x; simp only [vtx, vmay]
theorem vtxL_map (l : List GV) : vtxL l = l.map vtx := by
  induction l with
  | nil => rfl
  | cons x r ih => simp [vtxL, ih]
def vtext (x : GV) : ByteArray := ⟨(vtx x).toArray⟩
theorem vtext_size (x : GV) : (vtext x).size = (vtx x).length := by simp [vtext, ByteArray.size]
/-- how long the elements' texts are, with a separator each -/
def lensL : List (List UInt8) → Nat
  | [] => 0
  | x :: r => x.length + 2 + lensL r
theorem join_snoc (xs : List (List UInt8)) (x sep : List UInt8) (h : xs ≠ []) : Lib.join (xs ++ [x]) sep = Lib.join xs sep ++ sep ++ x := by
  cases xs with
  | nil => exact absurd rfl h
  | cons y r =>
    rw [List.cons_append, Lib.join_cons, Lib.join_cons]
    simp [Lib.joinTail, List.append_assoc]
theorem join_len (xs : List (List UInt8)) : (Lib.join xs [44, 32]).length ≤ lensL xs := by
  cases xs with
  | nil => simp [Lib.join_nil]
  | cons y r =>
    have key : ∀ r : List (List UInt8), (Lib.joinTail [44, 32] r).length ≤ lensL r := by
      intro r
      induction r with
      | nil => simp [Lib.joinTail]
      | cons z r ih =>
        have e : Lib.joinTail [44, 32] (z :: r) = [44, 32] ++ z ++ Lib.joinTail [44, 32] r := by simp [Lib.joinTail]
        rw [e]
        simp only [lensL, List.length_append, List.length_cons, List.length_nil]
        omega
    have := key r
    rw [Lib.join_cons]
    simp only [lensL, List.length_append]
    omega
theorem join_take_len (xs : List (List UInt8)) (k : Nat) : (Lib.join (xs.take k) [44, 32]).length ≤ lensL xs := by
  have key : ∀ (xs : List (List UInt8)) (k : Nat), lensL (xs.take k) ≤ lensL xs := by
    intro xs
    induction xs with
    | nil => intro k; simp [lensL]
    | cons x r ih =>
      intro k
      cases k with
      | zero => simp [lensL]
      | succ k => have := ih k; simp only [List.take_succ_cons, lensL]; omega
  exact Nat.le_trans (join_len _) (key _ _)
theorem fit_n {x : GV} (h : x.fit) : -9223372036854775808 ≤ x.n ∧ x.n ≤ 9223372036854775807 := by
  obtain ⟨_, _, a, b, _⟩ := fit_open h
  exact ⟨a, b⟩
theorem vtx_cap (x : GV) (hi : (Lib.itoa x.n).length ≤ 21) (hl : lensL (vtxL x.l) ≤ 24 * bulkL x.l) : (vtx x).length + 2 ≤ 24 * x.bulk := by
  rw [bulk_eq, vtx_eq]
  have hq := quoteT_len x.t
  have hj := join_len (vtxL x.l)
  have hb : (Lib.formatBool x.b).length ≤ 5 := by cases x.b <;> decide
  split
  · split
    · omega
    · split
      · omega
      · split
        · omega
        · split
          · simp only [List.length_cons]; omega
          · split
            · simp only [List.length_cons, List.length_append, List.length_nil]; omega
            · simp only [List.length_cons, List.length_nil]; omega
  · simp only [List.length_nil]; omega
mutual
theorem vtx_len : ∀ (x : GV), x.fit → (vtx x).length + 2 ≤ 24 * x.bulk
  | ⟨k, b, n, t, l⟩, h => by
    obtain ⟨_, _, a1, a2, _, _, hf⟩ := fit_open h
    exact vtx_cap ⟨k, b, n, t, l⟩ (Lib.itoa_length_le n a1 a2) (vtxL_len l hf)
theorem vtxL_len : ∀ (l : List GV), fitL l → lensL (vtxL l) ≤ 24 * bulkL l
  | [], _ => by simp [vtxL, lensL]
  | x :: r, h => by
    have h1 := vtx_len x (fitL_mem h x (by simp))
    have h2 := vtxL_len r (by simp only [fitL] at h; exact h.2)
    simp only [vtxL, lensL, bulkL]
    omega
end
end Go.Proofs.YtndnondneelgjaaDoor
