/-
  Two values in two boxes; small facts of VmApplies. Conditions: none.
-/
import Derived.Test.YtljljhjdlicfeaaNQ
import Derived.Test.YtljljhjdlicfeaaNL
namespace Go.Proofs.Ytljljhjdlicfeaa
open Go Go.RowKit
set_option maxRecDepth 100000
set_option linter.unusedVariables false
theorem num1_fit : (numV 1).fit := by
  simp only [numV, GV.fit, fitL]
  refine ⟨by omega, by omega, by omega, by omega, by decide, by simp, trivial⟩
theorem num1_may : emay (litE (numV 1)) = true := by kernel_rfl
theorem size_fit1 {x : GE} (h : x.fit) : (sizE x).fit := by
  have h0 : noV.fit := by simp only [noV, GV.fit, fitL]; refine ⟨by omega, by omega, by omega, by omega, by decide, by simp, trivial⟩
  simp only [sizE, GE.fit, fitE]
  exact ⟨by omega, by omega, by decide, h0, by simp, h, trivial⟩
/-- behind w0, in p stands x, in q stands y -/
def TwoV (w0 w : World) (p q : Nat) (x : GV) (s : Value) (y : GV) (s' : Value) : Prop := Below w0.heap.size w0 w ∧ w0.heap.size ≤ p ∧ w0.heap.size ≤ q ∧
  w.heap[p]? = some (.cells #[.int .i64 x.k, .bool x.b, .int .i64 x.n, .string x.t, s] 35 (0, 0)) ∧ w.heap[q]? = some (.cells #[.int .i64 y.k, .bool y.b, .int .i64 y.n, .string y.t, s'] 35 (0, 0))
theorem twoV_ab {w0 w : World} {x y : GV} {s s' : Value} (hb : Below w0.heap.size w0 w) : TwoV w0 ((w.alloc (.cells #[.int .i64 x.k, .bool x.b, .int .i64 x.n, .string x.t, s] 35)).alloc (.cells #[.int .i64 y.k, .bool y.b, .int .i64 y.n, .string y.t, s'] 35)) w.heap.size (w.heap.size + 1) x s y s' :=
  ⟨(hb.alloc hb.size _).alloc (Nat.le_trans hb.size (by simp)) _, hb.size, Nat.le_trans hb.size (by omega), heap_two, heap_second⟩
theorem twoV_ba {w0 w : World} {x y : GV} {s s' : Value} (hb : Below w0.heap.size w0 w) : TwoV w0 ((w.alloc (.cells #[.int .i64 y.k, .bool y.b, .int .i64 y.n, .string y.t, s'] 35)).alloc (.cells #[.int .i64 x.k, .bool x.b, .int .i64 x.n, .string x.t, s] 35)) (w.heap.size + 1) w.heap.size x s y s' :=
  ⟨(hb.alloc hb.size _).alloc (Nat.le_trans hb.size (by simp)) _, Nat.le_trans hb.size (by omega), hb.size, heap_second, heap_two⟩
/-- behind w0, in p stands the literal of x, in q that of y -/
def TwoL (w0 w : World) (p q : Nat) (x : GV) (s : Value) (y : GV) (s' : Value) : Prop := Below w0.heap.size w0 w ∧ w0.heap.size ≤ p ∧ w0.heap.size ≤ q ∧
  w.heap[p]? = some (.cells #[.int .i64 1, .string { data := #[] }, .int .i64 x.k, .bool x.b, .int .i64 x.n, .string x.t, s, .slice none 0 0] 40 (0, 0)) ∧ w.heap[q]? = some (.cells #[.int .i64 1, .string { data := #[] }, .int .i64 y.k, .bool y.b, .int .i64 y.n, .string y.t, s', .slice none 0 0] 40 (0, 0))
theorem twoL_ab {w0 w : World} {x y : GV} {s s' : Value} (hb : Below w0.heap.size w0 w) : TwoL w0 ((w.alloc (.cells #[.int .i64 1, .string { data := #[] }, .int .i64 x.k, .bool x.b, .int .i64 x.n, .string x.t, s, .slice none 0 0] 40)).alloc (.cells #[.int .i64 1, .string { data := #[] }, .int .i64 y.k, .bool y.b, .int .i64 y.n, .string y.t, s', .slice none 0 0] 40)) w.heap.size (w.heap.size + 1) x s y s' :=
  ⟨(hb.alloc hb.size _).alloc (Nat.le_trans hb.size (by simp)) _, hb.size, Nat.le_trans hb.size (by omega), heap_two, heap_second⟩
theorem twoL_ba {w0 w : World} {x y : GV} {s s' : Value} (hb : Below w0.heap.size w0 w) : TwoL w0 ((w.alloc (.cells #[.int .i64 1, .string { data := #[] }, .int .i64 y.k, .bool y.b, .int .i64 y.n, .string y.t, s', .slice none 0 0] 40)).alloc (.cells #[.int .i64 1, .string { data := #[] }, .int .i64 x.k, .bool x.b, .int .i64 x.n, .string x.t, s, .slice none 0 0] 40)) (w.heap.size + 1) w.heap.size x s y s' :=
  ⟨(hb.alloc hb.size _).alloc (Nat.le_trans hb.size (by simp)) _, Nat.le_trans hb.size (by omega), hb.size, heap_second, heap_two⟩
end Go.Proofs.Ytljljhjdlicfeaa
