/-
  Answers of Apply under letters; boxes that hold values; two values in a block, one in a block. Conditions: none.
-/
import Derived.Test.YtndnondneelgjaaDoorApplyR
namespace Go.Proofs.YtndnondneelgjaaDoor
open Go Go.RowKit
set_option maxRecDepth 100000
set_option linter.unusedVariables false
theorem gives_let {w w' : World} {r : GV × Int} {e : Ending} (h : GivesO w r e w') : ∃ (k n er : Int) (b : Bool) (t : ByteArray) (a : Option Addr) (m c : Nat), e = .returned (.tuple #[.agg #[.int .i64 k, .bool b, .int .i64 n, .string t, .slice a m c], .int .i64 er]) ∧ Hid (b = r.1.b) ∧ Hid (er = r.2) ∧ Hid (Below w.heap.size w w') := by
  obtain ⟨a, c, he, hr, hb⟩ := h
  exact ⟨r.1.k, r.1.n, r.2, r.1.b, r.1.t, a, r.1.l.length, c, he, rfl, rfl, hb⟩
/-- a box that holds a value: its bit -/
def bitB (w : World) (b : Nat) (v : Bool) : Prop := b < w.heap.size ∧ w.cell? ⟨b, 1, none⟩ = some (.bool v)
theorem bitB_below {w w' : World} {b : Nat} {v : Bool} (h : bitB w b v) (hb : Below w.heap.size w w') : bitB w' b v := ⟨Nat.lt_of_lt_of_le h.1 hb.size, (hb.cell (p := ⟨b, 1, none⟩) h.1).trans h.2⟩
theorem bitB_alloc {w : World} {k n : Int} {b : Bool} {t : ByteArray} {s : Value} {T : TypeId} : bitB (w.alloc (.cells #[.int .i64 k, .bool b, .int .i64 n, .string t, s] T)) w.heap.size b :=
  ⟨by simp, (cell_of (heap_last (w := w)) 1).trans rfl⟩
theorem below_box {w w1 : World} (h : Below w.heap.size w w1) (o : Obj) : Below w.heap.size w (w1.alloc o) := h.alloc h.size _
def twoC (x y : GV) (ax ay : Option Addr) (cx cy : Nat) : Array Value := #[.int .i64 x.k, .bool x.b, .int .i64 x.n, .string x.t, .slice ax x.l.length cx, .int .i64 y.k, .bool y.b, .int .i64 y.n, .string y.t, .slice ay y.l.length cy]
theorem isL_two {w : World} {B g : Nat} {x y : GV} {ax ay : Option Addr} {cx cy : Nat} {T : TypeId} (hB : B ≤ g + 1) (h : w.heap[g]? = some (.cells (twoC x y ax ay cx cy) T (0, 0))) (hx : isL w 0 B (.slice ax x.l.length cx) x.l) (hy : isL w 0 B (.slice ay y.l.length cy) y.l) :
    isL w 0 (g + 1) (.slice (some ⟨g, 0, none⟩) 2 2) [x, y] := by
  have q := fun o => cell_of h o
  refine isL_mk (l := [x, y]) (cap := 2) (b := g) (off := 0) (by simp) (fun _ => ⟨rfl, Nat.zero_le _, by omega⟩) ?_
  intro i hi
  have hi' : i = 0 ∨ i = 1 := by simp at hi; omega
  rcases hi' with rfl | rfl
  · exact cellsV_mk (s := .slice ax x.l.length cx) ((q _).trans rfl) ((q _).trans rfl) ((q _).trans rfl) ((q _).trans rfl) ((q _).trans rfl) (isL_wide hx (Nat.le_refl _) hB)
  · exact cellsV_mk (s := .slice ay y.l.length cy) ((q _).trans rfl) ((q _).trans rfl) ((q _).trans rfl) ((q _).trans rfl) ((q _).trans rfl) (isL_wide hy (Nat.le_refl _) hB)
theorem bad2 (x y : GV) : badL [x, y] = (!vmay x || !vmay y) := by simp [badL]
theorem app2 {x y : GV} (hx : vmay x = true) (hy : vmay y = true) (g : GV → GV → GV × Int) : appP 2 g [x, y] = g x y := by
  unfold appP
  rw [if_pos ⟨rfl, by rw [bad2, hx, hy]; rfl⟩]; rfl
theorem app2_no {x y : GV} (h : (!vmay x || !vmay y) = true) (g : GV → GV → GV × Int) : appP 2 g [x, y] = noP 1 := by
  unfold appP
  rw [if_neg]
  rw [bad2, h]; simp
theorem alloc_drew_lt {w : World} {o : Obj} : w.heap.size < (w.alloc o).drew.heap.size := by
  show w.heap.size < (w.alloc o).heap.size
  simp
theorem isL_one {w : World} {g hi : Nat} {T : TypeId} {x : GV} {a : Option Addr} {c : Nat} (h : w.heap[g]? = some (.cells #[.int .i64 x.k, .bool x.b, .int .i64 x.n, .string x.t, .slice a x.l.length c] T (0, 0))) (hg : g < hi) (hs : isL w 0 hi (.slice a x.l.length c) x.l) :
    isL w 0 hi (.slice (some ⟨g, 0, none⟩) 1 1) [x] := by
  have q := fun o => cell_of h o
  refine isL_mk (l := [x]) (cap := 1) (b := g) (off := 0) (by simp) (fun _ => ⟨rfl, Nat.zero_le _, hg⟩) ?_
  intro i hi'
  obtain rfl : i = 0 := by simp at hi'; omega
  exact cellsV_mk (s := .slice a x.l.length c) ((q _).trans rfl) ((q _).trans rfl) ((q _).trans rfl) ((q _).trans rfl) ((q _).trans rfl) hs
theorem app1 {x : GV} (hx : vmay x = true) (g : GV → GV → GV × Int) : appP 1 g [x] = g x x := by
  unfold appP
  rw [if_pos ⟨rfl, by simp [badL, hx]⟩]; rfl
end Go.Proofs.YtndnondneelgjaaDoor
