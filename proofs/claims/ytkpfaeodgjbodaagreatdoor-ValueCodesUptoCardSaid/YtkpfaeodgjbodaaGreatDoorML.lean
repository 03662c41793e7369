/-
  What an operation hands back: a value, its lists in memory of their own, and an error's number; the small makers of such answers. Conditions: none.
-/
import Derived.Test.YtkpfaeodgjbodaaGreatDoorMI
namespace Go.Proofs.YtkpfaeodgjbodaaGreatDoor
open Go Go.RowKit
set_option maxRecDepth 100000
set_option linter.unusedVariables false
def numP (n : Int) : GV × Int := (⟨2, false, n, ⟨#[]⟩, []⟩, 0)
def truthP (b : Bool) : GV × Int := (⟨1, b, 0, ⟨#[]⟩, []⟩, 0)
def noP (n : Int) : GV × Int := (⟨0, false, 0, ⟨#[]⟩, []⟩, n)
def GivesO (w : World) (r : GV × Int) (e : Ending) (w' : World) : Prop := ∃ a c, e = .returned (.tuple #[r.1.agg (.slice a r.1.l.length c), .int .i64 r.2]) ∧ isR w' (since w.heap.size w') (.slice a r.1.l.length c) r.1.l ∧ Below w.heap.size w w'
theorem isR_nil (w : World) (S : Nat → Prop) : isR w S (.slice none 0 0) [] := ⟨none, 0, rfl, Nat.le_refl _, fun h => absurd h (by omega), fun h => absurd h (by simp)⟩
theorem gives_flat {w w' : World} {r : GV × Int} {e : Ending} (hl : r.1.l = []) (he : e = .returned (.tuple #[.agg #[.int .i64 r.1.k, .bool r.1.b, .int .i64 r.1.n, .string r.1.t, .slice none 0 0], .int .i64 r.2])) (hb : Below w.heap.size w w') : GivesO w r e w' :=
  ⟨none, 0, by rw [he, GV.agg, hl]; rfl, by rw [hl]; exact isR_nil _ _, hb⟩
/-- three boxes in a row -/
theorem boxes3 (w : World) (a b c : Array Value) (T : TypeId) : ∃ wA, wA = ((w.alloc (.cells a T)).alloc (.cells b T)).alloc (.cells c T) ∧ Below w.heap.size w wA ∧ wA.heap[w.heap.size]? = some (.cells a T (0, 0)) ∧ wA.heap[w.heap.size + 1]? = some (.cells b T (0, 0)) ∧ wA.heap[w.heap.size + 2]? = some (.cells c T (0, 0)) ∧ wA.heap.size = w.heap.size + 3 := by
  refine ⟨_, rfl, (((Below.refl _ _).alloc (Nat.le_refl _) _).alloc (by simp) _).alloc (by simp; omega) _, heap_three, heap_three2, ?_, by simp⟩
  have := @heap_last ((w.alloc (.cells a T)).alloc (.cells b T)) (.cells c T)
  rwa [show ((w.alloc (.cells a T)).alloc (.cells b T)).heap.size = w.heap.size + 2 from by simp] at this
theorem boxes2 (w : World) (a b : Array Value) (T : TypeId) : ∃ wA, wA = (w.alloc (.cells a T)).alloc (.cells b T) ∧ Below w.heap.size w wA ∧ wA.heap[w.heap.size]? = some (.cells a T (0, 0)) ∧ wA.heap[w.heap.size + 1]? = some (.cells b T (0, 0)) ∧ wA.heap.size = w.heap.size + 2 :=
  ⟨_, rfl, ((Below.refl _ _).alloc (Nat.le_refl _) _).alloc (by simp) _, heap_two, heap_second, by simp⟩
theorem below_set5 {B b : Nat} {w w' : World} (h : Below B w w') (hb : B ≤ b) (a0 a1 a2 a3 a4 : Value) : Below B w (((((w'.setCell ⟨b, 0, none⟩ a0).setCell ⟨b, 1, none⟩ a1).setCell ⟨b, 2, none⟩ a2).setCell ⟨b, 3, none⟩ a3).setCell ⟨b, 4, none⟩ a4) :=
  ((((h.setCell (p := ⟨b, 0, none⟩) hb _).setCell (p := ⟨b, 1, none⟩) hb _).setCell (p := ⟨b, 2, none⟩) hb _).setCell (p := ⟨b, 3, none⟩) hb _).setCell (p := ⟨b, 4, none⟩) hb _
theorem truth_v (b : Bool) (w : World) : Calls Tryz.prog 50 #[.bool b] w fun e w' => e = .returned (.tuple #[.agg #[.int .i64 1, .bool b, .int .i64 0, .string { data := #[] }, .slice none 0 0], .int .i64 0]) ∧ Below w.heap.size w w' := by
  go_enter Tryz.func50, Tryz.ntmps50
  go_wp2_with fail
  refine bodyPost_ret (v := .tuple #[.agg #[.int .i64 1, .bool b, .int .i64 0, .string { data := #[] }, .slice none 0 0], .int .i64 0]) (by simp [results, Tryz.results50, go_sem]) rfl ⟨rfl, ?_⟩
  exact (Below.refl _ _).alloc (Nat.le_refl _) _
/-- a function of two values, as an operation has it -/
def DoC (f : Nat) (caps : Array Value) (K : World → Prop) (g : GV → GV → GV × Int) : Prop := ∀ (x y : GV), x.fit → y.fit → ∀ (sx sy : Value) (w : World) (B : Nat), B ≤ w.heap.size → isL w 0 B sx x.l → isL w 0 B sy y.l → K w →
  Calls Tryz.prog f (#[x.agg sx, y.agg sy] ++ caps) w (GivesO w (g x y))
end Go.Proofs.YtkpfaeodgjbodaaGreatDoor
