/-
  Heights as a block of ints of the call's own; what the closure of code.Check does to them. Conditions: fewer than 2^31 of them.
-/
import Derived.Test.YtnmolgmchoihmaaDoorCheckP
import Derived.Test.YtnmolgmchoihmaaDoorWriter
import Derived.Laws.MakeOwn
namespace Go.Proofs.YtnmolgmchoihmaaDoor
open Go Go.RowKit
set_option maxRecDepth 100000
set_option linter.unusedVariables false
/-- texts and lists of the instructions fit -/
def fitI (l : List GI) : Prop := ∀ x ∈ l, x.v.fit ∧ x.s.size ≤ 2147483647
def ints (hs : List Int) : Array Value := (hs.map (Value.int .i64)).toArray
def isH (w : World) (g : Nat) (hs : List Int) : Prop := w.heap[g]? = some (.cells (ints hs) 3 (0, 0))
theorem ints_get (hs : List Int) (i : Nat) (h : i < hs.length) : (ints hs)[i]? = some (.int .i64 (hs.getD i 0)) := by
  simp [ints, h]
theorem ints_set (hs : List Int) (i : Nat) (x : Int) : (ints hs).setIfInBounds i (.int .i64 x) = ints (hs.set i x) := by
  simp [ints, List.map_set]
theorem made_ints (n : Nat) : madeCells (Value.int .i64 0).cells (n * 1) = ints (List.replicate n 0) := by
  apply Array.ext
  · simp [madeCells, ints]
  · intro i h1 h2
    simp [madeCells, ints, Value.cells]
    rw [Nat.mod_one]; rfl
theorem hinfo : (Tryd.prog.info? 3).map (fun i => (i.zero, i.size, i.bytes)) = some (some (.int .i64 0), 1, 8) := by kernel_rfl
theorem run_heights (n : Nat) (hn : n ≤ 2147483648) (w : World) : (Instr.makeSlice 65 (.int .i64 (n : Int)) (.int .i64 (n : Int))).run Tryd.prog w = .ok (.slice (some ⟨w.heap.size, 0, none⟩) n n) (w.alloc (.cells (ints (List.replicate n 0)) 3)) := by
  obtain ⟨i0, hi, hz0, hz1, hz2⟩ := info_parts hinfo
  have h := run_make (P := Tryd.prog) w 65 3 i0 (.int .i64 0) Tryd.underlying65 hi hz0 .i64 .i64 n n (by omega) (by omega) (by rw [hz2]; omega) (by omega)
  rw [h, hz1, ← made_ints]
  rfl
set_option maxHeartbeats 1600000 in
theorem reach_any (hs : List Int) (ii : Int) (i : Nat) (hii : ii = (i : Nat)) (h : Int) (hi : i < hs.length) (hl : hs.length ≤ 2147483648) (h0 : -9223372036854775808 ≤ h + 1) (h1 : h + 1 ≤ 9223372036854775807) (c1 g : Nat) (hne : c1 ≠ g) (w : World)
    (hc : w.heap[c1]? = some (.cells #[.slice (some ⟨g, 0, none⟩) hs.length hs.length] 65 (0, 0))) (hg : isH w g hs) :
    Calls Tryd.prog 31 #[.int .i64 ii, .int .i64 h, .pointer (some ⟨c1, 0, none⟩)] w (fun e w' => e = .returned (.bool (reachB hs i h)) ∧ isH w' g (hs.set i (h + 1)) ∧ Kept g (g + 1) w w') := by
  subst hii
  have q1 := fun o => cell_of hc o
  have q2 := fun o => cell_of hg o
  have f2 := fun o => frozen_of hg o
  have hu := ints_get hs i hi
  have HG := Lib.hid hg
  have HI := Lib.hid hi
  clear hc hg
  have HR : Hid (reachB hs i h = ((hs.getD i 0 == 0) || (hs.getD i 0 == h + 1))) := (rfl : reachB hs i h = _)
  generalize hs.getD i 0 = A at *
  cases e0 : (A == 0)
  all_goals
    go_enter Tryd.func31, Tryd.ntmps31
    go_wp2_with fail
    go_ret
    refine ⟨ret_bool (by rw [HR.out, e0]; rfl), ?_, (Kept.refl g (g + 1) w).setIn (Nat.le_refl _) (by omega) _ _⟩
    refine (heap_setCell2 HG.out).trans ?_
    rw [ints_set]
end Go.Proofs.YtnmolgmchoihmaaDoor
