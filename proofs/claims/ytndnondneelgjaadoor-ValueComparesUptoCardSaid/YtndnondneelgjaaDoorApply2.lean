/-
  What value.Apply tells of 2 + 3; proctorlaw1's wakes. Conditions: the table of the digits lies.
-/
import Derived.Test.YtndnondneelgjaaDoorEnc
import Derived.Test.YtndnondneelgjaaDoorContains
import Derived.Test.YtndnondneelgjaaDoorOrder
import Derived.Test.YtndnondneelgjaaDoorVText
import Derived.StillTailTactics
namespace Go.Proofs.YtndnondneelgjaaDoor
open Go Go.RowKit
set_option maxRecDepth 100000
set_option linter.unusedVariables false
theorem lookup_run (w : World) (b : Nat) (es : Array MapEntry) (clock : Nat) (hh : w.heap[b]? = some (.map es clock)) (n : Int) (i : Nat) (v : Value) (hf : Instr.findNow (.int .i64) (.int .i64 n) es.toList 0 = some (some (i, v))) :
    (Instr.lookup 63 (.map (some b)) (.int .i64 n) true).run Tryd.prog w = .ok (.tuple #[v, .bool true]) w := by
  have hc : ∀ e, (Instr.checkKey e 10000 3 (.int .i64 n)).run Tryd.prog w = .ok () w := fun e => MapKept.run_checkKey (k := .int .i64 n) Tryd.underlying3 (by simp [MapKept.IsKey]) e 9999
  simp [Instr.lookup, run_underlying Tryd.underlying63, MapKept.run_getObj_map hh, hc, MapKept.run_findKey Tryd.underlying3 hf, Result.andThen]
set_option maxHeartbeats 1600000 in
theorem apply23 (g : Nat) (w : World) (hg : w.heap[g]? = some (.cells #[.int .i64 2, .bool false, .int .i64 2, .string { data := #[] }, .slice none 0 0, .int .i64 2, .bool false, .int .i64 3, .string { data := #[] }, .slice none 0 0] 28 (0, 0))) :
    Calls Tryd.prog 19 #[.int .i64 16, .slice (some ⟨g, 0, none⟩) 2 2] w fun e w' => e = .returned (.tuple #[numA 5, .int .i64 0]) ∧ Below w.heap.size w w' := by
  have hlt : g < w.heap.size := (Array.getElem?_eq_some_iff.1 hg).1
  have HG := Lib.hid hg
  have hsl : isL w 0 (g + 1) (.slice (some ⟨g, 0, none⟩) 2 2) [numG 2, numG 3] := by
    have q := fun o => cell_of hg o
    refine isL_mk (l := [numG 2, numG 3]) (cap := 2) (b := g) (off := 0) (by simp) (fun _ => ⟨rfl, Nat.zero_le _, by omega⟩) ?_
    intro i hi
    have hi' : i = 0 ∨ i = 1 := by simp at hi; omega
    rcases hi' with rfl | rfl
    · exact cellsV_mk (s := .slice none 0 0) ((q _).trans rfl) ((q _).trans rfl) ((q _).trans rfl) ((q _).trans rfl) ((q _).trans rfl) (isL_nil _ _)
    · exact cellsV_mk (s := .slice none 0 0) ((q _).trans rfl) ((q _).trans rfl) ((q _).trans rfl) ((q _).trans rfl) ((q _).trans rfl) (isL_nil _ _)
  have HSL := Lib.hid hsl
  have hbad : badL [numG 2, numG 3] = false := by simp [badL, numG_may]
  have HBAD := Lib.hid hbad
  clear hg hsl hbad
  go_enter Tryd.func19, Tryd.ntmps19
  go_wp2_with fail
  obtain ⟨w0, hw0⟩ : ∃ w0, w0 = w.alloc (.cells #[.int .i64 0, .bool false, .int .i64 0, .string { data := #[] }, .slice none 0 0] 28) := ⟨_, rfl⟩
  have hb0 : Below w.heap.size w w0 := by rw [hw0]; exact (Below.refl _ _).alloc (Nat.le_refl _) _
  have hz0 : w0.heap[w.heap.size]? = some (.cells #[.int .i64 0, .bool false, .int .i64 0, .string { data := #[] }, .slice none 0 0] 28 (0, 0)) := by rw [hw0]; exact heap_last
  have hs0 : w0.heap.size = w.heap.size + 1 := by rw [hw0]; simp
  rw [← hw0]
  have HB0 := Lib.hid hb0
  have HZ0 := Lib.hid hz0
  clear hw0 hb0 hz0
  refine (operations_any w0).mono ?_
  rintro e w1 ⟨rfl, S⟩
  have hlk := lookup_run w1 w0.heap.size _ _ S.map 16 8 (.agg #[.int .i64 2, fn0 70]) rfl
  have HB1 := Lib.hid (below_down HB0.out S.below (Nat.le_refl _))
  have HZ1 := Lib.hid ((S.below.block w.heap.size (by omega)).trans HZ0.out)
  have hs1 := S.size
  unfold fn0 at hlk
  rw [hs0] at hlk
  clear S
  go_wp2_with fail
  obtain ⟨w2, hw2⟩ : ∃ w2, w2 = w1.alloc (.cells #[.int .i64 2, .func (.func 70) #[] #[]] 61) := ⟨_, rfl⟩
  have hb2 : Below w1.heap.size w1 w2 := by rw [hw2]; exact (Below.refl _ _).alloc (Nat.le_refl _) _
  have ho2 : w2.heap[w.heap.size + 1 + 23]? = some (.cells #[.int .i64 2, .func (.func 70) #[] #[]] 61 (0, 0)) := by
    rw [hw2, ← hs0, ← hs1]; exact heap_last
  have hs2 : w2.heap.size = w.heap.size + 1 + 23 + 1 := by rw [hw2]; simp; omega
  rw [← hw2]
  have HB2 := Lib.hid (below_down HB1.out hb2 (Nat.le_refl _))
  have HZ2 := Lib.hid ((hb2.block w.heap.size (by omega)).trans HZ1.out)
  have HO2 := Lib.hid ho2
  clear hw2 hb2 ho2 hlk
  refine (contains_any [numG 2, numG 3] (by simp) ⟨numG_fit 2 (by omega) (by omega), numG_fit 3 (by omega) (by omega), trivial⟩ (.slice (some ⟨g, 0, none⟩) 2 2) w2 (g + 1) (by omega) (isL_below HSL.out HB2.out (by omega))).mono ?_
  rintro e w3 ⟨rfl, hb3⟩
  rw [HBAD.out]
  have HB3 := Lib.hid (below_down HB2.out hb3 (Nat.le_refl _))
  have HZ3 := Lib.hid ((hb3.block w.heap.size (by omega)).trans HZ2.out)
  have ho3 := (hb3.block (w.heap.size + 1 + 23) (by omega)).trans HO2.out
  have hg3 := (HB3.out.block g hlt).trans HG.out
  have hs3 := hb3.size
  have qo := fun o => cell_of ho3 o
  have qg := fun o => cell_of hg3 o
  have z1 : g < w3.heap.size := by omega
  have z2 : w.heap.size + 1 + 23 < w3.heap.size := by omega
  clear hb3 ho3 hg3 hs0 hs1 hs2
  have hw1 : IntKind.i64.wrap 1 = 1 := by decide
  go_wp2_with fail
  go_region_law (first
    | (go_simp
       go_at_call 70
       refine (plus23 _).mono ?_
       rintro e w5 ⟨rfl, hb5⟩
       have hb5' : Below w3.heap.size w3 w5 := (Below.refl w3.heap.size w3).drew.trans hb5
       have hz5 := (hb5'.block w.heap.size (by omega)).trans HZ3.out
       have HB5 := Lib.hid (below_down HB3.out hb5' (Nat.le_refl _))
       have q5 := fun o => cell_of hz5 o
       have f5 := fun o => frozen_of hz5 o
       have hs5 : w.heap.size < w5.heap.size := by have := hb5'.size; omega
       unfold numA
       clear hb5 hb5' hz5))
  all_goals
    go_wp2_with fail
    refine bodyPost_ret (v := .tuple #[.agg #[.int .i64 2, .bool false, .int .i64 5, .string { data := #[] }, .slice none 0 0], .int .i64 0]) (by simp [results, Tryd.results19, go_sem, q5]) rfl ⟨rfl, ?_⟩
    refine ((((HB5.out.setCell ?_ _).setCell ?_ _).setCell ?_ _).setCell ?_ _).setCell ?_ _
    all_goals simp
end Go.Proofs.YtndnondneelgjaaDoor
