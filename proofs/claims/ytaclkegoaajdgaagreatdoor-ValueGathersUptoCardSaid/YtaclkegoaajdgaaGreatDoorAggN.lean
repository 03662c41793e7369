/-
  value.Aggregate of "sum" over at most 19 values that may be. Conditions: texts and lists shorter than 2^31.
-/
import Derived.Test.YtaclkegoaajdgaaGreatDoorAggC
import Derived.Test.YtaclkegoaajdgaaGreatDoorSort
import Derived.Test.YtaclkegoaajdgaaGreatDoorSumL
import Derived.Test.YtaclkegoaajdgaaGreatDoorApply
namespace Go.Proofs.YtaclkegoaajdgaaGreatDoor
open Go Go.RowKit
set_option maxRecDepth 100000
set_option linter.unusedVariables false
def waysL : List ByteArray := [⟨#[99, 111, 117, 110, 116]⟩, ⟨#[115, 117, 109]⟩, ⟨#[109, 105, 110]⟩, ⟨#[109, 97, 120]⟩, ⟨#[108, 105, 115, 116]⟩]
theorem ways5 (w : World) (T : TypeId) (j : Nat) (hj : j < waysL.length) : (w.alloc (.cells #[.string { data := #[99, 111, 117, 110, 116] }, .string { data := #[115, 117, 109] }, .string { data := #[109, 105, 110] }, .string { data := #[109, 97, 120] }, .string { data := #[108, 105, 115, 116] }] T)).cell? ⟨w.heap.size, 0 + j, none⟩ = some (.string (waysL.getD j ByteArray.empty)) := by
  have hh : (w.alloc (.cells #[.string { data := #[99, 111, 117, 110, 116] }, .string { data := #[115, 117, 109] }, .string { data := #[109, 105, 110] }, .string { data := #[109, 97, 120] }, .string { data := #[108, 105, 115, 116] }] T)).heap[w.heap.size]? = some (.cells #[.string { data := #[99, 111, 117, 110, 116] }, .string { data := #[115, 117, 109] }, .string { data := #[109, 105, 110] }, .string { data := #[109, 97, 120] }, .string { data := #[108, 105, 115, 116] }] T (0, 0)) := heap_last
  have hj' : j < 5 := hj
  rw [cell_of hh]
  match j, hj' with
  | 0, _ => rfl
  | 1, _ => rfl
  | 2, _ => rfl
  | 3, _ => rfl
  | 4, _ => rfl
theorem ways_any (x : ByteArray) (w : World) (T : TypeId) : Calls Tryz.prog 18 #[.slice (some ⟨w.heap.size, 0, none⟩) 5 5, .string x] (w.alloc (.cells #[.string { data := #[99, 111, 117, 110, 116] }, .string { data := #[115, 117, 109] }, .string { data := #[109, 105, 110] }, .string { data := #[109, 97, 120] }, .string { data := #[108, 105, 115, 116] }] T)) fun e w' => e = .returned (.bool (Lib.containsS waysL x)) ∧ w' = w.alloc (.cells #[.string { data := #[99, 111, 117, 110, 116] }, .string { data := #[115, 117, 109] }, .string { data := #[109, 105, 110] }, .string { data := #[109, 97, 120] }, .string { data := #[108, 105, 115, 116] }] T) :=
  Tryz.slices_Contains_string w.heap.size 0 5 5 waysL x _ (by decide) (by omega) (ways5 w T)
theorem aggSum_any (l : List GV) (hl : l.length ≤ 19) (fl : fitL l) (hbad : badL l = false) (s : Value) (w : World) (B : Nat) (hB : B ≤ w.heap.size) (hs : isL w 0 B s l) (hn : ∀ n c, s = .slice none n c → c = 0) : Calls Tryz.prog 6 #[.string { data := #[115, 117, 109] }, s] w (GivesO w (sumP l)) := by
  have HS := Lib.hid hs
  have HF := Lib.hid fl
  have HBAD := Lib.hid hbad
  obtain ⟨a, c, rfl⟩ := isL_form hs
  obtain ⟨P, hP⟩ : ∃ P, P = sumP l := ⟨_, rfl⟩
  have HSUM : Hid (∀ w1, Below w.heap.size w w1 → Calls Tryz.prog 24 #[.slice a l.length c] w1 (GivesO w1 P)) := fun w1 h1 => by rw [hP]; exact sum_any l (by omega) fl _ w1 B (Nat.le_trans hB h1.size) (isL_below HS.out h1 hB)
  have HSRT : Hid (∀ w1, Below w.heap.size w w1 → Calls Tryz.prog 22 #[.slice a l.length c, .func (.func 16) #[] #[]] w1 fun e w' => (∃ v, e = .returned v) ∧ Below w1.heap.size w1 w') := fun w1 h1 => sorted_any l hl fl _ w1 B (Nat.le_trans hB h1.size) (isL_below HS.out h1 hB) hn
  have HBADC : Hid (∀ w1, Below w.heap.size w w1 → Calls Tryz.prog 19 #[.slice a l.length c, .func (.func 20) #[] #[]] w1 fun e w' => e = .returned (.bool false) ∧ Below w1.heap.size w1 w') := fun w1 h1 => by
    have := containsA_any l (by omega) fl _ w1 B (Nat.le_trans hB h1.size) (isL_below HS.out h1 hB)
    rw [hbad] at this
    exact this
  rw [← hP]
  have HP := Lib.hid hP
  clear hs fl hbad hn hP HS HF HBAD
  go_enter Tryz.func6, Tryz.ntmps6
  go_upto_region 1 with fail
  obtain ⟨wA, hwA, hb0, h0, hsz⟩ := zero_boxN w 29
  rw [← hwA]
  have HB0 := Lib.hid hb0
  have HZ := Lib.hid h0
  have s0 : w.heap.size < wA.heap.size := by omega
  have hw5 := ways_any ⟨#[115, 117, 109]⟩ wA 9
  rw [show Lib.containsS waysL ⟨#[115, 117, 109]⟩ = true by decide] at hw5
  have HW5 := Lib.hid hw5
  have hb5 : Below wA.heap.size wA (wA.alloc (.cells #[.string { data := #[99, 111, 117, 110, 116] }, .string { data := #[115, 117, 109] }, .string { data := #[109, 105, 110] }, .string { data := #[109, 97, 120] }, .string { data := #[108, 105, 115, 116] }] 9)) := (Below.refl _ _).alloc (Nat.le_refl _) _
  clear hwA hb0 h0 hsz hw5
  go_wp2_with fail
  refine HW5.out.mono ?_
  rintro e w1 ⟨rfl, rfl⟩
  have HB1 := Lib.hid (HB0.out.trans (hb5.mono (Nat.le_of_lt s0)))
  have HZ1 := Lib.hid ((hb5.block w.heap.size s0).trans HZ.out)
  have s1 := Nat.lt_of_lt_of_le s0 hb5.size
  clear hb5
  go_wp2_with fail
  refine (HBADC.out _ HB1.out).mono ?_
  rintro e w2 ⟨rfl, hb2⟩
  have HB2 := Lib.hid (below_down HB1.out hb2 (Nat.le_refl _))
  have HZ2 := Lib.hid ((hb2.block w.heap.size s1).trans HZ1.out)
  have s2 := Nat.lt_of_lt_of_le s1 hb2.size
  clear hb2
  go_wp2_with fail
  refine (HSRT.out _ HB2.out).mono ?_
  rintro e w3 ⟨⟨v3, rfl⟩, hb3⟩
  have HB3 := Lib.hid (below_down HB2.out hb3 (Nat.le_refl _))
  have HZ3 := Lib.hid ((hb3.block w.heap.size s2).trans HZ2.out)
  have s3 := Nat.lt_of_lt_of_le s2 hb3.size
  clear hb3
  have x1 : (({ data := #[115, 117, 109] } : ByteArray) == { data := #[99, 111, 117, 110, 116] }) = false := by decide
  go_wp2_with fail
  refine (HSUM.out _ HB3.out).mono ?_
  rintro e w4 hgv
  obtain ⟨ar, cr, rfl, hr, hb4⟩ := hgv
  have hz4 := (hb4.block w.heap.size s3).trans HZ3.out
  have HB4 := Lib.hid (below_down HB3.out hb4 (Nat.le_refl _))
  have HR4 := Lib.hid hr
  have q4 := fun o => cell_of hz4 o
  have f4 := fun o => frozen_of hz4 o
  have s4 := Nat.lt_of_lt_of_le s3 hb4.size
  have hle := HB3.out.size
  simp only [GV.agg]
  clear hb4 hz4 hr
  go_wp2_with fail
  refine bodyPost_ret (v := .tuple #[.agg #[.int .i64 P.1.k, .bool P.1.b, .int .i64 P.1.n, .string P.1.t, .slice ar P.1.l.length cr], .int .i64 P.2]) (by simp [results, Tryz.results6, go_sem, q4]) rfl ?_
  exact gives_box HR4.out HB4.out hle (Nat.le_refl _) s3 _ _ _ _ _
end Go.Proofs.YtaclkegoaajdgaaGreatDoor
