/-
  value.Aggregate of every name, at every length: the answer in plain words. Conditions: texts and lists shorter than 2^31.
-/
import Derived.Test.YtaclkegoaajdgaaGreatDoorSorted
namespace Go.Proofs.YtaclkegoaajdgaaGreatDoor
open Go Go.RowKit
set_option maxRecDepth 100000
set_option linter.unusedVariables false
def minP (m : List GV) : GV × Int := if m.length = 0 then noP 0 else (vat m 0, 0)
def maxP (m : List GV) : GV × Int := if m.length = 0 then noP 0 else (vat m (m.length - 1), 0)
/-- what Aggregate tells -/
def aggP (x : ByteArray) (l : List GV) : GV × Int :=
  if Lib.containsS waysL x = false ∨ badL l = true then noP 1
  else if x = ⟨#[99, 111, 117, 110, 116]⟩ then numP l.length
  else if x = ⟨#[115, 117, 109]⟩ then sumP l
  else if x = ⟨#[108, 105, 115, 116]⟩ then listP (sortG l)
  else if x = ⟨#[109, 105, 110]⟩ then minP (sortG l)
  else maxP (sortG l)
theorem badL_may {l : List GV} (h : badL l = false) : ∀ x ∈ l, vmay x = true := fun x hx => by
  cases hv : vmay x with
  | true => rfl
  | false =>
    have : badL l = true := List.any_eq_true.2 ⟨x, hx, by rw [hv]; rfl⟩
    rw [h] at this; cases this
theorem sortG_len (l : List GV) : (sortG l).length = l.length := (sortG_perm l).length_eq
theorem sortG_fit {l : List GV} (fl : fitL l) : fitL (sortG l) := fitL_every fun x hx => fitL_mem fl x ((sortG_perm l).subset hx)
set_option maxHeartbeats 800000 in
theorem aggName_any (l : List GV) (hl : l.length ≤ 2147483647) (fl : fitL l) (x : ByteArray) (hx : Lib.containsS waysL x = false) (s : Value) (w : World) (B : Nat) (hB : B ≤ w.heap.size) (hs : isL w 0 B s l) (hn : ∀ n c, s = .slice none n c → c = 0) : Calls Tryz.prog 6 #[.string x, s] w (GivesO w (noP 1)) := by
  obtain ⟨a, c, rfl⟩ := isL_form hs
  have HX := Lib.hid hx
  clear hs fl hn hx
  go_enter Tryz.func6, Tryz.ntmps6
  go_upto_region 1 with fail
  obtain ⟨wA, hwA, hb0, h0, hsz⟩ := zero_boxN w 29
  rw [← hwA]
  have HB0 := Lib.hid hb0
  have HZ := Lib.hid h0
  have s0 : w.heap.size < wA.heap.size := by omega
  have hw5 := ways_any x wA 9
  rw [HX.out] at hw5
  have HW5 := Lib.hid hw5
  have hb5 : Below wA.heap.size wA (wA.alloc (.cells #[.string { data := #[99, 111, 117, 110, 116] }, .string { data := #[115, 117, 109] }, .string { data := #[109, 105, 110] }, .string { data := #[109, 97, 120] }, .string { data := #[108, 105, 115, 116] }] 9)) := (Below.refl _ _).alloc (Nat.le_refl _) _
  clear hwA hb0 h0 hsz hw5
  go_wp2_with fail
  refine HW5.out.mono ?_
  rintro e w1 ⟨rfl, rfl⟩
  have HB1 := Lib.hid (HB0.out.trans (hb5.mono (Nat.le_of_lt s0)))
  have HZ1 := Lib.hid ((hb5.block w.heap.size s0).trans HZ.out)
  have s1 := Nat.lt_of_lt_of_le s0 hb5.size
  clear hb5
  go_wp2_with fail
  refine (no_v 1 _).mono ?_
  rintro e w2 ⟨rfl, hb2⟩
  have HB2 := Lib.hid (below_down HB1.out hb2 (Nat.le_refl _))
  have hz2 := (hb2.block w.heap.size s1).trans HZ1.out
  have q2 := fun o => cell_of hz2 o
  have f2 := fun o => frozen_of hz2 o
  have s2 := Nat.lt_of_lt_of_le s1 hb2.size
  clear hb2 hz2
  go_wp2_with fail
  refine bodyPost_ret (v := .tuple #[.agg #[.int .i64 0, .bool false, .int .i64 0, .string { data := #[] }, .slice none 0 0], .int .i64 1]) (by simp [results, Tryz.results6, go_sem, q2]) rfl ?_
  exact gives_flat (r := noP 1) rfl rfl (below_set5 HB2.out (Nat.le_refl _) _ _ _ _ _)
set_option maxHeartbeats 800000 in
theorem aggBad_any (l : List GV) (hl : l.length ≤ 2147483647) (fl : fitL l) (x : ByteArray) (hx : Lib.containsS waysL x = true) (hbad : badL l = true) (s : Value) (w : World) (B : Nat) (hB : B ≤ w.heap.size) (hs : isL w 0 B s l) (hn : ∀ n c, s = .slice none n c → c = 0) : Calls Tryz.prog 6 #[.string x, s] w (GivesO w (noP 1)) := by
  have HS := Lib.hid hs
  obtain ⟨a, c, rfl⟩ := isL_form hs
  have HBADC : Hid (∀ w1, Below w.heap.size w w1 → Calls Tryz.prog 19 #[.slice a l.length c, .func (.func 20) #[] #[]] w1 fun e w' => e = .returned (.bool true) ∧ Below w1.heap.size w1 w') := fun w1 h1 => by
    have := containsA_any l (by omega) fl _ w1 B (Nat.le_trans hB h1.size) (isL_below HS.out h1 hB)
    rw [hbad] at this
    exact this
  have HX := Lib.hid hx
  clear hs fl hn hx hbad HS
  go_enter Tryz.func6, Tryz.ntmps6
  go_upto_region 1 with fail
  obtain ⟨wA, hwA, hb0, h0, hsz⟩ := zero_boxN w 29
  rw [← hwA]
  have HB0 := Lib.hid hb0
  have HZ := Lib.hid h0
  have s0 : w.heap.size < wA.heap.size := by omega
  have hw5 := ways_any x wA 9
  rw [HX.out] at hw5
  have HW5 := Lib.hid hw5
  have hb5 : Below wA.heap.size wA (wA.alloc (.cells #[.string { data := #[99, 111, 117, 110, 116] }, .string { data := #[115, 117, 109] }, .string { data := #[109, 105, 110] }, .string { data := #[109, 97, 120] }, .string { data := #[108, 105, 115, 116] }] 9)) := (Below.refl _ _).alloc (Nat.le_refl _) _
  clear hwA hb0 h0 hsz hw5
  go_wp2_with fail
  refine HW5.out.mono ?_
  rintro e w1 ⟨rfl, rfl⟩
  have HB1 := Lib.hid (HB0.out.trans (hb5.mono (Nat.le_of_lt s0)))
  have HZ1 := Lib.hid ((hb5.block w.heap.size s0).trans HZ.out)
  have s1 := Nat.lt_of_lt_of_le s0 hb5.size
  clear hb5
  go_wp2_with fail
  refine (HBADC.out _ HB1.out).mono ?_
  rintro e w2 ⟨rfl, hb2⟩
  have HB2 := Lib.hid (below_down HB1.out hb2 (Nat.le_refl _))
  have HZ2 := Lib.hid ((hb2.block w.heap.size s1).trans HZ1.out)
  have s2 := Nat.lt_of_lt_of_le s1 hb2.size
  clear hb2
  go_wp2_with fail
  refine (no_v 1 _).mono ?_
  rintro e w3 ⟨rfl, hb3⟩
  have HB3 := Lib.hid (below_down HB2.out hb3 (Nat.le_refl _))
  have hz3 := (hb3.block w.heap.size s2).trans HZ2.out
  have q3 := fun o => cell_of hz3 o
  have f3 := fun o => frozen_of hz3 o
  have s3 := Nat.lt_of_lt_of_le s2 hb3.size
  clear hb3 hz3
  go_wp2_with fail
  refine bodyPost_ret (v := .tuple #[.agg #[.int .i64 0, .bool false, .int .i64 0, .string { data := #[] }, .slice none 0 0], .int .i64 1]) (by simp [results, Tryz.results6, go_sem, q3]) rfl ?_
  exact gives_flat (r := noP 1) rfl rfl (below_set5 HB3.out (Nat.le_refl _) _ _ _ _ _)
set_option maxHeartbeats 800000 in
theorem aggCount_any (l : List GV) (hl : l.length ≤ 2147483647) (fl : fitL l) (hbad : badL l = false) (s : Value) (w : World) (B : Nat) (hB : B ≤ w.heap.size) (hs : isL w 0 B s l) (hn : ∀ n c, s = .slice none n c → c = 0) : Calls Tryz.prog 6 #[.string { data := #[99, 111, 117, 110, 116] }, s] w (GivesO w (numP l.length)) := by
  have HS := Lib.hid hs
  obtain ⟨a, c, rfl⟩ := isL_form hs
  have HSRT : Hid (∀ w1, Below w.heap.size w w1 → Calls Tryz.prog 22 #[.slice a l.length c, .func (.func 16) #[] #[]] w1 fun e w' => ∃ v, e = .returned v ∧ catL w' w1.heap.size B v (sortG l) ∧ Below w1.heap.size w1 w') := fun w1 h1 => sorted_all l hl fl (badL_may hbad) _ w1 B (Nat.le_trans hB h1.size) (isL_below HS.out h1 hB) hn
  have HBADC : Hid (∀ w1, Below w.heap.size w w1 → Calls Tryz.prog 19 #[.slice a l.length c, .func (.func 20) #[] #[]] w1 fun e w' => e = .returned (.bool false) ∧ Below w1.heap.size w1 w') := fun w1 h1 => by
    have := containsA_any l (by omega) fl _ w1 B (Nat.le_trans hB h1.size) (isL_below HS.out h1 hB)
    rw [hbad] at this
    exact this
  clear hs fl hbad hn HS
  go_enter Tryz.func6, Tryz.ntmps6
  go_upto_region 1 with fail
  obtain ⟨wA, hwA, hb0, h0, hsz⟩ := zero_boxN w 29
  rw [← hwA]
  have HB0 := Lib.hid hb0
  have HZ := Lib.hid h0
  have s0 : w.heap.size < wA.heap.size := by omega
  have hw5 := ways_any ⟨#[99, 111, 117, 110, 116]⟩ wA 9
  rw [show Lib.containsS waysL ⟨#[99, 111, 117, 110, 116]⟩ = true by decide] at hw5
  have HW5 := Lib.hid hw5
  have hb5 : Below wA.heap.size wA (wA.alloc (.cells #[.string { data := #[99, 111, 117, 110, 116] }, .string { data := #[115, 117, 109] }, .string { data := #[109, 105, 110] }, .string { data := #[109, 97, 120] }, .string { data := #[108, 105, 115, 116] }] 9)) := (Below.refl _ _).alloc (Nat.le_refl _) _
  clear hwA hb0 h0 hsz hw5
  go_wp2_with fail
  refine HW5.out.mono ?_
  rintro e w1 ⟨rfl, rfl⟩
  have HB1 := Lib.hid (HB0.out.trans (hb5.mono (Nat.le_of_lt s0)))
  have HZ1 := Lib.hid ((hb5.block w.heap.size s0).trans HZ.out)
  have s1 := Nat.lt_of_lt_of_le s0 hb5.size
  clear hb5
  go_wp2_with fail
  refine (HBADC.out _ HB1.out).mono ?_
  rintro e w2 ⟨rfl, hb2⟩
  have HB2 := Lib.hid (below_down HB1.out hb2 (Nat.le_refl _))
  have HZ2 := Lib.hid ((hb2.block w.heap.size s1).trans HZ1.out)
  have s2 := Nat.lt_of_lt_of_le s1 hb2.size
  clear hb2
  go_wp2_with fail
  refine (HSRT.out _ HB2.out).mono ?_
  rintro e w3 ⟨v3, rfl, hc3, hb3⟩
  have HB3 := Lib.hid (below_down HB2.out hb3 (Nat.le_refl _))
  have HZ3 := Lib.hid ((hb3.block w.heap.size s2).trans HZ2.out)
  have s3 := Nat.lt_of_lt_of_le s2 hb3.size
  clear hb3 hc3
  have hlm : (l.length : Int) < 9223372036854775808 := by omega
  go_wp2_with fail
  refine (number_v _ _).mono ?_
  rintro e w4 ⟨rfl, hb4⟩
  have hz4 := (hb4.block w.heap.size s3).trans HZ3.out
  have HB4 := Lib.hid (below_down HB3.out hb4 (Nat.le_refl _))
  have q4 := fun o => cell_of hz4 o
  have f4 := fun o => frozen_of hz4 o
  have s4 := Nat.lt_of_lt_of_le s3 hb4.size
  unfold numA
  clear hb4 hz4
  go_wp2_with fail
  refine bodyPost_ret (v := .tuple #[.agg #[.int .i64 2, .bool false, .int .i64 l.length, .string { data := #[] }, .slice none 0 0], .int .i64 0]) (by simp [results, Tryz.results6, go_sem, q4]) rfl ?_
  exact gives_flat (r := numP l.length) rfl rfl (below_set5 HB4.out (Nat.le_refl _) _ _ _ _ _)
set_option maxHeartbeats 800000 in
theorem aggSumr_any (l : List GV) (hl : l.length ≤ 2147483647) (fl : fitL l) (hbad : badL l = false) (s : Value) (w : World) (B : Nat) (hB : B ≤ w.heap.size) (hs : isL w 0 B s l) (hn : ∀ n c, s = .slice none n c → c = 0) : Calls Tryz.prog 6 #[.string { data := #[115, 117, 109] }, s] w (GivesO w (sumP l)) := by
  obtain ⟨P, hP⟩ : ∃ P, P = sumP l := ⟨_, rfl⟩
  have HS := Lib.hid hs
  obtain ⟨a, c, rfl⟩ := isL_form hs
  have HSRT : Hid (∀ w1, Below w.heap.size w w1 → Calls Tryz.prog 22 #[.slice a l.length c, .func (.func 16) #[] #[]] w1 fun e w' => ∃ v, e = .returned v ∧ catL w' w1.heap.size B v (sortG l) ∧ Below w1.heap.size w1 w') := fun w1 h1 => sorted_all l hl fl (badL_may hbad) _ w1 B (Nat.le_trans hB h1.size) (isL_below HS.out h1 hB) hn
  have HBADC : Hid (∀ w1, Below w.heap.size w w1 → Calls Tryz.prog 19 #[.slice a l.length c, .func (.func 20) #[] #[]] w1 fun e w' => e = .returned (.bool false) ∧ Below w1.heap.size w1 w') := fun w1 h1 => by
    have := containsA_any l (by omega) fl _ w1 B (Nat.le_trans hB h1.size) (isL_below HS.out h1 hB)
    rw [hbad] at this
    exact this
  have HSUM : Hid (∀ w1, Below w.heap.size w w1 → Calls Tryz.prog 24 #[.slice a l.length c] w1 (GivesO w1 P)) := fun w1 h1 => by rw [hP]; exact sum_any l (by omega) fl _ w1 B (Nat.le_trans hB h1.size) (isL_below HS.out h1 hB)
  rw [← hP]
  clear hs fl hbad hn HS hP
  go_enter Tryz.func6, Tryz.ntmps6
  go_upto_region 1 with fail
  obtain ⟨wA, hwA, hb0, h0, hsz⟩ := zero_boxN w 29
  rw [← hwA]
  have HB0 := Lib.hid hb0
  have HZ := Lib.hid h0
  have s0 : w.heap.size < wA.heap.size := by omega
  have hw5 := ways_any ⟨#[115, 117, 109]⟩ wA 9
  rw [show Lib.containsS waysL ⟨#[115, 117, 109]⟩ = true by decide] at hw5
  have HW5 := Lib.hid hw5
  have hb5 : Below wA.heap.size wA (wA.alloc (.cells #[.string { data := #[99, 111, 117, 110, 116] }, .string { data := #[115, 117, 109] }, .string { data := #[109, 105, 110] }, .string { data := #[109, 97, 120] }, .string { data := #[108, 105, 115, 116] }] 9)) := (Below.refl _ _).alloc (Nat.le_refl _) _
  clear hwA hb0 h0 hsz hw5
  go_wp2_with fail
  refine HW5.out.mono ?_
  rintro e w1 ⟨rfl, rfl⟩
  have HB1 := Lib.hid (HB0.out.trans (hb5.mono (Nat.le_of_lt s0)))
  have HZ1 := Lib.hid ((hb5.block w.heap.size s0).trans HZ.out)
  have s1 := Nat.lt_of_lt_of_le s0 hb5.size
  clear hb5
  go_wp2_with fail
  refine (HBADC.out _ HB1.out).mono ?_
  rintro e w2 ⟨rfl, hb2⟩
  have HB2 := Lib.hid (below_down HB1.out hb2 (Nat.le_refl _))
  have HZ2 := Lib.hid ((hb2.block w.heap.size s1).trans HZ1.out)
  have s2 := Nat.lt_of_lt_of_le s1 hb2.size
  clear hb2
  go_wp2_with fail
  refine (HSRT.out _ HB2.out).mono ?_
  rintro e w3 ⟨v3, rfl, hc3, hb3⟩
  have HB3 := Lib.hid (below_down HB2.out hb3 (Nat.le_refl _))
  have HZ3 := Lib.hid ((hb3.block w.heap.size s2).trans HZ2.out)
  have s3 := Nat.lt_of_lt_of_le s2 hb3.size
  have x1 : (({ data := #[115, 117, 109] } : ByteArray) == { data := #[99, 111, 117, 110, 116] }) = false := by decide
  clear hb3 hc3
  go_wp2_with fail
  refine (HSUM.out _ HB3.out).mono ?_
  rintro e w4 hgv
  obtain ⟨ar, cr, rfl, hr, hb4⟩ := hgv
  have hz4 := (hb4.block w.heap.size s3).trans HZ3.out
  have HB4 := Lib.hid (below_down HB3.out hb4 (Nat.le_refl _))
  have HR4 := Lib.hid hr
  have q4 := fun o => cell_of hz4 o
  have f4 := fun o => frozen_of hz4 o
  have s4 := Nat.lt_of_lt_of_le s3 hb4.size
  have hle := HB3.out.size
  simp only [GV.agg]
  clear hb4 hz4 hr
  go_wp2_with fail
  refine bodyPost_ret (v := .tuple #[.agg #[.int .i64 P.1.k, .bool P.1.b, .int .i64 P.1.n, .string P.1.t, .slice ar P.1.l.length cr], .int .i64 P.2]) (by simp [results, Tryz.results6, go_sem, q4]) rfl ?_
  exact gives_box HR4.out HB4.out hle (Nat.le_refl _) s3 _ _ _ _ _
set_option maxHeartbeats 1600000 in
theorem aggMin_any (l : List GV) (hl : l.length ≤ 2147483647) (fl : fitL l) (hbad : badL l = false) (s : Value) (w : World) (B : Nat) (hB : B ≤ w.heap.size) (hs : isL w 0 B s l) (hn : ∀ n c, s = .slice none n c → c = 0) : Calls Tryz.prog 6 #[.string { data := #[109, 105, 110] }, s] w (GivesO w (minP (sortG l))) := by
  have HS := Lib.hid hs
  obtain ⟨a, c, rfl⟩ := isL_form hs
  have HSRT : Hid (∀ w1, Below w.heap.size w w1 → Calls Tryz.prog 22 #[.slice a l.length c, .func (.func 16) #[] #[]] w1 fun e w' => ∃ v, e = .returned v ∧ catL w' w1.heap.size B v (sortG l) ∧ Below w1.heap.size w1 w') := fun w1 h1 => sorted_all l hl fl (badL_may hbad) _ w1 B (Nat.le_trans hB h1.size) (isL_below HS.out h1 hB) hn
  have HBADC : Hid (∀ w1, Below w.heap.size w w1 → Calls Tryz.prog 19 #[.slice a l.length c, .func (.func 20) #[] #[]] w1 fun e w' => e = .returned (.bool false) ∧ Below w1.heap.size w1 w') := fun w1 h1 => by
    have := containsA_any l (by omega) fl _ w1 B (Nat.le_trans hB h1.size) (isL_below HS.out h1 hB)
    rw [hbad] at this
    exact this
  obtain ⟨m, hm⟩ : ∃ m, m = sortG l := ⟨_, rfl⟩
  have HFM : Hid (fitL m) := by rw [hm]; exact sortG_fit fl
  have HML : Hid (m.length ≤ 2147483647) := by rw [hm, sortG_len]; exact hl
  rw [← hm] at HSRT ⊢
  clear hs fl hbad hn HS hm
  go_enter Tryz.func6, Tryz.ntmps6
  go_upto_region 1 with fail
  obtain ⟨wA, hwA, hb0, h0, hsz⟩ := zero_boxN w 29
  rw [← hwA]
  have HB0 := Lib.hid hb0
  have HZ := Lib.hid h0
  have s0 : w.heap.size < wA.heap.size := by omega
  have hw5 := ways_any ⟨#[109, 105, 110]⟩ wA 9
  rw [show Lib.containsS waysL ⟨#[109, 105, 110]⟩ = true by decide] at hw5
  have HW5 := Lib.hid hw5
  have hb5 : Below wA.heap.size wA (wA.alloc (.cells #[.string { data := #[99, 111, 117, 110, 116] }, .string { data := #[115, 117, 109] }, .string { data := #[109, 105, 110] }, .string { data := #[109, 97, 120] }, .string { data := #[108, 105, 115, 116] }] 9)) := (Below.refl _ _).alloc (Nat.le_refl _) _
  clear hwA hb0 h0 hsz hw5
  go_wp2_with fail
  refine HW5.out.mono ?_
  rintro e w1 ⟨rfl, rfl⟩
  have HB1 := Lib.hid (HB0.out.trans (hb5.mono (Nat.le_of_lt s0)))
  have HZ1 := Lib.hid ((hb5.block w.heap.size s0).trans HZ.out)
  have s1 := Nat.lt_of_lt_of_le s0 hb5.size
  clear hb5
  go_wp2_with fail
  refine (HBADC.out _ HB1.out).mono ?_
  rintro e w2 ⟨rfl, hb2⟩
  have HB2 := Lib.hid (below_down HB1.out hb2 (Nat.le_refl _))
  have HZ2 := Lib.hid ((hb2.block w.heap.size s1).trans HZ1.out)
  have s2 := Nat.lt_of_lt_of_le s1 hb2.size
  clear hb2
  go_wp2_with fail
  refine (HSRT.out _ HB2.out).mono ?_
  rintro e w3 ⟨v3, rfl, hc3, hb3⟩
  have HB3 := Lib.hid (below_down HB2.out hb3 (Nat.le_refl _))
  have HZ3 := Lib.hid ((hb3.block w.heap.size s2).trans HZ2.out)
  have s3 := Nat.lt_of_lt_of_le s2 hb3.size
  have x1 : (({ data := #[109, 105, 110] } : ByteArray) == { data := #[99, 111, 117, 110, 116] }) = false := by decide
  have x2 : (({ data := #[109, 105, 110] } : ByteArray) == { data := #[115, 117, 109] }) = false := by decide
  have x3 : (({ data := #[109, 105, 110] } : ByteArray) == { data := #[108, 105, 115, 116] }) = false := by decide
  by_cases h0 : m.length = 0
  · obtain ⟨a3, c3, rfl⟩ := isL_form (catL_isL hc3 (Nat.le_trans (Nat.le_trans hB HB2.out.size) hb3.size))
    rw [h0]
    have HP : Hid (minP m = noP 0) := by unfold minP; exact if_pos h0
    have hz3 := HZ3.out
    have q3 := fun o => cell_of hz3 o
    have f3 := fun o => frozen_of hz3 o
    clear hb3 hc3 hz3
    go_wp2_with fail
    refine bodyPost_ret (v := .tuple #[.agg #[.int .i64 0, .bool false, .int .i64 0, .string { data := #[] }, .slice none 0 0], .int .i64 0]) (by simp [results, Tryz.results6, go_sem, q3]) rfl ?_
    rw [HP.out]
    exact gives_flat (r := noP 0) rfl rfl (below_set5 HB3.out (Nat.le_refl _) _ _ _ _ _)
  · obtain ⟨g, cap, rfl, hg, hcap, hrow⟩ := rowO_cat hc3 (by omega)
    have hp : 0 < m.length := by omega
    obtain ⟨ax, cx, X0, X1, X2, X3, X4, hsx⟩ := row_open hrow hp
    have hgl := row_lt hrow
    have hpm := vat_fit HFM.out hp
    obtain ⟨x, hx⟩ : ∃ x, x = vat m 0 := ⟨_, rfl⟩
    rw [← hx] at X0 X1 X2 X3 X4 hsx hpm
    have HP : Hid (minP m = (x, 0)) := by rw [hx]; unfold minP; exact if_neg h0
    simp only [Nat.zero_mul, Nat.zero_add] at X0 X1 X2 X3 X4
    have hb' : B ≤ w3.heap.size := Nat.le_trans (Nat.le_trans hB HB2.out.size) hb3.size
    have HC1 : Hid (Calls Tryz.prog 25 #[x.agg (.slice ax x.l.length cx)] w3 (GivesV w3 x)) := vCopied_any x hpm _ w3 B hb' hsx
    simp only [GV.agg] at HC1
    have HP3 := Lib.hid hp
    clear hb3 hc3 hsx hpm hrow hcap hx hp HFM
    have y0 : 0 < m.length := by omega
    have y1 : (0 : Int) < (m.length : Int) := by omega
    go_wp2_with fail
    refine HC1.out.mono ?_
    rintro e w6 ⟨a6, c6, rfl, hr, hb6⟩
    have HB6 := Lib.hid (below_down HB3.out hb6 (Nat.le_refl _))
    have HR6 := Lib.hid hr
    have hz6 := (hb6.block w.heap.size s3).trans HZ3.out
    have q6 := fun o => cell_of hz6 o
    have f6 := fun o => frozen_of hz6 o
    have s6 := Nat.lt_of_lt_of_le s3 hb6.size
    have hle5 := HB3.out.size
    simp only [GV.agg]
    clear hb6 hz6 hr X0 X1 X2 X3 X4
    go_wp2_with fail
    refine bodyPost_ret (v := .tuple #[.agg #[.int .i64 x.k, .bool x.b, .int .i64 x.n, .string x.t, .slice a6 x.l.length c6], .int .i64 0]) (by simp [results, Tryz.results6, go_sem, q6]) rfl ?_
    rw [HP.out]
    exact gives_box (r := (x, 0)) HR6.out HB6.out hle5 (Nat.le_refl _) s3 _ _ _ _ _
set_option maxHeartbeats 1600000 in
theorem aggMax_any (l : List GV) (hl : l.length ≤ 2147483647) (fl : fitL l) (hbad : badL l = false) (s : Value) (w : World) (B : Nat) (hB : B ≤ w.heap.size) (hs : isL w 0 B s l) (hn : ∀ n c, s = .slice none n c → c = 0) : Calls Tryz.prog 6 #[.string { data := #[109, 97, 120] }, s] w (GivesO w (maxP (sortG l))) := by
  have HS := Lib.hid hs
  obtain ⟨a, c, rfl⟩ := isL_form hs
  have HSRT : Hid (∀ w1, Below w.heap.size w w1 → Calls Tryz.prog 22 #[.slice a l.length c, .func (.func 16) #[] #[]] w1 fun e w' => ∃ v, e = .returned v ∧ catL w' w1.heap.size B v (sortG l) ∧ Below w1.heap.size w1 w') := fun w1 h1 => sorted_all l hl fl (badL_may hbad) _ w1 B (Nat.le_trans hB h1.size) (isL_below HS.out h1 hB) hn
  have HBADC : Hid (∀ w1, Below w.heap.size w w1 → Calls Tryz.prog 19 #[.slice a l.length c, .func (.func 20) #[] #[]] w1 fun e w' => e = .returned (.bool false) ∧ Below w1.heap.size w1 w') := fun w1 h1 => by
    have := containsA_any l (by omega) fl _ w1 B (Nat.le_trans hB h1.size) (isL_below HS.out h1 hB)
    rw [hbad] at this
    exact this
  obtain ⟨m, hm⟩ : ∃ m, m = sortG l := ⟨_, rfl⟩
  have HFM : Hid (fitL m) := by rw [hm]; exact sortG_fit fl
  have HML : Hid (m.length ≤ 2147483647) := by rw [hm, sortG_len]; exact hl
  rw [← hm] at HSRT ⊢
  clear hs fl hbad hn HS hm
  go_enter Tryz.func6, Tryz.ntmps6
  go_upto_region 1 with fail
  obtain ⟨wA, hwA, hb0, h0, hsz⟩ := zero_boxN w 29
  rw [← hwA]
  have HB0 := Lib.hid hb0
  have HZ := Lib.hid h0
  have s0 : w.heap.size < wA.heap.size := by omega
  have hw5 := ways_any ⟨#[109, 97, 120]⟩ wA 9
  rw [show Lib.containsS waysL ⟨#[109, 97, 120]⟩ = true by decide] at hw5
  have HW5 := Lib.hid hw5
  have hb5 : Below wA.heap.size wA (wA.alloc (.cells #[.string { data := #[99, 111, 117, 110, 116] }, .string { data := #[115, 117, 109] }, .string { data := #[109, 105, 110] }, .string { data := #[109, 97, 120] }, .string { data := #[108, 105, 115, 116] }] 9)) := (Below.refl _ _).alloc (Nat.le_refl _) _
  clear hwA hb0 h0 hsz hw5
  go_wp2_with fail
  refine HW5.out.mono ?_
  rintro e w1 ⟨rfl, rfl⟩
  have HB1 := Lib.hid (HB0.out.trans (hb5.mono (Nat.le_of_lt s0)))
  have HZ1 := Lib.hid ((hb5.block w.heap.size s0).trans HZ.out)
  have s1 := Nat.lt_of_lt_of_le s0 hb5.size
  clear hb5
  go_wp2_with fail
  refine (HBADC.out _ HB1.out).mono ?_
  rintro e w2 ⟨rfl, hb2⟩
  have HB2 := Lib.hid (below_down HB1.out hb2 (Nat.le_refl _))
  have HZ2 := Lib.hid ((hb2.block w.heap.size s1).trans HZ1.out)
  have s2 := Nat.lt_of_lt_of_le s1 hb2.size
  clear hb2
  go_wp2_with fail
  refine (HSRT.out _ HB2.out).mono ?_
  rintro e w3 ⟨v3, rfl, hc3, hb3⟩
  have HB3 := Lib.hid (below_down HB2.out hb3 (Nat.le_refl _))
  have HZ3 := Lib.hid ((hb3.block w.heap.size s2).trans HZ2.out)
  have s3 := Nat.lt_of_lt_of_le s2 hb3.size
  have x1 : (({ data := #[109, 97, 120] } : ByteArray) == { data := #[99, 111, 117, 110, 116] }) = false := by decide
  have x2 : (({ data := #[109, 97, 120] } : ByteArray) == { data := #[115, 117, 109] }) = false := by decide
  have x3 : (({ data := #[109, 97, 120] } : ByteArray) == { data := #[108, 105, 115, 116] }) = false := by decide
  have x4 : (({ data := #[109, 97, 120] } : ByteArray) == { data := #[109, 105, 110] }) = false := by decide
  by_cases h0 : m.length = 0
  · obtain ⟨a3, c3, rfl⟩ := isL_form (catL_isL hc3 (Nat.le_trans (Nat.le_trans hB HB2.out.size) hb3.size))
    rw [h0]
    have HP : Hid (maxP m = noP 0) := by unfold maxP; exact if_pos h0
    have hz3 := HZ3.out
    have q3 := fun o => cell_of hz3 o
    have f3 := fun o => frozen_of hz3 o
    clear hb3 hc3 hz3
    go_wp2_with fail
    refine bodyPost_ret (v := .tuple #[.agg #[.int .i64 0, .bool false, .int .i64 0, .string { data := #[] }, .slice none 0 0], .int .i64 0]) (by simp [results, Tryz.results6, go_sem, q3]) rfl ?_
    rw [HP.out]
    exact gives_flat (r := noP 0) rfl rfl (below_set5 HB3.out (Nat.le_refl _) _ _ _ _ _)
  · obtain ⟨g, cap, rfl, hg, hcap, hrow⟩ := rowO_cat hc3 (by omega)
    have hp : (m.length - 1) < m.length := by omega
    obtain ⟨ax, cx, X0, X1, X2, X3, X4, hsx⟩ := row_open hrow hp
    have hgl := row_lt hrow
    have hpm := vat_fit HFM.out hp
    obtain ⟨x, hx⟩ : ∃ x, x = vat m (m.length - 1) := ⟨_, rfl⟩
    rw [← hx] at X0 X1 X2 X3 X4 hsx hpm
    have HP : Hid (maxP m = (x, 0)) := by rw [hx]; unfold maxP; exact if_neg h0
    obtain ⟨k, hk⟩ : ∃ k, k = m.length - 1 := ⟨_, rfl⟩
    rw [← hk] at X0 X1 X2 X3 X4
    have k1 : (m.length : Int) - 1 = (k : Int) := by omega
    have k2 : IntKind.i64.wrap (k : Int) = (k : Int) := IntWalk.i64_in _ (by have := HML.out; omega)
    have k3 : (k : Int) < (m.length : Int) := by omega
    have k4 : k < m.length := by omega
    clear hk
    have hb' : B ≤ w3.heap.size := Nat.le_trans (Nat.le_trans hB HB2.out.size) hb3.size
    have HC1 : Hid (Calls Tryz.prog 25 #[x.agg (.slice ax x.l.length cx)] w3 (GivesV w3 x)) := vCopied_any x hpm _ w3 B hb' hsx
    simp only [GV.agg] at HC1
    have HP3 := Lib.hid hp
    clear hb3 hc3 hsx hpm hrow hcap hx hp HFM
    have y0 : 0 < m.length := by omega
    have y1 : (0 : Int) < (m.length : Int) := by omega
    go_wp2_with fail
    refine HC1.out.mono ?_
    rintro e w6 ⟨a6, c6, rfl, hr, hb6⟩
    have HB6 := Lib.hid (below_down HB3.out hb6 (Nat.le_refl _))
    have HR6 := Lib.hid hr
    have hz6 := (hb6.block w.heap.size s3).trans HZ3.out
    have q6 := fun o => cell_of hz6 o
    have f6 := fun o => frozen_of hz6 o
    have s6 := Nat.lt_of_lt_of_le s3 hb6.size
    have hle5 := HB3.out.size
    simp only [GV.agg]
    clear hb6 hz6 hr X0 X1 X2 X3 X4
    go_wp2_with fail
    refine bodyPost_ret (v := .tuple #[.agg #[.int .i64 x.k, .bool x.b, .int .i64 x.n, .string x.t, .slice a6 x.l.length c6], .int .i64 0]) (by simp [results, Tryz.results6, go_sem, q6]) rfl ?_
    rw [HP.out]
    exact gives_box (r := (x, 0)) HR6.out HB6.out hle5 (Nat.le_refl _) s3 _ _ _ _ _
/-- value.Aggregate, whatever the name is of the seven -/
theorem agg_all (x : ByteArray) (hx : x = ⟨#[99, 111, 117, 110, 116]⟩ ∨ x = ⟨#[115, 117, 109]⟩ ∨ x = ⟨#[109, 105, 110]⟩ ∨ x = ⟨#[109, 97, 120]⟩ ∨ x = ⟨#[108, 105, 115, 116]⟩ ∨ Lib.containsS waysL x = false) (l : List GV) (hl : l.length ≤ 2147483647) (fl : fitL l) (s : Value) (w : World) (B : Nat) (hB : B ≤ w.heap.size) (hs : isL w 0 B s l) (hn : ∀ n c, s = .slice none n c → c = 0) : Calls Tryz.prog 6 #[.string x, s] w (GivesO w (aggP x l)) := by
  cases hc : Lib.containsS waysL x with
  | false =>
    rw [aggP, if_pos (.inl hc)]
    exact aggName_any l hl fl x hc s w B hB hs hn
  | true =>
    cases hb : badL l with
    | true =>
      rw [aggP, if_pos (.inr hb)]
      exact aggBad_any l hl fl x hc hb s w B hB hs hn
    | false =>
      rw [aggP, if_neg (by simp [hc, hb])]
      rcases hx with rfl | rfl | rfl | rfl | rfl | h
      · rw [if_pos rfl]; exact aggCount_any l hl fl hb s w B hB hs hn
      · rw [if_neg (by decide), if_pos rfl]; exact aggSumr_any l hl fl hb s w B hB hs hn
      · rw [if_neg (by decide), if_neg (by decide), if_neg (by decide), if_pos rfl]; exact aggMin_any l hl fl hb s w B hB hs hn
      · rw [if_neg (by decide), if_neg (by decide), if_neg (by decide), if_neg (by decide)]; exact aggMax_any l hl fl hb s w B hB hs hn
      · rw [if_neg (by decide), if_neg (by decide), if_pos rfl]
        exact aggList_any l (sortG l) hl (by rw [sortG_len]; exact hl) fl (sortG_fit fl) hb (sorted_all l hl fl (badL_may hb)) s w B hB hs hn
      · rw [hc] at h; cases h
end Go.Proofs.YtaclkegoaajdgaaGreatDoor
