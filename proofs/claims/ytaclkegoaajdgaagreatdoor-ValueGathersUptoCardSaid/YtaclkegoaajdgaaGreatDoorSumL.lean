/-
  What value.sum tells of a list: the sum of its numbers, or that it is beyond int64, or that a value is no number. Conditions: lists shorter than 2^31, numbers int64.
-/
import Derived.Test.YtaclkegoaajdgaaGreatDoorML
import Derived.Laws.Externs
namespace Go.Proofs.YtaclkegoaajdgaaGreatDoor
open Go Go.RowKit
set_option maxRecDepth 100000
set_option linter.unusedVariables false
def sumN (l : List GV) : Int := (l.map fun x => x.n).foldl (· + ·) 0
theorem foldl_add (l : List Int) (a : Int) : l.foldl (· + ·) a = a + l.foldl (· + ·) 0 := by
  induction l generalizing a with
  | nil => simp
  | cons x r ih => rw [List.foldl_cons, List.foldl_cons, ih, ih (0 + x)]; omega
theorem sumN_cons (x : GV) (r : List GV) : sumN (x :: r) = x.n + sumN r := by
  unfold sumN
  rw [List.map_cons, List.foldl_cons, foldl_add]; omega
theorem sumN_take (l : List GV) (k : Nat) (h : k < l.length) : sumN (l.take (k + 1)) = sumN (l.take k) + l[k].n := by
  unfold sumN
  rw [List.take_succ_eq_append_getElem h, List.map_append, List.foldl_append]
  rfl
theorem sumN_bound : ∀ (l : List GV), fitL l → -(9223372036854775808 * (l.length : Int)) ≤ sumN l ∧ sumN l ≤ 9223372036854775808 * (l.length : Int)
  | [], _ => by simp [sumN]
  | x :: r, h => by
    have h1 := sumN_bound r h.2
    have h2 := fit_open h.1
    rw [sumN_cons]
    simp only [List.length_cons]
    omega
theorem add64 (x y c : Int) (hx : 0 ≤ x) (hy : 0 ≤ y) (h0 : 0 ≤ c) (h1 : c ≤ 1) (w : World) : (callFunc 54 #[.int .u64 x, .int .u64 y, .int .u64 c]).run Tryz.prog w = .ok (.value (.tuple #[.int .u64 ((x + y + c) % 18446744073709551616), .int .u64 ((x + y + c) / 18446744073709551616)])) w := by
  rw [run_callFunc_extern Tryz.func54 (by kernel_rfl) (by kernel_rfl) (by kernel_rfl) (e := add64Entry) (by kernel_rfl), run_add64 x y c hx hy h0 h1]
  rfl
/-- what value.sum tells -/
def sumP (l : List GV) : GV × Int := if l.all (fun x => x.k == 2) = true then (if inI (sumN l) then numP (sumN l) else noP 2) else noP 4
theorem hi_step (T n : Int) (hn : inI n) : ((T / 18446744073709551616 % 18446744073709551616) + (n / 9223372036854775808) % 18446744073709551616 + (T % 18446744073709551616 + n % 18446744073709551616 + 0) / 18446744073709551616) % 18446744073709551616 = (T + n) / 18446744073709551616 % 18446744073709551616 := by
  unfold inI at hn
  obtain ⟨d, hd⟩ : ∃ d, d = T / 18446744073709551616 := ⟨_, rfl⟩
  obtain ⟨r, hr⟩ : ∃ r, r = T % 18446744073709551616 := ⟨_, rfl⟩
  have hT : T = 18446744073709551616 * d + r := by omega
  have hr0 : 0 ≤ r ∧ r < 18446744073709551616 := by omega
  rw [← hd, ← hr, hT]
  clear hd hr hT
  by_cases h0 : 0 ≤ n
  · have e1 : n / 9223372036854775808 = 0 := by omega
    have e2 : n % 18446744073709551616 = n := by omega
    have e3 : (18446744073709551616 * d + r + n) / 18446744073709551616 = d + (r + n) / 18446744073709551616 := by omega
    rw [e1, e2, e3]
    simp only [Int.add_zero]
    omega
  · have e1 : n / 9223372036854775808 = -1 := by omega
    have e2 : n % 18446744073709551616 = n + 18446744073709551616 := by omega
    have e3 : (18446744073709551616 * d + r + n) / 18446744073709551616 = d + (r + (n + 18446744073709551616)) / 18446744073709551616 - 1 := by omega
    rw [e1, e2, e3]
    simp only [Int.add_zero]
    omega
theorem lo_step (T n : Int) : (T % 18446744073709551616 + n % 18446744073709551616 + 0) % 18446744073709551616 = (T + n) % 18446744073709551616 := by omega
theorem sum_end (T : Int) (hT : -19807040628566084398385987584 ≤ T ∧ T ≤ 19807040628566084398385987584) : (T / 18446744073709551616 % 18446744073709551616 == (wrap64 (T % 18446744073709551616) / 9223372036854775808) % 18446744073709551616) = decide (inI T) := by
  obtain ⟨d, hd⟩ : ∃ d, d = T / 18446744073709551616 := ⟨_, rfl⟩
  obtain ⟨r, hr⟩ : ∃ r, r = T % 18446744073709551616 := ⟨_, rfl⟩
  have hTe : T = 18446744073709551616 * d + r := by omega
  have hr0 : 0 ≤ r ∧ r < 18446744073709551616 := by omega
  have hd0 : -1073741825 ≤ d ∧ d ≤ 1073741825 := by omega
  rw [← hd, ← hr, hTe]
  clear hd hr hTe hT
  have hw : (r < 9223372036854775808 ∧ wrap64 r / 9223372036854775808 = 0) ∨ (9223372036854775808 ≤ r ∧ wrap64 r / 9223372036854775808 = -1) := by
    by_cases h : r < 9223372036854775808
    · have e : wrap64 r = r := by unfold wrap64; omega
      rw [e]; omega
    · have e : wrap64 r = r - 18446744073709551616 := by unfold wrap64; omega
      rw [e]; omega
  have hdm : (0 ≤ d ∧ d % 18446744073709551616 = d) ∨ (d < 0 ∧ d % 18446744073709551616 = d + 18446744073709551616) := by omega
  rcases hw with ⟨hw1, hw2⟩ | ⟨hw1, hw2⟩ <;> rcases hdm with ⟨hd1, hd2⟩ | ⟨hd1, hd2⟩ <;> rw [hw2, hd2]
  all_goals
    by_cases h : inI (18446744073709551616 * d + r)
    · rw [decide_eq_true h, beq_iff_eq]
      unfold inI at h
      omega
    · rw [decide_eq_false h, beq_eq_false_iff_ne]
      unfold inI at h
      omega
theorem zero_boxN (w : World) (T : TypeId) : ∃ wA, wA = w.alloc (.cells #[.int .i64 0, .bool false, .int .i64 0, .string { data := #[] }, .slice none 0 0] T) ∧ Below w.heap.size w wA ∧ wA.heap[w.heap.size]? = some (.cells #[.int .i64 0, .bool false, .int .i64 0, .string { data := #[] }, .slice none 0 0] T (0, 0)) ∧ wA.heap.size = w.heap.size + 1 :=
  ⟨_, rfl, (Below.refl _ _).alloc (Nat.le_refl _) _, heap_last, by simp⟩
set_option maxHeartbeats 1600000 in
theorem sum_any (l : List GV) (hl : l.length ≤ 2147483647) (fl : fitL l) (s : Value) (w : World) (B : Nat) (hB : B ≤ w.heap.size) (hs : isL w 0 B s l) : Calls Tryz.prog 24 #[s] w (GivesO w (sumP l)) := by
  obtain ⟨a, c, bb, off, rfl, hc, ha, hA⟩ := isL_open hs
  have HA := Lib.hid hA
  have Ha := Lib.hid ha
  have HFL := Lib.hid fl
  have hbd := sumN_bound l fl
  have HBD : Hid (-19807040628566084398385987584 ≤ sumN l ∧ sumN l ≤ 19807040628566084398385987584) := ⟨by omega, by omega⟩
  obtain ⟨P, hP⟩ : ∃ P, P = sumP l := ⟨_, rfl⟩
  rw [← hP]
  have HP := Lib.hid hP
  clear hs hA ha fl hP hbd
  go_enter Tryz.func24, Tryz.ntmps24
  go_upto_region 1 with fail
  obtain ⟨wA, hwA, hb0, h0, hsz⟩ := zero_boxN w 29
  rw [← hwA]
  have HB0 := Lib.hid hb0
  have HZ := Lib.hid h0
  have s0 : w.heap.size < wA.heap.size := by omega
  clear hwA hb0 h0 hsz
  go_wp2_with fail
  go_loopw [4, 5, 11] (fun s4 s5 i wr => ∃ (k : Nat) (T : Int), k ≤ l.length ∧ i = .int .i64 k ∧ s4 = .int .u64 (T / 18446744073709551616 % 18446744073709551616) ∧ s5 = .int .u64 (T % 18446744073709551616) ∧ Hid (T = sumN (l.take k)) ∧ Hid ((l.take k).all (fun x => x.k == 2) = true) ∧ Hid (Below wA.heap.size wA wr)) (fun _ _ i _ => l.length - (intOf i).toNat)
  case atStart => exact ⟨0, 0, Nat.zero_le _, rfl, rfl, rfl, rfl, rfl, Below.refl _ _⟩
  case round =>
    obtain ⟨k, T, hk, rfl, rfl, rfl, HT, HAL, HRR⟩ := hrel
    have HB := Lib.hid (below_down HB0.out HRR.out (Nat.le_refl _))
    have hwr := HRR.out.size
    have HZR := Lib.hid ((HRR.out.block w.heap.size s0).trans HZ.out)
    have z0 : w.heap.size < wr.heap.size := by omega
    by_cases hlt : k < l.length
    · obtain ⟨rfl, hb1, hb2⟩ := Ha.out (by omega)
      obtain ⟨ax, cx, x0, x1, x2, x3, x4, hsx⟩ := cellsV_slice (HA.out k hlt)
      have hg : ∀ o, wr.cell? ⟨bb, o, none⟩ = w.cell? ⟨bb, o, none⟩ := fun o => HB.out.cell (p := ⟨bb, o, none⟩) (Nat.lt_of_lt_of_le hb2 hB)
      have z1 : bb < wr.heap.size := by omega
      have hbA : Below wr.heap.size wr (wr.alloc (.cells #[.int .i64 l[k].k, .bool l[k].b, .int .i64 l[k].n, .string l[k].t, .slice ax l[k].l.length cx] 29)) := (Below.refl _ _).alloc (Nat.le_refl _) _
      have fx := fit_open (fitL_mem HFL.out _ (List.getElem_mem hlt))
      have hn : inI l[k].n := ⟨fx.2.2.1, fx.2.2.2.1⟩
      have HALK : Hid ((l.take (k + 1)).all (fun x => x.k == 2) = (l[k].k == 2)) := by
        rw [Hid, List.take_succ_eq_append_getElem hlt, List.all_append, HAL.out]; simp
      have HTK : Hid (sumN (l.take (k + 1)) = T + l[k].n) := by rw [Hid, sumN_take l k hlt, HT.out]
      have HALL : Hid ((l[k].k == 2) = false → l.all (fun x => x.k == 2) = false) := fun h => List.all_eq_false.2 ⟨l[k], List.getElem_mem hlt, by simp [h]⟩
      obtain ⟨G, hG⟩ : ∃ G, G = l[k] := ⟨_, rfl⟩
      rw [← hG] at x0 x1 x2 x3 x4 hn HALK HTK HALL hbA
      clear hsx fx hG
      by_cases hk2 : G.k = 2
      · have e1 : (G.k != 2) = false := by simpa using hk2
        have u1 : IntKind.u64.wrap G.n = G.n % 18446744073709551616 := by rw [IntKind.wrap_u64]
        have u2 : IntKind.u64.wrap (G.n / 9223372036854775808) = (G.n / 9223372036854775808) % 18446744073709551616 := by rw [IntKind.wrap_u64]
        have a1 := fun w => add64 (T % 18446744073709551616) (G.n % 18446744073709551616) 0 (by omega) (by omega) (by omega) (by omega) w
        have a2 := fun w => add64 (T / 18446744073709551616 % 18446744073709551616) ((G.n / 9223372036854775808) % 18446744073709551616) ((T % 18446744073709551616 + G.n % 18446744073709551616) / 18446744073709551616) (by omega) (by omega) (by omega) (by omega) w
        have h1 := hi_step T G.n hn
        have h2 := lo_step T G.n
        simp only [Int.add_zero] at a1 h1 h2
        rw [h1] at a2
        rw [h2] at a1
        have HN3 : Hid ((l.take (k + 1)).all (fun x => x.k == 2) = true) := by rw [Hid, HALK.out]; simpa using hk2
        rw [hk2] at hbA
        have HH := Lib.hid (HRR.out.trans (hbA.mono hwr))
        clear h1 h2 hn HALK HALL hbA
        go_wp2_with fail
        go_roundw
        case rel => exact ⟨k + 1, T + G.n, by omega, by go_num, rfl, rfl, HTK.out.symm, HN3, HH⟩
        case measure => simp [intOf]; omega
      · have e1 : (G.k != 2) = true := by simpa using hk2
        have HN : Hid (P = noP 4) := by
          rw [Hid, HP.out, sumP, if_neg]
          rw [HALL.out (by simpa using hk2)]; simp
        have HB2 := Lib.hid (below_down HB.out hbA (Nat.le_refl _))
        have HZ2 := Lib.hid ((hbA.block w.heap.size z0).trans HZR.out)
        have z2 : w.heap.size < (wr.alloc (.cells #[.int .i64 G.k, .bool G.b, .int .i64 G.n, .string G.t, .slice ax G.l.length cx] 29)).heap.size := by simp; omega
        clear hn HALK HALL hbA HTK
        go_wp2_with fail
        refine (no_v 4 _).mono ?_
        rintro e w9 ⟨rfl, hb9⟩
        have HB9 := Lib.hid (below_down HB2.out hb9 (Nat.le_refl _))
        have hz9 := (hb9.block w.heap.size z2).trans HZ2.out
        have s9 : w.heap.size < w9.heap.size := by have := hb9.size; omega
        have q9 := fun o => cell_of hz9 o
        have f9 := fun o => frozen_of hz9 o
        clear hb9 hz9
        go_wp2_with fail
        refine bodyPost_ret (v := .tuple #[.agg #[.int .i64 0, .bool false, .int .i64 0, .string { data := #[] }, .slice none 0 0], .int .i64 4]) (by simp [results, Tryz.results24, go_sem, q9]) rfl (gives_flat (by rw [HN.out]; rfl) (by rw [HN.out]; rfl) (below_set5 HB9.out (Nat.le_refl _) _ _ _ _ _))
    · obtain rfl : k = l.length := by omega
      rw [List.take_length] at HT HAL
      have hbdT := HBD.out
      rw [← HT.out] at hbdT
      have hend := sum_end T hbdT
      have u1 : IntKind.i64.wrap (T % 18446744073709551616) = wrap64 (T % 18446744073709551616) := by rw [IntKind.wrap_i64]; unfold wrap64; omega
      have u2 : IntKind.u64.wrap (wrap64 (T % 18446744073709551616) / 9223372036854775808) = (wrap64 (T % 18446744073709551616) / 9223372036854775808) % 18446744073709551616 := by rw [IntKind.wrap_u64]
      by_cases hin : inI T
      · have HN : Hid (P = numP T) := by rw [Hid, HP.out, sumP, if_pos HAL.out, ← HT.out, if_pos hin]
        rw [decide_eq_true hin] at hend
        have hend2 : (T / 18446744073709551616 % 18446744073709551616 != (wrap64 (T % 18446744073709551616) / 9223372036854775808) % 18446744073709551616) = false := by rw [bne, hend]; rfl
        have u3 : wrap64 (T % 18446744073709551616) = T := by unfold inI at hin; unfold wrap64; omega
        have HU3 := Lib.hid u3
        clear hin hbdT u3
        go_wp2_with fail
        rw [HU3.out]
        refine (number_v T _).mono ?_
        rintro e w9 ⟨rfl, hb9⟩
        have HB9 := Lib.hid (below_down HB.out hb9 (Nat.le_refl _))
        have hz9 := (hb9.block w.heap.size z0).trans HZR.out
        have s9 : w.heap.size < w9.heap.size := by have := hb9.size; omega
        have q9 := fun o => cell_of hz9 o
        have f9 := fun o => frozen_of hz9 o
        clear hb9 hz9
        unfold numA
        go_wp2_with fail
        refine bodyPost_ret (v := .tuple #[.agg #[.int .i64 2, .bool false, .int .i64 T, .string { data := #[] }, .slice none 0 0], .int .i64 0]) (by simp [results, Tryz.results24, go_sem, q9]) rfl (gives_flat (by rw [HN.out]; rfl) (by rw [HN.out]; rfl) (below_set5 HB9.out (Nat.le_refl _) _ _ _ _ _))
      · have HN : Hid (P = noP 2) := by rw [Hid, HP.out, sumP, if_pos HAL.out, ← HT.out, if_neg hin]
        rw [decide_eq_false hin] at hend
        have hend2 : (T / 18446744073709551616 % 18446744073709551616 != (wrap64 (T % 18446744073709551616) / 9223372036854775808) % 18446744073709551616) = true := by rw [bne, hend]; rfl
        clear hin hbdT
        go_wp2_with fail
        refine (no_v 2 _).mono ?_
        rintro e w9 ⟨rfl, hb9⟩
        have HB9 := Lib.hid (below_down HB.out hb9 (Nat.le_refl _))
        have hz9 := (hb9.block w.heap.size z0).trans HZR.out
        have s9 : w.heap.size < w9.heap.size := by have := hb9.size; omega
        have q9 := fun o => cell_of hz9 o
        have f9 := fun o => frozen_of hz9 o
        clear hb9 hz9
        go_wp2_with fail
        refine bodyPost_ret (v := .tuple #[.agg #[.int .i64 0, .bool false, .int .i64 0, .string { data := #[] }, .slice none 0 0], .int .i64 2]) (by simp [results, Tryz.results24, go_sem, q9]) rfl (gives_flat (by rw [HN.out]; rfl) (by rw [HN.out]; rfl) (below_set5 HB9.out (Nat.le_refl _) _ _ _ _ _))
end Go.Proofs.YtaclkegoaajdgaaGreatDoor
