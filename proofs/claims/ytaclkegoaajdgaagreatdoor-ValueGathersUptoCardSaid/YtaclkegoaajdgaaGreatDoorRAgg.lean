/-
  proctorref1.Aggregate of every name, at every length: the same answer in plain words. Conditions: texts and lists shorter than 2^31.
-/
import Derived.Test.YtaclkegoaajdgaaGreatDoorRSorted
import Derived.Test.YtaclkegoaajdgaaGreatDoorMR
import Derived.Test.YtaclkegoaajdgaaGreatDoorME
namespace Go.Proofs.YtaclkegoaajdgaaGreatDoor
open Go Go.RowKit
set_option maxRecDepth 100000
set_option linter.unusedVariables false
/-- the reference's answer: a value whose lists the call has made, and an error's number -/
def RefP (w : World) (r : GV × Int) (e : Ending) (w' : World) : Prop := ∃ s, e = .returned (.tuple #[r.1.agg s, .int .i64 r.2]) ∧ isL w' w.heap.size w'.heap.size s r.1.l ∧ Below w.heap.size w w'
theorem refp_flat {w w' : World} {r : GV × Int} {e : Ending} (hl : r.1.l = []) (he : e = .returned (.tuple #[.agg #[.int .i64 r.1.k, .bool r.1.b, .int .i64 r.1.n, .string r.1.t, .slice none 0 0], .int .i64 r.2])) (hb : Below w.heap.size w w') : RefP w r e w' :=
  ⟨.slice none 0 0, he, by rw [hl]; exact isL_nil _ _, hb⟩
/-- behind the making of the answer's box -/
def ZB (w wr : World) : Prop := Below w.heap.size w wr ∧ w.heap.size < wr.heap.size ∧ wr.heap[w.heap.size]? = some (.cells #[.int .i64 0, .bool false, .int .i64 0, .string { data := #[] }, .slice none 0 0] 29 (0, 0))
theorem ZB.step {w wr w' : World} (h : ZB w wr) (hb : Below wr.heap.size wr w') : ZB w w' := ⟨below_down h.1 hb (Nat.le_refl _), Nat.lt_of_lt_of_le h.2.1 hb.size, (hb.block _ h.2.1).trans h.2.2⟩
theorem set5R {w : World} {b : Nat} {a0 a1 a2 a3 a4 : Value} {TT : TypeId} (h : w.heap[b]? = some (.cells #[a0, a1, a2, a3, a4] TT (0, 0))) (c0 c1 c2 c3 c4 : Value) : (((((w.setCell ⟨b, 0, none⟩ c0).setCell ⟨b, 1, none⟩ c1).setCell ⟨b, 2, none⟩ c2).setCell ⟨b, 3, none⟩ c3).setCell ⟨b, 4, none⟩ c4).heap[b]? = some (.cells #[c0, c1, c2, c3, c4] TT (0, 0)) :=
  heap_setCell2 (heap_setCell2 (heap_setCell2 (heap_setCell2 (heap_setCell2 h))))
theorem index_go (b : Nat) (W : World) (x : ByteArray) (hc : ∀ j, j < 5 → W.cell? ⟨b, j, none⟩ = some (.string (waysL.getD j ByteArray.empty))) :
    Calls Tryz.prog 27 #[.slice (some ⟨b, 0, none⟩) 5 5, .string x] W fun e w' => (∃ i : Int, e = .returned (.int .i64 i) ∧ decide (i < 0) = !(Lib.containsS waysL x)) ∧ w' = W := by
  have HC := Lib.hid hc
  clear hc
  go_enter Tryz.func27, Tryz.ntmps27
  go_wp2_with fail
  go_loopw [5] (fun i wr => ∃ k : Nat, k ≤ 5 ∧ i = .int .i64 k ∧ wr = W ∧ Hid (∀ j, j < k → waysL.getD j ByteArray.empty ≠ x)) (fun i _ => 5 - (intOf i).toNat)
  case atStart => exact ⟨0, Nat.zero_le _, rfl, rfl, Lib.hid fun j h => by omega⟩
  case round =>
    obtain ⟨k, hk, rfl, rfl, HNE⟩ := hrel
    by_cases hlt : k < 5
    · obtain ⟨y, hy⟩ : ∃ y, y = waysL.getD k ByteArray.empty := ⟨_, rfl⟩
      have hck := HC.out k hlt
      rw [← hy] at hck
      have HY := Lib.hid hy
      clear hy
      have k3 : (k : Int) < 5 := by omega
      cases hyx : (y.toList == x.toList)
      · have h2 : (y.toList != x.toList) = true := by rw [bne, hyx]; rfl
        have HYX := Lib.hid hyx
        go_wp2_with fail
        go_roundw
        case rel => exact ⟨k + 1, by omega, by go_num, by first | rfl | trivial, Lib.hid fun j hj => by
          by_cases e : j = k
          · subst e
            intro e2
            rw [← HY.out] at e2
            have := HYX.out
            rw [e2] at this
            simp at this
          · exact HNE.out j (by omega)⟩
        case measure => simp [intOf]; omega
      · have h2 : (y.toList != x.toList) = false := by rw [bne, hyx]; rfl
        have HYX := Lib.hid (show y = x from bytes_ext (by simpa using hyx))
        go_wp2_with fail
        go_ret
        refine ⟨⟨(k : Int), rfl, ?_⟩, rfl⟩
        have hin : Lib.containsS waysL x = true := (Lib.containsS_iff _ _).2 (by
          rw [← HYX.out, HY.out, List.getD, List.getElem?_eq_getElem (show k < waysL.length from hlt)]
          exact List.getElem_mem _)
        rw [hin]
        simp
    · obtain rfl : k = 5 := by omega
      go_wp2_with fail
      go_ret
      refine ⟨⟨-1, rfl, ?_⟩, rfl⟩
      cases hin : Lib.containsS waysL x
      · rfl
      · obtain ⟨j, hj, e⟩ := List.mem_iff_getElem.1 ((Lib.containsS_iff _ _).1 hin)
        exact absurd (by rw [List.getD, List.getElem?_eq_getElem hj]; exact e) (HNE.out j hj)
theorem rIndex_any (x : ByteArray) (w : World) (TT : TypeId) : Calls Tryz.prog 27 #[.slice (some ⟨w.heap.size, 0, none⟩) 5 5, .string x] (w.alloc (.cells #[.string { data := #[99, 111, 117, 110, 116] }, .string { data := #[115, 117, 109] }, .string { data := #[109, 105, 110] }, .string { data := #[109, 97, 120] }, .string { data := #[108, 105, 115, 116] }] TT)) fun e w' => (∃ i : Int, e = .returned (.int .i64 i) ∧ decide (i < 0) = !(Lib.containsS waysL x)) ∧ w' = w.alloc (.cells #[.string { data := #[99, 111, 117, 110, 116] }, .string { data := #[115, 117, 109] }, .string { data := #[109, 105, 110] }, .string { data := #[109, 97, 120] }, .string { data := #[108, 105, 115, 116] }] TT) :=
  index_go w.heap.size _ x fun j hj => by have := ways5 w TT j hj; rwa [Nat.zero_add] at this
set_option maxHeartbeats 800000 in
theorem rAggName_any (l : List GV) (hl : l.length ≤ 2147483647) (fl : fitL l) (x : ByteArray) (hx : Lib.containsS waysL x = false) (s : Value) (w : World) (B : Nat) (hB : B ≤ w.heap.size) (hs : isL w 0 B s l) : Calls Tryz.prog 8 #[.string x, s] w (RefP w (noP 1)) := by
  obtain ⟨a, c, rfl⟩ := isL_form hs
  have HX := Lib.hid hx
  clear hs fl hx
  go_enter Tryz.func8, Tryz.ntmps8
  go_upto_region 1 with fail
  obtain ⟨wA, hwA, hb0, h0, hsz⟩ := zero_boxN w 29
  rw [← hwA]
  have s0 : w.heap.size < wA.heap.size := by omega
  have HZ0 : Hid (ZB w wA) := ⟨hb0, s0, h0⟩
  have HW5 := Lib.hid (rIndex_any x wA 9)
  have hb5 : Below wA.heap.size wA (wA.alloc (.cells #[.string { data := #[99, 111, 117, 110, 116] }, .string { data := #[115, 117, 109] }, .string { data := #[109, 105, 110] }, .string { data := #[109, 97, 120] }, .string { data := #[108, 105, 115, 116] }] 9)) := (Below.refl _ _).alloc (Nat.le_refl _) _
  have HZ1 := Lib.hid (HZ0.out.step hb5)
  clear hwA hb0 h0 hsz hb5
  go_wp2_with fail
  refine HW5.out.mono ?_
  rintro e w1 ⟨⟨i, rfl, hi⟩, rfl⟩
  have hd : decide (i < 0) = true := by rw [hi, HX.out]; rfl
  have hn : i < 0 := by simpa using hd
  clear hi HW5
  go_wp2_with fail
  refine (rNo_any 1 _).mono ?_
  rintro e w2 ⟨rfl, hb2⟩
  have HZ2 := Lib.hid (HZ1.out.step hb2)
  have q2 := fun o => cell_of HZ2.out.2.2 o
  have f2 := fun o => frozen_of HZ2.out.2.2 o
  have s2 := HZ2.out.2.1
  clear hb2
  go_wp2_with fail
  refine bodyPost_ret (v := .tuple #[.agg #[.int .i64 0, .bool false, .int .i64 0, .string { data := #[] }, .slice none 0 0], .int .i64 1]) (by simp [results, Tryz.results8, go_sem, q2]) rfl ?_

  exact refp_flat (r := noP 1) rfl rfl (below_set5 HZ2.out.1 (Nat.le_refl _) _ _ _ _ _)
set_option maxHeartbeats 1600000 in
theorem rAgg_count (l : List GV) (hl : l.length ≤ 2147483647) (fl : fitL l) (s : Value) (w : World) (B : Nat) (hB : B ≤ w.heap.size) (hs : isL w 0 B s l) : Calls Tryz.prog 8 #[.string { data := #[99, 111, 117, 110, 116] }, s] w (RefP w (aggP ⟨#[99, 111, 117, 110, 116]⟩ l)) := by
  have hkn : Lib.containsS waysL ⟨#[99, 111, 117, 110, 116]⟩ = true := by decide
  have HRB : Hid (badL l = true → aggP ⟨#[99, 111, 117, 110, 116]⟩ l = noP 1) := fun h => by rw [aggP, if_pos (.inr h)]
  have HRG : Hid (badL l = false → aggP ⟨#[99, 111, 117, 110, 116]⟩ l = numP l.length) := fun h => by rw [aggP, if_neg (by simp [hkn, h]), if_pos rfl]
  obtain ⟨R, hR⟩ : ∃ R, R = aggP ⟨#[99, 111, 117, 110, 116]⟩ l := ⟨_, rfl⟩
  rw [← hR] at HRB HRG ⊢
  have HS := Lib.hid hs
  have HFL := Lib.hid fl
  have HL := Lib.hid hl
  have HSRT : Hid (badL l = false → ∀ w1, Below w.heap.size w w1 → Calls Tryz.prog 30 #[s] w1 fun e w' => (∃ v, e = .returned v ∧ isL w' w1.heap.size w'.heap.size v (sortG l)) ∧ Below w1.heap.size w1 w') := fun h w1 h1 => rSorted_any l hl fl (badL_may h) s w1 B (Nat.le_trans hB h1.size) (isL_below hs h1 hB)
  obtain ⟨a, c, bb, off, rfl, hc, ha, hA⟩ := isL_open hs
  have Ha := Lib.hid ha
  have HA := Lib.hid hA
  clear hs fl hR ha hA
  go_enter Tryz.func8, Tryz.ntmps8
  go_upto_region 1 with fail
  obtain ⟨wA, hwA, hb0, h0, hsz⟩ := zero_boxN w 29
  rw [← hwA]
  have s0 : w.heap.size < wA.heap.size := by omega
  have HZ0 : Hid (ZB w wA) := ⟨hb0, s0, h0⟩
  have HW5 := Lib.hid (rIndex_any ⟨#[99, 111, 117, 110, 116]⟩ wA 9)
  have hb5 : Below wA.heap.size wA (wA.alloc (.cells #[.string { data := #[99, 111, 117, 110, 116] }, .string { data := #[115, 117, 109] }, .string { data := #[109, 105, 110] }, .string { data := #[109, 97, 120] }, .string { data := #[108, 105, 115, 116] }] 9)) := (Below.refl _ _).alloc (Nat.le_refl _) _
  have HZ1 := Lib.hid (HZ0.out.step hb5)
  clear hwA hb0 h0 hsz hb5
  go_wp2_with fail
  refine HW5.out.mono ?_
  rintro e w1 ⟨⟨i, rfl, hi⟩, rfl⟩
  have hd : decide (i < 0) = false := by rw [hi, hkn]; rfl
  have hn : ¬ i < 0 := by simpa using hd
  clear hi HW5
  go_wp2_with fail
  go_loopw [6] (fun i wr => ∃ k : Nat, k ≤ l.length ∧ i = .int .i64 k ∧ Hid (ZB w wr) ∧ Hid (badL l = badL (l.drop k))) (fun i _ => l.length - (intOf i).toNat)
  case atStart => exact ⟨0, Nat.zero_le _, rfl, HZ1, rfl⟩
  case round =>
    obtain ⟨k, hk, rfl, HZ2, HR⟩ := hrel
    have s2 := HZ2.out.2.1
    by_cases hlt : k < l.length
    · obtain ⟨rfl, hb1, hb2⟩ := Ha.out (by omega)
      obtain ⟨ax, cx, x0, x1, x2, x3, x4, hsx⟩ := cellsV_slice (HA.out k hlt)
      have hg : ∀ o, wr.cell? ⟨bb, o, none⟩ = w.cell? ⟨bb, o, none⟩ := fun o => HZ2.out.1.cell (p := ⟨bb, o, none⟩) (Nat.lt_of_lt_of_le hb2 hB)
      have hz : bb < wr.heap.size := Nat.lt_of_lt_of_le hb2 (Nat.le_trans hB HZ2.out.1.size)
      have Hsx := Lib.hid hsx
      have HR2 : Hid (badL l = ((!vmay l[k]) || badL (l.drop (k + 1)))) := by
        rw [Hid, HR.out, List.drop_eq_getElem_cons hlt]; rfl
      clear hsx HR
      go_wp2_with fail
      refine (rCheck_any l[k] (fitL_mem HFL.out _ (List.getElem_mem hlt)) (.slice ax l[k].l.length cx) wr B (Nat.le_trans hB HZ2.out.1.size) (isL_below Hsx.out HZ2.out.1 hB)).mono ?_
      rintro e w3 ⟨rfl, hb3⟩
      have HZ3 := Lib.hid (HZ2.out.step hb3)
      have s3 := HZ3.out.2.1
      clear hb3 hg x0 x1 x2 x3 x4 Ha hz
      cases hv : vmay l[k]
      · have HV := Lib.hid hv
        clear hv
        go_wp2_with fail
        refine (rNo_any 1 _).mono ?_
        rintro e w4 ⟨rfl, hb4⟩
        have HZ4 := Lib.hid (HZ3.out.step hb4)
        have q4 := fun o => cell_of HZ4.out.2.2 o
        have f4 := fun o => frozen_of HZ4.out.2.2 o
        have s4 := HZ4.out.2.1
        clear hb4
        go_wp2_with fail
        refine bodyPost_ret (v := .tuple #[.agg #[.int .i64 0, .bool false, .int .i64 0, .string { data := #[] }, .slice none 0 0], .int .i64 1]) (by simp [results, Tryz.results8, go_sem, q4]) rfl ?_
        rw [HRB.out (by rw [HR2.out, HV.out]; rfl)]
        exact refp_flat (r := noP 1) rfl rfl (below_set5 HZ4.out.1 (Nat.le_refl _) _ _ _ _ _)
      · have HV := Lib.hid hv
        clear hv
        go_wp2_with fail
        go_roundw
        case rel => exact ⟨k + 1, by omega, by go_num, HZ3, by rw [Hid, HR2.out, HV.out]; rfl⟩
        case measure => simp [intOf]; omega
    · obtain rfl : k = l.length := by omega
      have hgood : badL l = false := by rw [HR.out, List.drop_of_length_le (Nat.le_refl _)]; rfl
      have HANS := Lib.hid (HRG.out hgood)
      have HST := Lib.hid (HSRT.out hgood wr HZ2.out.1)
      clear HRB HRG HSRT HR hgood
      go_wp2_with fail
      refine HST.out.mono ?_
      rintro e w3 ⟨⟨v3, rfl, hl3⟩, hb3⟩
      have HZ3 := Lib.hid (HZ2.out.step hb3)
      have HL3 := Lib.hid hl3
      have HLO := Lib.hid HZ2.out.2.1
      have hwr3 := hb3.size
      obtain ⟨a3, c3, rfl⟩ := isL_form hl3
      clear hb3 hl3 HST

      have hlm : (l.length : Int) < 9223372036854775808 := by have := HL.out; omega
      go_wp2_with fail
      refine (rInt_any _ _).mono ?_
      rintro e w4 ⟨rfl, hb4⟩
      have HZ4 := Lib.hid (HZ3.out.step hb4)
      have q4 := fun o => cell_of HZ4.out.2.2 o
      have f4 := fun o => frozen_of HZ4.out.2.2 o
      have s4 := HZ4.out.2.1
      clear hb4
      go_wp2_with fail
      refine bodyPost_ret (v := .tuple #[.agg #[.int .i64 2, .bool false, .int .i64 l.length, .string { data := #[] }, .slice none 0 0], .int .i64 0]) (by simp [results, Tryz.results8, go_sem, q4]) rfl ?_
      rw [HANS.out]
      exact refp_flat (r := numP l.length) rfl rfl (below_set5 HZ4.out.1 (Nat.le_refl _) _ _ _ _ _)
set_option maxHeartbeats 1600000 in
theorem rAgg_min (l : List GV) (hl : l.length ≤ 2147483647) (fl : fitL l) (s : Value) (w : World) (B : Nat) (hB : B ≤ w.heap.size) (hs : isL w 0 B s l) : Calls Tryz.prog 8 #[.string { data := #[109, 105, 110] }, s] w (RefP w (aggP ⟨#[109, 105, 110]⟩ l)) := by
  have hkn : Lib.containsS waysL ⟨#[109, 105, 110]⟩ = true := by decide
  have HRB : Hid (badL l = true → aggP ⟨#[109, 105, 110]⟩ l = noP 1) := fun h => by rw [aggP, if_pos (.inr h)]
  have HRG : Hid (badL l = false → aggP ⟨#[109, 105, 110]⟩ l = minP (sortG l)) := fun h => by rw [aggP, if_neg (by simp [hkn, h]), if_neg (by decide), if_neg (by decide), if_neg (by decide), if_pos rfl]
  obtain ⟨R, hR⟩ : ∃ R, R = aggP ⟨#[109, 105, 110]⟩ l := ⟨_, rfl⟩
  rw [← hR] at HRB HRG ⊢
  have HS := Lib.hid hs
  have HFL := Lib.hid fl
  have HL := Lib.hid hl
  have HSRT : Hid (badL l = false → ∀ w1, Below w.heap.size w w1 → Calls Tryz.prog 30 #[s] w1 fun e w' => (∃ v, e = .returned v ∧ isL w' w1.heap.size w'.heap.size v (sortG l)) ∧ Below w1.heap.size w1 w') := fun h w1 h1 => rSorted_any l hl fl (badL_may h) s w1 B (Nat.le_trans hB h1.size) (isL_below hs h1 hB)
  obtain ⟨a, c, bb, off, rfl, hc, ha, hA⟩ := isL_open hs
  have Ha := Lib.hid ha
  have HA := Lib.hid hA
  clear hs fl hR ha hA
  go_enter Tryz.func8, Tryz.ntmps8
  go_upto_region 1 with fail
  obtain ⟨wA, hwA, hb0, h0, hsz⟩ := zero_boxN w 29
  rw [← hwA]
  have s0 : w.heap.size < wA.heap.size := by omega
  have HZ0 : Hid (ZB w wA) := ⟨hb0, s0, h0⟩
  have HW5 := Lib.hid (rIndex_any ⟨#[109, 105, 110]⟩ wA 9)
  have hb5 : Below wA.heap.size wA (wA.alloc (.cells #[.string { data := #[99, 111, 117, 110, 116] }, .string { data := #[115, 117, 109] }, .string { data := #[109, 105, 110] }, .string { data := #[109, 97, 120] }, .string { data := #[108, 105, 115, 116] }] 9)) := (Below.refl _ _).alloc (Nat.le_refl _) _
  have HZ1 := Lib.hid (HZ0.out.step hb5)
  clear hwA hb0 h0 hsz hb5
  go_wp2_with fail
  refine HW5.out.mono ?_
  rintro e w1 ⟨⟨i, rfl, hi⟩, rfl⟩
  have hd : decide (i < 0) = false := by rw [hi, hkn]; rfl
  have hn : ¬ i < 0 := by simpa using hd
  clear hi HW5
  go_wp2_with fail
  go_loopw [6] (fun i wr => ∃ k : Nat, k ≤ l.length ∧ i = .int .i64 k ∧ Hid (ZB w wr) ∧ Hid (badL l = badL (l.drop k))) (fun i _ => l.length - (intOf i).toNat)
  case atStart => exact ⟨0, Nat.zero_le _, rfl, HZ1, rfl⟩
  case round =>
    obtain ⟨k, hk, rfl, HZ2, HR⟩ := hrel
    have s2 := HZ2.out.2.1
    by_cases hlt : k < l.length
    · obtain ⟨rfl, hb1, hb2⟩ := Ha.out (by omega)
      obtain ⟨ax, cx, x0, x1, x2, x3, x4, hsx⟩ := cellsV_slice (HA.out k hlt)
      have hg : ∀ o, wr.cell? ⟨bb, o, none⟩ = w.cell? ⟨bb, o, none⟩ := fun o => HZ2.out.1.cell (p := ⟨bb, o, none⟩) (Nat.lt_of_lt_of_le hb2 hB)
      have hz : bb < wr.heap.size := Nat.lt_of_lt_of_le hb2 (Nat.le_trans hB HZ2.out.1.size)
      have Hsx := Lib.hid hsx
      have HR2 : Hid (badL l = ((!vmay l[k]) || badL (l.drop (k + 1)))) := by
        rw [Hid, HR.out, List.drop_eq_getElem_cons hlt]; rfl
      clear hsx HR
      go_wp2_with fail
      refine (rCheck_any l[k] (fitL_mem HFL.out _ (List.getElem_mem hlt)) (.slice ax l[k].l.length cx) wr B (Nat.le_trans hB HZ2.out.1.size) (isL_below Hsx.out HZ2.out.1 hB)).mono ?_
      rintro e w3 ⟨rfl, hb3⟩
      have HZ3 := Lib.hid (HZ2.out.step hb3)
      have s3 := HZ3.out.2.1
      clear hb3 hg x0 x1 x2 x3 x4 Ha hz
      cases hv : vmay l[k]
      · have HV := Lib.hid hv
        clear hv
        go_wp2_with fail
        refine (rNo_any 1 _).mono ?_
        rintro e w4 ⟨rfl, hb4⟩
        have HZ4 := Lib.hid (HZ3.out.step hb4)
        have q4 := fun o => cell_of HZ4.out.2.2 o
        have f4 := fun o => frozen_of HZ4.out.2.2 o
        have s4 := HZ4.out.2.1
        clear hb4
        go_wp2_with fail
        refine bodyPost_ret (v := .tuple #[.agg #[.int .i64 0, .bool false, .int .i64 0, .string { data := #[] }, .slice none 0 0], .int .i64 1]) (by simp [results, Tryz.results8, go_sem, q4]) rfl ?_
        rw [HRB.out (by rw [HR2.out, HV.out]; rfl)]
        exact refp_flat (r := noP 1) rfl rfl (below_set5 HZ4.out.1 (Nat.le_refl _) _ _ _ _ _)
      · have HV := Lib.hid hv
        clear hv
        go_wp2_with fail
        go_roundw
        case rel => exact ⟨k + 1, by omega, by go_num, HZ3, by rw [Hid, HR2.out, HV.out]; rfl⟩
        case measure => simp [intOf]; omega
    · obtain rfl : k = l.length := by omega
      have hgood : badL l = false := by rw [HR.out, List.drop_of_length_le (Nat.le_refl _)]; rfl
      have HANS := Lib.hid (HRG.out hgood)
      have HST := Lib.hid (HSRT.out hgood wr HZ2.out.1)
      clear HRB HRG HSRT HR hgood
      go_wp2_with fail
      refine HST.out.mono ?_
      rintro e w3 ⟨⟨v3, rfl, hl3⟩, hb3⟩
      have HZ3 := Lib.hid (HZ2.out.step hb3)
      have HL3 := Lib.hid hl3
      have HLO := Lib.hid HZ2.out.2.1
      have hwr3 := hb3.size
      obtain ⟨a3, c3, rfl⟩ := isL_form hl3
      clear hb3 hl3 HST
      have x1 : (({ data := #[109, 105, 110] } : ByteArray) == { data := #[99, 111, 117, 110, 116] }) = false := by decide
      have x2 : (({ data := #[109, 105, 110] } : ByteArray) == { data := #[115, 117, 109] }) = false := by decide
      obtain ⟨m, hm⟩ : ∃ m, m = sortG l := ⟨_, rfl⟩
      rw [← hm] at HL3 HANS ⊢
      have hml : m.length = l.length := by rw [hm, sortG_len]
      have HLM := Lib.hid (show m.length ≤ 2147483647 by have := HL.out; omega)
      clear hm hml
      by_cases h0 : m.length = 0
      · have HP : Hid (minP m = noP 0) := by unfold minP; exact if_pos h0
        rw [h0]
        go_wp2_with fail
        refine (rNo_any 0 _).mono ?_
        rintro e w4 ⟨rfl, hb4⟩
        have HZ4 := Lib.hid (HZ3.out.step hb4)
        have q4 := fun o => cell_of HZ4.out.2.2 o
        have f4 := fun o => frozen_of HZ4.out.2.2 o
        have s4 := HZ4.out.2.1
        clear hb4
        go_wp2_with fail
        refine bodyPost_ret (v := .tuple #[.agg #[.int .i64 0, .bool false, .int .i64 0, .string { data := #[] }, .slice none 0 0], .int .i64 0]) (by simp [results, Tryz.results8, go_sem, q4]) rfl ?_
        rw [HANS.out, HP.out]
        exact refp_flat (r := noP 0) rfl rfl (below_set5 HZ4.out.1 (Nat.le_refl _) _ _ _ _ _)
      · have HP : Hid (minP m = (vat m (0), 0)) := by unfold minP; exact if_neg h0
        obtain ⟨a4, c4, b3, o3, e3, hc3, ha3, hA3⟩ := isL_open HL3.out
        have h00 : 0 < m.length := by omega
        obtain ⟨rfl, hb31, hb32⟩ : a3 = some ⟨b3, o3, none⟩ ∧ wr.heap.size ≤ b3 ∧ b3 < w3.heap.size := by
          have e5 := ha3 h00
          cases e3
          exact e5
        have hp : 0 < m.length := by omega
        obtain ⟨ax, cx, X0, X1, X2, X3, X4, hsx⟩ := cellsV_slice (hA3 (0) hp)
        rw [← vat_get hp] at X0 X1 X2 X3 X4 hsx
        obtain ⟨x, hx⟩ : ∃ x, x = vat m (0) := ⟨_, rfl⟩
        rw [← hx] at X0 X1 X2 X3 X4 hsx HP
        have HSX := Lib.hid hsx
        simp only [Nat.zero_mul, Nat.add_zero] at X0 X1 X2 X3 X4
        have y1 : (0 : Int) < (m.length : Int) := by omega
        have q3 := fun o => cell_of HZ3.out.2.2 o
        have f3 := fun o => frozen_of HZ3.out.2.2 o
        have s3 := HZ3.out.2.1
        have hb3lt := hb32
        clear hsx hx e3 hc3 ha3 hA3 hp
        go_wp2_with fail
        have q4 : ∀ o, (((((w3.setCell ⟨w.heap.size, 0, none⟩ (.int .i64 x.k)).setCell ⟨w.heap.size, 1, none⟩ (.bool x.b)).setCell ⟨w.heap.size, 2, none⟩ (.int .i64 x.n)).setCell ⟨w.heap.size, 3, none⟩ (.string x.t)).setCell ⟨w.heap.size, 4, none⟩ (.slice ax x.l.length cx)).cell? ⟨w.heap.size, o, none⟩ = (#[.int .i64 x.k, .bool x.b, .int .i64 x.n, .string x.t, .slice ax x.l.length cx] : Array Value)[o]? := fun o => cell_of (set5R HZ3.out.2.2 _ _ _ _ _) o
        refine bodyPost_ret (v := .tuple #[.agg #[.int .i64 x.k, .bool x.b, .int .i64 x.n, .string x.t, .slice ax x.l.length cx], .int .i64 0]) (by simp [results, Tryz.results8, go_sem, q4]) rfl ?_
        rw [HANS.out, HP.out]
        refine ⟨.slice ax x.l.length cx, rfl, isL_wide (isL_set5lo HSX.out HLO.out) (Nat.le_of_lt HLO.out) (by simp [World.setCell]), below_set5 HZ3.out.1 (Nat.le_refl _) _ _ _ _ _⟩
set_option maxHeartbeats 1600000 in
theorem rAgg_max (l : List GV) (hl : l.length ≤ 2147483647) (fl : fitL l) (s : Value) (w : World) (B : Nat) (hB : B ≤ w.heap.size) (hs : isL w 0 B s l) : Calls Tryz.prog 8 #[.string { data := #[109, 97, 120] }, s] w (RefP w (aggP ⟨#[109, 97, 120]⟩ l)) := by
  have hkn : Lib.containsS waysL ⟨#[109, 97, 120]⟩ = true := by decide
  have HRB : Hid (badL l = true → aggP ⟨#[109, 97, 120]⟩ l = noP 1) := fun h => by rw [aggP, if_pos (.inr h)]
  have HRG : Hid (badL l = false → aggP ⟨#[109, 97, 120]⟩ l = maxP (sortG l)) := fun h => by rw [aggP, if_neg (by simp [hkn, h]), if_neg (by decide), if_neg (by decide), if_neg (by decide), if_neg (by decide)]
  obtain ⟨R, hR⟩ : ∃ R, R = aggP ⟨#[109, 97, 120]⟩ l := ⟨_, rfl⟩
  rw [← hR] at HRB HRG ⊢
  have HS := Lib.hid hs
  have HFL := Lib.hid fl
  have HL := Lib.hid hl
  have HSRT : Hid (badL l = false → ∀ w1, Below w.heap.size w w1 → Calls Tryz.prog 30 #[s] w1 fun e w' => (∃ v, e = .returned v ∧ isL w' w1.heap.size w'.heap.size v (sortG l)) ∧ Below w1.heap.size w1 w') := fun h w1 h1 => rSorted_any l hl fl (badL_may h) s w1 B (Nat.le_trans hB h1.size) (isL_below hs h1 hB)
  obtain ⟨a, c, bb, off, rfl, hc, ha, hA⟩ := isL_open hs
  have Ha := Lib.hid ha
  have HA := Lib.hid hA
  clear hs fl hR ha hA
  go_enter Tryz.func8, Tryz.ntmps8
  go_upto_region 1 with fail
  obtain ⟨wA, hwA, hb0, h0, hsz⟩ := zero_boxN w 29
  rw [← hwA]
  have s0 : w.heap.size < wA.heap.size := by omega
  have HZ0 : Hid (ZB w wA) := ⟨hb0, s0, h0⟩
  have HW5 := Lib.hid (rIndex_any ⟨#[109, 97, 120]⟩ wA 9)
  have hb5 : Below wA.heap.size wA (wA.alloc (.cells #[.string { data := #[99, 111, 117, 110, 116] }, .string { data := #[115, 117, 109] }, .string { data := #[109, 105, 110] }, .string { data := #[109, 97, 120] }, .string { data := #[108, 105, 115, 116] }] 9)) := (Below.refl _ _).alloc (Nat.le_refl _) _
  have HZ1 := Lib.hid (HZ0.out.step hb5)
  clear hwA hb0 h0 hsz hb5
  go_wp2_with fail
  refine HW5.out.mono ?_
  rintro e w1 ⟨⟨i, rfl, hi⟩, rfl⟩
  have hd : decide (i < 0) = false := by rw [hi, hkn]; rfl
  have hn : ¬ i < 0 := by simpa using hd
  clear hi HW5
  go_wp2_with fail
  go_loopw [6] (fun i wr => ∃ k : Nat, k ≤ l.length ∧ i = .int .i64 k ∧ Hid (ZB w wr) ∧ Hid (badL l = badL (l.drop k))) (fun i _ => l.length - (intOf i).toNat)
  case atStart => exact ⟨0, Nat.zero_le _, rfl, HZ1, rfl⟩
  case round =>
    obtain ⟨k, hk, rfl, HZ2, HR⟩ := hrel
    have s2 := HZ2.out.2.1
    by_cases hlt : k < l.length
    · obtain ⟨rfl, hb1, hb2⟩ := Ha.out (by omega)
      obtain ⟨ax, cx, x0, x1, x2, x3, x4, hsx⟩ := cellsV_slice (HA.out k hlt)
      have hg : ∀ o, wr.cell? ⟨bb, o, none⟩ = w.cell? ⟨bb, o, none⟩ := fun o => HZ2.out.1.cell (p := ⟨bb, o, none⟩) (Nat.lt_of_lt_of_le hb2 hB)
      have hz : bb < wr.heap.size := Nat.lt_of_lt_of_le hb2 (Nat.le_trans hB HZ2.out.1.size)
      have Hsx := Lib.hid hsx
      have HR2 : Hid (badL l = ((!vmay l[k]) || badL (l.drop (k + 1)))) := by
        rw [Hid, HR.out, List.drop_eq_getElem_cons hlt]; rfl
      clear hsx HR
      go_wp2_with fail
      refine (rCheck_any l[k] (fitL_mem HFL.out _ (List.getElem_mem hlt)) (.slice ax l[k].l.length cx) wr B (Nat.le_trans hB HZ2.out.1.size) (isL_below Hsx.out HZ2.out.1 hB)).mono ?_
      rintro e w3 ⟨rfl, hb3⟩
      have HZ3 := Lib.hid (HZ2.out.step hb3)
      have s3 := HZ3.out.2.1
      clear hb3 hg x0 x1 x2 x3 x4 Ha hz
      cases hv : vmay l[k]
      · have HV := Lib.hid hv
        clear hv
        go_wp2_with fail
        refine (rNo_any 1 _).mono ?_
        rintro e w4 ⟨rfl, hb4⟩
        have HZ4 := Lib.hid (HZ3.out.step hb4)
        have q4 := fun o => cell_of HZ4.out.2.2 o
        have f4 := fun o => frozen_of HZ4.out.2.2 o
        have s4 := HZ4.out.2.1
        clear hb4
        go_wp2_with fail
        refine bodyPost_ret (v := .tuple #[.agg #[.int .i64 0, .bool false, .int .i64 0, .string { data := #[] }, .slice none 0 0], .int .i64 1]) (by simp [results, Tryz.results8, go_sem, q4]) rfl ?_
        rw [HRB.out (by rw [HR2.out, HV.out]; rfl)]
        exact refp_flat (r := noP 1) rfl rfl (below_set5 HZ4.out.1 (Nat.le_refl _) _ _ _ _ _)
      · have HV := Lib.hid hv
        clear hv
        go_wp2_with fail
        go_roundw
        case rel => exact ⟨k + 1, by omega, by go_num, HZ3, by rw [Hid, HR2.out, HV.out]; rfl⟩
        case measure => simp [intOf]; omega
    · obtain rfl : k = l.length := by omega
      have hgood : badL l = false := by rw [HR.out, List.drop_of_length_le (Nat.le_refl _)]; rfl
      have HANS := Lib.hid (HRG.out hgood)
      have HST := Lib.hid (HSRT.out hgood wr HZ2.out.1)
      clear HRB HRG HSRT HR hgood
      go_wp2_with fail
      refine HST.out.mono ?_
      rintro e w3 ⟨⟨v3, rfl, hl3⟩, hb3⟩
      have HZ3 := Lib.hid (HZ2.out.step hb3)
      have HL3 := Lib.hid hl3
      have HLO := Lib.hid HZ2.out.2.1
      have hwr3 := hb3.size
      obtain ⟨a3, c3, rfl⟩ := isL_form hl3
      clear hb3 hl3 HST
      have x1 : (({ data := #[109, 97, 120] } : ByteArray) == { data := #[99, 111, 117, 110, 116] }) = false := by decide
      have x2 : (({ data := #[109, 97, 120] } : ByteArray) == { data := #[115, 117, 109] }) = false := by decide
      have x3 : (({ data := #[109, 97, 120] } : ByteArray) == { data := #[109, 105, 110] }) = false := by decide
      obtain ⟨m, hm⟩ : ∃ m, m = sortG l := ⟨_, rfl⟩
      rw [← hm] at HL3 HANS ⊢
      have hml : m.length = l.length := by rw [hm, sortG_len]
      have HLM := Lib.hid (show m.length ≤ 2147483647 by have := HL.out; omega)
      clear hm hml
      by_cases h0 : m.length = 0
      · have HP : Hid (maxP m = noP 0) := by unfold maxP; exact if_pos h0
        rw [h0]
        go_wp2_with fail
        refine (rNo_any 0 _).mono ?_
        rintro e w4 ⟨rfl, hb4⟩
        have HZ4 := Lib.hid (HZ3.out.step hb4)
        have q4 := fun o => cell_of HZ4.out.2.2 o
        have f4 := fun o => frozen_of HZ4.out.2.2 o
        have s4 := HZ4.out.2.1
        clear hb4
        go_wp2_with fail
        refine bodyPost_ret (v := .tuple #[.agg #[.int .i64 0, .bool false, .int .i64 0, .string { data := #[] }, .slice none 0 0], .int .i64 0]) (by simp [results, Tryz.results8, go_sem, q4]) rfl ?_
        rw [HANS.out, HP.out]
        exact refp_flat (r := noP 0) rfl rfl (below_set5 HZ4.out.1 (Nat.le_refl _) _ _ _ _ _)
      · have HP : Hid (maxP m = (vat m (m.length - 1), 0)) := by unfold maxP; exact if_neg h0
        obtain ⟨a4, c4, b3, o3, e3, hc3, ha3, hA3⟩ := isL_open HL3.out
        have h00 : 0 < m.length := by omega
        obtain ⟨rfl, hb31, hb32⟩ : a3 = some ⟨b3, o3, none⟩ ∧ wr.heap.size ≤ b3 ∧ b3 < w3.heap.size := by
          have e5 := ha3 h00
          cases e3
          exact e5
        have hp : m.length - 1 < m.length := by omega
        obtain ⟨ax, cx, X0, X1, X2, X3, X4, hsx⟩ := cellsV_slice (hA3 (m.length - 1) hp)
        rw [← vat_get hp] at X0 X1 X2 X3 X4 hsx
        obtain ⟨x, hx⟩ : ∃ x, x = vat m (m.length - 1) := ⟨_, rfl⟩
        rw [← hx] at X0 X1 X2 X3 X4 hsx HP
        have HSX := Lib.hid hsx
        obtain ⟨k, hk⟩ : ∃ k, k = m.length - 1 := ⟨_, rfl⟩
        rw [← hk] at X0 X1 X2 X3 X4
        have k1 : (m.length : Int) - 1 = (k : Int) := by omega
        have k2 : IntKind.i64.wrap (k : Int) = (k : Int) := IntWalk.i64_in _ (by have := HLM.out; omega)
        have k3 : (k : Int) < (m.length : Int) := by omega
        have k4 : k < m.length := by omega
        clear hk
        have y1 : (0 : Int) < (m.length : Int) := by omega
        have q3 := fun o => cell_of HZ3.out.2.2 o
        have f3 := fun o => frozen_of HZ3.out.2.2 o
        have s3 := HZ3.out.2.1
        have hb3lt := hb32
        clear hsx hx e3 hc3 ha3 hA3 hp
        go_wp2_with fail
        have q4 : ∀ o, (((((w3.setCell ⟨w.heap.size, 0, none⟩ (.int .i64 x.k)).setCell ⟨w.heap.size, 1, none⟩ (.bool x.b)).setCell ⟨w.heap.size, 2, none⟩ (.int .i64 x.n)).setCell ⟨w.heap.size, 3, none⟩ (.string x.t)).setCell ⟨w.heap.size, 4, none⟩ (.slice ax x.l.length cx)).cell? ⟨w.heap.size, o, none⟩ = (#[.int .i64 x.k, .bool x.b, .int .i64 x.n, .string x.t, .slice ax x.l.length cx] : Array Value)[o]? := fun o => cell_of (set5R HZ3.out.2.2 _ _ _ _ _) o
        refine bodyPost_ret (v := .tuple #[.agg #[.int .i64 x.k, .bool x.b, .int .i64 x.n, .string x.t, .slice ax x.l.length cx], .int .i64 0]) (by simp [results, Tryz.results8, go_sem, q4]) rfl ?_
        rw [HANS.out, HP.out]
        refine ⟨.slice ax x.l.length cx, rfl, isL_wide (isL_set5lo HSX.out HLO.out) (Nat.le_of_lt HLO.out) (by simp [World.setCell]), below_set5 HZ3.out.1 (Nat.le_refl _) _ _ _ _ _⟩
set_option maxHeartbeats 1600000 in
theorem rAgg_list (l : List GV) (hl : l.length ≤ 2147483647) (fl : fitL l) (s : Value) (w : World) (B : Nat) (hB : B ≤ w.heap.size) (hs : isL w 0 B s l) : Calls Tryz.prog 8 #[.string { data := #[108, 105, 115, 116] }, s] w (RefP w (aggP ⟨#[108, 105, 115, 116]⟩ l)) := by
  have hkn : Lib.containsS waysL ⟨#[108, 105, 115, 116]⟩ = true := by decide
  have HRB : Hid (badL l = true → aggP ⟨#[108, 105, 115, 116]⟩ l = noP 1) := fun h => by rw [aggP, if_pos (.inr h)]
  have HRG : Hid (badL l = false → aggP ⟨#[108, 105, 115, 116]⟩ l = listP (sortG l)) := fun h => by rw [aggP, if_neg (by simp [hkn, h]), if_neg (by decide), if_neg (by decide), if_pos rfl]
  obtain ⟨R, hR⟩ : ∃ R, R = aggP ⟨#[108, 105, 115, 116]⟩ l := ⟨_, rfl⟩
  rw [← hR] at HRB HRG ⊢
  have HS := Lib.hid hs
  have HFL := Lib.hid fl
  have HL := Lib.hid hl
  have HSRT : Hid (badL l = false → ∀ w1, Below w.heap.size w w1 → Calls Tryz.prog 30 #[s] w1 fun e w' => (∃ v, e = .returned v ∧ isL w' w1.heap.size w'.heap.size v (sortG l)) ∧ Below w1.heap.size w1 w') := fun h w1 h1 => rSorted_any l hl fl (badL_may h) s w1 B (Nat.le_trans hB h1.size) (isL_below hs h1 hB)
  obtain ⟨a, c, bb, off, rfl, hc, ha, hA⟩ := isL_open hs
  have Ha := Lib.hid ha
  have HA := Lib.hid hA
  clear hs fl hR ha hA
  go_enter Tryz.func8, Tryz.ntmps8
  go_upto_region 1 with fail
  obtain ⟨wA, hwA, hb0, h0, hsz⟩ := zero_boxN w 29
  rw [← hwA]
  have s0 : w.heap.size < wA.heap.size := by omega
  have HZ0 : Hid (ZB w wA) := ⟨hb0, s0, h0⟩
  have HW5 := Lib.hid (rIndex_any ⟨#[108, 105, 115, 116]⟩ wA 9)
  have hb5 : Below wA.heap.size wA (wA.alloc (.cells #[.string { data := #[99, 111, 117, 110, 116] }, .string { data := #[115, 117, 109] }, .string { data := #[109, 105, 110] }, .string { data := #[109, 97, 120] }, .string { data := #[108, 105, 115, 116] }] 9)) := (Below.refl _ _).alloc (Nat.le_refl _) _
  have HZ1 := Lib.hid (HZ0.out.step hb5)
  clear hwA hb0 h0 hsz hb5
  go_wp2_with fail
  refine HW5.out.mono ?_
  rintro e w1 ⟨⟨i, rfl, hi⟩, rfl⟩
  have hd : decide (i < 0) = false := by rw [hi, hkn]; rfl
  have hn : ¬ i < 0 := by simpa using hd
  clear hi HW5
  go_wp2_with fail
  go_loopw [6] (fun i wr => ∃ k : Nat, k ≤ l.length ∧ i = .int .i64 k ∧ Hid (ZB w wr) ∧ Hid (badL l = badL (l.drop k))) (fun i _ => l.length - (intOf i).toNat)
  case atStart => exact ⟨0, Nat.zero_le _, rfl, HZ1, rfl⟩
  case round =>
    obtain ⟨k, hk, rfl, HZ2, HR⟩ := hrel
    have s2 := HZ2.out.2.1
    by_cases hlt : k < l.length
    · obtain ⟨rfl, hb1, hb2⟩ := Ha.out (by omega)
      obtain ⟨ax, cx, x0, x1, x2, x3, x4, hsx⟩ := cellsV_slice (HA.out k hlt)
      have hg : ∀ o, wr.cell? ⟨bb, o, none⟩ = w.cell? ⟨bb, o, none⟩ := fun o => HZ2.out.1.cell (p := ⟨bb, o, none⟩) (Nat.lt_of_lt_of_le hb2 hB)
      have hz : bb < wr.heap.size := Nat.lt_of_lt_of_le hb2 (Nat.le_trans hB HZ2.out.1.size)
      have Hsx := Lib.hid hsx
      have HR2 : Hid (badL l = ((!vmay l[k]) || badL (l.drop (k + 1)))) := by
        rw [Hid, HR.out, List.drop_eq_getElem_cons hlt]; rfl
      clear hsx HR
      go_wp2_with fail
      refine (rCheck_any l[k] (fitL_mem HFL.out _ (List.getElem_mem hlt)) (.slice ax l[k].l.length cx) wr B (Nat.le_trans hB HZ2.out.1.size) (isL_below Hsx.out HZ2.out.1 hB)).mono ?_
      rintro e w3 ⟨rfl, hb3⟩
      have HZ3 := Lib.hid (HZ2.out.step hb3)
      have s3 := HZ3.out.2.1
      clear hb3 hg x0 x1 x2 x3 x4 Ha hz
      cases hv : vmay l[k]
      · have HV := Lib.hid hv
        clear hv
        go_wp2_with fail
        refine (rNo_any 1 _).mono ?_
        rintro e w4 ⟨rfl, hb4⟩
        have HZ4 := Lib.hid (HZ3.out.step hb4)
        have q4 := fun o => cell_of HZ4.out.2.2 o
        have f4 := fun o => frozen_of HZ4.out.2.2 o
        have s4 := HZ4.out.2.1
        clear hb4
        go_wp2_with fail
        refine bodyPost_ret (v := .tuple #[.agg #[.int .i64 0, .bool false, .int .i64 0, .string { data := #[] }, .slice none 0 0], .int .i64 1]) (by simp [results, Tryz.results8, go_sem, q4]) rfl ?_
        rw [HRB.out (by rw [HR2.out, HV.out]; rfl)]
        exact refp_flat (r := noP 1) rfl rfl (below_set5 HZ4.out.1 (Nat.le_refl _) _ _ _ _ _)
      · have HV := Lib.hid hv
        clear hv
        go_wp2_with fail
        go_roundw
        case rel => exact ⟨k + 1, by omega, by go_num, HZ3, by rw [Hid, HR2.out, HV.out]; rfl⟩
        case measure => simp [intOf]; omega
    · obtain rfl : k = l.length := by omega
      have hgood : badL l = false := by rw [HR.out, List.drop_of_length_le (Nat.le_refl _)]; rfl
      have HANS := Lib.hid (HRG.out hgood)
      have HST := Lib.hid (HSRT.out hgood wr HZ2.out.1)
      clear HRB HRG HSRT HR hgood
      go_wp2_with fail
      refine HST.out.mono ?_
      rintro e w3 ⟨⟨v3, rfl, hl3⟩, hb3⟩
      have HZ3 := Lib.hid (HZ2.out.step hb3)
      have HL3 := Lib.hid hl3
      have HLO := Lib.hid HZ2.out.2.1
      have hwr3 := hb3.size
      obtain ⟨a3, c3, rfl⟩ := isL_form hl3
      clear hb3 hl3 HST
      have x1 : (({ data := #[108, 105, 115, 116] } : ByteArray) == { data := #[99, 111, 117, 110, 116] }) = false := by decide
      have x2 : (({ data := #[108, 105, 115, 116] } : ByteArray) == { data := #[115, 117, 109] }) = false := by decide
      have x3 : (({ data := #[108, 105, 115, 116] } : ByteArray) == { data := #[109, 105, 110] }) = false := by decide
      have x4 : (({ data := #[108, 105, 115, 116] } : ByteArray) == { data := #[109, 97, 120] }) = false := by decide
      obtain ⟨m, hm⟩ : ∃ m, m = sortG l := ⟨_, rfl⟩
      have hfm : fitL m := by rw [hm]; exact sortG_fit HFL.out
      rw [← hm] at HL3 HANS ⊢
      have hml : m.length ≤ 2147483647 := by rw [hm, sortG_len]; exact HL.out
      have fx : (GV.mk 4 false 0 ⟨#[]⟩ m).fit := by
        simp only [GV.fit]
        exact ⟨by omega, by omega, by omega, by omega, by decide, hml, hfm⟩
      have HCHK : Hid (∀ (w1 : World), isL w1 0 w1.heap.size (.slice a3 m.length c3) m → Calls Tryz.prog 29 #[.agg #[.int .i64 4, .bool false, .int .i64 0, .string { data := #[] }, .slice a3 m.length c3]] w1 fun e w' => e = .returned (.bool (vmay ⟨4, false, 0, ⟨#[]⟩, m⟩)) ∧ Below w1.heap.size w1 w') := fun w1 h => rCheck_any ⟨4, false, 0, ⟨#[]⟩, m⟩ fx _ w1 w1.heap.size (Nat.le_refl _) h
      obtain ⟨V, hV⟩ : ∃ V, V = vmay ⟨4, false, 0, ⟨#[]⟩, m⟩ := ⟨_, rfl⟩
      have HR0 : Hid (V = false → listP m = noP 2) := fun h => by rw [listP, ← hV, h]; rfl
      have HR1 : Hid (V = true → listP m = (⟨4, false, 0, ⟨#[]⟩, m⟩, 0)) := fun h => by rw [listP, ← hV, h]; rfl
      rw [← hV] at HCHK
      clear hm hfm hml fx hV
      go_upto_region 30 with fail
      obtain ⟨w4, hw4⟩ : ∃ v, v = w3.alloc (.cells #[.int .i64 4, .bool false, .int .i64 0, .string { data := #[] }, .slice a3 m.length c3] 29) := ⟨_, rfl⟩
      have hb4 : Below w3.heap.size w3 w4 := by rw [hw4]; exact (Below.refl _ _).alloc (Nat.le_refl _) _
      have hx4 : w4.heap[w3.heap.size]? = some (.cells #[.int .i64 4, .bool false, .int .i64 0, .string { data := #[] }, .slice a3 m.length c3] 29 (0, 0)) := by rw [hw4]; exact heap_last
      have hs4 : w4.heap.size = w3.heap.size + 1 := by rw [hw4]; simp
      rw [← hw4]
      have HZ4 := Lib.hid (HZ3.out.step hb4)
      have HL4 := Lib.hid (isL_wide (isL_below HL3.out hb4 (Nat.le_refl _)) (Nat.le_refl _) hb4.size)
      have HX4 := Lib.hid hx4
      have q4 := fun o => cell_of hx4 o
      have l4 : w3.heap.size < w4.heap.size := by omega
      have s3 := HZ3.out.2.1
      clear hb4 hx4 hs4 hw4
      go_wp2_with fail
      refine (HCHK.out w4 (isL_wide HL4.out (Nat.zero_le _) (Nat.le_refl _))).mono ?_
      rintro e w5 ⟨rfl, hb5⟩
      have HZ5 := Lib.hid (HZ4.out.step hb5)
      have HL5 := Lib.hid (isL_wide (isL_below HL4.out hb5 (Nat.le_refl _)) (Nat.le_refl _) hb5.size)
      have hx5 := (hb5.block w3.heap.size l4).trans HX4.out
      have q5 := fun o => cell_of hx5 o
      have l5 : w3.heap.size < w5.heap.size := Nat.lt_of_lt_of_le l4 hb5.size
      clear hb5 hx5 q4
      cases V
      · go_wp2_with fail
        refine (rNo_any 2 _).mono ?_
        rintro e w6 ⟨rfl, hb6⟩
        have HZ6 := Lib.hid (HZ5.out.step hb6)
        have q6 := fun o => cell_of HZ6.out.2.2 o
        have f6 := fun o => frozen_of HZ6.out.2.2 o
        have s6 := HZ6.out.2.1
        clear hb6
        go_wp2_with fail
        refine bodyPost_ret (v := .tuple #[.agg #[.int .i64 0, .bool false, .int .i64 0, .string { data := #[] }, .slice none 0 0], .int .i64 2]) (by simp [results, Tryz.results8, go_sem, q6]) rfl ?_
        rw [HANS.out, HR0.out (by first | rfl | trivial)]
        exact refp_flat (r := noP 2) rfl rfl (below_set5 HZ6.out.1 (Nat.le_refl _) _ _ _ _ _)
      · have f5 := fun o => frozen_of HZ5.out.2.2 o
        have p5 := fun o => cell_of HZ5.out.2.2 o
        have s5 := HZ5.out.2.1
        have n5 : w3.heap.size ≠ w.heap.size := by omega
        go_wp2_with fail
        have q6 : ∀ o, (((((w5.setCell ⟨w.heap.size, 0, none⟩ (.int .i64 4)).setCell ⟨w.heap.size, 1, none⟩ (.bool false)).setCell ⟨w.heap.size, 2, none⟩ (.int .i64 0)).setCell ⟨w.heap.size, 3, none⟩ (.string { data := #[] })).setCell ⟨w.heap.size, 4, none⟩ (.slice a3 m.length c3)).cell? ⟨w.heap.size, o, none⟩ = (#[.int .i64 4, .bool false, .int .i64 0, .string { data := #[] }, .slice a3 m.length c3] : Array Value)[o]? := fun o => cell_of (set5R HZ5.out.2.2 _ _ _ _ _) o
        refine bodyPost_ret (v := .tuple #[.agg #[.int .i64 4, .bool false, .int .i64 0, .string { data := #[] }, .slice a3 m.length c3], .int .i64 0]) (by simp [results, Tryz.results8, go_sem, q6]) rfl ?_
        rw [HANS.out, HR1.out (by first | rfl | trivial)]
        exact ⟨.slice a3 m.length c3, rfl, isL_wide (isL_set5lo HL5.out HLO.out) (Nat.le_of_lt HLO.out) (by simp [World.setCell]), below_set5 HZ5.out.1 (Nat.le_refl _) _ _ _ _ _⟩
theorem okK_no (n : Int) : (okK n).2 = decide (inI n) := by unfold okK; by_cases h : inI n <;> simp [h]
theorem okK_at (n : Int) (h : inI n) : (okK n).1 = n := by unfold okK; rw [if_pos h]
theorem sumP_whole {l : List GV} (h : ∀ x ∈ l, x.k = 2) : sumP l = wholeP (sumN l) := by
  unfold sumP wholeP
  rw [if_pos (List.all_eq_true.2 fun x hx => by simpa using h x hx)]
theorem sumP_type {l : List GV} {k : Nat} (hk : k < l.length) (h : l[k].k ≠ 2) : sumP l = noP 4 := by
  unfold sumP
  rw [if_neg]
  intro e
  exact h (by simpa using List.all_eq_true.1 e l[k] (List.getElem_mem hk))
theorem set2W {w : World} {g : Nat} {a b : Value} {TT : TypeId} (h : w.heap[g]? = some (.cells #[a, b] TT (0, 0))) (c d : Value) : ((w.setCell ⟨g, 0, none⟩ c).setCell ⟨g, 1, none⟩ d).heap[g]? = some (.cells #[c, d] TT (0, 0)) := heap_setCell2 (heap_setCell2 h)
theorem ZB.set2 {w wr : World} {g : Nat} (h : ZB w wr) (hg : w.heap.size < g) (c d : Value) : ZB w ((wr.setCell ⟨g, 0, none⟩ c).setCell ⟨g, 1, none⟩ d) :=
  ⟨(h.1.setCell (Nat.le_of_lt hg) _).setCell (Nat.le_of_lt hg) _, by simpa [World.setCell] using h.2.1, by rw [Below.heap_setCell _ _ _ _ (show w.heap.size ≠ g by omega), Below.heap_setCell _ _ _ _ (show w.heap.size ≠ g by omega)]; exact h.2.2⟩
set_option maxHeartbeats 1600000 in
theorem rAgg_sum (l : List GV) (hl : l.length ≤ 2147483647) (fl : fitL l) (s : Value) (w : World) (B : Nat) (hB : B ≤ w.heap.size) (hs : isL w 0 B s l) : Calls Tryz.prog 8 #[.string { data := #[115, 117, 109] }, s] w (RefP w (aggP ⟨#[115, 117, 109]⟩ l)) := by
  have hkn : Lib.containsS waysL ⟨#[115, 117, 109]⟩ = true := by decide
  have HRB : Hid (badL l = true → aggP ⟨#[115, 117, 109]⟩ l = noP 1) := fun h => by rw [aggP, if_pos (.inr h)]
  have HRG : Hid (badL l = false → aggP ⟨#[115, 117, 109]⟩ l = sumP l) := fun h => by rw [aggP, if_neg (by simp [hkn, h]), if_neg (by decide), if_pos rfl]
  obtain ⟨R, hR⟩ : ∃ R, R = aggP ⟨#[115, 117, 109]⟩ l := ⟨_, rfl⟩
  rw [← hR] at HRB HRG ⊢
  have HS := Lib.hid hs
  have HFL := Lib.hid fl
  have HL := Lib.hid hl
  have HSRT : Hid (badL l = false → ∀ w1, Below w.heap.size w w1 → Calls Tryz.prog 30 #[s] w1 fun e w' => (∃ v, e = .returned v ∧ isL w' w1.heap.size w'.heap.size v (sortG l)) ∧ Below w1.heap.size w1 w') := fun h w1 h1 => rSorted_any l hl fl (badL_may h) s w1 B (Nat.le_trans hB h1.size) (isL_below hs h1 hB)
  obtain ⟨a, c, bb, off, rfl, hc, ha, hA⟩ := isL_open hs
  have Ha := Lib.hid ha
  have HA := Lib.hid hA
  clear hs fl hR ha hA
  go_enter Tryz.func8, Tryz.ntmps8
  go_upto_region 1 with fail
  obtain ⟨wA, hwA, hb0, h0, hsz⟩ := zero_boxN w 29
  rw [← hwA]
  have s0 : w.heap.size < wA.heap.size := by omega
  have HZ0 : Hid (ZB w wA) := ⟨hb0, s0, h0⟩
  have HW5 := Lib.hid (rIndex_any ⟨#[115, 117, 109]⟩ wA 9)
  have hb5 : Below wA.heap.size wA (wA.alloc (.cells #[.string { data := #[99, 111, 117, 110, 116] }, .string { data := #[115, 117, 109] }, .string { data := #[109, 105, 110] }, .string { data := #[109, 97, 120] }, .string { data := #[108, 105, 115, 116] }] 9)) := (Below.refl _ _).alloc (Nat.le_refl _) _
  have HZ1 := Lib.hid (HZ0.out.step hb5)
  clear hwA hb0 h0 hsz hb5
  go_wp2_with fail
  refine HW5.out.mono ?_
  rintro e w1 ⟨⟨i, rfl, hi⟩, rfl⟩
  have hd : decide (i < 0) = false := by rw [hi, hkn]; rfl
  have hn : ¬ i < 0 := by simpa using hd
  clear hi HW5
  go_wp2_with fail
  go_loopw [6] (fun i wr => ∃ k : Nat, k ≤ l.length ∧ i = .int .i64 k ∧ Hid (ZB w wr) ∧ Hid (badL l = badL (l.drop k))) (fun i _ => l.length - (intOf i).toNat)
  case atStart => exact ⟨0, Nat.zero_le _, rfl, HZ1, rfl⟩
  case round =>
    obtain ⟨k, hk, rfl, HZ2, HR⟩ := hrel
    have s2 := HZ2.out.2.1
    by_cases hlt : k < l.length
    · obtain ⟨rfl, hb1, hb2⟩ := Ha.out (by omega)
      obtain ⟨ax, cx, x0, x1, x2, x3, x4, hsx⟩ := cellsV_slice (HA.out k hlt)
      have hg : ∀ o, wr.cell? ⟨bb, o, none⟩ = w.cell? ⟨bb, o, none⟩ := fun o => HZ2.out.1.cell (p := ⟨bb, o, none⟩) (Nat.lt_of_lt_of_le hb2 hB)
      have hz : bb < wr.heap.size := Nat.lt_of_lt_of_le hb2 (Nat.le_trans hB HZ2.out.1.size)
      have Hsx := Lib.hid hsx
      have HR2 : Hid (badL l = ((!vmay l[k]) || badL (l.drop (k + 1)))) := by
        rw [Hid, HR.out, List.drop_eq_getElem_cons hlt]; rfl
      clear hsx HR
      go_wp2_with fail
      refine (rCheck_any l[k] (fitL_mem HFL.out _ (List.getElem_mem hlt)) (.slice ax l[k].l.length cx) wr B (Nat.le_trans hB HZ2.out.1.size) (isL_below Hsx.out HZ2.out.1 hB)).mono ?_
      rintro e w3 ⟨rfl, hb3⟩
      have HZ3 := Lib.hid (HZ2.out.step hb3)
      have s3 := HZ3.out.2.1
      clear hb3 hg x0 x1 x2 x3 x4 Ha hz
      cases hv : vmay l[k]
      · have HV := Lib.hid hv
        clear hv
        go_wp2_with fail
        refine (rNo_any 1 _).mono ?_
        rintro e w4 ⟨rfl, hb4⟩
        have HZ4 := Lib.hid (HZ3.out.step hb4)
        have q4 := fun o => cell_of HZ4.out.2.2 o
        have f4 := fun o => frozen_of HZ4.out.2.2 o
        have s4 := HZ4.out.2.1
        clear hb4
        go_wp2_with fail
        refine bodyPost_ret (v := .tuple #[.agg #[.int .i64 0, .bool false, .int .i64 0, .string { data := #[] }, .slice none 0 0], .int .i64 1]) (by simp [results, Tryz.results8, go_sem, q4]) rfl ?_
        rw [HRB.out (by rw [HR2.out, HV.out]; rfl)]
        exact refp_flat (r := noP 1) rfl rfl (below_set5 HZ4.out.1 (Nat.le_refl _) _ _ _ _ _)
      · have HV := Lib.hid hv
        clear hv
        go_wp2_with fail
        go_roundw
        case rel => exact ⟨k + 1, by omega, by go_num, HZ3, by rw [Hid, HR2.out, HV.out]; rfl⟩
        case measure => simp [intOf]; omega
    · obtain rfl : k = l.length := by omega
      have hgood : badL l = false := by rw [HR.out, List.drop_of_length_le (Nat.le_refl _)]; rfl
      have HANS := Lib.hid (HRG.out hgood)
      have HST := Lib.hid (HSRT.out hgood wr HZ2.out.1)
      clear HRB HRG HSRT HR hgood
      go_wp2_with fail
      refine HST.out.mono ?_
      rintro e w3 ⟨⟨v3, rfl, hl3⟩, hb3⟩
      have HZ3 := Lib.hid (HZ2.out.step hb3)
      have HL3 := Lib.hid hl3
      have HLO := Lib.hid HZ2.out.2.1
      have hwr3 := hb3.size
      obtain ⟨a3, c3, rfl⟩ := isL_form hl3
      clear hb3 hl3 HST
      have x1 : (({ data := #[115, 117, 109] } : ByteArray) == { data := #[99, 111, 117, 110, 116] }) = false := by decide
      go_upto_region 14 with fail
      obtain ⟨w4, hw4⟩ : ∃ v, v = w3.alloc (.cells #[.int .i64 0, .int .i64 0] 54) := ⟨_, rfl⟩
      have hb4 : Below w3.heap.size w3 w4 := by rw [hw4]; exact (Below.refl _ _).alloc (Nat.le_refl _) _
      have hx4 : w4.heap[w3.heap.size]? = some (.cells #[.int .i64 0, .int .i64 0] 54 (0, 0)) := by rw [hw4]; exact heap_last
      rw [← hw4]
      obtain ⟨bw, hbw⟩ : ∃ b, b = w3.heap.size := ⟨_, rfl⟩
      rw [← hbw] at hx4 ⊢
      have HZ4 := Lib.hid (HZ3.out.step hb4)
      have HX4 := Lib.hid hx4
      have hwbw : w.heap.size < bw := by rw [hbw]; exact HZ3.out.2.1
      have HN4 : Hid ((0 : Int) * 4294967296 + 0 = sumN (l.take 0) ∧ (0 : Int) ≤ 0 ∧ (0 : Int) < 4294967296 ∧ -(2147483650 * ((0 : Nat) : Int)) ≤ 0 ∧ (0 : Int) ≤ 2147483650 * ((0 : Nat) : Int)) := ⟨rfl, by omega, by omega, by omega, by omega⟩
      clear hw4 hb4 hx4 hbw hwr3
      go_wp2_with fail
      go_loopw [9] (fun i wq => ∃ (k : Nat) (hi lo : Int), k ≤ l.length ∧ i = .int .i64 k ∧ Hid (ZB w wq) ∧ Hid (wq.heap[bw]? = some (.cells #[.int .i64 hi, .int .i64 lo] 54 (0, 0))) ∧ Hid (hi * 4294967296 + lo = sumN (l.take k) ∧ 0 ≤ lo ∧ lo < 4294967296 ∧ -(2147483650 * (k : Int)) ≤ hi ∧ hi ≤ 2147483650 * (k : Int)) ∧ Hid (∀ j (h : j < l.length), j < k → l[j].k = 2)) (fun i _ => l.length - (intOf i).toNat)
      case atStart => exact ⟨0, 0, 0, Nat.zero_le _, rfl, HZ4, HX4, HN4, Lib.hid fun j h1 h2 => by omega⟩
      case round =>
        obtain ⟨k, hi, lo, hk, rfl, HZQ, HXQ, HNQ, HKQ⟩ := hrel
        have sq := HZQ.out.2.1
        have lbw : bw < wr.heap.size := (Array.getElem?_eq_some_iff.1 HXQ.out).1
        by_cases hlt : k < l.length
        · obtain ⟨rfl, hb1, hb2⟩ := Ha.out (by omega)
          obtain ⟨ax, cx, x0, x1, x2, x3, x4, hsx⟩ := cellsV_slice (HA.out k hlt)
          have hg : ∀ o, wr.cell? ⟨bb, o, none⟩ = w.cell? ⟨bb, o, none⟩ := fun o => HZQ.out.1.cell (p := ⟨bb, o, none⟩) (Nat.lt_of_lt_of_le hb2 hB)
          have hz : bb < wr.heap.size := Nat.lt_of_lt_of_le hb2 (Nat.le_trans hB HZQ.out.1.size)
          have HFK := Lib.hid (fit_open (fitL_mem HFL.out _ (List.getElem_mem hlt)))
          clear hsx
          by_cases hk2 : l[k].k = 2
          rotate_left
          · have h1 : (l[k].k == 2) = false := by simpa using hk2
            have h2 : (l[k].k != 2) = true := by rw [bne, h1]; rfl
            have HSP := Lib.hid (sumP_type hlt hk2)
            clear x1 x2 x3 x4
            go_wp2_with fail
            refine (rNo_any 4 _).mono ?_
            rintro e w6 ⟨rfl, hb6⟩
            have HZ6 := Lib.hid (HZQ.out.step hb6)
            have q6 := fun o => cell_of HZ6.out.2.2 o
            have f6 := fun o => frozen_of HZ6.out.2.2 o
            have s6 := HZ6.out.2.1
            clear hb6
            go_wp2_with fail
            refine bodyPost_ret (v := .tuple #[.agg #[.int .i64 0, .bool false, .int .i64 0, .string { data := #[] }, .slice none 0 0], .int .i64 4]) (by simp [results, Tryz.results8, go_sem, q6]) rfl ?_
            rw [HANS.out, HSP.out]
            exact refp_flat (r := noP 4) rfl rfl (below_set5 HZ6.out.1 (Nat.le_refl _) _ _ _ _ _)
          obtain ⟨nk, hnk⟩ : ∃ y, y = l[k].n := ⟨_, rfl⟩
          have HK2 := Lib.hid hk2
          have HNK := Lib.hid hnk
          rw [hk2] at x0
          rw [← hnk] at x2
          have qw := fun o => cell_of HXQ.out o
          clear hk2 hnk x1 x3 x4
          go_wp2_with fail
          go_still_tail 6, (by kernel_rfl)
          change wpList _ _ _ _ _ wr.drew
          obtain ⟨wd, hwd⟩ : ∃ v, v = wr.drew := ⟨_, rfl⟩
          have hbd : Below wr.heap.size wr wd := by rw [hwd]; exact (Below.refl _ _).drew
          have HZD := Lib.hid (HZQ.out.step hbd)
          have HXD := Lib.hid ((hbd.block bw lbw).trans HXQ.out)
          rw [← hwd]
          clear hwd hbd qw x0 x2 hg hz
          go_wp2_with fail
          refine (wadd_any hi lo nk (by have := HNQ.out; have := HL.out; omega) ⟨HNQ.out.2.1, HNQ.out.2.2.1⟩ (by have := HFK.out; have := HNK.out; unfold inI; omega) wd).mono ?_
          rintro e we ⟨⟨hi', lo', rfl, e1, e2, e3, e4, e5⟩, hbe⟩
          have HZE := Lib.hid (HZD.out.step hbe)
          have lbd : bw < wd.heap.size := (Array.getElem?_eq_some_iff.1 HXD.out).1
          have hxe := (hbe.block bw lbd).trans HXD.out
          have HXE := Lib.hid hxe
          have fe := fun o => frozen_of hxe o
          have qe := fun o => cell_of hxe o
          have lbe : bw < we.heap.size := Nat.lt_of_lt_of_le lbd hbe.size
          have HNE : Hid (hi' * 4294967296 + lo' = sumN (l.take (k + 1)) ∧ 0 ≤ lo' ∧ lo' < 4294967296 ∧ -(2147483650 * ((k + 1 : Nat) : Int)) ≤ hi' ∧ hi' ≤ 2147483650 * ((k + 1 : Nat) : Int)) := by
            have hq := HNQ.out
            have hn := HNK.out
            rw [Hid, sumN_take l k hlt, ← hn]
            omega
          clear hbe hxe e1 e2 e3 e4 e5
          go_wp2_with fail
          go_roundw
          case rel =>
            refine ⟨k + 1, hi', lo', by omega, by go_num, HZE.out.set2 hwbw _ _, set2W HXE.out _ _, HNE, Lib.hid fun j h1 h2 => ?_⟩
            by_cases e : j = k
            · subst e; exact HK2.out
            · exact HKQ.out j h1 (by omega)
          case measure => simp [intOf]; omega
        · obtain rfl : k = l.length := by omega
          have HSP : Hid (sumP l = wholeP (sumN l)) := sumP_whole fun x hx => by
            obtain ⟨j, hj, e⟩ := List.mem_iff_getElem.1 hx
            rw [← e]
            exact HKQ.out j hj hj
          have HSN : Hid (hi * 4294967296 + lo = sumN l) := by
            have := HNQ.out.1
            rwa [List.take_of_length_le (Nat.le_refl _)] at this
          have qw := fun o => cell_of HXQ.out o
          go_wp2_with fail
          refine (wfits_any hi lo ⟨HNQ.out.2.1, HNQ.out.2.2.1⟩ wr).mono ?_
          rintro e we ⟨rfl, hbe⟩
          have HZE := Lib.hid (HZQ.out.step hbe)
          clear hbe qw
          go_wp2_with fail
          refine (whole_any (sumN l) _ _ (by rw [HSN.out]; exact okK_no _) (fun h => by rw [HSN.out]; exact okK_at _ h) we).mono ?_
          rintro e w4 ⟨rfl, hbf⟩
          have HZ4 := Lib.hid (HZE.out.step hbf)
          have q4 := fun o => cell_of HZ4.out.2.2 o
          have f4 := fun o => frozen_of HZ4.out.2.2 o
          have s4 := HZ4.out.2.1
          clear hbf
          go_wp2_with fail
          refine bodyPost_ret (v := .tuple #[.agg #[.int .i64 (wholeP (sumN l)).1.k, .bool (wholeP (sumN l)).1.b, .int .i64 (wholeP (sumN l)).1.n, .string (wholeP (sumN l)).1.t, .slice none 0 0], .int .i64 (wholeP (sumN l)).2]) (by simp [results, Tryz.results8, go_sem, q4]) rfl ?_
          rw [HANS.out, HSP.out]
          exact refp_flat (r := wholeP (sumN l)) (wholeP_l _) rfl (below_set5 HZ4.out.1 (Nat.le_refl _) _ _ _ _ _)
/-- proctorref1.Aggregate, whatever the name is of the seven -/
theorem rAgg_all (x : ByteArray) (hx : x = ⟨#[99, 111, 117, 110, 116]⟩ ∨ x = ⟨#[115, 117, 109]⟩ ∨ x = ⟨#[109, 105, 110]⟩ ∨ x = ⟨#[109, 97, 120]⟩ ∨ x = ⟨#[108, 105, 115, 116]⟩ ∨ Lib.containsS waysL x = false) (l : List GV) (hl : l.length ≤ 2147483647) (fl : fitL l) (s : Value) (w : World) (B : Nat) (hB : B ≤ w.heap.size) (hs : isL w 0 B s l) : Calls Tryz.prog 8 #[.string x, s] w (RefP w (aggP x l)) := by
  rcases hx with rfl | rfl | rfl | rfl | rfl | h
  · exact rAgg_count l hl fl s w B hB hs
  · exact rAgg_sum l hl fl s w B hB hs
  · exact rAgg_min l hl fl s w B hB hs
  · exact rAgg_max l hl fl s w B hB hs
  · exact rAgg_list l hl fl s w B hB hs
  · rw [aggP, if_pos (.inl h)]
    exact rAggName_any l hl fl x h s w B hB hs
end Go.Proofs.YtaclkegoaajdgaaGreatDoor
