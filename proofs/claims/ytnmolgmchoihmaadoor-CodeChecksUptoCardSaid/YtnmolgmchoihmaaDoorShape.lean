/-
  What code.shape tells of an instruction. Conditions: texts and lists shorter than 2^31.
-/
import Derived.Test.YtnmolgmchoihmaaDoorCheckP
import Derived.Test.YtnmolgmchoihmaaDoorWriter
import Derived.Test.YtnmolgmchoihmaaDoorMayE
namespace Go.Proofs.YtnmolgmchoihmaaDoor
open Go Go.RowKit
set_option maxRecDepth 100000
set_option linter.unusedVariables false
/-- what the switch leaves: the instruction, bare but for what it bears -/
def bareOf (x : GI) : GI := ⟨x.op, if x.op = 4 ∨ x.op = 5 ∨ x.op = 7 ∨ x.op = 8 then x.arg else 0, if x.op = 1 ∨ x.op = 2 ∨ x.op = 3 then x.s else { data := #[] }, if x.op = 0 then x.v else zeroV⟩
def swS (x : GI) : Bool := if x.op = 0 then vmay x.v else if x.op = 1 ∨ x.op = 2 ∨ x.op = 3 then nameB x.s.data.toList else if x.op = 4 then decide (0 ≤ x.arg) && decide (x.arg ≤ 4096) else if x.op = 5 then decide (0 < takesOf x.arg) else decide (x.op = 6 ∨ x.op = 7 ∨ x.op = 8)
theorem okOf_sw (x : GI) : okOf x = (swS x && ((x.arg == (bareOf x).arg) && ((x.s.toList == (bareOf x).s.toList) && same x.v (bareOf x).v))) := by
  have e0 : ({ data := #[] } : ByteArray).toList = [] := by rw [toList_nil]; rfl
  have hv : same x.v x.v = true := (same_iff _ _).2 rfl
  unfold okOf swS bareOf
  dsimp only
  have ht := takesOf_cases x.arg
  generalize hk : takesOf x.arg = tk at *
  generalize x.op = op at *
  have h : op = 0 ∨ op = 1 ∨ op = 2 ∨ op = 3 ∨ op = 4 ∨ op = 5 ∨ op = 6 ∨ op = 7 ∨ op = 8 ∨ (op ≠ 0 ∧ op ≠ 1 ∧ op ≠ 2 ∧ op ≠ 3 ∧ op ≠ 4 ∧ op ≠ 5 ∧ op ≠ 6 ∧ op ≠ 7 ∧ op ≠ 8) := by omega
  generalize hs0 : same x.v zeroV = s0
  generalize hs1 : nameB x.s.data.toList = s1
  generalize hs2 : (x.s.toList == []) = s2
  generalize hs3 : vmay x.v = s3
  rw [Bool.eq_iff_iff]
  rcases h with rfl | rfl | rfl | rfl | rfl | rfl | rfl | rfl | rfl | ⟨h1, h2, h3, h4, h5, h6, h7, h8, h9⟩
  all_goals (cases s0 <;> cases s1 <;> cases s2 <;> cases s3 <;> simp_all)
  all_goals try omega
set_option maxHeartbeats 3200000 in
theorem shape_any (x : GI) (fv : x.v.fit) (fs : x.s.size ≤ 2147483647) (s : Value) (w : World) (B : Nat) (hB : B ≤ w.heap.size) (hs : isL w 0 B s x.v.l) :
    Calls Tryd.prog 32 #[x.agg s] w fun e w' => e = .returned (.tuple #[.int .i64 (offOf x), .int .i64 (leftOf x), .bool (okOf x)]) ∧ Below w.heap.size w w' := by
  obtain ⟨a, c, rfl⟩ := isL_form hs
  have HS := Lib.hid hs
  have FV := Lib.hid fv
  have HE := Lib.hid (okOf_sw x)
  clear hs fv
  simp only [GI.agg]
  go_enter Tryd.func32, Tryd.ntmps32
  go_upto_block 0 with fail
  obtain ⟨wA, hwA⟩ : ∃ wA, wA = (w.alloc (.cells #[.int .i64 x.op, .int .i64 x.arg, .string x.s, .int .i64 x.v.k, .bool x.v.b, .int .i64 x.v.n, .string x.v.t, .slice a x.v.l.length c] 40)).alloc (.cells #[.int .i64 x.op, .int .i64 0, .string { data := #[] }, .int .i64 0, .bool false, .int .i64 0, .string { data := #[] }, .slice none 0 0] 40) := ⟨_, rfl⟩
  have hkA : Below w.heap.size w wA := by rw [hwA]; exact ((Below.refl w.heap.size w).alloc (Nat.le_refl _) _).alloc (by simp) _
  have hxA : wA.heap[w.heap.size]? = some (.cells #[.int .i64 x.op, .int .i64 x.arg, .string x.s, .int .i64 x.v.k, .bool x.v.b, .int .i64 x.v.n, .string x.v.t, .slice a x.v.l.length c] 40 (0, 0)) := by rw [hwA]; exact heap_two
  have hyA : wA.heap[w.heap.size + 1]? = some (.cells #[.int .i64 x.op, .int .i64 0, .string { data := #[] }, .int .i64 0, .bool false, .int .i64 0, .string { data := #[] }, .slice none 0 0] 40 (0, 0)) := by rw [hwA]; exact heap_second
  have hzA : wA.heap.size = w.heap.size + 2 := by rw [hwA]; simp
  rw [← hwA]
  clear hwA
  have HA := Lib.hid (And.intro hkA (And.intro hxA hyA))
  have qx := fun o => cell_of hxA o
  have qy := fun o => cell_of hyA o
  have fy := fun o => frozen_of hyA o
  clear hkA hxA hyA
  have hz1 : w.heap.size < wA.heap.size := by omega
  have hz2 : w.heap.size + 1 < wA.heap.size := by omega
  go_cut [2, 3, 4] (fun s2 s3 s4 wx => s2 = .int .i64 (offOf x) ∧ s3 = .int .i64 (leftOf x) ∧ s4 = .bool (swS x) ∧ Below w.heap.size w wx ∧ w.heap.size + 2 ≤ wx.heap.size ∧
    Hid (wx.heap[w.heap.size]? = some (.cells #[.int .i64 x.op, .int .i64 x.arg, .string x.s, .int .i64 x.v.k, .bool x.v.b, .int .i64 x.v.n, .string x.v.t, .slice a x.v.l.length c] 40 (0, 0))) ∧ ∃ ab cb, Hid (wx.heap[w.heap.size + 1]? = some (.cells #[.int .i64 (bareOf x).op, .int .i64 (bareOf x).arg, .string (bareOf x).s, .int .i64 (bareOf x).v.k, .bool (bareOf x).v.b, .int .i64 (bareOf x).v.n, .string (bareOf x).v.t, .slice ab (bareOf x).v.l.length cb] 40 (0, 0))) ∧ Hid (isL wx 0 B (.slice ab (bareOf x).v.l.length cb) (bareOf x).v.l))
  case first =>
    have hcase : x.op = 0 ∨ x.op = 1 ∨ x.op = 2 ∨ x.op = 3 ∨ x.op = 4 ∨ x.op = 5 ∨ x.op = 6 ∨ x.op = 7 ∨ x.op = 8 ∨ (x.op ≠ 0 ∧ x.op ≠ 1 ∧ x.op ≠ 2 ∧ x.op ≠ 3 ∧ x.op ≠ 4 ∧ x.op ≠ 5 ∧ x.op ≠ 6 ∧ x.op ≠ 7 ∧ x.op ≠ 8) := by omega
    rcases hcase with h | h | h | h | h | h | h | h | h | h
    · have e0 : (x.op == 0) = true := by simp [h]
      have e1 : (x.op == 1) = false := by simp [h]
      have e2 : (x.op == 2) = false := by simp [h]
      have e3 : (x.op == 3) = false := by simp [h]
      have e4 : (x.op == 4) = false := by simp [h]
      have e5 : (x.op == 5) = false := by simp [h]
      have e6 : (x.op == 6) = false := by simp [h]
      have e7 : (x.op == 7) = false := by simp [h]
      have e8 : (x.op == 8) = false := by simp [h]
      have H := Lib.hid h
      clear h
      have HBA : Hid (∀ w', Below w.heap.size w w' → isL w' 0 B (.slice a x.v.l.length c) x.v.l) := fun w' h => isL_below HS.out h hB
      go_wp2_with fail
      go_region_law
        (go_simp
         go_at_call 46
         refine (vCheck_any x.v FV.out _ _ B (by simp only [drew_heap]; omega) (HBA.out _ HA.out.1.drew)).mono ?_
         rintro e w2 ⟨rfl, hb⟩
         have hy2 : w2.heap[w.heap.size + 1]? = some (.cells #[.int .i64 x.op, .int .i64 0, .string { data := #[] }, .int .i64 0, .bool false, .int .i64 0, .string { data := #[] }, .slice none 0 0] 40 (0, 0)) := (hb.block _ (by simp only [drew_heap]; omega)).trans HA.out.2.2
         have hb2 : Below w.heap.size w w2 := below_down HA.out.1.drew hb (Nat.le_refl _)
         have hx2 : w2.heap[w.heap.size]? = some (.cells #[.int .i64 x.op, .int .i64 x.arg, .string x.s, .int .i64 x.v.k, .bool x.v.b, .int .i64 x.v.n, .string x.v.t, .slice a x.v.l.length c] 40 (0, 0)) := (hb.block _ (by simp only [drew_heap]; omega)).trans HA.out.2.1
         have hs2 : w.heap.size + 2 ≤ w2.heap.size := by have := hb.size; simp only [drew_heap] at this; omega
         have HB2 := Lib.hid (And.intro hb2 (And.intro hx2 (And.intro hy2 hs2)))
         have qx2 := fun o => cell_of hx2 o
         have qy2 := fun o => cell_of hy2 o
         have fy2 := fun o => frozen_of hy2 o
         clear hb2 hy2 hx2 hb hs2)
      all_goals
        go_wp2_with fail
        go_meet
        refine ⟨by simp [offOf, H.out], by simp [leftOf, H.out], by simp [swS, H.out], ?_, ?_, ?_, a, c, ?_, ?_⟩
        · refine ((((HB2.out.1.setCell ?_ _).setCell ?_ _).setCell ?_ _).setCell ?_ _).setCell ?_ _
          all_goals simp
        · simp only [hsz_setCell2]; exact HB2.out.2.2.2
        · refine (Below.heap_setCell _ _ _ _ ?_).trans ((Below.heap_setCell _ _ _ _ ?_).trans ((Below.heap_setCell _ _ _ _ ?_).trans ((Below.heap_setCell _ _ _ _ ?_).trans ((Below.heap_setCell _ _ _ _ ?_).trans HB2.out.2.1))))
          all_goals simp
        · refine (heap_setCell2 (heap_setCell2 (heap_setCell2 (heap_setCell2 (heap_setCell2 HB2.out.2.2.1))))).trans ?_
          simp [bareOf, H.out]
        · rw [show (bareOf x).v = x.v from by simp [bareOf, H.out]]
          refine isL_below HS.out ((((HB2.out.1.setCell ?_ _).setCell ?_ _).setCell ?_ _).setCell ?_ _ |>.setCell ?_ _) hB
          all_goals simp
    · have e0 : (x.op == 0) = false := by simp [h]
      have e1 : (x.op == 1) = true := by simp [h]
      have e2 : (x.op == 2) = false := by simp [h]
      have e3 : (x.op == 3) = false := by simp [h]
      have e4 : (x.op == 4) = false := by simp [h]
      have e5 : (x.op == 5) = false := by simp [h]
      have e6 : (x.op == 6) = false := by simp [h]
      have e7 : (x.op == 7) = false := by simp [h]
      have e8 : (x.op == 8) = false := by simp [h]
      have H := Lib.hid h
      clear h
      have FSN := Lib.hid fs
      go_wp2_with fail
      go_region_law
        (go_simp
         go_at_call 48
         refine (name_any x.s FSN.out _).mono ?_
         rintro e w2 ⟨rfl, rfl⟩)
      all_goals
        go_wp2_with fail
        go_meet
        refine ⟨by simp [offOf, H.out], by simp [leftOf, H.out], by simp [swS, H.out], ?_, ?_, ?_, none, 0, ?_, ?_⟩
        · exact HA.out.1.drew.setCell (by simp) _
        · simp only [drew_heap, hsz_setCell2]; omega
        · exact (Below.heap_setCell _ _ _ _ (by simp)).trans HA.out.2.1
        · refine (heap_setCell2 (w := wA.drew) HA.out.2.2).trans ?_
          simp [bareOf, H.out, zeroV]
        · rw [show (bareOf x).v = zeroV from by simp [bareOf, H.out]]
          exact isL_nil _ _
    · have e0 : (x.op == 0) = false := by simp [h]
      have e1 : (x.op == 1) = false := by simp [h]
      have e2 : (x.op == 2) = true := by simp [h]
      have e3 : (x.op == 3) = false := by simp [h]
      have e4 : (x.op == 4) = false := by simp [h]
      have e5 : (x.op == 5) = false := by simp [h]
      have e6 : (x.op == 6) = false := by simp [h]
      have e7 : (x.op == 7) = false := by simp [h]
      have e8 : (x.op == 8) = false := by simp [h]
      have H := Lib.hid h
      clear h
      have FSN := Lib.hid fs
      go_wp2_with fail
      go_region_law
        (go_simp
         go_at_call 48
         refine (name_any x.s FSN.out _).mono ?_
         rintro e w2 ⟨rfl, rfl⟩)
      all_goals
        go_wp2_with fail
        go_meet
        refine ⟨by simp [offOf, H.out], by simp [leftOf, H.out], by simp [swS, H.out], ?_, ?_, ?_, none, 0, ?_, ?_⟩
        · exact HA.out.1.drew.setCell (by simp) _
        · simp only [drew_heap, hsz_setCell2]; omega
        · exact (Below.heap_setCell _ _ _ _ (by simp)).trans HA.out.2.1
        · refine (heap_setCell2 (w := wA.drew) HA.out.2.2).trans ?_
          simp [bareOf, H.out, zeroV]
        · rw [show (bareOf x).v = zeroV from by simp [bareOf, H.out]]
          exact isL_nil _ _
    · have e0 : (x.op == 0) = false := by simp [h]
      have e1 : (x.op == 1) = false := by simp [h]
      have e2 : (x.op == 2) = false := by simp [h]
      have e3 : (x.op == 3) = true := by simp [h]
      have e4 : (x.op == 4) = false := by simp [h]
      have e5 : (x.op == 5) = false := by simp [h]
      have e6 : (x.op == 6) = false := by simp [h]
      have e7 : (x.op == 7) = false := by simp [h]
      have e8 : (x.op == 8) = false := by simp [h]
      have H := Lib.hid h
      clear h
      have FSN := Lib.hid fs
      go_wp2_with fail
      go_region_law
        (go_simp
         go_at_call 48
         refine (name_any x.s FSN.out _).mono ?_
         rintro e w2 ⟨rfl, rfl⟩)
      all_goals
        go_wp2_with fail
        go_meet
        refine ⟨by simp [offOf, H.out], by simp [leftOf, H.out], by simp [swS, H.out], ?_, ?_, ?_, none, 0, ?_, ?_⟩
        · exact HA.out.1.drew.setCell (by simp) _
        · simp only [drew_heap, hsz_setCell2]; omega
        · exact (Below.heap_setCell _ _ _ _ (by simp)).trans HA.out.2.1
        · refine (heap_setCell2 (w := wA.drew) HA.out.2.2).trans ?_
          simp [bareOf, H.out, zeroV]
        · rw [show (bareOf x).v = zeroV from by simp [bareOf, H.out]]
          exact isL_nil _ _
    · have e0 : (x.op == 0) = false := by simp [h]
      have e1 : (x.op == 1) = false := by simp [h]
      have e2 : (x.op == 2) = false := by simp [h]
      have e3 : (x.op == 3) = false := by simp [h]
      have e4 : (x.op == 4) = true := by simp [h]
      have e5 : (x.op == 5) = false := by simp [h]
      have e6 : (x.op == 6) = false := by simp [h]
      have e7 : (x.op == 7) = false := by simp [h]
      have e8 : (x.op == 8) = false := by simp [h]
      have H := Lib.hid h
      clear h
      by_cases g1 : 0 ≤ x.arg
      rotate_left
      · have d1 : decide (0 ≤ x.arg) = false := by simpa using g1
        have G1 := Lib.hid g1
        clear g1
        go_wp2_with fail
        go_region
        go_wp2_with fail
        go_meet
        refine ⟨by simp [offOf, H.out], by simp [leftOf, H.out], by simp [swS, H.out]; intro h; have := G1.out; omega, ?_, ?_, ?_, none, 0, ?_, ?_⟩
        · exact (HA.out.1.setCell (by simp) _).drew
        · simp only [drew_heap, hsz_setCell2]; omega
        · exact (Below.heap_setCell _ _ _ _ (by simp)).trans HA.out.2.1
        · refine (heap_setCell2 HA.out.2.2).trans ?_
          simp [bareOf, H.out, zeroV]
        · rw [show (bareOf x).v = zeroV from by simp [bareOf, H.out]]
          exact isL_nil _ _
      by_cases g2 : x.arg ≤ 4096
      rotate_left
      · have d1 : decide (x.arg ≤ 4096) = false := by simpa using g2
        have G1 := Lib.hid (And.intro g1 g2)
        go_wp2_with fail
        go_region
        go_wp2_with fail
        go_meet
        refine ⟨by simp [offOf, H.out], by simp [leftOf, H.out], by simp [swS, H.out]; intro _; have := G1.out.2; omega, ?_, ?_, ?_, none, 0, ?_, ?_⟩
        · exact (HA.out.1.setCell (by simp) _).drew
        · simp only [drew_heap, hsz_setCell2]; omega
        · exact (Below.heap_setCell _ _ _ _ (by simp)).trans HA.out.2.1
        · refine (heap_setCell2 HA.out.2.2).trans ?_
          simp [bareOf, H.out, zeroV]
        · rw [show (bareOf x).v = zeroV from by simp [bareOf, H.out]]
          exact isL_nil _ _
      · have d1 : decide (x.arg ≤ 4096) = true := by simpa using g2
        have G1 := Lib.hid (And.intro g1 g2)
        go_wp2_with fail
        go_region
        go_wp2_with fail
        go_meet
        refine ⟨by simp [offOf, H.out], by simp [leftOf, H.out], by simp [swS, H.out]; exact G1.out, ?_, ?_, ?_, none, 0, ?_, ?_⟩
        · exact (HA.out.1.setCell (by simp) _).drew
        · simp only [drew_heap, hsz_setCell2]; omega
        · exact (Below.heap_setCell _ _ _ _ (by simp)).trans HA.out.2.1
        · refine (heap_setCell2 HA.out.2.2).trans ?_
          simp [bareOf, H.out, zeroV]
        · rw [show (bareOf x).v = zeroV from by simp [bareOf, H.out]]
          exact isL_nil _ _
    · have e0 : (x.op == 0) = false := by simp [h]
      have e1 : (x.op == 1) = false := by simp [h]
      have e2 : (x.op == 2) = false := by simp [h]
      have e3 : (x.op == 3) = false := by simp [h]
      have e4 : (x.op == 4) = false := by simp [h]
      have e5 : (x.op == 5) = true := by simp [h]
      have e6 : (x.op == 6) = false := by simp [h]
      have e7 : (x.op == 7) = false := by simp [h]
      have e8 : (x.op == 8) = false := by simp [h]
      have H := Lib.hid h
      clear h
      go_wp2_with fail
      go_region_law
        (go_simp
         go_at_call 47
         refine (takes_any x.arg _).mono ?_
         rintro e w2 ⟨rfl, rfl⟩)
      all_goals
        go_wp2_with fail
        go_meet
        refine ⟨by simp [offOf, H.out], by simp [leftOf, H.out], by simp [swS, H.out], ?_, ?_, ?_, none, 0, ?_, ?_⟩
        · exact HA.out.1.drew.setCell (by simp) _
        · simp only [drew_heap, hsz_setCell2]; omega
        · exact (Below.heap_setCell _ _ _ _ (by simp)).trans HA.out.2.1
        · refine (heap_setCell2 (w := wA.drew) HA.out.2.2).trans ?_
          simp [bareOf, H.out, zeroV]
        · rw [show (bareOf x).v = zeroV from by simp [bareOf, H.out]]
          exact isL_nil _ _
    · have e0 : (x.op == 0) = false := by simp [h]
      have e1 : (x.op == 1) = false := by simp [h]
      have e2 : (x.op == 2) = false := by simp [h]
      have e3 : (x.op == 3) = false := by simp [h]
      have e4 : (x.op == 4) = false := by simp [h]
      have e5 : (x.op == 5) = false := by simp [h]
      have e6 : (x.op == 6) = true := by simp [h]
      have e7 : (x.op == 7) = false := by simp [h]
      have e8 : (x.op == 8) = false := by simp [h]
      have H := Lib.hid h
      clear h
      go_wp2_with fail
      go_meet
      refine ⟨by simp [offOf, H.out], by simp [leftOf, H.out], by simp [swS, H.out], HA.out.1, by omega, HA.out.2.1, none, 0, ?_, ?_⟩
      · refine HA.out.2.2.trans ?_
        simp [bareOf, H.out, zeroV]
      · rw [show (bareOf x).v = zeroV from by simp [bareOf, H.out]]
        exact isL_nil _ _
    · have e0 : (x.op == 0) = false := by simp [h]
      have e1 : (x.op == 1) = false := by simp [h]
      have e2 : (x.op == 2) = false := by simp [h]
      have e3 : (x.op == 3) = false := by simp [h]
      have e4 : (x.op == 4) = false := by simp [h]
      have e5 : (x.op == 5) = false := by simp [h]
      have e6 : (x.op == 6) = false := by simp [h]
      have e7 : (x.op == 7) = true := by simp [h]
      have e8 : (x.op == 8) = false := by simp [h]
      have H := Lib.hid h
      clear h
      go_wp2_with fail
      go_region
      all_goals
        go_wp2_with fail
        go_meet
        refine ⟨by simp [offOf, H.out], by simp [leftOf, H.out], by simp [swS, H.out], ?_, ?_, ?_, none, 0, ?_, ?_⟩
        · exact (HA.out.1.setCell (by simp) _).drew
        · simp only [drew_heap, hsz_setCell2]; omega
        · exact (Below.heap_setCell _ _ _ _ (by simp)).trans HA.out.2.1
        · refine (heap_setCell2 HA.out.2.2).trans ?_
          simp [bareOf, H.out, zeroV]
        · rw [show (bareOf x).v = zeroV from by simp [bareOf, H.out]]
          exact isL_nil _ _
    · have e0 : (x.op == 0) = false := by simp [h]
      have e1 : (x.op == 1) = false := by simp [h]
      have e2 : (x.op == 2) = false := by simp [h]
      have e3 : (x.op == 3) = false := by simp [h]
      have e4 : (x.op == 4) = false := by simp [h]
      have e5 : (x.op == 5) = false := by simp [h]
      have e6 : (x.op == 6) = false := by simp [h]
      have e7 : (x.op == 7) = false := by simp [h]
      have e8 : (x.op == 8) = true := by simp [h]
      have H := Lib.hid h
      clear h
      go_wp2_with fail
      go_region
      all_goals
        go_wp2_with fail
        go_meet
        refine ⟨by simp [offOf, H.out], by simp [leftOf, H.out], by simp [swS, H.out], ?_, ?_, ?_, none, 0, ?_, ?_⟩
        · exact (HA.out.1.setCell (by simp) _).drew
        · simp only [drew_heap, hsz_setCell2]; omega
        · exact (Below.heap_setCell _ _ _ _ (by simp)).trans HA.out.2.1
        · refine (heap_setCell2 HA.out.2.2).trans ?_
          simp [bareOf, H.out, zeroV]
        · rw [show (bareOf x).v = zeroV from by simp [bareOf, H.out]]
          exact isL_nil _ _
    · obtain ⟨h0, h1, h2, h3, h4, h5, h6, h7, h8⟩ := h
      have e0 : (x.op == 0) = false := by simpa using h0
      have e1 : (x.op == 1) = false := by simpa using h1
      have e2 : (x.op == 2) = false := by simpa using h2
      have e3 : (x.op == 3) = false := by simpa using h3
      have e4 : (x.op == 4) = false := by simpa using h4
      have e5 : (x.op == 5) = false := by simpa using h5
      have e6 : (x.op == 6) = false := by simpa using h6
      have e7 : (x.op == 7) = false := by simpa using h7
      have e8 : (x.op == 8) = false := by simpa using h8
      have H := Lib.hid (And.intro h0 (And.intro h1 (And.intro h2 (And.intro h3 (And.intro h4 (And.intro h5 (And.intro h6 (And.intro h7 h8))))))))
      clear h0 h1 h2 h3 h4 h5 h6 h7 h8
      go_wp2_with fail
      go_meet
      obtain ⟨h0, h1, h2, h3, h4, h5, h6, h7, h8⟩ := H.out
      refine ⟨by simp [offOf, h3, h4, h5, h6, h7, h8], by unfold leftOf; rw [if_neg (by omega)], by simp [swS, h0, h1, h2, h3, h4, h5, h6, h7, h8], HA.out.1, by omega, HA.out.2.1, none, 0, ?_, ?_⟩
      · refine HA.out.2.2.trans ?_
        simp [bareOf, h0, h1, h2, h3, h4, h5, h7, h8, zeroV]
      · rw [show (bareOf x).v = zeroV from by simp [bareOf, h0]]
        exact isL_nil _ _
  case rest =>
    obtain ⟨rfl, rfl, rfl, hbel, hsz, hx, ab, cb, hy, hl⟩ := hcut
    have HBEL := Lib.hid hbel
    have rx := fun o => cell_of hx.out o
    have ry := fun o => cell_of hy.out o
    clear qx qy fy hbel HA
    have FVB : Hid ((bareOf x).v.fit) := by
      show (if x.op = 0 then x.v else zeroV).fit
      split
      · exact FV.out
      · exact zeroV_fit
    cases h1 : swS x
    · have H1 := Lib.hid h1
      clear h1
      go_wp2_with fail
      exact bodyPost_ret (v := .tuple #[.int .i64 (offOf x), .int .i64 (leftOf x), .bool false]) (by simp [results, Tryd.results32, go_sem]) rfl ⟨by rw [HE.out, H1.out]; rfl, HBEL.out⟩
    cases h2 : (x.arg == (bareOf x).arg)
    · have H1 := Lib.hid (And.intro h1 h2)
      clear h1
      go_wp2_with fail
      exact bodyPost_ret (v := .tuple #[.int .i64 (offOf x), .int .i64 (leftOf x), .bool false]) (by simp [results, Tryd.results32, go_sem]) rfl ⟨by rw [HE.out, H1.out.1, H1.out.2]; rfl, HBEL.out⟩
    cases h3 : (x.s.toList == (bareOf x).s.toList)
    · have H1 := Lib.hid (And.intro h1 (And.intro h2 h3))
      clear h1
      go_wp2_with fail
      exact bodyPost_ret (v := .tuple #[.int .i64 (offOf x), .int .i64 (leftOf x), .bool false]) (by simp [results, Tryd.results32, go_sem]) rfl ⟨by rw [HE.out, H1.out.1, H1.out.2.1, H1.out.2.2]; rfl, HBEL.out⟩
    · have H1 := Lib.hid (And.intro h1 (And.intro h2 h3))
      clear h1
      go_wp2_with fail
      refine (vSame_any x.v (bareOf x).v FV.out FVB.out _ _ _ B (by omega) (isL_below HS.out HBEL.out hB) hl.out).mono ?_
      rintro e w2 ⟨rfl, hb⟩
      go_wp2_with fail
      exact bodyPost_ret (v := .tuple #[.int .i64 (offOf x), .int .i64 (leftOf x), .bool (same x.v (bareOf x).v)]) (by simp [results, Tryd.results32, go_sem]) rfl ⟨by rw [HE.out, H1.out.1, H1.out.2.1, H1.out.2.2]; simp, below_down HBEL.out hb (Nat.le_refl _)⟩
end Go.Proofs.YtnmolgmchoihmaaDoor
