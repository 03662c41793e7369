/-
  ValueApplies returns true, whatever values and whatever operation it is handed. Conditions: lists and texts shorter than 2^31, values of bulk at most 2^40; the table of the tests lies.
-/
import Derived.Test.YthfnecldbfnbfaaGreatDoorMW
import Derived.Test.YthfnecldbfnbfaaGreatDoorMO
import Derived.Test.YthfnecldbfnbfaaGreatDoorMJ
import Derived.Deep.RegionHeld3
import Derived.Deep.DeepCutAuto
import Derived.Deep.CutBlock
import Derived.Deep.CutRange
namespace Go.Proofs.YthfnecldbfnbfaaGreatDoor
open Go Go.RowKit
set_option maxRecDepth 100000
set_option linter.unusedVariables false
theorem le_alloc {n : Nat} {w : World} {o : Obj} (h : n ≤ w.heap.size) : n ≤ (w.alloc o).heap.size := by simp; omega
theorem lt2 {n : Nat} {w : World} {o : Obj} (h : n < w.heap.size) : n < (w.alloc o).heap.size := by simp; omega
theorem lt3 {n : Nat} {w : World} {o o2 : Obj} (h : n < w.heap.size) : n < ((w.alloc o).alloc o2).heap.size := by simp; omega
theorem far2 {b : Nat} {w : World} {o : Obj} (h : b < w.heap.size) : (w.alloc o).heap[b]? = w.heap[b]? := Below.heap_alloc _ _ _ h
attribute [local go_sem ↓] Go.wp_at_zero Go.wp_at_succ
set_option maxHeartbeats 3200000 in
theorem vapplies_any (l : List GV) (op : Int) (fl : fitL l) (hbk : bulkL l ≤ 1099511627776) (hll : l.length ≤ 2147483647) (s : Value) (w : World) (B : Nat) (hB : B ≤ w.heap.size) (ht : tabOk w) (hs : isL w 0 B s l) :
    Calls Tryz.prog 3 #[.agg #[s, .int .i64 op]] w fun e w' => e = .returned (.bool true) ∧ Below w.heap.size w w' := by
  obtain ⟨a, c, bb, off, rfl, hc, ha, hA⟩ := isL_open hs
  have HFL := Lib.hid fl
  have HT := Lib.hid ht
  have HA := Lib.hid hA
  have Ha := Lib.hid ha
  have hb0 := (Below.refl w.heap.size w).alloc (Nat.le_refl _) (.cells #[.slice a l.length c, .int .i64 op] 24)
  have HLT := Lib.hid (Size_any l hbk (.slice a l.length c) _ B (Nat.le_trans hB hb0.size) (isL_below hs hb0 hB))
  have HB0 := Lib.hid hb0
  clear fl ht hs hA ha hbk hb0
  obtain ⟨E2, hE2⟩ : ∃ E2, E2 = applyP op [numG 1, numG 2] := ⟨_, rfl⟩
  have HE2 := Lib.hid hE2
  clear hE2
  have hfin : Hid (∀ w2, Below w.heap.size w w2 → Calls Tryz.prog 5 #[] w2 fun e w' => e = .returned (.bool true) ∧ Below w2.heap.size w2 w') := fun w2 h2 => wakesV_any w2 (tabOk_below HT.out h2)
  go_enter Tryz.func3, Tryz.ntmps3
  go_wp2_with fail
  refine HLT.out.mono ?_
  rintro e w1 ⟨rfl, hb1⟩
  have hs1 : w.heap.size + 1 ≤ w1.heap.size := by have := hb1.size; simpa using this
  have HR1 : Hid (RelB w w1 (.cells #[.slice a l.length c, .int .i64 op] 24 (0, 0))) := ⟨below_down HB0.out hb1 (Nat.le_refl _), hs1, (hb1.block w.heap.size (by simp)).trans (heap_last (w := w))⟩
  clear hb1 HLT HB0
  by_cases hbig : 9000 < vsize l
  · have hd1 : decide ((9000 : Int) < (vsize l : Int)) = true := by simp; omega
    have hd2 : decide (9000 < vsize l) = true := by simp; omega
    go_wp2_with fail
    refine (hfin.out _ HR1.out.1).mono ?_
    rintro e w2 ⟨rfl, hb2⟩
    go_wp2_with fail
    go_ret
    exact ⟨rfl, below_down HR1.out.1 hb2 (Nat.le_refl _)⟩
  have hd1 : decide ((9000 : Int) < (vsize l : Int)) = false := by simp; omega
  have hd2 : decide (9000 < vsize l) = false := by simp; omega
  go_wp2_with fail
  clear hd1 hd2 hbig
  go_loopw [3] (fun i wr => ∃ k : Nat, k ≤ l.length ∧ k ≤ 10 ∧ i = .int .i64 k ∧ Hid (RelB w wr (.cells #[.slice a l.length c, .int .i64 op] 24 (0, 0)))) (fun i _ => 10 - (intOf i).toNat)
  case atStart => exact ⟨0, Nat.zero_le _, by omega, rfl, HR1⟩
  case round =>
    obtain ⟨k, hk, hk6, rfl, HR⟩ := hrel
    have q1 := fun o => cell_of HR.out.2.2 o
    have l0 : w.heap.size < wr.heap.size := HR.out.2.1
    by_cases hgo : k < l.length ∧ k < 10
    rotate_left
    · have hgo2 : k = l.length ∨ (k < l.length ∧ k = 10) := by omega
      clear hgo HA Ha HFL hc hB
      rcases hgo2 with rfl | ⟨hlt, rfl⟩
      all_goals
        go_upto_region 20 with fail
        have hw0 : w.heap.size + 1 ≤ wr.heap.size := HR.out.2.1
        have SH : Hid (∀ w' : World, Below (w.heap.size + 1) wr w' → (w'.cell? ⟨w.heap.size, 1, none⟩ = some (.int .i64 op) ∧ w.heap.size < w'.heap.size)) := fun w' h => ⟨(h.cell (p := ⟨w.heap.size, 1, none⟩) (Nat.lt_succ_self _)).trans ((cell_of HR.out.2.2 1).trans rfl), Nat.lt_of_lt_of_le hw0 h.size⟩
        have HHP : Hid (∀ (w' : World) (g : Nat), w'.heap[g]? = some (.cells #[.int .i64 2, .bool false, .int .i64 1, .string { data := #[] }, .slice none 0 0, .int .i64 2, .bool false, .int .i64 2, .string { data := #[] }, .slice none 0 0] 29 (0, 0)) → Calls Tryz.prog 7 #[.int .i64 op, .slice (some ⟨g, 0, none⟩) 2 2] w' (GivesO w' E2)) := fun w' g hg => by
          rw [HE2.out]
          exact apply_any op [numG 1, numG 2] (by simp) ⟨numG_fit 1 (by omega) (by omega), numG_fit 2 (by omega) (by omega), trivial⟩ _ w' (g + 1) (Array.getElem?_eq_some_iff.1 hg).1 (isL_two (x := numG 1) (y := numG 2) (B := 0) (Nat.zero_le _) hg (isL_nil _ _) (isL_nil _ _))
        have t1 : wr.cell? ⟨w.heap.size, 1, none⟩ = some (.int .i64 op) := (cell_of HR.out.2.2 1).trans rfl
        have l1 : w.heap.size < wr.heap.size := hw0
        go_cut [11, 12] (fun s1 s2 wx => s2 = .int .i64 E2.2 ∧ Hid (RelB w wx (.cells #[.slice a l.length c, .int .i64 op] 24 (0, 0))))
        case first =>
          go_region_held3 (fun w' => w'.cell? ⟨w.heap.size, 1, none⟩ = some (.int .i64 op) ∧ w.heap.size < w'.heap.size)
            (first
              | (with_reducible refine SH.out _ ?_
                 repeat (with_reducible first | exact HBc.out | exact HBb.out | exact HBa.out | exact Below.refl _ _ | refine Below.setCell (p := ⟨wr.heap.size, _, none⟩) ?_ hw0 _ | refine Below.setCell (p := ⟨wA.heap.size, _, none⟩) ?_ hwa _ | refine Below.setCell (p := ⟨wB.heap.size, _, none⟩) ?_ hwb _ | refine Below.setCell (p := ⟨wB.heap.size + 1, _, none⟩) ?_ hwb1 _ | refine Below.setCell (p := ⟨wC.heap.size, _, none⟩) ?_ hwc _ | refine Below.alloc ?_ hw0 _ | refine Below.alloc ?_ hwa _ | refine Below.alloc ?_ hwb _ | refine Below.alloc ?_ (le_alloc hwb) _ | refine Below.alloc ?_ hwc _ | refine Below.drew ?_)))
            (first
              | (have hguard := HBb
                 clear hguard
                 go_simp
                 go_at_call 7
                 refine (HHP.out _ _ ?hh).mono ?_
                 case hh => first | exact heap_last | exact heap_two | exact heap_second
                 rintro e wC hgv
                 obtain ⟨aC, cC, rfl, hrC, hbC⟩ := hgv
                 skip
                 have hbc : Below (w.heap.size + 1) wr wC := by
                   first
                     | exact (HBb.out.alloc hwb _).trans (hbC.mono (le_alloc hwb))
                     | exact ((HBb.out.alloc hwb _).alloc (le_alloc hwb) _).trans (hbC.mono (le_alloc (le_alloc hwb)))
                 have HBc := Lib.hid hbc
                 have hwc : w.heap.size + 1 ≤ wC.heap.size := Nat.le_trans hw0 hbc.size
                 have lc : w.heap.size < wC.heap.size := hwc
                 first
                   | (have hz := (hbC.block wr.heap.size (by first | exact lt2 hwrb | exact lt3 hwrb)).trans ((far2 hwrb).trans HZb.out)
                      have qz := fun o => cell_of hz o
                      have fz := fun o => frozen_of hz o
                      have lz : wr.heap.size < wC.heap.size := (Array.getElem?_eq_some_iff.1 hz).1
                      clear hz)
                   | (have hz := (hbC.block wA.heap.size (by first | exact lt2 hwab | exact lt3 hwab)).trans ((far2 hwab).trans HZa.out)
                      have qz := fun o => cell_of hz o
                      have fz := fun o => frozen_of hz o
                      have lz : wA.heap.size < wC.heap.size := (Array.getElem?_eq_some_iff.1 hz).1
                      clear hz)
                   | (have hz : wC.heap[wB.heap.size + 1]? = some (.cells #[.int .i64 0, .bool false, .int .i64 0, .string { data := #[] }, .slice none 0 0] 29 (0, 0)) := (hbC.block (wB.heap.size + 1) (by show _ < ((wB.alloc _).alloc _).heap.size; simp)).trans heap_second
                      have qz := fun o => cell_of hz o
                      have fz := fun o => frozen_of hz o
                      have lz : wB.heap.size + 1 < wC.heap.size := (Array.getElem?_eq_some_iff.1 hz).1
                      clear hz)
                   | (have hz : wC.heap[wB.heap.size]? = some (.cells #[.int .i64 0, .bool false, .int .i64 0, .string { data := #[] }, .slice none 0 0] 29 (0, 0)) := (hbC.block wB.heap.size (by show _ < ((wB.alloc _).alloc _).heap.size; simp; omega)).trans heap_two
                      have qz := fun o => cell_of hz o
                      have fz := fun o => frozen_of hz o
                      have lz : wB.heap.size < wC.heap.size := (Array.getElem?_eq_some_iff.1 hz).1
                      clear hz)
                   | skip
                 simp only [GV.agg]
                 clear hbC hrC hbc)
              | (have hguard := HBa
                 clear hguard
                 go_simp
                 go_at_call 12
                 refine (num_any 2 _).mono ?_
                 rintro e wB ⟨rfl, hbB⟩
                 have hbb : Below (w.heap.size + 1) wr wB := by
                   first
                     | exact HBa.out.trans (hbB.mono hwa)
                     | exact (HBa.out.alloc hwa _).trans (hbB.mono (le_alloc hwa))
                 have HBb := Lib.hid hbb
                 have hwb : w.heap.size + 1 ≤ wB.heap.size := Nat.le_trans hw0 hbb.size
                 have hwb1 : w.heap.size + 1 ≤ wB.heap.size + 1 := Nat.le_trans hwb (Nat.le_succ _)
                 have lb : w.heap.size < wB.heap.size := hwb
                 have lb' : w.heap.size < wB.heap.size + 1 := by omega
                 have nb : w.heap.size ≠ wB.heap.size := by omega
                 first
                   | (have hz := (hbB.block wr.heap.size hwra).trans HZ0.out
                      have HZb := Lib.hid hz
                      have hwrb : wr.heap.size < wB.heap.size := (Array.getElem?_eq_some_iff.1 hz).1
                      clear hz)
                   | (have hz : wB.heap[wA.heap.size]? = some (.cells #[.int .i64 0, .bool false, .int .i64 0, .string { data := #[] }, .slice none 0 0] 29 (0, 0)) := (hbB.block wA.heap.size (by show _ < (wA.alloc _).heap.size; simp)).trans heap_last
                      have HZa := Lib.hid hz
                      have hwab : wA.heap.size < wB.heap.size := (Array.getElem?_eq_some_iff.1 hz).1
                      clear hz)
                   | skip
                 unfold numA
                 clear hbB hbb)
              | (go_simp
                 go_at_call 12
                 refine (num_any 1 _).mono ?_
                 rintro e wA ⟨rfl, hbA⟩
                 have hba : Below (w.heap.size + 1) wr wA := by
                   first
                     | exact (Below.refl _ wr).drew.trans (hbA.mono hw0)
                     | exact ((Below.refl _ wr).alloc hw0 _).drew.trans (hbA.mono (le_alloc hw0))
                 have HBa := Lib.hid hba
                 have hwa : w.heap.size + 1 ≤ wA.heap.size := Nat.le_trans hw0 hba.size
                 have la : w.heap.size < wA.heap.size := hwa
                 have la' : w.heap.size < wA.heap.size + 1 := by omega
                 have na : w.heap.size ≠ wA.heap.size := by omega
                 first
                   | (have hz : wA.heap[wr.heap.size]? = some (.cells #[.int .i64 0, .bool false, .int .i64 0, .string { data := #[] }, .slice none 0 0] 29 (0, 0)) := (hbA.block wr.heap.size (by show _ < (wr.alloc _).heap.size; simp)).trans heap_last
                      have HZ0 := Lib.hid hz
                      have hwra : wr.heap.size < wA.heap.size := (Array.getElem?_eq_some_iff.1 hz).1
                      clear hz)
                   | skip
                 unfold numA
                 clear hbA hba))
          all_goals
            clear SH HHP
            go_wp2_with fail
            go_meet
            refine ⟨rfl, HR.out.step (D := w.heap.size + 1) ?_ (Nat.le_refl _)⟩
            repeat (with_reducible first | exact HBc.out | refine Below.setCell (p := ⟨wr.heap.size, _, none⟩) ?_ hw0 _ | refine Below.setCell (p := ⟨wA.heap.size, _, none⟩) ?_ hwa _ | refine Below.setCell (p := ⟨wB.heap.size, _, none⟩) ?_ hwb _ | refine Below.setCell (p := ⟨wB.heap.size + 1, _, none⟩) ?_ hwb1 _ | refine Below.setCell (p := ⟨wC.heap.size, _, none⟩) ?_ hwc _ | refine Below.alloc ?_ hwc _ | refine Below.drew ?_)
        case rest =>
          obtain ⟨rfl, HR⟩ := hcut
          clear SH HHP t1 l1 hw0
          go_upto_region 21 with fail
          have hw0 : w.heap.size + 1 ≤ wc.heap.size := HR.out.2.1
          have SH : Hid (∀ w' : World, Below (w.heap.size + 1) wc w' → (w'.cell? ⟨w.heap.size, 1, none⟩ = some (.int .i64 op) ∧ w.heap.size < w'.heap.size)) := fun w' h => ⟨(h.cell (p := ⟨w.heap.size, 1, none⟩) (Nat.lt_succ_self _)).trans ((cell_of HR.out.2.2 1).trans rfl), Nat.lt_of_lt_of_le hw0 h.size⟩
          have HHP : Hid (∀ (w' : World) (g : Nat), w'.heap[g]? = some (.cells #[.int .i64 2, .bool false, .int .i64 1, .string { data := #[] }, .slice none 0 0, .int .i64 2, .bool false, .int .i64 2, .string { data := #[] }, .slice none 0 0] 29 (0, 0)) → Calls Tryz.prog 8 #[.int .i64 op, .slice (some ⟨g, 0, none⟩) 2 2] w' (RefO w' E2)) := fun w' g hg => by
            rw [HE2.out]
            exact rApply_any op [numG 1, numG 2] (by simp) ⟨numG_fit 1 (by omega) (by omega), numG_fit 2 (by omega) (by omega), trivial⟩ _ w' (g + 1) (Array.getElem?_eq_some_iff.1 hg).1 (isL_two (x := numG 1) (y := numG 2) (B := 0) (Nat.zero_le _) hg (isL_nil _ _) (isL_nil _ _))
          have t1 : wc.cell? ⟨w.heap.size, 1, none⟩ = some (.int .i64 op) := (cell_of HR.out.2.2 1).trans rfl
          have l1 : w.heap.size < wc.heap.size := hw0
          go_cut [13, 14] (fun s1 s2 wx => s2 = .int .i64 E2.2 ∧ Hid (RelB w wx (.cells #[.slice a l.length c, .int .i64 op] 24 (0, 0))))
          case first =>
            go_region_held3 (fun w' => w'.cell? ⟨w.heap.size, 1, none⟩ = some (.int .i64 op) ∧ w.heap.size < w'.heap.size)
              (first
                | (with_reducible refine SH.out _ ?_
                   repeat (with_reducible first | exact HBc.out | exact HBb.out | exact HBa.out | exact Below.refl _ _ | refine Below.setCell (p := ⟨wc.heap.size, _, none⟩) ?_ hw0 _ | refine Below.setCell (p := ⟨wA.heap.size, _, none⟩) ?_ hwa _ | refine Below.setCell (p := ⟨wB.heap.size, _, none⟩) ?_ hwb _ | refine Below.setCell (p := ⟨wB.heap.size + 1, _, none⟩) ?_ hwb1 _ | refine Below.setCell (p := ⟨wC.heap.size, _, none⟩) ?_ hwc _ | refine Below.alloc ?_ hw0 _ | refine Below.alloc ?_ hwa _ | refine Below.alloc ?_ hwb _ | refine Below.alloc ?_ (le_alloc hwb) _ | refine Below.alloc ?_ hwc _ | refine Below.drew ?_)))
              (first
                | (have hguard := HBb
                   clear hguard
                   go_simp
                   go_at_call 8
                   refine (HHP.out _ _ ?hh).mono ?_
                   case hh => first | exact heap_last | exact heap_two | exact heap_second
                   rintro e wC hgv
                   obtain ⟨sC, rfl, hrC, hbC⟩ := hgv
                   obtain ⟨aC, cC, rfl⟩ := isL_form hrC
                   have hbc : Below (w.heap.size + 1) wc wC := by
                     first
                       | exact (HBb.out.alloc hwb _).trans (hbC.mono (le_alloc hwb))
                       | exact ((HBb.out.alloc hwb _).alloc (le_alloc hwb) _).trans (hbC.mono (le_alloc (le_alloc hwb)))
                   have HBc := Lib.hid hbc
                   have hwc : w.heap.size + 1 ≤ wC.heap.size := Nat.le_trans hw0 hbc.size
                   have lc : w.heap.size < wC.heap.size := hwc
                   first
                     | (have hz := (hbC.block wc.heap.size (by first | exact lt2 hwrb | exact lt3 hwrb)).trans ((far2 hwrb).trans HZb.out)
                        have qz := fun o => cell_of hz o
                        have fz := fun o => frozen_of hz o
                        have lz : wc.heap.size < wC.heap.size := (Array.getElem?_eq_some_iff.1 hz).1
                        clear hz)
                     | (have hz := (hbC.block wA.heap.size (by first | exact lt2 hwab | exact lt3 hwab)).trans ((far2 hwab).trans HZa.out)
                        have qz := fun o => cell_of hz o
                        have fz := fun o => frozen_of hz o
                        have lz : wA.heap.size < wC.heap.size := (Array.getElem?_eq_some_iff.1 hz).1
                        clear hz)
                     | (have hz : wC.heap[wB.heap.size + 1]? = some (.cells #[.int .i64 0, .bool false, .int .i64 0, .string { data := #[] }, .slice none 0 0] 29 (0, 0)) := (hbC.block (wB.heap.size + 1) (by show _ < ((wB.alloc _).alloc _).heap.size; simp)).trans heap_second
                        have qz := fun o => cell_of hz o
                        have fz := fun o => frozen_of hz o
                        have lz : wB.heap.size + 1 < wC.heap.size := (Array.getElem?_eq_some_iff.1 hz).1
                        clear hz)
                     | (have hz : wC.heap[wB.heap.size]? = some (.cells #[.int .i64 0, .bool false, .int .i64 0, .string { data := #[] }, .slice none 0 0] 29 (0, 0)) := (hbC.block wB.heap.size (by show _ < ((wB.alloc _).alloc _).heap.size; simp; omega)).trans heap_two
                        have qz := fun o => cell_of hz o
                        have fz := fun o => frozen_of hz o
                        have lz : wB.heap.size < wC.heap.size := (Array.getElem?_eq_some_iff.1 hz).1
                        clear hz)
                     | skip
                   simp only [GV.agg]
                   clear hbC hrC hbc)
                | (have hguard := HBa
                   clear hguard
                   go_simp
                   go_at_call 12
                   refine (num_any 2 _).mono ?_
                   rintro e wB ⟨rfl, hbB⟩
                   have hbb : Below (w.heap.size + 1) wc wB := by
                     first
                       | exact HBa.out.trans (hbB.mono hwa)
                       | exact (HBa.out.alloc hwa _).trans (hbB.mono (le_alloc hwa))
                   have HBb := Lib.hid hbb
                   have hwb : w.heap.size + 1 ≤ wB.heap.size := Nat.le_trans hw0 hbb.size
                   have hwb1 : w.heap.size + 1 ≤ wB.heap.size + 1 := Nat.le_trans hwb (Nat.le_succ _)
                   have lb : w.heap.size < wB.heap.size := hwb
                   have lb' : w.heap.size < wB.heap.size + 1 := by omega
                   have nb : w.heap.size ≠ wB.heap.size := by omega
                   first
                     | (have hz := (hbB.block wc.heap.size hwra).trans HZ0.out
                        have HZb := Lib.hid hz
                        have hwrb : wc.heap.size < wB.heap.size := (Array.getElem?_eq_some_iff.1 hz).1
                        clear hz)
                     | (have hz : wB.heap[wA.heap.size]? = some (.cells #[.int .i64 0, .bool false, .int .i64 0, .string { data := #[] }, .slice none 0 0] 29 (0, 0)) := (hbB.block wA.heap.size (by show _ < (wA.alloc _).heap.size; simp)).trans heap_last
                        have HZa := Lib.hid hz
                        have hwab : wA.heap.size < wB.heap.size := (Array.getElem?_eq_some_iff.1 hz).1
                        clear hz)
                     | skip
                   unfold numA
                   clear hbB hbb)
                | (go_simp
                   go_at_call 12
                   refine (num_any 1 _).mono ?_
                   rintro e wA ⟨rfl, hbA⟩
                   have hba : Below (w.heap.size + 1) wc wA := by
                     first
                       | exact (Below.refl _ wc).drew.trans (hbA.mono hw0)
                       | exact ((Below.refl _ wc).alloc hw0 _).drew.trans (hbA.mono (le_alloc hw0))
                   have HBa := Lib.hid hba
                   have hwa : w.heap.size + 1 ≤ wA.heap.size := Nat.le_trans hw0 hba.size
                   have la : w.heap.size < wA.heap.size := hwa
                   have la' : w.heap.size < wA.heap.size + 1 := by omega
                   have na : w.heap.size ≠ wA.heap.size := by omega
                   first
                     | (have hz : wA.heap[wc.heap.size]? = some (.cells #[.int .i64 0, .bool false, .int .i64 0, .string { data := #[] }, .slice none 0 0] 29 (0, 0)) := (hbA.block wc.heap.size (by show _ < (wc.alloc _).heap.size; simp)).trans heap_last
                        have HZ0 := Lib.hid hz
                        have hwra : wc.heap.size < wA.heap.size := (Array.getElem?_eq_some_iff.1 hz).1
                        clear hz)
                     | skip
                   unfold numA
                   clear hbA hba))
            all_goals
              clear SH HHP
              go_wp2_with fail
              go_meet
              refine ⟨rfl, HR.out.step (D := w.heap.size + 1) ?_ (Nat.le_refl _)⟩
              repeat (with_reducible first | exact HBc.out | refine Below.setCell (p := ⟨wc.heap.size, _, none⟩) ?_ hw0 _ | refine Below.setCell (p := ⟨wA.heap.size, _, none⟩) ?_ hwa _ | refine Below.setCell (p := ⟨wB.heap.size, _, none⟩) ?_ hwb _ | refine Below.setCell (p := ⟨wB.heap.size + 1, _, none⟩) ?_ hwb1 _ | refine Below.setCell (p := ⟨wC.heap.size, _, none⟩) ?_ hwc _ | refine Below.alloc ?_ hwc _ | refine Below.drew ?_)
          case rest =>
            obtain ⟨rfl, HR⟩ := hcut
            clear SH HHP t1 l1 hw0
            have he : (E2.2 == E2.2) = true := by simp
            go_wp2_with fail
            refine (hfin.out _ HR.out.1).mono ?_
            rintro e w9 ⟨rfl, hb9⟩
            go_wp2_with fail
            go_ret
            exact ⟨rfl, below_down HR.out.1 hb9 (Nat.le_refl _)⟩
    obtain ⟨hlt, h6⟩ := hgo
    obtain ⟨rfl, hb2, hb2'⟩ := Ha.out (by omega)
    go_wp2_with fail
    clear q1 l0
    go_loopw [4] (fun i wr => ∃ n : Nat, n ≤ 4 ∧ i = .int .i64 n ∧ Hid (RelB w wr (.cells #[.slice (some ⟨bb, off, none⟩) l.length c, .int .i64 op] 24 (0, 0)))) (fun i _ => 4 - (intOf i).toNat)
    case atStart => exact ⟨0, by omega, rfl, HR⟩
    case round =>
      obtain ⟨n, hn, rfl, HR2⟩ := hrel
      have q2 := fun o => cell_of HR2.out.2.2 o
      have l2 : w.heap.size < wr.heap.size := HR2.out.2.1
      have i1 : IntKind.i64.wrap ((k : Int) + (n : Int)) = (k : Int) + (n : Int) := IntWalk.i64_in _ (by omega)
      by_cases hn3 : n ≤ 3
      rotate_left
      · obtain rfl : n = 4 := by omega
        go_wp2_with fail
        go_roundw
        case rel => exact ⟨k + 1, by omega, by omega, by go_num, HR2⟩
        case measure => simp [intOf]; omega
      by_cases hkn : k + n ≤ l.length
      rotate_left
      · have d1 : decide ((k : Int) + (n : Int) ≤ (l.length : Int)) = false := by simp; omega
        have d2 : decide (k + n ≤ l.length) = false := by simp; omega
        go_wp2_with fail
        go_roundw
        case rel => exact ⟨k + 1, by omega, by omega, by go_num, HR2⟩
        case measure => simp [intOf]; omega
      have d1 : decide ((k : Int) + (n : Int) ≤ (l.length : Int)) = true := by simp; omega
      have d2 : decide (k + n ≤ l.length) = true := by simp; omega
      go_wp2_with fail
      clear q2 l2 d1 d2
      go_loopw [5] (fun i wr => ∃ q : Nat, q ≤ 24 ∧ i = .int .i64 q ∧ Hid (RelB w wr (.cells #[.slice (some ⟨bb, off, none⟩) l.length c, .int .i64 op] 24 (0, 0)))) (fun i _ => 24 - (intOf i).toNat)
      case atStart => exact ⟨0, by omega, rfl, HR2⟩
      case round =>
        obtain ⟨q, hq, rfl, HR3⟩ := hrel
        have q3 := fun o => cell_of HR3.out.2.2 o
        have l3 : w.heap.size < wr.heap.size := HR3.out.2.1
        by_cases hq23 : q ≤ 23
        rotate_left
        · obtain rfl : q = 24 := by omega
          go_wp2_with fail
          go_roundw
          case rel => exact ⟨n + 1, by omega, by go_num, HR3⟩
          case measure => simp [intOf]; omega
        have kc0 : (0 : Int) ≤ (k : Int) := by omega
        have kc1 : (k : Int) ≤ (k : Int) + (n : Int) := by omega
        have kc2 : (k : Int) + (n : Int) ≤ (c : Int) := by omega
        have hlen := part_len (l := l) hkn
        have HSUB := Lib.hid (isL_part hc hb2' HA.out k n hkn)
        have HFS := Lib.hid (part_fit HFL.out k n)
        obtain ⟨sub, hsub⟩ : ∃ sub, sub = partG l k n := ⟨_, rfl⟩
        rw [← hsub] at hlen HSUB HFS
        have hsl : sub.length ≤ 2147483647 := by omega
        obtain ⟨R, hRR⟩ : ∃ R, R = applyP (q : Int) sub := ⟨_, rfl⟩
        have HRF : Hid (R.1.fit) := by rw [Hid, hRR]; exact applyP_fit _ _ HFS.out
        have HCP : Hid (Calls Tryz.prog 6 #[.slice (some ⟨bb, off + k * 5, none⟩) n (c - k)] wr fun e w' => ∃ a1 c1, e = .returned (.slice a1 n c1) ∧ isR w' (since wr.heap.size w') (.slice a1 n c1) sub ∧ Below wr.heap.size wr w') := by
          have h := zCopyVals_any sub hsl HFS.out (.slice (some ⟨bb, off + k * 5, none⟩) n (c - k)) wr B (Nat.le_trans hB HR3.out.1.size) (isL_below HSUB.out HR3.out.1 hB)
          unfold GivesL at h
          rw [hlen] at h
          exact h
        have HRR := Lib.hid hRR
        have HSL := Lib.hid hsl
        clear hsub hRR hlen hsl
        go_wp2_with fail
        refine HCP.out.mono ?_
        rintro e w1 ⟨a1, c1, rfl, hr1, hb1⟩
        have H1 := Lib.hid (HR3.out.step hb1 l3)
        have HI1 := Lib.hid hr1
        have hw1 := hb1.size
        clear hr1 hb1 q3 HCP
        go_wp2_with fail
        refine (apply_any (q : Int) sub HSL.out HFS.out (.slice a1 n c1) w1 w1.heap.size (Nat.le_refl _) (isR_isL HI1.out (fun b hb => ⟨Nat.zero_le _, hb.2⟩))).mono ?_
        rw [← HRR.out]
        rintro e w2 hgv
        obtain ⟨a2, c2, rfl, hr2, hb2w⟩ := hgv
        have H2 := Lib.hid (H1.out.step hb2w H1.out.2.1)
        have HI2 := Lib.hid hr2
        have HB12 := Lib.hid hb2w
        have hw2 := hb2w.size
        have q2 := fun o => cell_of H2.out.2.2 o
        have l2 : w.heap.size < w2.heap.size := H2.out.2.1
        have n2 : w.heap.size ≠ w2.heap.size := by omega
        simp only [GV.agg]
        clear hr2 hb2w
        go_wp2_with fail
        obtain ⟨w3, hw3⟩ : ∃ w3, w3 = w2.alloc (.cells #[.int .i64 R.1.k, .bool R.1.b, .int .i64 R.1.n, .string R.1.t, .slice a2 R.1.l.length c2] 29) := ⟨_, rfl⟩
        have hb3 : Below w2.heap.size w2 w3 := by rw [hw3]; exact (Below.refl _ _).alloc (Nat.le_refl _) _
        have hx3 : w3.heap[w2.heap.size]? = some (.cells #[.int .i64 R.1.k, .bool R.1.b, .int .i64 R.1.n, .string R.1.t, .slice a2 R.1.l.length c2] 29 (0, 0)) := by rw [hw3]; exact heap_last
        have hs3 : w2.heap.size < w3.heap.size := by rw [hw3]; simp
        rw [← hw3]
        have H3 := Lib.hid (H2.out.step hb3 H2.out.2.1)
        have HB23 := Lib.hid hb3
        have HX3 := Lib.hid hx3
        clear hw3 hb3 hx3 q2 l2 n2
        refine (rApply_any (q : Int) sub HSL.out HFS.out (.slice (some ⟨bb, off + k * 5, none⟩) n (c - k)) w3 B (Nat.le_trans hB H3.out.1.size) (isL_below HSUB.out H3.out.1 hB)).mono ?_
        rw [← HRR.out]
        rintro e w4 hgv
        obtain ⟨s4, rfl, hl4, hb4⟩ := hgv
        obtain ⟨a4, c4, rfl⟩ := isL_form hl4
        have H4 := Lib.hid (H3.out.step hb4 H3.out.2.1)
        have HB24 := Lib.hid (HB23.out.trans (hb4.mono (Nat.le_of_lt hs3)))
        have hx4 := (hb4.block w2.heap.size hs3).trans HX3.out
        have HX4 := Lib.hid hx4
        have HL4 := Lib.hid hl4
        have hw4 := hb4.size
        have q4 := fun o => cell_of hx4 o
        have l4 : w2.heap.size < w4.heap.size := by omega
        have n4 : w2.heap.size ≠ w4.heap.size := by omega
        have hne : (R.2 != R.2) = false := by simp
        simp only [GV.agg]
        clear hb4 hx4 hl4
        go_wp2_with fail
        obtain ⟨w5, hw5⟩ : ∃ w5, w5 = w4.alloc (.cells #[.int .i64 R.1.k, .bool R.1.b, .int .i64 R.1.n, .string R.1.t, .slice a4 R.1.l.length c4] 29) := ⟨_, rfl⟩
        have hb5 : Below w4.heap.size w4 w5 := by rw [hw5]; exact (Below.refl _ _).alloc (Nat.le_refl _) _
        rw [← hw5]
        have hs5 : w4.heap.size ≤ w5.heap.size := hb5.size
        have H5 := Lib.hid (H4.out.step hb5 H4.out.2.1)
        have HB25 := Lib.hid (HB24.out.trans (hb5.mono (Nat.le_of_lt l4)))
        have HX5 := Lib.hid ((hb5.block w2.heap.size l4).trans HX4.out)
        have HL5 := Lib.hid (isL_below HL4.out hb5 (Nat.le_refl _))
        have HV5 : Hid (isL w5 0 w2.heap.size (.slice a2 R.1.l.length c2) R.1.l) := isL_below (isR_isL HI2.out (fun b hb => ⟨Nat.zero_le _, hb.2⟩)) HB25.out (Nat.le_refl _)
        clear hw5 hb5 q4 l4 n4 hne
        refine (zSame_any R.1 R.1 HRF.out HRF.out (.slice a2 R.1.l.length c2) (.slice a4 R.1.l.length c4) w5 w5.heap.size (Nat.le_refl _) (isL_wide HV5.out (Nat.le_refl _) (by omega)) (isL_wide HL5.out (Nat.le_refl _) hs5)).mono ?_
        rintro e w6 ⟨rfl, hb6⟩
        rw [(same_iff R.1 R.1).2 rfl]
        have H6 := Lib.hid (H5.out.step hb6 H5.out.2.1)
        have HB26 := Lib.hid (HB25.out.trans (hb6.mono (by omega)))
        have hx6 := (hb6.block w2.heap.size (by omega)).trans HX5.out
        have hw6 := hb6.size
        have q6 := fun o => cell_of hx6 o
        have l6 : w2.heap.size < w6.heap.size := by omega
        clear hb6 hx6
        go_wp2_with fail
        refine (over_any R.1 HRF.out w1.heap.size (.slice a2 R.1.l.length c2) w6 (by omega) (isR_mono HI2.out (fun b hb => HB26.out.block b hb.2) (fun b hb => ⟨hb.1, Nat.lt_of_lt_of_le hb.2 (Nat.le_of_lt l6)⟩))).mono ?_
        rintro e w7 ⟨rfl, hb7⟩
        have H7 := Lib.hid (H6.out.step hb7 H1.out.2.1)
        have HB17 := Lib.hid ((HB12.out.trans (HB26.out.mono hw2)).trans hb7)
        have q7 := fun o => cell_of H7.out.2.2 o
        have l7 : w.heap.size < w7.heap.size := H7.out.2.1
        have hw7 := HB17.out.size
        clear hb7 q6 l6
        go_wp2_with fail
        refine (zEqVals_any sub sub HSL.out HSL.out HFS.out HFS.out (.slice a1 n c1) (.slice (some ⟨bb, off + k * 5, none⟩) n (c - k)) w7 w1.heap.size hw7 (isL_below (isR_isL HI1.out (fun b hb => ⟨Nat.zero_le _, hb.2⟩)) HB17.out (Nat.le_refl _)) (isL_wide (isL_below HSUB.out H7.out.1 hB) (Nat.le_refl _) (Nat.le_trans hB H1.out.1.size))).mono ?_
        rintro e w8 ⟨rfl, hb8⟩
        rw [(sameL_iff sub sub).2 rfl]
        have H8 := Lib.hid (H7.out.step hb8 H7.out.2.1)
        clear hb8 q7 l7
        go_wp2_with fail
        go_roundw
        case rel => exact ⟨q + 1, by omega, by go_num, H8⟩
        case measure => simp [intOf]; omega
end Go.Proofs.YthfnecldbfnbfaaGreatDoor
