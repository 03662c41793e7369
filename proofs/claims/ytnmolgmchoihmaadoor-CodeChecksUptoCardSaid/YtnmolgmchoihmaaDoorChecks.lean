/-
  CodeChecks returns true, whatever instructions it is handed. Conditions: lists and texts shorter than 2^31, values of bulk at most 2^40; the table of the tests lies.
-/
import Derived.Test.YtnmolgmchoihmaaDoorCheckR
import Derived.Test.YtnmolgmchoihmaaDoorTextOf
import Derived.Test.YtnmolgmchoihmaaDoorWeight
import Derived.Test.YtnmolgmchoihmaaDoorWakes
import Derived.Deep.RegionHeld3
namespace Go.Proofs.YtnmolgmchoihmaaDoor
open Go Go.RowKit
set_option maxRecDepth 100000
set_option linter.unusedVariables false
/-- what is asked of one list of instructions -/
structure okC (l : List GI) : Prop where
  len : l.length ≤ 2147483646
  fit : fitI l
  num : fitT vtext l
  bulk : ∀ x ∈ l, x.v.bulk ≤ 1099511627776
  text : (textI vtext l).length ≤ 70368744177664
/-- the slice s reads as lists of instructions, all below B -/
def isC (w : World) (B : Nat) (s : Value) (l : List (List GI)) : Prop :=
  ∃ a c b off, s = .slice a l.length c ∧ l.length ≤ c ∧ (0 < l.length → a = some ⟨b, off, none⟩ ∧ b < B) ∧ ∀ i (h : i < l.length), ∃ v, w.cell? ⟨b, off + i, none⟩ = some v ∧ isI w B v l[i]
attribute [local go_sem ↓] Go.wp_at_zero Go.wp_at_succ
set_option maxHeartbeats 1600000 in
theorem checks_any (l : List (List GI)) (ol : ∀ x ∈ l, okC x) (hll : l.length ≤ 2147483647) (s : Value) (w : World) (B : Nat) (hB : B ≤ w.heap.size) (ht : tabOk w) (hs : isC w B s l) :
    Calls Tryd.prog 4 #[.agg #[s]] w fun e w' => e = .returned (.bool true) ∧ Below w.heap.size w w' := by
  obtain ⟨a, c, bb, off, rfl, hc, ha, hA⟩ := hs
  have HOL := Lib.hid ol
  have HT := Lib.hid ht
  have HA := Lib.hid hA
  have Ha := Lib.hid ha
  clear ol ht hA ha
  go_enter Tryd.func4, Tryd.ntmps4
  go_wp2_with fail
  go_loopw [3] (fun i wr => ∃ k : Nat, k ≤ l.length ∧ k ≤ 6 ∧ i = .int .i64 k ∧ Below w.heap.size w wr ∧ w.heap.size + 1 ≤ wr.heap.size ∧ Hid (wr.heap[w.heap.size]? = some (.cells #[.slice a l.length c] 46 (0, 0)))) (fun i _ => 6 - (intOf i).toNat)
  case atStart => exact ⟨0, Nat.zero_le _, by omega, rfl, (Below.refl _ _).alloc (Nat.le_refl _) _, by simp, heap_last⟩
  case round =>
    obtain ⟨k, hk, hk6, rfl, hbel, hsz, hbox⟩ := hrel
    have q1 := fun o => cell_of hbox.out o
    have hfin : Hid (∀ w2, Below w.heap.size w w2 → Calls Tryd.prog 16 #[] w2 fun e w' => e = .returned (.bool true) ∧ Below w2.heap.size w2 w') := fun w2 h2 => wakes_any w2 (tabOk_below HT.out h2)
    by_cases hlt : k < l.length
    rotate_left
    · obtain rfl : k = l.length := by omega
      go_wp2_with fail
      refine (hfin.out _ hbel).mono ?_
      rintro e w1 ⟨rfl, hb1⟩
      go_wp2_with fail
      go_ret
      exact ⟨rfl, below_down hbel hb1 (Nat.le_refl _)⟩
    by_cases h6 : k < 6
    rotate_left
    · obtain rfl : k = 6 := by omega
      go_wp2_with fail
      refine (hfin.out _ hbel).mono ?_
      rintro e w1 ⟨rfl, hb1⟩
      go_wp2_with fail
      go_ret
      exact ⟨rfl, below_down hbel hb1 (Nat.le_refl _)⟩
    obtain ⟨rfl, hb2⟩ := Ha.out (by omega)
    obtain ⟨v, hv, hi⟩ := HA.out k hlt
    obtain ⟨a2, c2, b2, off2, rfl, hc2, ha2, hA2⟩ := id hi
    have HI := Lib.hid hi
    have HA2 := Lib.hid hA2
    have Ha2 := Lib.hid ha2
    have HV := Lib.hid hv
    have HO := Lib.hid (HOL.out _ (List.getElem_mem hlt))
    have hg := fun (w' : World) (h : Below w.heap.size w w') o => h.cell (p := ⟨bb, o, none⟩) (Nat.lt_of_lt_of_le hb2 hB)
    have HG := Lib.hid hg
    have HB := Lib.hid hbel
    have hl2 := HO.out.len
    have hbw : bb < wr.heap.size := by omega
    clear hi ha2 hA2 hg hbel Ha hv
    obtain ⟨w0, rfl⟩ : ∃ w0, w0 = wr := ⟨_, rfl⟩
    have e6 : decide ((k : Int) < 6) = true := by simp; omega
    go_wp2_with fail
    go_loopw [4, 5] (fun n i wr => ∃ (m : Int) (j : Nat), j ≤ l[k].length ∧ n = .int .i64 m ∧ i = .int .i64 j ∧ Below w.heap.size w wr ∧ w.heap.size + 1 ≤ wr.heap.size ∧ Hid (wr.heap[w.heap.size]? = some (.cells #[.slice (some ⟨bb, off, none⟩) l.length c] 46 (0, 0)))) (fun _ i _ => l[k].length - (intOf i).toNat)
    case atStart => exact ⟨0, 0, Nat.zero_le _, rfl, rfl, HB.out, hsz, hbox⟩
    case round =>
      obtain ⟨m, j, hj, rfl, rfl, hbel2, hsz2, hbox2⟩ := hrel
      have HB2 := Lib.hid hbel2
      have hgr := HG.out wr hbel2
      clear hbel2 q1
      have q1 := fun o => cell_of hbox2.out o
      have hv := (hgr _).trans HV.out
      have hbr : bb < wr.heap.size := by omega
      clear hgr
      by_cases hjl : j < l[k].length
      · obtain ⟨rfl, hb3⟩ := Ha2.out (by omega)
        obtain ⟨ax, cx, x0, x1, x2, x3, x4, x5, x6, x7, hsx⟩ := HA2.out j hjl
        have hg2 : ∀ o, wr.cell? ⟨b2, o, none⟩ = w.cell? ⟨b2, o, none⟩ := fun o => HB2.out.cell (p := ⟨b2, o, none⟩) (Nat.lt_of_lt_of_le hb3 hB)
        have hbr2 : b2 < wr.heap.size := by omega
        have HSX := Lib.hid (isL_below hsx HB2.out hB)
        have p0 := (q1 0).trans rfl
        have hs0 : w.heap.size < wr.heap.size := by omega
        have hs1 : w.heap.size < wr.heap.size + 1 := by omega
        have hs2 : bb < wr.heap.size + 1 := by omega
        have hs3 : b2 < wr.heap.size + 1 := by omega
        have y2 := (hg2 _).trans x2
        have y3 := (hg2 _).trans x3
        have y4 := (hg2 _).trans x4
        have y5 := (hg2 _).trans x5
        have y6 := (hg2 _).trans x6
        have y7 := (hg2 _).trans x7
        have hbk := HO.out.bulk _ (List.getElem_mem hjl)
        have HC : Hid (Calls Tryd.prog 17 #[.slice (some ⟨wr.heap.size, 0, none⟩) 1 1] (wr.drew.alloc (.cells #[.int .i64 l[k][j].v.k, .bool l[k][j].v.b, .int .i64 l[k][j].v.n, .string l[k][j].v.t, .slice ax l[k][j].v.l.length cx] 28)) fun e w' => e = .returned (.int .i64 (vsize [l[k][j].v] : Nat)) ∧ Below wr.heap.size wr w') := by
          have hbA := (Below.refl wr.heap.size wr).drew.alloc (Nat.le_refl _) (.cells #[.int .i64 l[k][j].v.k, .bool l[k][j].v.b, .int .i64 l[k][j].v.n, .string l[k][j].v.t, .slice ax l[k][j].v.l.length cx] 28)
          have hsl : isL (wr.drew.alloc (.cells #[.int .i64 l[k][j].v.k, .bool l[k][j].v.b, .int .i64 l[k][j].v.n, .string l[k][j].v.t, .slice ax l[k][j].v.l.length cx] 28)) 0 (wr.heap.size + 1) (.slice (some ⟨wr.heap.size, 0, none⟩) 1 1) [l[k][j].v] :=
            one_isL (heap_last (w := wr.drew)) (by omega) (isL_wide (isL_below HSX.out hbA (Nat.le_trans hB HB2.out.size)) (Nat.le_refl _) (by have := HB2.out.size; omega))
          refine (Size_any [l[k][j].v] (by simp only [bulkL]; omega) _ _ (wr.heap.size + 1) (by simp) hsl).mono ?_
          rintro e w6 ⟨rfl, hb6⟩
          exact ⟨rfl, below_down hbA hb6 (Nat.le_refl _)⟩
        clear hg2 x0 x1 x2 x3 x4 x5 x6 x7 hsx
        go_wp2_with fail
        go_region_held3 (fun w' => w'.cell? ⟨w.heap.size, 0, none⟩ = some (.slice (some ⟨bb, off, none⟩) l.length c) ∧ w'.cell? ⟨bb, off + k, none⟩ = some (.slice (some ⟨b2, off2, none⟩) l[k].length c2) ∧ w'.cell? ⟨b2, off2 + j * 8 + 2, none⟩ = some (.string l[k][j].s) ∧ w'.cell? ⟨b2, off2 + j * 8 + 3, none⟩ = some (.int .i64 l[k][j].v.k) ∧ w'.cell? ⟨b2, off2 + j * 8 + 4, none⟩ = some (.bool l[k][j].v.b) ∧ w'.cell? ⟨b2, off2 + j * 8 + 5, none⟩ = some (.int .i64 l[k][j].v.n) ∧ w'.cell? ⟨b2, off2 + j * 8 + 6, none⟩ = some (.string l[k][j].v.t) ∧ w'.cell? ⟨b2, off2 + j * 8 + 7, none⟩ = some (.slice ax l[k][j].v.l.length cx) ∧ w.heap.size < w'.heap.size ∧ bb < w'.heap.size ∧ b2 < w'.heap.size)
          (first | go_keep | exact ⟨z0, zv, z2, z3, z4, z5, z6, z7, zs0, zs1, zs2⟩)
          (first
            | (go_simp
               go_at_call 17
               refine HC.out.mono ?_
               rintro e w6 ⟨rfl, hb6⟩
               have HB6 := Lib.hid hb6
               have z0 := (hb6.cell (p := ⟨w.heap.size, 0, none⟩) (show w.heap.size < wr.heap.size by omega)).trans p0
               have zv := (hb6.cell (p := ⟨bb, off + k, none⟩) hbr).trans hv
               have z2 := (hb6.cell (p := ⟨b2, off2 + j * 8 + 2, none⟩) hbr2).trans y2
               have z3 := (hb6.cell (p := ⟨b2, off2 + j * 8 + 3, none⟩) hbr2).trans y3
               have z4 := (hb6.cell (p := ⟨b2, off2 + j * 8 + 4, none⟩) hbr2).trans y4
               have z5 := (hb6.cell (p := ⟨b2, off2 + j * 8 + 5, none⟩) hbr2).trans y5
               have z6 := (hb6.cell (p := ⟨b2, off2 + j * 8 + 6, none⟩) hbr2).trans y6
               have z7 := (hb6.cell (p := ⟨b2, off2 + j * 8 + 7, none⟩) hbr2).trans y7
               have hz6 := hb6.size
               have zs0 : w.heap.size < w6.heap.size := by omega
               have zs1 : bb < w6.heap.size := by omega
               have zs2 : b2 < w6.heap.size := by omega
               clear hb6 hz6))
        all_goals
          have HBX := Lib.hid ((HB6.out.block w.heap.size hs0).trans hbox2.out)
          have HBW := Lib.hid (below_down HB2.out HB6.out (Nat.le_refl _))
          have hz6 := HB6.out.size
          clear z0 zv z2 z3 z4 z5 z6 z7
          go_wp2_with fail
          go_roundw
          case rel => exact ⟨_, j + 1, by omega, rfl, by go_num, HBW.out, by omega, HBX.out⟩
          case measure => simp [intOf]; omega
      · obtain rfl : j = l[k].length := by omega
        by_cases hw : 2000 < m
        · go_wp2_with fail
          go_roundw
          case rel => exact ⟨k + 1, by omega, by omega, by go_num, HB2.out, by omega, hbox2⟩
          case measure => simp [intOf]; omega
        have hw' : decide (2000 < m) = false := by simpa using hw
        have hs0 : w.heap.size < wr.heap.size := by omega
        have p0 := (q1 0).trans rfl
        have ga := cell_grow (Below.refl wr.heap.size wr) (Nat.le_refl _) hs0
        have gl := cell_grow (Below.refl wr.heap.size wr) (Nat.le_refl _) hbr
        have hbg := fun d os => below_grow HB2.out (Nat.le_refl _) d os
        have HBG := Lib.hid hbg
        have HC1 : Hid (∀ d os, Calls Tryd.prog 18 #[.slice a2 l[k].length c2] (Go.Sort.grow (redrawn wr d) os) fun e w' => e = .returned (.bool (checkC l[k])) ∧ Below (Go.Sort.grow (redrawn wr d) os).heap.size (Go.Sort.grow (redrawn wr d) os) w') := fun d os =>
          Check_any l[k] HO.out.len HO.out.fit (.slice a2 l[k].length c2) (Go.Sort.grow (redrawn wr d) os) B (Nat.le_trans hB (HBG.out d os).size) (isI_below HI.out (HBG.out d os) hB)
        have HC2 : Hid (∀ d os, Calls Tryd.prog 19 #[.slice a2 l[k].length c2] (Go.Sort.grow (redrawn wr d) os) fun e w' => e = .returned (.bool (checkC l[k])) ∧ Below (Go.Sort.grow (redrawn wr d) os).heap.size (Go.Sort.grow (redrawn wr d) os) w') := fun d os =>
          checkR_any l[k] HO.out.len HO.out.fit (.slice a2 l[k].length c2) (Go.Sort.grow (redrawn wr d) os) B (Nat.le_trans hB (HBG.out d os).size) (isI_below HI.out (HBG.out d os) hB)
        obtain ⟨tx, htx⟩ : ∃ t : ByteArray, t = ⟨(textI vtext l[k]).toArray⟩ := ⟨_, rfl⟩
        have HC3 : Hid (∀ d os, Calls Tryd.prog 20 #[.slice a2 l[k].length c2] (Go.Sort.grow (redrawn wr d) os) fun e w' => e = .returned (.string tx) ∧ Below (Go.Sort.grow (redrawn wr d) os).heap.size (Go.Sort.grow (redrawn wr d) os) w') := fun d os => by
          rw [htx]
          exact Text_any vtext l[k] HO.out.len HO.out.fit HO.out.num (fun x hx _ => vText_any x.v (HO.out.fit x hx).1 (HO.out.bulk x hx)) HO.out.text (.slice a2 l[k].length c2) (Go.Sort.grow (redrawn wr d) os) B (Nat.le_trans hB (HBG.out d os).size) (tabOk_below HT.out (HBG.out d os)) (isI_below HI.out (HBG.out d os) hB)
        have HC4 : Hid (∀ d os, Calls Tryd.prog 21 #[.slice a2 l[k].length c2] (Go.Sort.grow (redrawn wr d) os) fun e w' => e = .returned (.string tx) ∧ Below (Go.Sort.grow (redrawn wr d) os).heap.size (Go.Sort.grow (redrawn wr d) os) w') := fun d os => by
          rw [htx]
          exact textOf_any l[k] HO.out.len HO.out.fit HO.out.num HO.out.bulk HO.out.text (.slice a2 l[k].length c2) (Go.Sort.grow (redrawn wr d) os) B (Nat.le_trans hB (HBG.out d os).size) (tabOk_below HT.out (HBG.out d os)) (isI_below HI.out (HBG.out d os) hB)
        have hne : (checkC l[k] != checkC l[k]) = false := by simp
        have hne2 : (tx.toList != tx.toList) = false := by simp
        have hne3 : (tx.toList == tx.toList) = true := by simp
        clear htx hbg
        go_wp2_with fail
        refine wp_region_quiet_below (by kernel_rfl) (by kernel_rfl) ?_
        repeat (quiet_step (fail))
        quiet_step (exact Calls.regrown_of (HC1.out _ _))
        repeat (quiet_step (fail))
        quiet_step (exact Calls.regrown_of (HC2.out _ _))
        repeat (quiet_step (fail))
        quiet_step (exact Calls.regrown_of (HC3.out _ _))
        repeat (quiet_step (fail))
        quiet_step (exact Calls.regrown_of (HC4.out _ _))
        repeat (quiet_step (fail))
        refine wpQuiet_nil ?_
        intro w6 hw6
        have hb6 : Below wr.heap.size wr w6 := by
          obtain ⟨p, hp⟩ := hw6
          rw [hp]
          exact below_grow (Below.refl wr.heap.size wr) (Nat.le_refl _) _ _
        have HB6 := Lib.hid (below_down HB2.out hb6 (Nat.le_refl _))
        have HX6 := Lib.hid ((hb6.block w.heap.size hs0).trans hbox2.out)
        have hz6 := hb6.size
        clear hw6 hb6 ga gl q1
        go_wp2_with fail
        go_roundw
        case rel => exact ⟨k + 1, by omega, by omega, by go_num, HB6.out, by omega, HX6⟩
        case measure => simp [intOf]; omega
end Go.Proofs.YtnmolgmchoihmaaDoor
