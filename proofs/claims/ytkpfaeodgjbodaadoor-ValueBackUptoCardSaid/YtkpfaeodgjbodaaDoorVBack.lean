/-
  ValueBack returns true, whatever values it is handed. Conditions: lists and texts shorter than 2^31, values of bulk at most 2^24; the table of the tests lies.
-/
import Derived.Test.YtkpfaeodgjbodaaDoorLight
import Derived.Test.YtkpfaeodgjbodaaDoorMJ
import Derived.Test.YtkpfaeodgjbodaaDoorEqB
import Derived.Test.YtkpfaeodgjbodaaDoorMO
import Derived.Deep.RegionHeld3
import Derived.Deep.DeepCutAuto
import Derived.Deep.CutBlock
import Derived.Deep.CutRange
namespace Go.Proofs.YtkpfaeodgjbodaaDoor
open Go Go.RowKit
set_option maxRecDepth 100000
set_option linter.unusedVariables false
theorem decode_more {w : World} {g v : Nat} {bs : List Nat} (hi : isB w w.heap.size (some ⟨g, 0, none⟩) (bs ++ [0])) (hv : bs.length + 1 ≤ v) (hb : ∀ b ∈ bs, b < 256) (hl : bs.length + 1 ≤ 2147483647) (hd : decP (bs ++ [0]) = noP 8) :
    Calls Tryd.prog 8 #[.slice (some ⟨g, 0, none⟩) (bs.length + 1) v] w (DecO w (noP 8)) := by
  have h := decode_any w.heap.size (some ⟨g, 0, none⟩) v (bs ++ [0]) w (Nat.le_refl _) hi (by simpa using hv) (fun b hb2 => by
    rcases List.mem_append.1 hb2 with h | h
    · exact hb b h
    · simp at h
      omega) (by simpa using hl)
  rw [hd] at h
  simpa only [List.length_append, List.length_cons, List.length_nil, Nat.zero_add] using h
theorem decode_less {w : World} {g v : Nat} {bs : List Nat} (hi : isB w w.heap.size (some ⟨g, 0, none⟩) bs) (hv : bs.length ≤ v) (hb : ∀ b ∈ bs, b < 256) (hl : bs.length ≤ 2147483647) (hd : decP bs.dropLast = noP 8) :
    Calls Tryd.prog 8 #[.slice (some ⟨g, 0, none⟩) (bs.length - 1) v] w (DecO w (noP 8)) := by
  have hlen : bs.dropLast.length = bs.length - 1 := List.length_dropLast
  have h := decode_any w.heap.size (some ⟨g, 0, none⟩) v bs.dropLast w (Nat.le_refl _) (fun h0 => by
    obtain ⟨b, off, e, hb1, hc⟩ := hi (by omega)
    refine ⟨b, off, e, hb1, fun i h => ?_⟩
    rw [List.getElem_dropLast]
    exact hc i (by omega)) (by omega) (fun b hb2 => hb b (List.dropLast_subset _ hb2)) (by omega)
  rw [hd, hlen] at h
  exact h
set_option maxHeartbeats 3200000 in
theorem vback_any (l : List GV) (fl : fitL l) (hbk : bulkL l ≤ 16777216) (hll : l.length ≤ 2147483647) (s : Value) (w : World) (B : Nat) (hB : B ≤ w.heap.size) (ht : tabOk w) (hs : isL w 0 B s l) :
    Calls Tryd.prog 3 #[.agg #[s]] w fun e w' => e = .returned (.bool true) ∧ Below w.heap.size w w' := by
  obtain ⟨a, c, bb, off, rfl, hc, ha, hA⟩ := isL_open hs
  have HS := Lib.hid hs
  have HFL := Lib.hid fl
  have HBK := Lib.hid hbk
  have HT := Lib.hid ht
  have HA := Lib.hid hA
  have Ha := Lib.hid ha
  have hb0 := (Below.refl w.heap.size w).alloc (Nat.le_refl _) (.cells #[.slice a l.length c] 24)
  have HLT := Lib.hid (light_any l (by omega) (.slice a l.length c) _ B (Nat.le_trans hB hb0.size) (isL_below hs hb0 hB))
  have HB0 := Lib.hid hb0
  clear fl ht hs hA ha hbk hb0
  have hfin : Hid (∀ w2, Below w.heap.size w w2 → Calls Tryd.prog 5 #[] w2 fun e w' => e = .returned (.bool true) ∧ Below w2.heap.size w2 w') := fun w2 h2 => wakesV_any w2 (tabOk_below HT.out h2)
  go_enter Tryd.func3, Tryd.ntmps3
  go_wp2_with fail
  refine HLT.out.mono ?_
  rintro e w1 ⟨rfl, hb1⟩
  have HB1 := Lib.hid (below_down HB0.out hb1 (Nat.le_refl _))
  have HX1 := Lib.hid ((hb1.block w.heap.size (by simp)).trans (heap_last (w := w)))
  have hs1 : w.heap.size + 1 ≤ w1.heap.size := by have := hb1.size; simpa using this
  clear hb1
  cases hd0 : decide (vsize l ≤ 9000)
  · go_wp2_with fail
    refine (hfin.out _ HB1.out).mono ?_
    rintro e w2 ⟨rfl, hb2⟩
    go_wp2_with fail
    go_ret
    exact ⟨rfl, below_down HB1.out hb2 (Nat.le_refl _)⟩
  go_wp2_with fail
  clear hd0
  go_loopw [3] (fun i wr => ∃ k : Nat, k ≤ l.length ∧ k ≤ 10 ∧ i = .int .i64 k ∧ Below w.heap.size w wr ∧ w.heap.size + 1 ≤ wr.heap.size ∧ Hid (wr.heap[w.heap.size]? = some (.cells #[.slice a l.length c] 24 (0, 0)))) (fun i _ => 10 - (intOf i).toNat)
  case atStart => exact ⟨0, Nat.zero_le _, by omega, rfl, HB1.out, hs1, HX1⟩
  case round =>
    obtain ⟨k, hk, hk6, rfl, hbel, hsz, hbox⟩ := hrel
    have q1 := fun o => cell_of hbox.out o
    by_cases hlt : k < l.length
    rotate_left
    · obtain rfl : k = l.length := by omega
      go_wp2_with fail
      refine (hfin.out _ hbel).mono ?_
      rintro e w1 ⟨rfl, hb1⟩
      go_wp2_with fail
      go_ret
      exact ⟨rfl, below_down hbel hb1 (Nat.le_refl _)⟩
    by_cases h6 : k < 10
    rotate_left
    · obtain rfl : k = 10 := by omega
      go_wp2_with fail
      refine (hfin.out _ hbel).mono ?_
      rintro e w1 ⟨rfl, hb1⟩
      go_wp2_with fail
      go_ret
      exact ⟨rfl, below_down hbel hb1 (Nat.le_refl _)⟩
    obtain ⟨rfl, hb2, hb2'⟩ := Ha.out (by omega)
    obtain ⟨ax, cx, x0, x1, x2, x3, x4, hsx⟩ := cellsV_slice (HA.out k hlt)
    have HB := Lib.hid hbel
    have hgr : ∀ o, wr.cell? ⟨bb, o, none⟩ = w.cell? ⟨bb, o, none⟩ := fun o => HB.out.cell (p := ⟨bb, o, none⟩) (Nat.lt_of_lt_of_le hb2' hB)
    have hzb : bb < wr.heap.size := by omega
    have Hsx := Lib.hid hsx
    have HFX := Lib.hid (fitL_mem HFL.out _ (List.getElem_mem hlt))
    have HBX := Lib.hid (Nat.le_trans (bulkL_mem (List.getElem_mem hlt)) HBK.out)
    have X0 := Lib.hid x0
    have X1 := Lib.hid x1
    have X2 := Lib.hid x2
    have X3 := Lib.hid x3
    have X4 := Lib.hid x4
    clear hsx hbel Ha
    have e6 : decide ((k : Int) < 10) = true := by simp; omega
    obtain ⟨w0, rfl⟩ : ∃ w0, w0 = wr := ⟨_, rfl⟩
    go_wp2_with fail
    refine (encode_any l[k] HFX.out (Nat.le_trans HBX.out (by omega)) (.slice ax l[k].l.length cx) w0 B (Nat.le_trans hB HB.out.size) (isL_below Hsx.out HB.out hB)).mono ?_
    rintro e w2 ⟨hout, hbE⟩
    have HB2 := Lib.hid (below_down HB.out hbE (Nat.le_refl _))
    have HX2 := Lib.hid ((hbE.block w.heap.size (by omega)).trans hbox.out)
    have hs2 := hbE.size
    clear q1 hgr hbE
    have q2 := fun o => cell_of HX2.out o
    have hgr2 : ∀ o, w2.cell? ⟨bb, o, none⟩ = w.cell? ⟨bb, o, none⟩ := fun o => HB2.out.cell (p := ⟨bb, o, none⟩) (Nat.lt_of_lt_of_le hb2' hB)
    by_cases hv : vmay l[k] = true
    rotate_left
    · rw [if_neg hv] at hout
      subst hout
      go_wp2_with fail
      refine (vCheck_any l[k] HFX.out (.slice ax l[k].l.length cx) w2 B (Nat.le_trans hB HB2.out.size) (isL_below Hsx.out HB2.out hB)).mono ?_
      rintro e w3 ⟨rfl, hb3⟩
      have HB3 := Lib.hid (below_down HB2.out hb3 (Nat.le_refl _))
      have HX3 := Lib.hid ((hb3.block w.heap.size (by omega)).trans HX2.out)
      have hs3 := hb3.size
      rw [show vmay l[k] = false by simpa using hv]
      clear hb3 q2 hgr2
      go_wp2_with fail
      go_roundw
      case rel => exact ⟨k + 1, by omega, by omega, by go_num, HB3.out, by omega, HX3.out⟩
      case measure => simp [intOf]; omega
    rw [if_pos hv] at hout
    obtain ⟨v, rfl, hby⟩ := hout
    obtain ⟨g, cc, rfl, hg, hgs, hBs, hcc, hcm, hcl⟩ := isB_of hby (enc_pos _)
    have HBY := Lib.hid (enc_lt l[k].size l[k] (Nat.le_refl _))
    have HLE := Lib.hid (Nat.le_trans (enc_bulk l[k].size l[k] (Nat.le_refl _)) (Nat.mul_le_mul_left 9 HBX.out))
    have HPO := Lib.hid (enc_pos l[k])
    have HD1 := Lib.hid (decP_enc HFX.out hv)
    have HD2 := Lib.hid (decP_more HFX.out hv 0 [])
    have HD3 := Lib.hid (decP_less HFX.out hv)
    obtain ⟨bs, hbs⟩ : ∃ bs, bs = enc l[k] := ⟨_, rfl⟩
    have HBS := Lib.hid hbs
    rw [← hbs] at hBs hcc hcl HBY HLE HPO HD1 HD2 HD3 ⊢
    have hn0 := HPO.out
    have e0 : decide ((bs.length : Int) = 0) = false := decide_eq_false (by omega)
    have HIB := Lib.hid hBs
    have HCL := Lib.hid hcl
    clear hby hbs hBs hcl
    go_wp2_with fail
    refine (decode_any w2.heap.size (some ⟨g, 0, none⟩) cc bs w2 (Nat.le_refl _) HIB.out hcc HBY.out (by have := HLE.out; omega)).mono ?_
    rintro e w3 ⟨s3, rfl, hl3, hb3⟩
    rw [HD1.out] at hl3 ⊢
    obtain ⟨a3, c3, rfl⟩ := isL_form hl3
    have HL3 := Lib.hid hl3
    have HB3 := Lib.hid (below_down HB2.out hb3 (Nat.le_refl _))
    have HX3 := Lib.hid ((hb3.block w.heap.size (by omega)).trans HX2.out)
    have HI3 := Lib.hid (isB_here HIB.out hb3)
    have HCL3 : Hid (∀ i (h : i < bs.length), w3.cell? ⟨g, i, none⟩ = some (.int .u8 (bs[i] : Int))) := fun i h => (hb3.cell (p := ⟨g, i, none⟩) hgs).trans (HCL.out i h)
    have hs3 := hb3.size
    simp only [GV.agg]
    clear hb3 q2 hgr2 hl3
    go_upto_region 13 with fail
    obtain ⟨w4, hw4⟩ : ∃ v, v = w3.alloc (.cells #[.int .i64 l[k].k, .bool l[k].b, .int .i64 l[k].n, .string l[k].t, .slice a3 l[k].l.length c3] 32) := ⟨_, rfl⟩
    have hb4 : Below w3.heap.size w3 w4 := by rw [hw4]; exact (Below.refl _ _).alloc (Nat.le_refl _) _
    have hc4 : w4.heap[w3.heap.size]? = some (.cells #[.int .i64 l[k].k, .bool l[k].b, .int .i64 l[k].n, .string l[k].t, .slice a3 l[k].l.length c3] 32 (0, 0)) := by rw [hw4]; exact heap_last
    have hs4 : w3.heap.size < w4.heap.size := by rw [hw4]; simp
    rw [← hw4]
    obtain ⟨pv, hpv⟩ : ∃ p, p = w3.heap.size := ⟨_, rfl⟩
    have HB4 := Lib.hid (below_down HB3.out hb4 (Nat.le_refl _))
    have HX4 := Lib.hid ((hb4.block w.heap.size (by omega)).trans HX3.out)
    have HI4 := Lib.hid (isB_here HI3.out (hb4.mono hs3))
    have HV4 := Lib.hid (isL_wide (isL_below HL3.out hb4 (Nat.le_refl _)) (Nat.zero_le _) (Nat.le_of_lt hs4))
    have HCL4 : Hid (∀ i (h : i < bs.length), w4.cell? ⟨g, i, none⟩ = some (.int .u8 (bs[i] : Int))) := fun i h => (hb4.cell (p := ⟨g, i, none⟩) (show g < w3.heap.size by omega)).trans ((HCL3.out i h))
    rw [← hpv] at hs4 hc4 ⊢
    have hpw : w2.heap.size ≤ pv := by omega
    have HC4 := Lib.hid hc4
    clear hw4 hpv hb4 hc4 HB3 HX3 HI3 HL3 HCL3
    obtain ⟨w5, hw5⟩ : ∃ v, v = w4.alloc (.cells #[.int .u8 0] 5) := ⟨_, rfl⟩
    have hb5 : Below w4.heap.size w4 w5 := by rw [hw5]; exact (Below.refl _ _).alloc (Nat.le_refl _) _
    have hz5 : w5.cell? ⟨w4.heap.size, 0, none⟩ = some (.int .u8 0) := by rw [hw5]; exact cell_of heap_last 0
    have hs5 : w5.heap.size = w4.heap.size + 1 := by rw [hw5]; simp
    obtain ⟨v6, w6, hr, hv6, hb6, hi6⟩ := more_run (w := w5) (g := g) (k := w4.heap.size) (bs := bs) (by have := HLE.out; omega) (fun i h => (hb5.cell (p := ⟨g, i, none⟩) (show g < w4.heap.size by omega)).trans (HCL4.out i h)) hz5 27
    rw [hs5] at hr
    have HR := Lib.hid hr
    clear hr
    go_wp2_with (at_builtin; refine Lib.wpList_append_run _ rfl _ _ _ _ rfl _ _ rfl rfl _ _ (hw5 ▸ HR.out) ?_)
    have hb5' : Below w.heap.size w w6 := below_down (below_down HB4.out hb5 (Nat.le_refl _)) hb6 (Nat.le_refl _)
    rw [← hs5]
    refine (decode_more hi6 hv6 HBY.out (by have := HLE.out; omega) HD2.out).mono ?_
    rintro e w7 ⟨s7, rfl, hl7, hb7⟩
    have HB7 := Lib.hid (below_down hb5' hb7 (Nat.le_refl _))
    have hs57 : w4.heap.size ≤ w7.heap.size := by have h1 := hb6.size; have h2 := hb7.size; omega
    have hb47 : Below w4.heap.size w4 w7 := (hb5.trans (hb6.mono (by omega))).trans (hb7.mono (by have := hb6.size; omega))
    have HX7 := Lib.hid ((hb47.block w.heap.size (by omega)).trans HX4.out)
    have HC7 := Lib.hid ((hb47.block pv hs4).trans HC4.out)
    have HV7 := Lib.hid (isL_wide (isL_below HV4.out hb47 (Nat.le_refl _)) (Nat.zero_le _) hs57)
    have HI7 := Lib.hid (isB_wide (isB_here HI4.out (hb47.mono (by omega))) (show w2.heap.size ≤ w7.heap.size by omega))
    obtain ⟨a7, c7, rfl⟩ := isL_form hl7
    simp only [GV.agg, noP]
    clear hb5' hb5 hz5 hs5 hb6 hi6 hv6 HR hb7 hb47 hl7 HB4 HX4 HC4 HV4 HI4 HCL4
    go_upto_region 14 with fail
    obtain ⟨w8, hw8⟩ : ∃ v, v = w7.alloc (.cells #[.int .i64 0, .bool false, .int .i64 0, .string { data := #[] }, .slice a7 0 c7] 32) := ⟨_, rfl⟩
    have hb8 : Below w7.heap.size w7 w8 := by rw [hw8]; exact (Below.refl _ _).alloc (Nat.le_refl _) _
    rw [← hw8]
    have hs8 := hb8.size
    have HB8 := Lib.hid (below_down HB7.out hb8 (Nat.le_refl _))
    have HX8 := Lib.hid ((hb8.block w.heap.size (by omega)).trans HX7.out)
    have HC8 := Lib.hid ((hb8.block pv (by omega)).trans HC7.out)
    have HV8 := Lib.hid (isL_wide (isL_below HV7.out hb8 (Nat.le_refl _)) (Nat.zero_le _) hs8)
    have HI8 := Lib.hid (isB_wide (isB_here HI7.out hb8) hs8)
    clear hw8 hb8 HB7 HX7 HC7 HV7 HI7
    obtain ⟨m1, hm1⟩ : ∃ m, m = bs.length - 1 := ⟨_, rfl⟩
    have ew : wrap64 ((bs.length : Int) - 1) = (m1 : Int) := by have := HLE.out; unfold wrap64; omega
    have ec : (m1 : Int) ≤ (cc : Int) := by omega
    have HM1 := Lib.hid hm1
    clear hm1
    go_wp2_with fail
    rw [HM1.out]
    refine (decode_less HI8.out hcc HBY.out (by have := HLE.out; omega) HD3.out).mono ?_
    rintro e w9 ⟨s9, rfl, hl9, hb9⟩
    obtain ⟨a9, c9, rfl⟩ := isL_form hl9
    rw [← HM1.out]
    have hs9 := hb9.size
    have HB9 := Lib.hid (below_down HB8.out hb9 (Nat.le_refl _))
    have HX9 := Lib.hid ((hb9.block w.heap.size (by omega)).trans HX8.out)
    have HC9 := Lib.hid ((hb9.block pv (by omega)).trans HC8.out)
    have HV9 := Lib.hid (isL_wide (isL_below HV8.out hb9 (Nat.le_refl _)) (Nat.zero_le _) hs9)
    have HI9 := Lib.hid (isB_wide (isB_here HI8.out hb9) hs9)
    simp only [GV.agg, noP]
    clear hb9 hl9 HB8 HX8 HC8 HV8 HI8 ew ec
    go_upto_region 15 with fail
    obtain ⟨wA, hwA⟩ : ∃ v, v = w9.alloc (.cells #[.int .i64 0, .bool false, .int .i64 0, .string { data := #[] }, .slice a9 0 c9] 32) := ⟨_, rfl⟩
    have hbA : Below w9.heap.size w9 wA := by rw [hwA]; exact (Below.refl _ _).alloc (Nat.le_refl _) _
    rw [← hwA]
    have hsA := hbA.size
    have HBA := Lib.hid (below_down HB9.out hbA (Nat.le_refl _))
    have HXA := Lib.hid ((hbA.block w.heap.size (by omega)).trans HX9.out)
    have HCA := Lib.hid ((hbA.block pv (by omega)).trans HC9.out)
    have HVA := Lib.hid (isL_wide (isL_below HV9.out hbA (Nat.le_refl _)) (Nat.zero_le _) hsA)
    have HIA := Lib.hid (isB_wide (isB_here HI9.out hbA) hsA)
    clear hwA hbA HB9 HX9 HC9 HV9 HI9
    have q1 := fun o => cell_of HXA.out o
    have qc := fun o => cell_of HCA.out o
    have hgr : ∀ o, wA.cell? ⟨bb, o, none⟩ = w.cell? ⟨bb, o, none⟩ := fun o => HBA.out.cell (p := ⟨bb, o, none⟩) (Nat.lt_of_lt_of_le hb2' hB)
    have ga := cell_grow (Below.refl wA.heap.size wA) (Nat.le_refl _) (show w.heap.size < wA.heap.size by omega)
    have gc := cell_grow (Below.refl wA.heap.size wA) (Nat.le_refl _) (show pv < wA.heap.size by omega)
    have gl := cell_grow (Below.refl wA.heap.size wA) (Nat.le_refl _) (show bb < wA.heap.size by omega)
    have HBG := Lib.hid (fun d os => below_grow HBA.out (Nat.le_refl _) d os)
    have HBH := Lib.hid (fun d os => below_grow (Below.refl wA.heap.size wA) (Nat.le_refl _) d os)
    have HC1 : Hid (∀ d os, Calls Tryd.prog 9 #[l[k].agg (.slice a3 l[k].l.length c3), l[k].agg (.slice ax l[k].l.length cx)] (Go.Sort.grow (redrawn wA d) os) fun e w' => e = .returned (.bool (same l[k] l[k])) ∧ Below (Go.Sort.grow (redrawn wA d) os).heap.size (Go.Sort.grow (redrawn wA d) os) w') := fun d os =>
      zSame_any l[k] l[k] HFX.out HFX.out (.slice a3 l[k].l.length c3) (.slice ax l[k].l.length cx) _ wA.heap.size (HBH.out d os).size (isL_below HVA.out (HBH.out d os) (Nat.le_refl _)) (isL_wide (isL_below Hsx.out (HBG.out d os) hB) (Nat.le_refl _) (by omega))
    rw [(same_iff l[k] l[k]).2 rfl] at HC1
    simp only [GV.agg] at HC1
    go_wp2_with fail
    refine wp_region_quiet_below (by kernel_rfl) (by kernel_rfl) ?_
    repeat (quiet_step (fail))
    quiet_step (exact Calls.regrown_of (HC1.out _ _))
    repeat (quiet_step (fail))
    refine wpQuiet_nil ?_
    intro w6 hw6
    have hbB : Below wA.heap.size wA w6 := by
      obtain ⟨p, hp⟩ := hw6
      rw [hp]
      exact below_grow (Below.refl wA.heap.size wA) (Nat.le_refl _) _ _
    have hsB := hbB.size
    have HBB := Lib.hid (below_down HBA.out hbB (Nat.le_refl _))
    have HXB := Lib.hid ((hbB.block w.heap.size (by omega)).trans HXA.out)
    have HIB2 := Lib.hid (isB_wide (isB_here HIA.out hbB) hsB)
    clear hw6 ga gc gl q1 qc hgr HC1 hbB
    go_wp2_with fail
    go_loopw [12] (fun i wr => ∃ j : Nat, j ≤ k ∧ i = .int .i64 j ∧ Below w6.heap.size w6 wr) (fun i _ => 10 - (intOf i).toNat)
    case atStart => exact ⟨0, Nat.zero_le _, rfl, Below.refl _ _⟩
    case round =>
      obtain ⟨j, hj, rfl, hbel⟩ := hrel
      have HK := Lib.hid hbel
      have HW := Lib.hid (below_down HBB.out hbel (Nat.le_refl _))
      have hwr := hbel.size
      have HXr := Lib.hid ((hbel.block w.heap.size (by omega)).trans HXB.out)
      have HIr := Lib.hid (isB_wide (isB_here HIB2.out hbel) hwr)
      have q1 := fun o => cell_of HXr.out o
      clear hbel
      by_cases hjk : j < k
      rotate_left
      · obtain rfl : j = k := by omega
        go_wp2_with fail
        go_roundw
        case rel => exact ⟨j + 1, by omega, by omega, by go_num, HW.out, by omega, HXr⟩
        case measure => simp [intOf]; omega
      have hjl : j < l.length := by omega
      have hgr : ∀ o, wr.cell? ⟨bb, o, none⟩ = w.cell? ⟨bb, o, none⟩ := fun o => HW.out.cell (p := ⟨bb, o, none⟩) (Nat.lt_of_lt_of_le hb2' hB)
      obtain ⟨ay, cy, y0, y1, y2, y3, y4, hsy⟩ := cellsV_slice (HA.out j hjl)
      have Hsy := Lib.hid hsy
      have HFY := Lib.hid (fitL_mem HFL.out _ (List.getElem_mem hjl))
      have HBY2 := Lib.hid (Nat.le_trans (bulkL_mem (List.getElem_mem hjl)) HBK.out)
      have Y0 := Lib.hid y0
      have Y1 := Lib.hid y1
      have Y2 := Lib.hid y2
      have Y3 := Lib.hid y3
      have Y4 := Lib.hid y4
      clear hsy
      obtain ⟨wk, rfl⟩ : ∃ v, v = wr := ⟨_, rfl⟩
      go_wp2_with fail
      refine (encode_any l[j] HFY.out (Nat.le_trans HBY2.out (by omega)) (.slice ay l[j].l.length cy) wk B (Nat.le_trans hB HW.out.size) (isL_below Hsy.out HW.out hB)).mono ?_
      rintro e wC ⟨hout, hbE⟩
      have HBC := Lib.hid (below_down HW.out hbE (Nat.le_refl _))
      have HKC := Lib.hid (below_down HK.out hbE (Nat.le_refl _))
      have HXC := Lib.hid ((hbE.block w.heap.size (by omega)).trans HXr.out)
      have HIC := Lib.hid (isB_wide (isB_here HIr.out hbE) hbE.size)
      have hsC := hbE.size
      clear q1 hgr hbE y0 y1 y2 y3 y4
      by_cases hvy : vmay l[j] = true
      rotate_left
      · rw [if_neg hvy] at hout
        subst hout
        go_wp2_with fail
        go_quiet (fail)
        go_wp2_with fail
        go_roundw
        case rel => exact ⟨j + 1, by omega, by go_num, HKC.out.trans ⟨rfl, rfl, rfl, Nat.le_refl _, fun _ _ => rfl⟩⟩
        case measure => simp [intOf]; omega
      rw [if_pos hvy] at hout
      obtain ⟨v, rfl, hby⟩ := hout
      obtain ⟨g2, c2, rfl, hg2, hgs2, hBs2, hcc2, hcm2, hcl2⟩ := isB_of hby (enc_pos _)
      have HBE := Lib.hid (enc_lt l[j].size l[j] (Nat.le_refl _))
      obtain ⟨SB, hSB⟩ : ∃ S, S = same l[k] l[j] := ⟨_, rfl⟩
      have HSE : Hid (decide (bs = enc l[j]) = SB) := by
        rw [Hid, hSB, Bool.eq_iff_iff, decide_eq_true_eq, same_iff, HBS.out]
        exact ⟨fun h => enc_inj HFX.out HFY.out hv hvy h, fun h => by rw [h]⟩
      obtain ⟨cs, hcs⟩ : ∃ cs, cs = enc l[j] := ⟨_, rfl⟩
      rw [← hcs] at hBs2 HBE HSE ⊢
      have q1 := fun o => cell_of HXC.out o
      have hgr : ∀ o, wC.cell? ⟨bb, o, none⟩ = w.cell? ⟨bb, o, none⟩ := fun o => HBC.out.cell (p := ⟨bb, o, none⟩) (Nat.lt_of_lt_of_le hb2' hB)
      have ga := cell_grow (Below.refl wC.heap.size wC) (Nat.le_refl _) (show w.heap.size < wC.heap.size by omega)
      have gl := cell_grow (Below.refl wC.heap.size wC) (Nat.le_refl _) (show bb < wC.heap.size by omega)
      have HBG := Lib.hid (fun d os => below_grow HBC.out (Nat.le_refl _) d os)
      have HBH := Lib.hid (fun d os => below_grow (Below.refl wC.heap.size wC) (Nat.le_refl _) d os)
      have HC1 : Hid (∀ d os, Calls Tryd.prog 10 #[.slice (some ⟨g, 0, none⟩) bs.length cc, .slice (some ⟨g2, 0, none⟩) cs.length c2] (Go.Sort.grow (redrawn wC d) os) fun e w' => e = .returned (.bool SB) ∧ Below (Go.Sort.grow (redrawn wC d) os).heap.size (Go.Sort.grow (redrawn wC d) os) w') := fun d os => by
        refine (eqB_any wC.heap.size wC.heap.size (some ⟨g, 0, none⟩) (some ⟨g2, 0, none⟩) cc c2 bs cs _ (isB_here HIC.out (HBH.out d os)) (isB_here hBs2 (HBH.out d os)) HBY.out HBE.out).mono ?_
        rintro e w' ⟨rfl, rfl⟩
        exact ⟨by rw [HSE.out], Below.refl _ _⟩
      have HC2 : Hid (∀ d os, Calls Tryd.prog 9 #[l[k].agg (.slice ax l[k].l.length cx), l[j].agg (.slice ay l[j].l.length cy)] (Go.Sort.grow (redrawn wC d) os) fun e w' => e = .returned (.bool SB) ∧ Below (Go.Sort.grow (redrawn wC d) os).heap.size (Go.Sort.grow (redrawn wC d) os) w') := fun d os => by
        rw [hSB]
        exact zSame_any l[k] l[j] HFX.out HFY.out (.slice ax l[k].l.length cx) (.slice ay l[j].l.length cy) _ B (Nat.le_trans hB (HBG.out d os).size) (isL_below Hsx.out (HBG.out d os) hB) (isL_below Hsy.out (HBG.out d os) hB)
      simp only [GV.agg] at HC1 HC2
      have hne : (SB != SB) = false := by simp
      have y0 := Y0.out
      have y1 := Y1.out
      have y2 := Y2.out
      have y3 := Y3.out
      have y4 := Y4.out
      clear hSB hcs hby hBs2 hcl2
      go_wp2_with fail
      refine wp_region_quiet_below (by kernel_rfl) (by kernel_rfl) ?_
      repeat (quiet_step (fail))
      quiet_step (exact Calls.regrown_of (HC1.out _ _))
      repeat (quiet_step (fail))
      quiet_step (exact Calls.regrown_of (HC2.out _ _))
      repeat (quiet_step (fail))
      refine wpQuiet_nil ?_
      intro w7' hw7
      have hbD : Below wC.heap.size wC w7' := by
        obtain ⟨p, hp⟩ := hw7
        rw [hp]
        exact below_grow (Below.refl wC.heap.size wC) (Nat.le_refl _) _ _
      have HKD := Lib.hid (below_down HKC.out hbD (Nat.le_refl _))
      clear hw7 hbD ga gl q1 hgr HC1 HC2 y0 y1 y2 y3 y4 hne
      go_wp2_with fail
      go_roundw
      case rel => exact ⟨j + 1, by omega, by go_num, HKD.out⟩
      case measure => simp [intOf]; omega
end Go.Proofs.YtkpfaeodgjbodaaDoor
