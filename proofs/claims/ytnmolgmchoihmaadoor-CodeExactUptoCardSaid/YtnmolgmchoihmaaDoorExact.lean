/-
  CodeExact returns true, whatever expressions it is handed. Conditions: lists and texts shorter than 2^31, values of bulk at most 2^40; the table of the tests lies.
-/
import Derived.Test.YtnmolgmchoihmaaDoorExactP
import Derived.Test.YtnmolgmchoihmaaDoorRCompile
import Derived.Test.YtnmolgmchoihmaaDoorEqCode
import Derived.Test.YtnmolgmchoihmaaDoorEqE
import Derived.Test.YtnmolgmchoihmaaDoorCopyE
import Derived.Test.YtnmolgmchoihmaaDoorWeight
import Derived.Test.YtnmolgmchoihmaaDoorWakes
namespace Go.Proofs.YtnmolgmchoihmaaDoor
open Go Go.RowKit
set_option maxRecDepth 100000
set_option linter.unusedVariables false
set_option maxHeartbeats 6400000 in
theorem exact_any (l : List GE) (fl : fitE l) (ol : okWs l) (hll : l.length ≤ 2147483647) (s : Value) (w : World) (B : Nat) (hB : B ≤ w.heap.size) (ht : tabOk w) (hs : isX w B s l) :
    Calls Tryd.prog 3 #[.agg #[s]] w fun e w' => e = .returned (.bool true) ∧ Below w.heap.size w w' := by
  obtain ⟨a, c, bb, off, rfl, hc, ha, hA⟩ := isX_open hs
  have HFL := Lib.hid fl
  have HOL := Lib.hid ol
  have HT := Lib.hid ht
  have HA := Lib.hid hA
  have Ha := Lib.hid ha
  clear fl ol ht hs hA ha
  go_enter Tryd.func3, Tryd.ntmps3
  go_wp2_with fail
  go_loopw [3] (fun i wr => ∃ k : Nat, k ≤ l.length ∧ k ≤ 6 ∧ i = .int .i64 k ∧ Below w.heap.size w wr ∧ w.heap.size + 1 ≤ wr.heap.size ∧ Hid (wr.heap[w.heap.size]? = some (.cells #[.slice a l.length c] 24 (0, 0)))) (fun i _ => 6 - (intOf i).toNat)
  case atStart => exact ⟨0, Nat.zero_le _, by omega, rfl, (Below.refl _ _).alloc (Nat.le_refl _) _, by simp, heap_last⟩
  case round =>
    obtain ⟨k, hk, hk6, rfl, hbel, hsz, hbox⟩ := hrel
    have q1 := fun o => cell_of hbox.out o
    have hfin : Hid (∀ w2, Below w.heap.size w w2 → Calls Tryd.prog 16 #[] w2 fun e w' => e = .returned (.bool true) ∧ Below w2.heap.size w2 w') := fun w2 h2 => wakes_any w2 (tabOk_below HT.out h2)
    by_cases hlt : k < l.length
    · by_cases h6 : k < 6
      · obtain ⟨rfl, hb2⟩ := Ha.out (by omega)
        obtain ⟨ax, cx, aax, cax, x0, x1, x2, x3, x4, x5, x6, x7, hsx, hsax⟩ := cellsE_open (HA.out k hlt)
        have hg := fun (w' : World) (h : Below w.heap.size w w') o => h.cell (p := ⟨bb, o, none⟩) (Nat.lt_of_lt_of_le hb2 hB)
        have HG := Lib.hid hg
        have hgr := hg wr hbel
        have Hsx := Lib.hid hsx
        have Hsax := Lib.hid hsax
        have HB := Lib.hid hbel
        clear hsx hsax hbel Ha hg
        go_wp2_with fail
        refine (weight_any l[k] (okWs_mem HOL.out _ (List.getElem_mem hlt)) 0 _ _ wr B (by omega) (Nat.le_trans hB HB.out.size) (isL_below Hsx.out HB.out hB) (isX_below Hsax.out HB.out hB)).mono ?_
        rintro e w1 ⟨⟨n, rfl⟩, hb1⟩
        have hb3 := below_down HB.out hb1 (Nat.le_refl _)
        have HB1 := Lib.hid hb3
        have hz1 : w.heap.size + 1 ≤ w1.heap.size := Nat.le_trans hsz hb1.size
        have HX1 := Lib.hid ((hb1.block w.heap.size (by omega)).trans hbox.out)
        have q2 := fun o => cell_of HX1.out o
        have hg1 := HG.out w1 hb3
        clear q1 hgr hb1 hb3 hbox HB
        by_cases h6000 : 6000 < n
        · go_wp2_with fail
          go_roundw
          case rel => exact ⟨k + 1, by omega, by omega, by go_num, HB1.out, hz1, HX1⟩
          case measure => simp [intOf]; omega
        have H6000 := Lib.hid h6000
        go_wp2_with fail
        refine (copyExpr_any l[k] (fitE_mem HFL.out _ (List.getElem_mem hlt)) _ _ w1 B (Nat.le_trans hB HB1.out.size) (isL_below Hsx.out HB1.out hB) (isX_below Hsax.out HB1.out hB)).mono ?_
        rintro e w2 ⟨s2, sa2, rfl, hin, hb2⟩
        have hl2 : isL w2 0 w2.heap.size s2 l[k].v.l := isS_mono hin.1 (fun _ _ _ => rfl) (fun b g => ⟨Nat.zero_le _, g.2⟩) (fun _ _ h => h)
        have hx2 : isX w2 w2.heap.size sa2 l[k].args := isE_mono hin.2 (fun _ _ _ => rfl) (fun b g => ⟨Nat.zero_le _, g.2⟩) (fun _ _ h => h) (fun _ _ h => h)
        have hb4 := below_down HB1.out hb2 (Nat.le_refl _)
        obtain ⟨a2, c2, rfl⟩ := isL_form hl2
        obtain ⟨aa2, ca2, rfl⟩ := isE_form hx2
        have HL2 := Lib.hid hl2
        have HX2 := Lib.hid hx2
        have HBX := Lib.hid ((hb2.block w.heap.size (by omega)).trans HX1.out)
        have HB2 := Lib.hid hb4
        have hz2 : w.heap.size + 1 ≤ w2.heap.size := Nat.le_trans hz1 hb2.size
        clear hl2 hx2 hin hb2 hb4 q2 hg1 HX1 HB1
        simp only [GE.agg]
        go_wp2_with fail
        obtain ⟨w3, hw3⟩ : ∃ w3, w3 = w2.alloc (.cells #[.int .i64 l[k].op, .string l[k].text, .int .i64 l[k].v.k, .bool l[k].v.b, .int .i64 l[k].v.n, .string l[k].v.t, .slice a2 l[k].v.l.length c2, .slice aa2 l[k].args.length ca2] 30) := ⟨_, rfl⟩
        have hb5 : Below w2.heap.size w2 w3 := by rw [hw3]; exact (Below.refl _ _).alloc (Nat.le_refl _) _
        have hz3 : w2.heap.size + 1 ≤ w3.heap.size := by rw [hw3]; simp
        have HBX3 : Hid (w3.heap[w2.heap.size]? = some (.cells #[.int .i64 l[k].op, .string l[k].text, .int .i64 l[k].v.k, .bool l[k].v.b, .int .i64 l[k].v.n, .string l[k].v.t, .slice a2 l[k].v.l.length c2, .slice aa2 l[k].args.length ca2] 30 (0, 0))) := by rw [hw3]; exact heap_last
        rw [← hw3]
        clear hw3
        have HB3 := Lib.hid (below_down HB2.out hb5 (Nat.le_refl _))
        have HA3 := Lib.hid ((hb5.block w.heap.size (by omega)).trans HBX.out)
        have HL3 := Lib.hid (isL_below HL2.out hb5 (Nat.le_refl _))
        have HX3 := Lib.hid (isX_below HX2.out hb5 (Nat.le_refl _))
        clear HBX HL2 HX2 HB2 hb5
        obtain ⟨w0, rfl⟩ : ∃ w0, w0 = wr := ⟨_, rfl⟩
        go_loopw [5] (fun i wr => ∃ j : Nat, j ≤ 2 ∧ i = .int .i64 j ∧ Below w3.heap.size w3 wr) (fun i _ => 2 - (intOf i).toNat)
        case atStart => exact ⟨0, by omega, rfl, Below.refl _ _⟩
        case round =>
          obtain ⟨j, hj, rfl, hbel⟩ := hrel
          have hwr := hbel.size
          have hb6 := below_down HB3.out hbel (Nat.le_refl _)
          have HW6 := Lib.hid hb6
          have HW := Lib.hid hbel
          have HA6 := Lib.hid ((hbel.block w.heap.size (by omega)).trans HA3.out)
          have HX6 := Lib.hid ((hbel.block w2.heap.size (by omega)).trans HBX3.out)
          have qa := fun o => cell_of HA6.out o
          have qx := fun o => cell_of HX6.out o
          have hgr := HG.out wr hb6
          clear hbel hb6
          by_cases hj2 : j < 2
          · go_wp2_with fail
            refine (Compile_any l[k] (fitE_mem HFL.out _ (List.getElem_mem hlt)) _ _ wr w2.heap.size (by omega) (isL_below HL3.out HW.out (by omega)) (isX_below HX3.out HW.out (by omega))).mono ?_
            rintro e w4 ⟨v4, rfl, ho4, hb4⟩
            have HO4 := Lib.hid ho4
            have HB4 := Lib.hid hb4
            have HW4 := Lib.hid (below_down HW6.out hb4 (Nat.le_refl _))
            have hz4 := hb4.size
            have HA4 := Lib.hid ((hb4.block w.heap.size (by omega)).trans HA6.out)
            have HX4 := Lib.hid ((hb4.block w2.heap.size (by omega)).trans HX6.out)
            have HK4 := Lib.hid (below_down HW.out hb4 (Nat.le_refl _))
            have qa4 := fun o => cell_of HA4.out o
            have qx4 := fun o => cell_of HX4.out o
            have hg4 := HG.out w4 HW4.out
            clear qa qx hgr ho4 hb4
            go_wp2_with fail
            refine (RCompile_any l[k] (fitE_mem HFL.out _ (List.getElem_mem hlt)) _ _ w4 B (Nat.le_trans hB HW4.out.size) (isL_below Hsx.out HW4.out hB) (isX_below Hsax.out HW4.out hB)).mono ?_
            rintro e w5 ⟨v5, rfl, ho5, hb5⟩
            have HO5 := Lib.hid ho5
            have HB5 := Lib.hid hb5
            have HW5 := Lib.hid (below_down HW4.out hb5 (Nat.le_refl _))
            have hz5 := hb5.size
            have HA5 := Lib.hid ((hb5.block w.heap.size (by omega)).trans HA4.out)
            have HX5 := Lib.hid ((hb5.block w2.heap.size (by omega)).trans HX4.out)
            have HK5 := Lib.hid (below_down HK4.out hb5 (Nat.le_refl _))
            have qa5 := fun o => cell_of HA5.out o
            have qx5 := fun o => cell_of HX5.out o
            have hg5 := HG.out w5 HW5.out
            have ga := cell_grow (Below.refl w5.heap.size w5) (Nat.le_refl _) (show w.heap.size < w5.heap.size by omega)
            have gx := cell_grow (Below.refl w5.heap.size w5) (Nat.le_refl _) (show w2.heap.size < w5.heap.size by omega)
            have gl := cell_grow (Below.refl w5.heap.size w5) (Nat.le_refl _) (show bb < w5.heap.size by omega)
            have HC1 : Hid (∀ d os, Calls Tryd.prog 11 #[v4, v5] (Go.Sort.grow (redrawn w5 d) os) fun e w' => e = .returned (.bool true) ∧ Below (Go.Sort.grow (redrawn w5 d) os).heap.size (Go.Sort.grow (redrawn w5 d) os) w') := fun d os => by
              have hbg := below_grow (Below.refl w5.heap.size w5) (Nat.le_refl _) d os
              have h := eqCode_any (codeOf l[k]) (codeOf l[k]) (Nat.le_trans (codeOf_len _) (by omega)) (Nat.le_trans (codeOf_len _) (by omega)) (codeOf_fit _ (fitE_mem HFL.out _ (List.getElem_mem hlt))) (codeOf_fit _ (fitE_mem HFL.out _ (List.getElem_mem hlt))) v4 v5 (Go.Sort.grow (redrawn w5 d) os) w5.heap.size hbg.size
                (isI_below (isI_wide (isI_below (ownI_isI HO4.out) HB5.out (Nat.le_refl _)) HB5.out.size) hbg (Nat.le_refl _)) (isI_below (ownI_isI HO5.out) hbg (Nat.le_refl _))
              rw [sameIs_self] at h
              exact h
            have HC2 : Hid (∀ d os, Calls Tryd.prog 12 #[GE.agg l[k] (.slice a2 l[k].v.l.length c2) (.slice aa2 l[k].args.length ca2)] (Go.Sort.grow (redrawn w5 d) os) fun e w' => e = .returned (.bool (emay l[k])) ∧ Below (Go.Sort.grow (redrawn w5 d) os).heap.size (Go.Sort.grow (redrawn w5 d) os) w') := fun d os =>
              May_any l[k] (fitE_mem HFL.out _ (List.getElem_mem hlt)) _ _ _ w2.heap.size (by have := (below_grow (Below.refl w5.heap.size w5) (Nat.le_refl _) d os).size; omega) (isL_below HL3.out (below_grow HK5.out (Nat.le_refl _) d os) (by omega)) (isX_below HX3.out (below_grow HK5.out (Nat.le_refl _) d os) (by omega))
            have HC3 : Hid (∀ d os, Calls Tryd.prog 13 #[GE.agg l[k] (.slice ax l[k].v.l.length cx) (.slice aax l[k].args.length cax)] (Go.Sort.grow (redrawn w5 d) os) fun e w' => e = .returned (.bool (emay l[k])) ∧ Below (Go.Sort.grow (redrawn w5 d) os).heap.size (Go.Sort.grow (redrawn w5 d) os) w') := fun d os =>
              rMayE_any l[k] (fitE_mem HFL.out _ (List.getElem_mem hlt)) _ _ _ B (by have := (below_grow HW5.out (Nat.le_refl _) d os).size; omega) (isL_below Hsx.out (below_grow HW5.out (Nat.le_refl _) d os) hB) (isX_below Hsax.out (below_grow HW5.out (Nat.le_refl _) d os) hB)
            have herr : (errOf l[k] != errOf l[k]) = false := by simp
            have hem : (emay l[k] != emay l[k]) = false := by simp
            clear qa4 qx4 hg4 ho5 hb5
            simp only [GE.agg] at HC2 HC3
            go_wp2_with fail
            refine wp_region_quiet_below (by kernel_rfl) (by kernel_rfl) ?_
            repeat (quiet_step (first | exact Calls.regrown_of (HC1.out _ _) | exact Calls.regrown_of (HC2.out _ _) | exact Calls.regrown_of (HC3.out _ _)))
            refine wpQuiet_nil ?_
            intro w6 hw6
            have hb6 : Below w5.heap.size w5 w6 := by
              obtain ⟨p, hp⟩ := hw6
              rw [hp]
              exact below_grow (Below.refl w5.heap.size w5) (Nat.le_refl _) _ _
            have HB6 := Lib.hid hb6
            have hz6 := hb6.size
            have HK6 := Lib.hid (below_down HK5.out hb6 (Nat.le_refl _))
            have HF6 : Hid (∀ b, b < w4.heap.size → w6.heap[b]? = w4.heap[b]?) := fun b hb => (HB6.out.block b (by omega)).trans (HB5.out.block b hb)
            clear hw6 hb6 ga gx gl HC1 HC2 HC3 qa5 qx5 hg5
            by_cases hn : 0 < (codeOf l[k]).length
            · obtain ⟨g, cg, rfl, hg0, hg1, hov⟩ := ovI_of HO4.out hn (codeOf_fit _ (fitE_mem HFL.out _ (List.getElem_mem hlt)))
              have hlen := codeOf_len l[k]
              have hov6 : ovI w6 (inS w4 wr.heap.size (some g)) g (codeOf l[k]).length :=
                ovI_keep hov (fun m s h => ovr_keep (fun b hb => HF6.out b hb.2.1) m s h) (HF6.out g hg1)
              have HOV := Lib.hid hov6
              have HWK := Lib.hid (Nat.le_refl wr.heap.size)
              clear hov hov6 HO4 HO5
              obtain ⟨wk, rfl⟩ : ∃ wk, wk = wr := ⟨_, rfl⟩
              generalize (codeOf l[k]).length = N at *
              go_wp2_with fail
              go_loopw [10] (fun i wr => ∃ q : Nat, q ≤ N ∧ i = .int .i64 q ∧ KeptS (fun b => wk.heap.size ≤ b) w6 wr ∧ Hid (ovI wr (inS w4 wk.heap.size (some g)) g N)) (fun i _ => N - (intOf i).toNat)
              case atStart => exact ⟨0, Nat.zero_le _, rfl, KeptS.refl _ _, HOV.out⟩
              case round =>
                obtain ⟨q, hq, rfl, hkp, hO⟩ := hrel
                by_cases hqn : q < N
                · obtain ⟨k1, b1, n1, t1, a1, l1, c1, y0, y1, y2, y3, y4, m, hm⟩ := hO.out.2.2 q hqn
                  have HM := Lib.hid hm
                  have hsr := hkp.size
                  clear hm
                  go_wp2_with fail
                  refine (over_all _ m k1 b1 n1 t1 _ wr (fun b hb => by have := hb.2.1; omega) HM.out).mono ?_
                  rintro e w7 hpost
                  obtain ⟨rfl, hk7, ho7⟩ := hpost
                  have hgl := ovI_lt hO.out
                  have hO7 := ovI_keep hO.out ho7 (hk7.block g hO.out.1 hgl)
                  obtain ⟨cs7, T7, hh7, hs7⟩ := hO7.2.1
                  obtain ⟨u0, u1, u2, u3, u4, u5, u6, u7, z0, z1, z2, z3, z4, z5, z6, z7⟩ := eight_cells (p := q * 8) hh7 (by omega)
                  have f7 := fun o => frozen_of hh7 o
                  have HO7 := Lib.hid hO7
                  have HK7 := Lib.hid (hkp.trans (hk7.mono (fun b hb => hb.1)))
                  clear hO7 hh7 hk7 ho7 y0 y1 y2 y3 y4 hkp
                  go_wp2_with fail
                  go_roundw
                  case rel => exact ⟨q + 1, by omega, by go_num, HK7.out.over8 hg0 (q * 8) 99, (ovI_over8 HO7.out hqn 99).1⟩
                  case measure => simp [intOf]; omega
                · obtain rfl : q = N := by omega
                  have hb8 : Below wk.heap.size w6 wr := hkp.below (fun b hb => hb) (by omega)
                  have hs8 := hkp.size
                  have HB8 := Lib.hid (HK6.out.trans (hb8.mono HW.out.size))
                  clear hkp
                  go_wp2_with fail
                  go_roundw
                  case rel => exact ⟨j + 1, by omega, by go_num, HB8.out⟩
                  case measure => simp [intOf]; omega
            · obtain ⟨a4, c4, rfl⟩ := isI_form (ownI_isI HO4.out)
              have HWK := Lib.hid (Nat.le_refl wr.heap.size)
              clear HO4 HO5
              obtain ⟨wk, rfl⟩ : ∃ wk, wk = wr := ⟨_, rfl⟩
              generalize (codeOf l[k]).length = N at *
              obtain rfl : N = 0 := by omega
              go_wp2_with fail
              go_loopw [10] (fun i wr => i = .int .i64 0 ∧ Below w6.heap.size w6 wr) (fun i _ => 0)
              case atStart => exact ⟨rfl, Below.refl _ _⟩
              case round =>
                obtain ⟨rfl, hkp⟩ := hrel
                have HB8 := Lib.hid (below_down HK6.out hkp (Nat.le_refl _))
                clear hkp
                go_wp2_with fail
                go_roundw
                case rel => exact ⟨j + 1, by omega, by go_num, HB8.out⟩
                case measure => simp [intOf]; omega
          · obtain rfl : j = 2 := by omega
            have ga := cell_grow (Below.refl wr.heap.size wr) (Nat.le_refl _) (show w.heap.size < wr.heap.size by omega)
            have gx := cell_grow (Below.refl wr.heap.size wr) (Nat.le_refl _) (show w2.heap.size < wr.heap.size by omega)
            have gl := cell_grow (Below.refl wr.heap.size wr) (Nat.le_refl _) (show bb < wr.heap.size by omega)
            have HC : Hid (∀ d os, Calls Tryd.prog 15 #[GE.agg l[k] (.slice a2 l[k].v.l.length c2) (.slice aa2 l[k].args.length ca2), GE.agg l[k] (.slice ax l[k].v.l.length cx) (.slice aax l[k].args.length cax)] (Go.Sort.grow (redrawn wr d) os) fun e w' => e = .returned (.bool true) ∧ Below (Go.Sort.grow (redrawn wr d) os).heap.size (Go.Sort.grow (redrawn wr d) os) w') := fun d os => by
              have h1 := below_grow HW.out (Nat.le_refl _) d os
              have h2 := below_grow HW6.out (Nat.le_refl _) d os
              have h := eqExpr_any l[k] l[k] (fitE_mem HFL.out _ (List.getElem_mem hlt)) (fitE_mem HFL.out _ (List.getElem_mem hlt)) (.slice a2 l[k].v.l.length c2) (.slice aa2 l[k].args.length ca2) (.slice ax l[k].v.l.length cx) (.slice aax l[k].args.length cax) (Go.Sort.grow (redrawn wr d) os) w3.heap.size h1.size
                (isL_wide (isL_below HL3.out h1 (by omega)) (Nat.le_refl _) (by omega)) (isX_wide (isX_below HX3.out h1 (by omega)) (by omega)) (isL_wide (isL_below Hsx.out h2 hB) (Nat.le_refl _) (by omega)) (isX_wide (isX_below Hsax.out h2 hB) (by omega))
              rw [sameE_self] at h
              exact h
            simp only [GE.agg] at HC
            go_wp2_with fail
            refine wp_region_quiet_below (by kernel_rfl) (by kernel_rfl) ?_
            repeat (quiet_step (exact Calls.regrown_of (HC.out _ _)))
            refine wpQuiet_nil ?_
            intro w6 hw6
            have hb6 : Below wr.heap.size wr w6 := by
              obtain ⟨p, hp⟩ := hw6
              rw [hp]
              exact below_grow (Below.refl wr.heap.size wr) (Nat.le_refl _) _ _
            have HB6 := Lib.hid (below_down HW6.out hb6 (Nat.le_refl _))
            have hz6 := hb6.size
            have HA7 := Lib.hid ((hb6.block w.heap.size (by omega)).trans HA6.out)
            clear hw6 hb6 ga gx gl HC qa qx hgr
            go_wp2_with fail
            go_roundw
            case rel => exact ⟨k + 1, by omega, by omega, by go_num, HB6.out, by omega, HA7⟩
            case measure => simp [intOf]; omega
      · obtain rfl : k = 6 := by omega
        go_wp2_with fail
        refine (hfin.out _ hbel).mono ?_
        rintro e w1 ⟨rfl, hb1⟩
        go_wp2_with fail
        go_ret
        exact ⟨rfl, below_down hbel hb1 (Nat.le_refl _)⟩
    · obtain rfl : k = l.length := by omega
      go_wp2_with fail
      refine (hfin.out _ hbel).mono ?_
      rintro e w1 ⟨rfl, hb1⟩
      go_wp2_with fail
      go_ret
      exact ⟨rfl, below_down hbel hb1 (Nat.le_refl _)⟩
end Go.Proofs.YtnmolgmchoihmaaDoor
