/-
  CodeUnlike returns true, whatever expressions it is handed. Conditions: lists and texts shorter than 2^31, values of bulk at most 2^40; the table of the tests lies.
-/
import Derived.Test.YtnmolgmchoihmaaDoorUnlikeP
import Derived.Test.YtnmolgmchoihmaaDoorEqCode
import Derived.Test.YtnmolgmchoihmaaDoorEqE
import Derived.Test.YtnmolgmchoihmaaDoorWeight
import Derived.Test.YtnmolgmchoihmaaDoorWakes
import Derived.Test.YtnmolgmchoihmaaDoorCheck
import Derived.Deep.DrawnRows
namespace Go.Proofs.YtnmolgmchoihmaaDoor
open Go Go.RowKit
set_option maxRecDepth 100000
set_option linter.unusedVariables false
theorem isX_one {w : World} {g B : Nat} {T : TypeId} {x : GE} {a aa : Option Addr} {c ca : Nat} (h : w.heap[g]? = some (.cells #[.int .i64 x.op, .string x.text, .int .i64 x.v.k, .bool x.v.b, .int .i64 x.v.n, .string x.v.t, .slice a x.v.l.length c, .slice aa x.args.length ca] T (0, 0))) (hg : g < B)
    (hs : isL w 0 B (.slice a x.v.l.length c) x.v.l) (hsa : isX w B (.slice aa x.args.length ca) x.args) : isX w B (.slice (some ⟨g, 0, none⟩) 1 1) [x] := by
  have q := fun o => cell_of h o
  refine isE_mk (l := [x]) (cap := 1) (b := g) (off := 0) (by simp) trivial (fun _ => ⟨rfl, Nat.zero_le _, hg⟩) ?_
  intro i hi
  have hi' : i = 0 := by simp at hi; omega
  subst hi'
  exact cellsE_mk ((q _).trans rfl) ((q _).trans rfl) ((q _).trans rfl) ((q _).trans rfl) ((q _).trans rfl) ((q _).trans rfl) ((q _).trans rfl) ((q _).trans rfl) hs hsa
def notE (x : GE) : GE := ⟨7, { data := #[] }, ⟨0, false, 0, { data := #[] }, []⟩, [x]⟩
theorem notE_fit {x : GE} (h : x.fit) : (notE x).fit := by
  simp only [notE, GE.fit]
  exact ⟨by omega, by omega, by decide, zeroV_fit, by simp, h, trivial⟩
theorem notE_code (x : GE) (m : Nat) : compE (notE x) m = compE x m ++ [gi 5 7 ByteArray.empty noV] := by
  simp [notE, compE, compEs]
attribute [local go_sem ↓] Go.wp_at_zero Go.wp_at_succ
set_option maxHeartbeats 1600000 in
theorem unlike_any (l : List GE) (fl : fitE l) (ol : okWs l) (hll : l.length ≤ 2147483647) (s : Value) (w : World) (B : Nat) (hB : B ≤ w.heap.size) (ht : tabOk w) (hs : isX w B s l) :
    Calls Tryd.prog 5 #[.agg #[s]] w fun e w' => e = .returned (.bool true) ∧ Below w.heap.size w w' := by
  obtain ⟨a, c, bb, off, rfl, hc, ha, hA⟩ := isX_open hs
  have HFL := Lib.hid fl
  have HOL := Lib.hid ol
  have HT := Lib.hid ht
  have HA := Lib.hid hA
  have Ha := Lib.hid ha
  clear fl ol ht hs hA ha
  go_enter Tryd.func5, Tryd.ntmps5
  go_wp2_with fail
  go_loopw [3] (fun i wr => ∃ k : Nat, k ≤ l.length ∧ k ≤ 6 ∧ i = .int .i64 k ∧ Below w.heap.size w wr ∧ w.heap.size + 1 ≤ wr.heap.size ∧ Hid (wr.heap[w.heap.size]? = some (.cells #[.slice a l.length c] 24 (0, 0)))) (fun i _ => 6 - (intOf i).toNat)
  case atStart => exact ⟨0, Nat.zero_le _, by omega, rfl, (Below.refl _ _).alloc (Nat.le_refl _) _, by simp, heap_last⟩
  case round =>
    obtain ⟨k, hk, hk6, rfl, hbel, hsz, hbox⟩ := hrel
    have q1 := fun o => cell_of hbox.out o
    have hfin : Hid (∀ w2, Below w.heap.size w w2 → Calls Tryd.prog 16 #[] w2 fun e w' => e = .returned (.bool true) ∧ Below w2.heap.size w2 w') := fun w2 h2 => wakes_any w2 (tabOk_below HT.out h2)
    by_cases hlt : k < l.length
    · by_cases h6 : k < 6
      · obtain ⟨rfl, hb2⟩ := Ha.out (by omega)
        obtain ⟨ax, cx, aax, cax, x0, x1, x2, x3, x4, x5, x6, x7, hsx, hsax⟩ := cellsE_open (HA.out k hlt)
        have hg := fun (w' : World) (h : Below w.heap.size w w') o => h.cell (p := ⟨bb, o, none⟩) (Nat.lt_of_lt_of_le hb2 hB)
        have HG := Lib.hid hg
        have hgr := hg wr hbel
        have Hsx := Lib.hid hsx
        have Hsax := Lib.hid hsax
        have HB := Lib.hid hbel
        have HFX := Lib.hid (fitE_mem HFL.out _ (List.getElem_mem hlt))
        clear hsx hsax hbel Ha hg
        go_wp2_with fail
        refine (weight_any l[k] (okWs_mem HOL.out _ (List.getElem_mem hlt)) 0 _ _ wr B (by omega) (Nat.le_trans hB HB.out.size) (isL_below Hsx.out HB.out hB) (isX_below Hsax.out HB.out hB)).mono ?_
        rintro e w1 ⟨⟨n, rfl⟩, hb1⟩
        have hb3 := below_down HB.out hb1 (Nat.le_refl _)
        have HB1 := Lib.hid hb3
        have hz1 : w.heap.size + 1 ≤ w1.heap.size := Nat.le_trans hsz hb1.size
        have HX1 := Lib.hid ((hb1.block w.heap.size (by omega)).trans hbox.out)
        have q2 := fun o => cell_of HX1.out o
        have hg1 := HG.out w1 hb3
        clear q1 hgr hb1 hb3 hbox HB
        by_cases hw0 : 2000 < n
        · go_wp2_with fail
          go_roundw
          case rel => exact ⟨k + 1, by omega, by omega, by go_num, HB1.out, hz1, HX1⟩
          case measure => simp [intOf]; omega
        have HW0 := Lib.hid hw0
        go_wp2_with fail
        refine (Compile_any l[k] HFX.out _ _ w1 B (Nat.le_trans hB HB1.out.size) (isL_below Hsx.out HB1.out hB) (isX_below Hsax.out HB1.out hB)).mono ?_
        rintro e w2 ⟨v2, rfl, ho2, hb2'⟩
        have HO2 := Lib.hid (ownI_isI ho2)
        have HB2 := Lib.hid (below_down HB1.out hb2' (Nat.le_refl _))
        have hz2 : w.heap.size + 1 ≤ w2.heap.size := Nat.le_trans hz1 hb2'.size
        have HX2 := Lib.hid ((hb2'.block w.heap.size (by omega)).trans HX1.out)
        have q3 := fun o => cell_of HX2.out o
        have hg2 := HG.out w2 HB2.out
        clear q2 hg1 HX1 HB1 ho2 hb2' hw0
        cases hem : emay l[k]
        · have he : errOf l[k] = 1 := by rw [errOf, hem]; rfl
          rw [he]
          clear he hem
          go_wp2_with fail
          go_roundw
          case rel => exact ⟨k + 1, by omega, by omega, by go_num, HB2.out, hz2, HX2⟩
          case measure => simp [intOf]; omega
        have he : errOf l[k] = 0 := by rw [errOf, hem]; rfl
        have hco : codeOf l[k] = compE l[k] 0 := by rw [codeOf, hem]; rfl
        rw [he]
        rw [hco] at HO2
        have HEM := Lib.hid hem
        have HCF := Lib.hid (hco ▸ codeOf_fit l[k] HFX.out)
        have HCL := Lib.hid (hco ▸ codeOf_len l[k])
        clear he hem hco
        go_wp2_with fail
        refine (Check_any (compE l[k] 0) (by have := HCL.out; omega) HCF.out v2 w2 w2.heap.size (Nat.le_refl _) HO2.out).mono ?_
        rintro e w3 ⟨rfl, hb3⟩
        have HI3 := Lib.hid (isI_below HO2.out hb3 (Nat.le_refl _))
        have HB3 := Lib.hid (below_down HB2.out hb3 (Nat.le_refl _))
        have hz3 : w.heap.size + 1 ≤ w3.heap.size := Nat.le_trans hz2 hb3.size
        have hz23 := hb3.size
        have HX3 := Lib.hid ((hb3.block w.heap.size (by omega)).trans HX2.out)
        rw [checkC_code l[k] HEM.out]
        clear q3 hg2 HX2 HB2 hb3 HO2
        go_wp2_with fail
        obtain ⟨w0, rfl⟩ : ∃ w0, w0 = wr := ⟨_, rfl⟩
        go_loopw [6] (fun i wr => ∃ j : Nat, j ≤ k ∧ i = .int .i64 j ∧ Below w3.heap.size w3 wr) (fun i _ => k - (intOf i).toNat)
        case atStart => exact ⟨0, by omega, rfl, Below.refl _ _⟩
        case round =>
          obtain ⟨j, hj, rfl, hbel⟩ := hrel
          have hwr := hbel.size
          have hb6 := below_down HB3.out hbel (Nat.le_refl _)
          have HW6 := Lib.hid hb6
          have HW := Lib.hid hbel
          have HX6 := Lib.hid ((hbel.block w.heap.size (by omega)).trans HX3.out)
          have qa := fun o => cell_of HX6.out o
          have hgr := HG.out wr hb6
          clear hbel hb6
          by_cases hjk : j < k
          · have hjl : j < l.length := by omega
            obtain ⟨ay, cy, aay, cay, y0, y1, y2, y3, y4, y5, y6, y7, hsy, hsay⟩ := cellsE_open (HA.out j hjl)
            have Hsy := Lib.hid hsy
            have Hsay := Lib.hid hsay
            have HFY := Lib.hid (fitE_mem HFL.out _ (List.getElem_mem hjl))
            clear hsy hsay
            go_wp2_with fail
            refine (weight_any l[j] (okWs_mem HOL.out _ (List.getElem_mem hjl)) 0 _ _ wr B (by omega) (Nat.le_trans hB HW6.out.size) (isL_below Hsy.out HW6.out hB) (isX_below Hsay.out HW6.out hB)).mono ?_
            rintro e w4 ⟨⟨n2, rfl⟩, hb4⟩
            have HW4 := Lib.hid (below_down HW6.out hb4 (Nat.le_refl _))
            have HK4 := Lib.hid (below_down HW.out hb4 (Nat.le_refl _))
            have hz4 := hb4.size
            have HX4 := Lib.hid ((hb4.block w.heap.size (by omega)).trans HX6.out)
            have q4 := fun o => cell_of HX4.out o
            have hg4 := HG.out w4 HW4.out
            clear qa hgr hb4
            by_cases hw2 : 2000 < n2
            · go_wp2_with fail
              go_roundw
              case rel => exact ⟨j + 1, by omega, by go_num, HK4.out⟩
              case measure => simp [intOf]; omega
            have HW2 := Lib.hid hw2
            go_wp2_with fail
            refine (Compile_any l[j] HFY.out _ _ w4 B (Nat.le_trans hB HW4.out.size) (isL_below Hsy.out HW4.out hB) (isX_below Hsay.out HW4.out hB)).mono ?_
            rintro e w5 ⟨v5, rfl, ho5, hb5⟩
            have HO5 := Lib.hid (ownI_isI ho5)
            have HW5 := Lib.hid (below_down HW4.out hb5 (Nat.le_refl _))
            have HK5 := Lib.hid (below_down HK4.out hb5 (Nat.le_refl _))
            have hz5 := hb5.size
            have HX5 := Lib.hid ((hb5.block w.heap.size (by omega)).trans HX4.out)
            have q5 := fun o => cell_of HX5.out o
            have hg5 := HG.out w5 HW5.out
            have ga := cell_grow (Below.refl w5.heap.size w5) (Nat.le_refl _) (show w.heap.size < w5.heap.size by omega)
            have gl := cell_grow (Below.refl w5.heap.size w5) (Nat.le_refl _) (show bb < w5.heap.size by omega)
            clear q4 hg4 hb5 ho5 hw2
            cases hem2 : emay l[j]
            · have he : errOf l[j] = 1 := by rw [errOf, hem2]; rfl
              rw [he]
              clear he hem2
              go_wp2_with fail
              go_region
              all_goals
                clear ga gl q5 hg5
                go_wp2_with fail
                go_roundw
                case rel => exact ⟨j + 1, by omega, by go_num, HK5.out.drew⟩
                case measure => simp [intOf]; omega
            · have he : errOf l[j] = 0 := by rw [errOf, hem2]; rfl
              have hco2 : codeOf l[j] = compE l[j] 0 := by rw [codeOf, hem2]; rfl
              have HC1 : Hid (∀ d os, Calls Tryd.prog 11 #[v2, v5] (Go.Sort.grow (redrawn w5 d) os) fun e w' => e = .returned (.bool (sameE l[k] l[j])) ∧ Below (Go.Sort.grow (redrawn w5 d) os).heap.size (Go.Sort.grow (redrawn w5 d) os) w') := fun d os => by
                have hbg := below_grow (Below.refl w5.heap.size w5) (Nat.le_refl _) d os
                have h := eqCode_any (compE l[k] 0) (codeOf l[j]) (Nat.le_trans HCL.out (by omega)) (Nat.le_trans (codeOf_len _) (by omega)) HCF.out (codeOf_fit _ HFY.out) v2 v5 (Go.Sort.grow (redrawn w5 d) os) w5.heap.size hbg.size
                  (isI_below (isI_wide (isI_below (isI_wide HI3.out (Nat.le_of_lt_succ (by omega))) HK5.out (by omega)) (show w3.heap.size ≤ w5.heap.size by omega)) hbg (Nat.le_refl _)) (isI_below HO5.out hbg (Nat.le_refl _))
                rw [hco2, unlike_law _ _ HEM.out hem2] at h
                exact h
              have HC2 : Hid (∀ d os, Calls Tryd.prog 15 #[GE.agg l[k] (.slice ax l[k].v.l.length cx) (.slice aax l[k].args.length cax), GE.agg l[j] (.slice ay l[j].v.l.length cy) (.slice aay l[j].args.length cay)] (Go.Sort.grow (redrawn w5 d) os) fun e w' => e = .returned (.bool (sameE l[k] l[j])) ∧ Below (Go.Sort.grow (redrawn w5 d) os).heap.size (Go.Sort.grow (redrawn w5 d) os) w') := fun d os => by
                have h2 := below_grow HW5.out (Nat.le_refl _) d os
                exact eqExpr_any l[k] l[j] HFX.out HFY.out (.slice ax l[k].v.l.length cx) (.slice aax l[k].args.length cax) (.slice ay l[j].v.l.length cy) (.slice aay l[j].args.length cay) (Go.Sort.grow (redrawn w5 d) os) B (Nat.le_trans hB h2.size)
                  (isL_below Hsx.out h2 hB) (isX_below Hsax.out h2 hB) (isL_below Hsy.out h2 hB) (isX_below Hsay.out h2 hB)
              have hne : (sameE l[k] l[j] != sameE l[k] l[j]) = false := by simp
              rw [he]
              simp only [GE.agg] at HC2
              clear he hem2 hco2
              go_wp2_with fail
              refine wp_region_quiet_below (by kernel_rfl) (by kernel_rfl) ?_
              repeat (quiet_step (first | exact Calls.regrown_of (HC1.out _ _) | exact Calls.regrown_of (HC2.out _ _)))
              refine wpQuiet_nil ?_
              intro w6 hw6
              have hb6 : Below w5.heap.size w5 w6 := by
                obtain ⟨p, hp⟩ := hw6
                rw [hp]
                exact below_grow (Below.refl w5.heap.size w5) (Nat.le_refl _) _ _
              have HK6 := Lib.hid (below_down HK5.out hb6 (Nat.le_refl _))
              clear hw6 hb6 ga gl q5 hg5
              go_wp2_with fail
              go_roundw
              case rel => exact ⟨j + 1, by omega, by go_num, HK6.out⟩
              case measure => simp [intOf]; omega
          · obtain rfl : j = k := by omega
            go_wp2_with fail
            obtain ⟨w7, hw7⟩ : ∃ w7, w7 = (wr.alloc (.cells #[.int .i64 l[j].op, .string l[j].text, .int .i64 l[j].v.k, .bool l[j].v.b, .int .i64 l[j].v.n, .string l[j].v.t, .slice ax l[j].v.l.length cx, .slice aax l[j].args.length cax] 30)).alloc (.cells #[.int .i64 7, .string { data := #[] }, .int .i64 0, .bool false, .int .i64 0, .string { data := #[] }, .slice none 0 0, .slice (some ⟨wr.heap.size, 0, none⟩) 1 1] 30) := ⟨_, rfl⟩
            have hb7 : Below wr.heap.size wr w7 := by rw [hw7]; exact ((Below.refl _ _).alloc (Nat.le_refl _) _).alloc (by simp) _
            have hc7 : w7.heap[wr.heap.size]? = some (.cells #[.int .i64 l[j].op, .string l[j].text, .int .i64 l[j].v.k, .bool l[j].v.b, .int .i64 l[j].v.n, .string l[j].v.t, .slice ax l[j].v.l.length cx, .slice aax l[j].args.length cax] 30 (0, 0)) := by rw [hw7]; exact heap_two
            have hn7 : w7.heap[wr.heap.size + 1]? = some (.cells #[.int .i64 7, .string { data := #[] }, .int .i64 0, .bool false, .int .i64 0, .string { data := #[] }, .slice none 0 0, .slice (some ⟨wr.heap.size, 0, none⟩) 1 1] 30 (0, 0)) := by rw [hw7]; exact heap_second
            have hz7 : wr.heap.size + 2 ≤ w7.heap.size := by rw [hw7]; simp
            rw [← hw7]
            clear hw7
            have HXX := Lib.hid (isX_one hc7 (show wr.heap.size < wr.heap.size + 1 by omega) (isL_wide (isL_below Hsx.out (HW6.out.trans (hb7.mono HW6.out.size)) hB) (Nat.le_refl _) (by have := HW6.out.size; omega)) (isX_wide (isX_below Hsax.out (HW6.out.trans (hb7.mono HW6.out.size)) hB) (by have := HW6.out.size; omega)))
            have HW7 := Lib.hid (below_down HW6.out hb7 (Nat.le_refl _))
            have HI7 := Lib.hid (isI_below (isI_below HI3.out HW.out (by omega)) hb7 (by omega))
            have HN7 := Lib.hid hn7
            have HX7 := Lib.hid ((hb7.block w.heap.size (by omega)).trans HX6.out)
            have q7 := fun o => cell_of hn7 o
            clear hc7 hn7 hb7 qa hgr
            go_wp2_with fail
            refine (Compile_any (notE l[j]) (notE_fit HFX.out) (.slice none 0 0) (.slice (some ⟨wr.heap.size, 0, none⟩) 1 1) w7 (wr.heap.size + 1) (by omega) (isL_nil _ _) HXX.out).mono ?_
            rintro e w8 ⟨v8, rfl, ho8, hb8⟩
            have HI8 := Lib.hid (ownI_isI ho8)
            have HC8 := Lib.hid (isI_below HI7.out hb8 (by omega))
            have HW8 := Lib.hid (below_down HW7.out hb8 (Nat.le_refl _))
            have HX8 := Lib.hid ((hb8.block w.heap.size (by omega)).trans HX7.out)
            have HXX8 := Lib.hid (isX_below HXX.out hb8 (by omega))
            have HN8 := Lib.hid ((hb8.block (wr.heap.size + 1) (by omega)).trans HN7.out)
            have hz8 := hb8.size
            have q8 := fun o => cell_of HN8.out o
            obtain ⟨a2, c2, rfl⟩ := isI_form HI3.out
            obtain ⟨a8, c8, rfl⟩ := isI_form HI8.out
            clear q7 ho8 hb8
            cases hem8 : emay (notE l[j])
            · have he : errOf (notE l[j]) = 1 := by rw [errOf, hem8]; rfl
              rw [he]
              have HE8 := Lib.hid hem8
              clear he hem8
              go_wp2_with fail
              refine (May_any (notE l[j]) (notE_fit HFX.out) (.slice none 0 0) (.slice (some ⟨wr.heap.size, 0, none⟩) 1 1) w8 (wr.heap.size + 1) (by omega) (isL_nil _ _) HXX8.out).mono ?_
              rintro e w9 ⟨rfl, hb9⟩
              rw [HE8.out]
              have HW9 := Lib.hid (below_down HW8.out hb9 (Nat.le_refl _))
              have hz9 := hb9.size
              have HX9 := Lib.hid ((hb9.block w.heap.size (by omega)).trans HX8.out)
              clear hb9 q8
              go_wp2_with fail
              go_roundw
              case rel => exact ⟨j + 1, by omega, by omega, by go_num, HW9.out, by omega, HX9⟩
              case measure => simp [intOf]; omega
            · have he : errOf (notE l[j]) = 0 := by rw [errOf, hem8]; rfl
              rw [he]
              have HE8 := Lib.hid hem8
              have hco8 : codeOf (notE l[j]) = compE l[j] 0 ++ [gi 5 7 ByteArray.empty noV] := by rw [codeOf, hem8, if_pos rfl, notE_code]
              have hl8 : (codeOf (notE l[j])).length = (compE l[j] 0).length + 1 := by rw [hco8]; simp
              rw [hl8] at HI8
              rw [hco8] at HI8
              rw [hl8]
              have HT8 := Lib.hid (isI_take HI8.out (compE l[j] 0).length (by simp))
              rw [List.take_left' rfl] at HT8
              obtain ⟨a8', c8', b8, off8, e8, hcap8, ha8, hA8⟩ := HI8.out
              obtain ⟨rfl, hlt8⟩ := ha8 (by simp)
              simp only [Value.slice.injEq] at e8
              obtain ⟨rfl, e9, rfl⟩ := e8
              obtain ⟨az, cz, z0, z1, _⟩ := hA8 (compE l[j] 0).length (by simp)
              have hget : (compE l[j] 0 ++ [gi 5 7 ByteArray.empty noV])[(compE l[j] 0).length]'(by simp) = gi 5 7 ByteArray.empty noV := by simp
              rw [hget] at z0 z1
              have HCL2 := Lib.hid HCL.out
              have HCF2 := Lib.hid HCF.out
              clear he hem8 hco8 hl8 hA8 hget e9 ha8
              go_wp2_with fail
              refine (May_any (notE l[j]) (notE_fit HFX.out) (.slice none 0 0) (.slice (some ⟨wr.heap.size, 0, none⟩) 1 1) w8 (wr.heap.size + 1) (by omega) (isL_nil _ _) HXX8.out).mono ?_
              rintro e w9 ⟨rfl, hb9⟩
              rw [HE8.out]
              have HW9 := Lib.hid (below_down HW8.out hb9 (Nat.le_refl _))
              have hz9 := hb9.size
              have HX9 := Lib.hid ((hb9.block w.heap.size (by omega)).trans HX8.out)
              have Z0 := Lib.hid ((hb9.cell (p := ⟨b8, off8 + (compE l[j] 0).length * 8, none⟩) hlt8).trans z0)
              have Z1 := Lib.hid ((hb9.cell (p := ⟨b8, off8 + (compE l[j] 0).length * 8 + 1, none⟩) hlt8).trans z1)
              have HC9 := Lib.hid (isI_wide (isI_below HC8.out hb9 (by omega)) (show _ ≤ w9.heap.size by omega))
              have HT9 := Lib.hid (isI_wide (isI_below HT8.out hb9 (by omega)) (show _ ≤ w9.heap.size by omega))
              clear hb9 q8 z0 z1
              have hn1 : ((((compE l[j] 0).length + 1 : Nat) : Int) != (((compE l[j] 0).length : Nat) : Int) + 1) = false := by simp
              have hcl := HCL2.out
              have hnc : (compE l[j] 0).length ≤ c8 := by have h := hcap8; simp at h; omega
              go_wp2_with fail
              refine (eqCode_any (compE l[j] 0) (compE l[j] 0) (Nat.le_trans HCL2.out (by omega)) (Nat.le_trans HCL2.out (by omega)) HCF2.out HCF2.out _ _ w9 w9.heap.size (Nat.le_refl _) HT9.out HC9.out).mono ?_
              rintro e w10 ⟨rfl, hb10⟩
              rw [sameIs_self]
              have hq0 := (hb10.cell (p := ⟨b8, off8 + (compE l[j] 0).length * 8, none⟩) (show b8 < w9.heap.size by omega)).trans Z0.out
              have hq1 := (hb10.cell (p := ⟨b8, off8 + (compE l[j] 0).length * 8 + 1, none⟩) (show b8 < w9.heap.size by omega)).trans Z1.out
              have hlt10 : b8 < w10.heap.size := by have := hb10.size; omega
              have HW10 := Lib.hid (below_down HW9.out hb10 (Nat.le_refl _))
              have HX10 := Lib.hid ((hb10.block w.heap.size (by omega)).trans HX9.out)
              have hz10 := hb10.size
              clear hb10
              go_wp2_with fail
              go_roundw
              case rel => exact ⟨j + 1, by omega, by omega, by go_num, HW10.out, by omega, HX10⟩
              case measure => simp [intOf]; omega
      · obtain rfl : k = 6 := by omega
        go_wp2_with fail
        refine (hfin.out _ hbel).mono ?_
        rintro e w1 ⟨rfl, hb1⟩
        go_wp2_with fail
        go_ret
        exact ⟨rfl, below_down hbel hb1 (Nat.le_refl _)⟩
    · obtain rfl : k = l.length := by omega
      go_wp2_with fail
      refine (hfin.out _ hbel).mono ?_
      rintro e w1 ⟨rfl, hb1⟩
      go_wp2_with fail
      go_ret
      exact ⟨rfl, below_down hbel hb1 (Nat.le_refl _)⟩
end Go.Proofs.YtnmolgmchoihmaaDoor
