/-
  proctorlaw11.VmLazy answers true. Conditions: what it is handed is of bulk at most 1048576.
-/
import Derived.Test.YtljljhjdlicfeaaNK
import Derived.Test.YtljljhjdlicfeaaVl4
import Derived.Test.YtljljhjdlicfeaaNL
import Derived.Test.YtljljhjdlicfeaaNQ
import Derived.Deep.DeepCutAuto
namespace Go.Proofs.Ytljljhjdlicfeaa
open Go Go.RowKit
set_option maxRecDepth 100000
set_option linter.unusedVariables false
def TrueO (w : World) (e : Ending) (w' : World) : Prop := e = .returned (.bool true) ∧ Below w.heap.size w w'
set_option maxHeartbeats 6400000 in
theorem vlazy_any (W : WV) (fW : W.fit) (hW : W.small) (fv : ∀ f ∈ W.facts, f.vals.length ≤ 2147483647) (L : List GE) (hLl : L.length ≤ 1048576) (fL : fitE L) (oL : okWs L) (sL sI s0 s1 s2 s3 : Value) (fuel : Int) (w : World) (B : Nat) (hB : B ≤ w.heap.size) (h : isAsk w B W s0 s1 s2 s3) (hL : isX w B sL L) :
    Calls Try.prog 4 #[.agg #[sL, sI, s0, s1, s2, s3, .int .i64 fuel]] w (TrueO w) := by
  obtain ⟨aL, cL, rfl⟩ := isE_form hL
  have H := Lib.hid h
  have HL := Lib.hid hL
  have HW := Lib.hid hW
  have HFL := Lib.hid fL
  have HOL := Lib.hid oL
  clear h hL hW fL oL
  go_enter Try.func4, Try.ntmps4
  go_upto_region 1 with fail
  obtain ⟨w1, hw1⟩ : ∃ u, u = w.alloc (.cells #[.slice aL L.length cL, sI, s0, s1, s2, s3, .int .i64 fuel] 28) := ⟨_, rfl⟩
  have hb1 : Below w.heap.size w w1 := by rw [hw1]; exact (Below.refl _ _).alloc (Nat.le_refl _) _
  have hx1 : w1.heap[w.heap.size]? = some (.cells #[.slice aL L.length cL, sI, s0, s1, s2, s3, .int .i64 fuel] 28 (0, 0)) := by rw [hw1]; exact heap_last
  rw [← hw1]
  clear hw1
  have HB1 := Lib.hid hb1
  have HX1 := Lib.hid hx1
  have HZ1 : Hid (w.heap.size < w1.heap.size) := (Array.getElem?_eq_some_iff.1 hx1).1
  have q1 := fun o => cell_of hx1 o
  clear hb1 hx1
  go_wp2_with fail
  refine (light_any W (.slice aL L.length cL) sI s0 s1 s2 s3 fuel w1 B (Nat.le_trans hB HB1.out.size) (isAsk_below H.out (HB1.out.mono hB)) HW.out).mono ?_
  rintro e w2 hO
  obtain ⟨b, rfl, hfew, hb2⟩ := hO
  have HB2 := Lib.hid (below_down HB1.out hb2 (Nat.le_refl _))
  have HX2 := Lib.hid ((hb2.block _ HZ1.out).trans HX1.out)
  have HZ2 : Hid (w.heap.size < w2.heap.size) := Nat.lt_of_lt_of_le HZ1.out hb2.size
  have q2 := fun o => cell_of HX2.out o
  clear hb2 q1
  cases b
  · clear hfew
    go_wp2_with fail
    refine (vwakes_any w2).mono ?_
    rintro e w3 ⟨rfl, hb3⟩
    have HB3 := Lib.hid (below_down HB2.out hb3 (Nat.le_refl _))
    clear hb3
    go_wp2_with fail
    go_ret
    exact ⟨rfl, HB3.out⟩
  have HF := Lib.hid (hfew rfl)
  clear hfew
  go_wp2_with fail
  refine (world_any W (.slice aL L.length cL) sI s0 s1 s2 s3 fuel w2 B (Nat.le_trans hB HB2.out.size) (isAsk_below H.out (HB2.out.mono hB)) (by have := HF.out.1; omega) (by have := HF.out.2.1; omega) (by have := HF.out.2.2.1; omega) (by have := HF.out.2.2.2.1; omega) (fun c hc => by have := HF.out.2.2.2.2 c hc; omega)).mono ?_
  rintro e w3 ⟨be, rfl, hen, hb3⟩
  have HE3 := Lib.hid (env_ok be w3.heap.size W fW fv w3 hen)
  have HB3 := Lib.hid (below_down HB2.out hb3 (Nat.le_refl _))
  have HX3 := Lib.hid ((hb3.block _ HZ2.out).trans HX2.out)
  have HZ3 : Hid (w.heap.size < w3.heap.size) := Nat.lt_of_lt_of_le HZ2.out hb3.size
  clear hen hb3 q2
  go_wp2_with fail
  go_loopw [4] (fun i wr => ∃ k : Nat, k ≤ L.length ∧ k ≤ 6 ∧ i = .int .i64 k ∧ Below w.heap.size w wr ∧ Below w3.heap.size w3 wr ∧ Hid (wr.heap[w.heap.size]? = some (.cells #[.slice aL L.length cL, sI, s0, s1, s2, s3, .int .i64 fuel] 28 (0, 0)))) (fun i _ => 6 - (intOf i).toNat)
  case atStart => exact ⟨0, Nat.zero_le _, by omega, rfl, HB3.out, Below.refl _ _, HX3.out⟩
  case round =>
    obtain ⟨k, hk, hk6, rfl, hbel, hbe, hbox⟩ := hrel
    have q := fun o => cell_of hbox.out o
    have HB := Lib.hid hbel
    have HBE := Lib.hid hbe
    have hz : w.heap.size < wr.heap.size := (Array.getElem?_eq_some_iff.1 hbox.out).1
    by_cases hlt : k < L.length
    case neg =>
      clear hbel hbe
      go_wp2_with fail
      refine (vwakes_any wr).mono ?_
      rintro e w4 ⟨rfl, hb4⟩
      have HB4 := Lib.hid (below_down HB.out hb4 (Nat.le_refl _))
      clear hb4
      go_wp2_with fail
      go_ret
      exact ⟨rfl, HB4.out⟩
    by_cases h6 : k < 6
    case neg =>
      clear hbel hbe
      go_wp2_with fail
      refine (vwakes_any wr).mono ?_
      rintro e w4 ⟨rfl, hb4⟩
      have HB4 := Lib.hid (below_down HB.out hb4 (Nat.le_refl _))
      clear hb4
      go_wp2_with fail
      go_ret
      exact ⟨rfl, HB4.out⟩
    obtain ⟨aL2, cL2, bb, off, e, hc, ha, hA⟩ := isX_open HL.out
    simp only [Value.slice.injEq] at e
    obtain ⟨rfl, _, rfl⟩ := e
    obtain ⟨rfl, hb2⟩ := ha (by omega)
    obtain ⟨ax, cx, aax, cax, x0, x1, x2, x3, x4, x5, x6, x7, hsx, hsax⟩ := cellsE_open (hA k hlt)
    have hg : ∀ o, wr.cell? ⟨bb, o, none⟩ = w.cell? ⟨bb, o, none⟩ := fun o => hbel.cell (p := ⟨bb, o, none⟩) (Nat.lt_of_lt_of_le hb2 hB)
    have HSX := Lib.hid (isL_below hsx HB.out hB)
    have HSAX := Lib.hid (isX_below hsax HB.out hB)
    have HFX := Lib.hid (fitE_mem HFL.out _ (List.getElem_mem hlt))
    have HOX := Lib.hid (okWs_mem HOL.out _ (List.getElem_mem hlt))
    obtain ⟨x, hx⟩ : ∃ x, x = L[k] := ⟨_, rfl⟩
    rw [← hx] at x0 x1 x2 x3 x4 x5 x6 x7 HSX HSAX HFX HOX
    clear hx hsx hsax hA ha hbel hbe
    have hBr : B ≤ wr.heap.size := Nat.le_trans hB HB.out.size
    have hbz : bb < wr.heap.size := by omega
    go_upto_region 8 with fail
    obtain ⟨wa, hwa⟩ : ∃ u, u = wr.alloc (.cells #[.int .i64 x.op, .string x.text, .int .i64 x.v.k, .bool x.v.b, .int .i64 x.v.n, .string x.v.t, .slice ax x.v.l.length cx, .slice aax x.args.length cax] 40) := ⟨_, rfl⟩
    have hba : Below wr.heap.size wr wa := by rw [hwa]; exact (Below.refl _ _).alloc (Nat.le_refl _) _
    have hxa : wa.heap[wr.heap.size]? = some (.cells #[.int .i64 x.op, .string x.text, .int .i64 x.v.k, .bool x.v.b, .int .i64 x.v.n, .string x.v.t, .slice ax x.v.l.length cx, .slice aax x.args.length cax] 40 (0, 0)) := by rw [hwa]; exact heap_last
    rw [← hwa]
    clear hwa
    have HXA := Lib.hid hxa
    have HBA := Lib.hid hba
    have HSXA := Lib.hid (isL_below HSX.out hba hBr)
    have HSAXA := Lib.hid (isX_below HSAX.out hba hBr)
    have qa := fun o => cell_of hxa o
    have la : wr.heap.size < wa.heap.size := (Array.getElem?_eq_some_iff.1 hxa).1
    have hBa : B ≤ wa.heap.size := Nat.le_trans hBr hba.size
    have HBA2 : Hid (Below wa.heap.size wa wa) := Below.refl _ _
    have HXA2 := Lib.hid ((HBA2.out.block _ la).trans HXA.out)
    have HSA2 := Lib.hid (isL_below HSXA.out HBA2.out hBa)
    have HSAA2 := Lib.hid (isX_below HSAXA.out HBA2.out hBa)
    have hBA2 : B ≤ wa.heap.size := Nat.le_trans hBa HBA2.out.size
    have lA2 : wr.heap.size < wa.heap.size := Nat.lt_of_lt_of_le la HBA2.out.size
    clear hba hxa x0 x1 x2 x3 x4 x5 x6 x7 hg
    go_upto_region 8 with fail
    go_cut [6] (fun s6 wx => ∃ (p g : Nat), s6 = .pointer (some ⟨p, 0, none⟩) ∧ Hid (BoxE wa wx p g 8 (litE (booV false)) (.slice none 0 0) (.slice none 0 0) x (.slice ax x.v.l.length cx) (.slice aax x.args.length cax)))
    case first =>
      go_region_law (first
        | (go_simp
           go_at_call 15
           refine (boolean_any false _).mono ?_
           rintro e w2 ⟨rfl, hb2⟩
           first
             | (have hbw : Below wa.heap.size wa w2 := (Below.refl _ wa).drew.trans hb2
                have HB2 := Lib.hid hbw
                clear hbw)
             | (have hbw : Below wa.heap.size wa w2 := ((Below.refl _ wa).alloc (Nat.le_refl _) _).drew.trans (hb2.mono (by simp))
                have HB2 := Lib.hid hbw
                have hz2 := (hb2.block wa.heap.size (by simp)).trans (heap_last (w := wa) (o := (.cells #[.int .i64 0, .string { data := #[] }, .int .i64 0, .bool false, .int .i64 0, .string { data := #[] }, .slice none 0 0, .slice none 0 0] 40)))
                have HZ := Lib.hid hz2
                clear hbw hz2)
           have q2 := fun o => cell_of ((HB2.out.block _ lA2).trans HXA2.out) o
           have hw2 := HB2.out.size
           have l2 : wr.heap.size < w2.heap.size := Nat.lt_of_lt_of_le lA2 hw2
           clear hb2)
        | (go_simp
           go_at_call 10
           refine (two_raw 8 (litE (booV false)) x (.slice none 0 0) (.slice none 0 0) (.slice ax x.v.l.length cx) (.slice aax x.args.length cax) _ B (Nat.le_trans hBA2 (by first | exact hw2 | exact Nat.le_trans hw2 (by simp))) (isL_nil _ _) (isX_nil5 _ _) (isL_below HSA2.out (by first | exact HB2.out | exact HB2.out.alloc hw2 _) hBA2) (isX_below HSAA2.out (by first | exact HB2.out | exact HB2.out.alloc hw2 _) hBA2)).mono ?_
           rintro e wt ⟨g, rfl, hg3, hp3, hb3⟩
           have HP3 := Lib.hid hp3
           first
             | (have hbw : Below wa.heap.size wa wt := below_down HB2.out hb3 (Nat.le_refl _)
                have HB3 := Lib.hid hbw
                have HG3 : Hid (wa.heap.size ≤ g) := Nat.le_trans hw2 hg3
                first
                  | (have hz3 := (hb3.block wa.heap.size (Array.getElem?_eq_some_iff.1 HZ.out).1).trans HZ.out
                     have HPG : Hid (wa.heap.size ≠ g) := Nat.ne_of_lt (Nat.lt_of_lt_of_le (Array.getElem?_eq_some_iff.1 HZ.out).1 hg3)
                     have HZP : Hid (wa.heap.size ≤ wa.heap.size) := Nat.le_refl _
                     have HZ3 := Lib.hid hz3
                     have qz := fun o => cell_of hz3 o
                     have fz := fun o => frozen_of hz3 o
                     have lz : wa.heap.size < wt.heap.size := (Array.getElem?_eq_some_iff.1 hz3).1
                     clear hz3)
                  | skip
                clear hbw)
             | (have hbw : Below wa.heap.size wa wt := below_down (HB2.out.alloc hw2 _) hb3 (Nat.le_refl _)
                have HB3 := Lib.hid hbw
                have hz3 := (hb3.block w2.heap.size (by simp)).trans (heap_last (w := w2) (o := (.cells #[.int .i64 0, .string { data := #[] }, .int .i64 0, .bool false, .int .i64 0, .string { data := #[] }, .slice none 0 0, .slice none 0 0] 40)))
                have HZ3 := Lib.hid hz3
                have qz := fun o => cell_of hz3 o
                have fz := fun o => frozen_of hz3 o
                have lz : w2.heap.size < wt.heap.size := (Array.getElem?_eq_some_iff.1 hz3).1
                have HG3 : Hid (wa.heap.size ≤ g) := Nat.le_trans hw2 (Nat.le_trans (by simp) hg3)
                have HPG : Hid (w2.heap.size ≠ g) := Nat.ne_of_lt (Nat.lt_of_lt_of_le (by simp) hg3)
                have HZP : Hid (wa.heap.size ≤ w2.heap.size) := hw2
                clear hbw hz3)
           have hw3 := HB3.out.size
           clear hg3 hp3 hb3
           simp only [GE.agg, twoE, litE, booV, noV, emp_eq])
        | skip)
      all_goals
        go_wp2_with fail
        go_meet
        refine ⟨_, g, rfl, Lib.hid ?_⟩
        with_reducible first
          | exact boxE_alloc HB3.out HG3.out HP3.out
          | exact boxE_store HB3.out HZP.out HG3.out HPG.out HP3.out HZ3.out
    case rest =>
      obtain ⟨p8, g8, rfl, HBX8⟩ := hcut
      obtain ⟨w8, hren⟩ : ∃ u, u = wc := ⟨_, rfl⟩
      subst hren
      have HB8 : Hid (Below wa.heap.size wa w8) := HBX8.out.1
      have HX8 := Lib.hid ((HB8.out.block _ la).trans HXA.out)
      have HS8 := Lib.hid (isL_below HSXA.out HB8.out hBa)
      have HSA8 := Lib.hid (isX_below HSAXA.out HB8.out hBa)
      have hB8 : B ≤ w8.heap.size := Nat.le_trans hBa HB8.out.size
      have l8 : wr.heap.size < w8.heap.size := Nat.lt_of_lt_of_le la HB8.out.size
      have q8 := fun o => cell_of HX8.out o
      have h8B : B ≤ wa.heap.size := hBa
      go_upto_region 9 with fail
      go_cut [7] (fun s6 wx => ∃ (p g : Nat), s6 = .pointer (some ⟨p, 0, none⟩) ∧ Hid (BoxE w8 wx p g 9 (litE (booV true)) (.slice none 0 0) (.slice none 0 0) x (.slice ax x.v.l.length cx) (.slice aax x.args.length cax)))
      case first =>
        go_region_law (first
          | (go_simp
             go_at_call 15
             refine (boolean_any true _).mono ?_
             rintro e w2 ⟨rfl, hb2⟩
             first
               | (have hbw : Below w8.heap.size w8 w2 := (Below.refl _ w8).drew.trans hb2
                  have HB2 := Lib.hid hbw
                  clear hbw)
               | (have hbw : Below w8.heap.size w8 w2 := ((Below.refl _ w8).alloc (Nat.le_refl _) _).drew.trans (hb2.mono (by simp))
                  have HB2 := Lib.hid hbw
                  have hz2 := (hb2.block w8.heap.size (by simp)).trans (heap_last (w := w8) (o := (.cells #[.int .i64 0, .string { data := #[] }, .int .i64 0, .bool false, .int .i64 0, .string { data := #[] }, .slice none 0 0, .slice none 0 0] 40)))
                  have HZ := Lib.hid hz2
                  clear hbw hz2)
             have q2 := fun o => cell_of ((HB2.out.block _ l8).trans HX8.out) o
             have hw2 := HB2.out.size
             have l2 : wr.heap.size < w2.heap.size := Nat.lt_of_lt_of_le l8 hw2
             clear hb2)
          | (go_simp
             go_at_call 10
             refine (two_raw 9 (litE (booV true)) x (.slice none 0 0) (.slice none 0 0) (.slice ax x.v.l.length cx) (.slice aax x.args.length cax) _ B (Nat.le_trans hB8 (by first | exact hw2 | exact Nat.le_trans hw2 (by simp))) (isL_nil _ _) (isX_nil5 _ _) (isL_below HS8.out (by first | exact HB2.out | exact HB2.out.alloc hw2 _) hB8) (isX_below HSA8.out (by first | exact HB2.out | exact HB2.out.alloc hw2 _) hB8)).mono ?_
             rintro e wt ⟨g, rfl, hg3, hp3, hb3⟩
             have HP3 := Lib.hid hp3
             first
               | (have hbw : Below w8.heap.size w8 wt := below_down HB2.out hb3 (Nat.le_refl _)
                  have HB3 := Lib.hid hbw
                  have HG3 : Hid (w8.heap.size ≤ g) := Nat.le_trans hw2 hg3
                  first
                    | (have hz3 := (hb3.block w8.heap.size (Array.getElem?_eq_some_iff.1 HZ.out).1).trans HZ.out
                       have HPG : Hid (w8.heap.size ≠ g) := Nat.ne_of_lt (Nat.lt_of_lt_of_le (Array.getElem?_eq_some_iff.1 HZ.out).1 hg3)
                       have HZP : Hid (w8.heap.size ≤ w8.heap.size) := Nat.le_refl _
                       have HZ3 := Lib.hid hz3
                       have qz := fun o => cell_of hz3 o
                       have fz := fun o => frozen_of hz3 o
                       have lz : w8.heap.size < wt.heap.size := (Array.getElem?_eq_some_iff.1 hz3).1
                       clear hz3)
                    | skip
                  clear hbw)
               | (have hbw : Below w8.heap.size w8 wt := below_down (HB2.out.alloc hw2 _) hb3 (Nat.le_refl _)
                  have HB3 := Lib.hid hbw
                  have hz3 := (hb3.block w2.heap.size (by simp)).trans (heap_last (w := w2) (o := (.cells #[.int .i64 0, .string { data := #[] }, .int .i64 0, .bool false, .int .i64 0, .string { data := #[] }, .slice none 0 0, .slice none 0 0] 40)))
                  have HZ3 := Lib.hid hz3
                  have qz := fun o => cell_of hz3 o
                  have fz := fun o => frozen_of hz3 o
                  have lz : w2.heap.size < wt.heap.size := (Array.getElem?_eq_some_iff.1 hz3).1
                  have HG3 : Hid (w8.heap.size ≤ g) := Nat.le_trans hw2 (Nat.le_trans (by simp) hg3)
                  have HPG : Hid (w2.heap.size ≠ g) := Nat.ne_of_lt (Nat.lt_of_lt_of_le (by simp) hg3)
                  have HZP : Hid (w8.heap.size ≤ w2.heap.size) := hw2
                  clear hbw hz3)
             have hw3 := HB3.out.size
             clear hg3 hp3 hb3
             simp only [GE.agg, twoE, litE, booV, noV, emp_eq])
          | skip)
        all_goals
          go_wp2_with fail
          go_meet
          refine ⟨_, g, rfl, Lib.hid ?_⟩
          with_reducible first
            | exact boxE_alloc HB3.out HG3.out HP3.out
            | exact boxE_store HB3.out HZP.out HG3.out HPG.out HP3.out HZ3.out
      case rest =>
        obtain ⟨p9, g9, rfl, HBX9⟩ := hcut
        obtain ⟨w9, hren⟩ : ∃ u, u = wc := ⟨_, rfl⟩
        subst hren
        have HB9 : Hid (Below wa.heap.size wa w9) := below_down HB8.out HBX9.out.1 (Nat.le_refl _)
        have HX9 := Lib.hid ((HB9.out.block _ la).trans HXA.out)
        have HS9 := Lib.hid (isL_below HSXA.out HB9.out hBa)
        have HSA9 := Lib.hid (isX_below HSAXA.out HB9.out hBa)
        have hB9 : B ≤ w9.heap.size := Nat.le_trans hBa HB9.out.size
        have l9 : wr.heap.size < w9.heap.size := Nat.lt_of_lt_of_le la HB9.out.size
        have q9 := fun o => cell_of HX9.out o
        have HP8 := Lib.hid (boxE_isX HBX8.out (B := B) hBa (isL_nil _ _) (isX_nil5 _ _) HSXA.out HSAXA.out)
        have HP9 := Lib.hid (boxE_isX HBX9.out (B := B) hB8 (isL_nil _ _) (isX_nil5 _ _) HS8.out HSA8.out)
        have l8p : p8 < w8.heap.size := (Array.getElem?_eq_some_iff.1 HBX8.out.2.2.2.2).1
        have HQ8 := Lib.hid ((HBX9.out.1.block _ l8p).trans HBX8.out.2.2.2.2)
        have HQ9 := Lib.hid HBX9.out.2.2.2.2
        have HP89 := Lib.hid (isX_below HP8.out HBX9.out.1 (Nat.le_refl _))
        have l9p : p9 < w9.heap.size := (Array.getElem?_eq_some_iff.1 HQ9.out).1
        have l89 : p8 < w9.heap.size := (Array.getElem?_eq_some_iff.1 HQ8.out).1
        have z89 : w8.heap.size ≤ w9.heap.size := HBX9.out.1.size
        go_wp2_with fail
        refine (weight_any x HOX.out 0 (.slice ax x.v.l.length cx) (.slice aax x.args.length cax) w9 B (by omega) hB9 HS9.out HSA9.out).mono ?_
        rintro e wb ⟨⟨nw, rfl⟩, hbb⟩
        by_cases hw : 300 < nw
        · have HBb : Hid (Below wa.heap.size wa wb) := below_down HB9.out hbb (Nat.le_refl _)
          have HXb := Lib.hid ((HBb.out.block _ la).trans HXA.out)
          have HSb := Lib.hid (isL_below HSXA.out HBb.out hBa)
          have HSAb := Lib.hid (isX_below HSAXA.out HBb.out hBa)
          have hBb : B ≤ wb.heap.size := Nat.le_trans hBa HBb.out.size
          have lb : wr.heap.size < wb.heap.size := Nat.lt_of_lt_of_le la HBb.out.size
          have qb := fun o => cell_of HXb.out o
          clear hbb
          have HRb := Lib.hid (below_down HBA.out HBb.out (Nat.le_refl _))
          go_wp2_with fail
          go_roundw
          case rel => exact ⟨k + 1, by omega, by omega, by go_num, below_down HB.out HRb.out (Nat.le_refl _), below_down HBE.out HRb.out (Nat.le_refl _), (HRb.out.block _ hz).trans hbox.out⟩
          case measure => simp [intOf]; omega
        have HBb : Hid (Below wa.heap.size wa wb) := below_down HB9.out hbb (Nat.le_refl _)
        have HXb := Lib.hid ((HBb.out.block _ la).trans HXA.out)
        have HSb := Lib.hid (isL_below HSXA.out HBb.out hBa)
        have HSAb := Lib.hid (isX_below HSAXA.out HBb.out hBa)
        have hBb : B ≤ wb.heap.size := Nat.le_trans hBa HBb.out.size
        have lb : wr.heap.size < wb.heap.size := Nat.lt_of_lt_of_le la HBb.out.size
        have qb := fun o => cell_of HXb.out o
        have HNb := Lib.hid hbb
        have HQ8b := Lib.hid ((hbb.block _ l89).trans HQ8.out)
        have HQ9b := Lib.hid ((hbb.block _ l9p).trans HQ9.out)
        have l8b : p8 < wb.heap.size := (Array.getElem?_eq_some_iff.1 HQ8b.out).1
        have l9b : p9 < wb.heap.size := (Array.getElem?_eq_some_iff.1 HQ9b.out).1
        have q8b := fun o => cell_of HQ8b.out o
        have q9b := fun o => cell_of HQ9b.out o
        have HA8b := Lib.hid (isX_below HP89.out hbb z89)
        have HA9b := Lib.hid (isX_below HP9.out hbb (Nat.le_refl _))
        clear hbb q8 q9
        go_wp2_with fail
        refine (May_any (twoE 8 (litE (booV false)) x) (two_fit 8 _ _ (by omega) (lit_fit (booV_fit _)) HFX.out) (.slice none 0 0) (.slice (some ⟨g8, 0, none⟩) 2 2) wb w9.heap.size HNb.out.size (isL_nil _ _) (isX_wide HA8b.out z89)).mono ?_
        rintro e wc2 ⟨rfl, hbc⟩
        have HNc := Lib.hid (below_down HNb.out hbc (Nat.le_refl _))
        have HBc : Hid (Below wa.heap.size wa wc2) := below_down HBb.out hbc (Nat.le_refl _)
        have HXc := Lib.hid ((HBc.out.block _ la).trans HXA.out)
        have HSc := Lib.hid (isL_below HSXA.out HBc.out hBa)
        have HSAc := Lib.hid (isX_below HSAXA.out HBc.out hBa)
        have hBc : B ≤ wc2.heap.size := Nat.le_trans hBa HBc.out.size
        have lc : wr.heap.size < wc2.heap.size := Nat.lt_of_lt_of_le la HBc.out.size
        have qc := fun o => cell_of HXc.out o
        cases hm8 : emay (twoE 8 (litE (booV false)) x)
        · clear hbc qb q8b q9b hm8
          have HRc := Lib.hid (below_down HBA.out HBc.out (Nat.le_refl _))
          go_wp2_with fail
          go_roundw
          case rel => exact ⟨k + 1, by omega, by omega, by go_num, below_down HB.out HRc.out (Nat.le_refl _), below_down HBE.out HRc.out (Nat.le_refl _), (HRc.out.block _ hz).trans hbox.out⟩
          case measure => simp [intOf]; omega
        have HM8 := Lib.hid hm8
        clear hm8
        have HQ8c := Lib.hid ((hbc.block _ l8b).trans HQ8b.out)
        have HQ9c := Lib.hid ((hbc.block _ l9b).trans HQ9b.out)
        have l8c : p8 < wc2.heap.size := (Array.getElem?_eq_some_iff.1 HQ8c.out).1
        have l9c : p9 < wc2.heap.size := (Array.getElem?_eq_some_iff.1 HQ9c.out).1
        have q8c := fun o => cell_of HQ8c.out o
        have q9c := fun o => cell_of HQ9c.out o
        have HA8c := Lib.hid (isX_below HP89.out (HNc.out) z89)
        have HA9c := Lib.hid (isX_below HP9.out (HNc.out) (Nat.le_refl _))
        clear hbc qb q8b q9b
        go_wp2_with fail
        refine (May_any (twoE 9 (litE (booV true)) x) (two_fit 9 _ _ (by omega) (lit_fit (booV_fit _)) HFX.out) (.slice none 0 0) (.slice (some ⟨g9, 0, none⟩) 2 2) wc2 w9.heap.size HNc.out.size (isL_nil _ _) HA9c.out).mono ?_
        rintro e wd ⟨rfl, hbd⟩
        have HNd := Lib.hid (below_down HNc.out hbd (Nat.le_refl _))
        have HBd : Hid (Below wa.heap.size wa wd) := below_down HBc.out hbd (Nat.le_refl _)
        have HXd := Lib.hid ((HBd.out.block _ la).trans HXA.out)
        have HSd := Lib.hid (isL_below HSXA.out HBd.out hBa)
        have HSAd := Lib.hid (isX_below HSAXA.out HBd.out hBa)
        have hBd : B ≤ wd.heap.size := Nat.le_trans hBa HBd.out.size
        have ld : wr.heap.size < wd.heap.size := Nat.lt_of_lt_of_le la HBd.out.size
        have qd := fun o => cell_of HXd.out o
        cases hm9 : emay (twoE 9 (litE (booV true)) x)
        · clear hbd qc q8c q9c hm9
          have HRd := Lib.hid (below_down HBA.out HBd.out (Nat.le_refl _))
          go_wp2_with fail
          go_roundw
          case rel => exact ⟨k + 1, by omega, by omega, by go_num, below_down HB.out HRd.out (Nat.le_refl _), below_down HBE.out HRd.out (Nat.le_refl _), (HRd.out.block _ hz).trans hbox.out⟩
          case measure => simp [intOf]; omega
        have HM9 := Lib.hid hm9
        clear hm9
        have HQ8d := Lib.hid ((hbd.block _ l8c).trans HQ8c.out)
        have HQ9d := Lib.hid ((hbd.block _ l9c).trans HQ9c.out)
        have l8d : p8 < wd.heap.size := (Array.getElem?_eq_some_iff.1 HQ8d.out).1
        have l9d : p9 < wd.heap.size := (Array.getElem?_eq_some_iff.1 HQ9d.out).1
        have q8d := fun o => cell_of HQ8d.out o
        have q9d := fun o => cell_of HQ9d.out o
        have HA8d := Lib.hid (isX_below HP89.out (HNd.out) z89)
        have HA9d := Lib.hid (isX_below HP9.out (HNd.out) (Nat.le_refl _))
        clear hbd qc q8c q9c
        have HKd : Hid (Below w3.heap.size w3 wd) := below_down HBE.out (below_down HBA.out HBd.out (Nat.le_refl _)) (Nat.le_refl _)
        go_wp2_with fail
        refine (veval_any (envP W) (envP_fit fW) (.agg #[.pointer (some ⟨be, 0, none⟩)]) w3.heap.size (twoE 8 (litE (booV false)) x) (two_fit 8 _ _ (by omega) (lit_fit (booV_fit _)) HFX.out) 1048576 (.slice none 0 0) (.slice (some ⟨g8, 0, none⟩) 2 2) wd w9.heap.size HNd.out.size HKd.out.size (isL_nil _ _) (isX_wide HA8d.out z89) (HE3.out.keep HKd.out)).mono ?_
        rw [short_law (envP W) 8 false x (.inl ⟨rfl, rfl⟩) HM8.out]
        rintro e we ⟨awe, cwe, rfl, _, hbwe⟩
        simp only [GV.agg, booV, emp_eq, List.length_nil]
        go_upto_region 12 with fail
        obtain ⟨wf, hwwf⟩ : ∃ u, u = we.alloc (.cells #[.int .i64 1, .bool false, .int .i64 0, .string { data := #[] }, .slice awe 0 cwe] 35) := ⟨_, rfl⟩
        have hbwf : Below wd.heap.size wd wf := by rw [hwwf]; exact hbwe.alloc hbwe.size _
        have HVwf : Hid (wf.heap[we.heap.size]? = some (.cells #[.int .i64 1, .bool false, .int .i64 0, .string { data := #[] }, .slice awe 0 cwe] 35 (0, 0))) := by rw [Hid, hwwf]; exact heap_last
        rw [← hwwf]
        clear hwwf hbwe
        have HNwf := Lib.hid (below_down HNd.out hbwf (Nat.le_refl _))
        have HBwf : Hid (Below wa.heap.size wa wf) := below_down HBd.out hbwf (Nat.le_refl _)
        have HXwf := Lib.hid ((HBwf.out.block _ la).trans HXA.out)
        have HSwf := Lib.hid (isL_below HSXA.out HBwf.out hBa)
        have HSAwf := Lib.hid (isX_below HSAXA.out HBwf.out hBa)
        have hBwf : B ≤ wf.heap.size := Nat.le_trans hBa HBwf.out.size
        have lwf : wr.heap.size < wf.heap.size := Nat.lt_of_lt_of_le la HBwf.out.size
        have qwf := fun o => cell_of HXwf.out o
        have HA9f := Lib.hid (isX_below HP9.out HNwf.out (Nat.le_refl _))
        have HQ9f := Lib.hid ((hbwf.block _ l9d).trans HQ9d.out)
        have q9f := fun o => cell_of HQ9f.out o
        have l9f := (Array.getElem?_eq_some_iff.1 HQ9f.out).1
        clear hbwf qd q8d q9d
        have HKwf : Hid (Below w3.heap.size w3 wf) := below_down HBE.out (below_down HBA.out HBwf.out (Nat.le_refl _)) (Nat.le_refl _)
        go_wp2_with fail
        refine (veval_any (envP W) (envP_fit fW) (.agg #[.pointer (some ⟨be, 0, none⟩)]) w3.heap.size (twoE 9 (litE (booV true)) x) (two_fit 9 _ _ (by omega) (lit_fit (booV_fit _)) HFX.out) 1048576 (.slice none 0 0) (.slice (some ⟨g9, 0, none⟩) 2 2) wf w9.heap.size HNwf.out.size HKwf.out.size (isL_nil _ _) HA9f.out (HE3.out.keep HKwf.out)).mono ?_
        rw [short_law (envP W) 9 true x (.inr ⟨rfl, rfl⟩) HM9.out]
        rintro e wg ⟨awg, cwg, rfl, _, hbwg⟩
        simp only [GV.agg, booV, emp_eq, List.length_nil]
        go_upto_region 13 with fail
        obtain ⟨wh, hwwh⟩ : ∃ u, u = wg.alloc (.cells #[.int .i64 1, .bool true, .int .i64 0, .string { data := #[] }, .slice awg 0 cwg] 35) := ⟨_, rfl⟩
        have hbwh : Below wf.heap.size wf wh := by rw [hwwh]; exact hbwg.alloc hbwg.size _
        have HVwh : Hid (wh.heap[wg.heap.size]? = some (.cells #[.int .i64 1, .bool true, .int .i64 0, .string { data := #[] }, .slice awg 0 cwg] 35 (0, 0))) := by rw [Hid, hwwh]; exact heap_last
        rw [← hwwh]
        clear hwwh hbwg
        have HNwh := Lib.hid (below_down HNwf.out hbwh (Nat.le_refl _))
        have HBwh : Hid (Below wa.heap.size wa wh) := below_down HBwf.out hbwh (Nat.le_refl _)
        have HXwh := Lib.hid ((HBwh.out.block _ la).trans HXA.out)
        have HSwh := Lib.hid (isL_below HSXA.out HBwh.out hBa)
        have HSAwh := Lib.hid (isX_below HSAXA.out HBwh.out hBa)
        have hBwh : B ≤ wh.heap.size := Nat.le_trans hBa HBwh.out.size
        have lwh : wr.heap.size < wh.heap.size := Nat.lt_of_lt_of_le la HBwh.out.size
        have qwh := fun o => cell_of HXwh.out o
        have HVe := Lib.hid ((hbwh.block _ (Array.getElem?_eq_some_iff.1 HVwf.out).1).trans HVwf.out)
        have qe := fun o => cell_of HVe.out o
        have qg := fun o => cell_of HVwh.out o
        clear hbwh qwf q9f
        have HKh : Hid (Below w3.heap.size w3 wh) := below_down HBE.out (below_down HBA.out HBwh.out (Nat.le_refl _)) (Nat.le_refl _)
        have HL := Lib.hid (lazy_may 8 false x (.inl rfl) HM8.out)
        obtain ⟨Pv, Pe, hP⟩ : ∃ u e, EvalP (envP W) x 1048576 = (u, e) := ⟨_, _, rfl⟩
        obtain ⟨Qv, Qe, hQ⟩ : ∃ u e, EvalP (envP W) (twoE 8 x (litE (booV true))) 1048576 = (u, e) := ⟨_, _, rfl⟩
        have ht := true_law (envP W) x HL.out.1 (HL.out.2 true)
        rw [hP, hQ] at ht
        have HT := Lib.hid ht
        have HP := Lib.hid hP
        have HQ := Lib.hid hQ
        clear ht hP hQ
        go_upto_region 15 with fail
        clear qe qg
        go_wp2_with fail
        refine (veval_any (envP W) (envP_fit fW) (.agg #[.pointer (some ⟨be, 0, none⟩)]) w3.heap.size x HFX.out 1048576 (.slice ax x.v.l.length cx) (.slice aax x.args.length cax) wh B hBwh HKh.out.size HSwh.out HSAwh.out (HE3.out.keep HKh.out)).mono ?_
        rw [HP.out]
        rintro e wi ⟨ai, ci, rfl, _, hbi⟩
        simp only [GV.agg]
        go_upto_region 16 with fail
        obtain ⟨wj, hwj⟩ : ∃ u, u = wi.alloc (.cells #[.int .i64 Pv.k, .bool Pv.b, .int .i64 Pv.n, .string Pv.t, .slice ai Pv.l.length ci] 35) := ⟨_, rfl⟩
        have hbj : Below wh.heap.size wh wj := by rw [hwj]; exact hbi.alloc hbi.size _
        have HVj : Hid (wj.heap[wi.heap.size]? = some (.cells #[.int .i64 Pv.k, .bool Pv.b, .int .i64 Pv.n, .string Pv.t, .slice ai Pv.l.length ci] 35 (0, 0))) := by rw [Hid, hwj]; exact heap_last
        rw [← hwj]
        clear hwj hbi
        have HBj : Hid (Below wa.heap.size wa wj) := below_down HBwh.out hbj (Nat.le_refl _)
        have HXj := Lib.hid ((HBj.out.block _ la).trans HXA.out)
        have HSj := Lib.hid (isL_below HSXA.out HBj.out hBa)
        have HSAj := Lib.hid (isX_below HSAXA.out HBj.out hBa)
        have hBj : B ≤ wj.heap.size := Nat.le_trans hBa HBj.out.size
        have lj : wr.heap.size < wj.heap.size := Nat.lt_of_lt_of_le la HBj.out.size
        have qj := fun o => cell_of HXj.out o
        clear hbj qwh
        have HKj : Hid (Below w3.heap.size w3 wj) := below_down HBE.out (below_down HBA.out HBj.out (Nat.le_refl _)) (Nat.le_refl _)
        go_cut [11, 13] (fun s11 s13 wx => ∃ (p : Nat), s13 = .pointer (some ⟨p, 0, none⟩) ∧ s11 = .int .i64 Qe ∧ Hid (BoxV wj wx p Qv))
        case first =>
          go_region_law (first
            | (go_simp
               go_at_call 15
               refine (boolean_any true _).mono ?_
               rintro e w2 ⟨rfl, hb2⟩
               first
                 | (have hbw : Below wj.heap.size wj w2 := (Below.refl _ wj).drew.trans hb2
                    have HB2 := Lib.hid hbw
                    clear hbw)
                 | (have hbw : Below wj.heap.size wj w2 := ((Below.refl _ wj).alloc (Nat.le_refl _) _).drew.trans (hb2.mono (by simp))
                    have HB2 := Lib.hid hbw
                    have hz2 := (hb2.block wj.heap.size (by simp)).trans (heap_last (w := wj) (o := (.cells #[.int .i64 0, .bool false, .int .i64 0, .string { data := #[] }, .slice none 0 0] 35)))
                    have HZ := Lib.hid hz2
                    clear hbw hz2)
               have q2 := fun o => cell_of ((HB2.out.block _ lj).trans HXj.out) o
               have hw2 := HB2.out.size
               have l2 : wr.heap.size < w2.heap.size := Nat.lt_of_lt_of_le lj hw2
               clear hb2)
            | (go_simp
               go_at_call 10
               refine (two_raw 8 x (litE (booV true)) (.slice ax x.v.l.length cx) (.slice aax x.args.length cax) (.slice none 0 0) (.slice none 0 0) _ B (Nat.le_trans hBj (by first | exact hw2 | exact Nat.le_trans hw2 (by simp))) (isL_below HSj.out (by first | exact HB2.out | exact HB2.out.alloc hw2 _) hBj) (isX_below HSAj.out (by first | exact HB2.out | exact HB2.out.alloc hw2 _) hBj) (isL_nil _ _) (isX_nil5 _ _)).mono ?_
               rintro e wt ⟨g, rfl, hg3, hp3, hb3⟩
               have HP3 := Lib.hid hp3
               first
                 | (have hbw : Below wj.heap.size wj wt := below_down HB2.out hb3 (Nat.le_refl _)
                    have HB3 := Lib.hid hbw
                    have HG3 : Hid (wj.heap.size ≤ g) := Nat.le_trans hw2 hg3
                    first
                      | (have hz3 := (hb3.block wj.heap.size (Array.getElem?_eq_some_iff.1 HZ.out).1).trans HZ.out
                         have HPG : Hid (wj.heap.size ≠ g) := Nat.ne_of_lt (Nat.lt_of_lt_of_le (Array.getElem?_eq_some_iff.1 HZ.out).1 hg3)
                         have HZP : Hid (wj.heap.size ≤ wj.heap.size) := Nat.le_refl _
                         have HZ3 := Lib.hid hz3
                         have qz := fun o => cell_of hz3 o
                         have fz := fun o => frozen_of hz3 o
                         have lz : wj.heap.size < wt.heap.size := (Array.getElem?_eq_some_iff.1 hz3).1
                         clear hz3)
                      | skip
                    clear hbw)
                 | (have hbw : Below wj.heap.size wj wt := below_down (HB2.out.alloc hw2 _) hb3 (Nat.le_refl _)
                    have HB3 := Lib.hid hbw
                    have hz3 := (hb3.block w2.heap.size (by simp)).trans (heap_last (w := w2) (o := (.cells #[.int .i64 0, .bool false, .int .i64 0, .string { data := #[] }, .slice none 0 0] 35)))
                    have HZ3 := Lib.hid hz3
                    have qz := fun o => cell_of hz3 o
                    have fz := fun o => frozen_of hz3 o
                    have lz : w2.heap.size < wt.heap.size := (Array.getElem?_eq_some_iff.1 hz3).1
                    have HG3 : Hid (wj.heap.size ≤ g) := Nat.le_trans hw2 (Nat.le_trans (by simp) hg3)
                    have HPG : Hid (w2.heap.size ≠ g) := Nat.ne_of_lt (Nat.lt_of_lt_of_le (by simp) hg3)
                    have HZP : Hid (wj.heap.size ≤ w2.heap.size) := hw2
                    clear hbw hz3)
               have hw3 := HB3.out.size
               clear hg3 hp3 hb3
               have HKT : Hid (Below w3.heap.size w3 wt) := below_down HKj.out HB3.out (Nat.le_refl _)
               have HTX := Lib.hid (pair_up HB3.out HP3.out hBj HSj.out HSAj.out (isL_nil _ _) (isX_nil5 _ _))
               simp only [GE.agg, twoE, litE, booV, noV, emp_eq])
            | (go_simp
               go_at_call 9
               refine (veval_any (envP W) (envP_fit fW) (.agg #[.pointer (some ⟨be, 0, none⟩)]) w3.heap.size (twoE 8 x (litE (booV true))) (two_fit 8 _ _ (by omega) HFX.out (lit_fit (booV_fit _))) 1048576 (.slice none 0 0) (.slice (some ⟨g, 0, none⟩) 2 2) _ wt.heap.size (by first | exact Nat.le_refl _ | simp) (by first | exact HKT.out.size | exact Nat.le_trans HKT.out.size (by simp)) (isL_nil _ _) (by first | exact HTX.out | exact isX_below HTX.out ((Below.refl _ _).alloc (Nat.le_refl _) _) (Nat.le_refl _)) (by first | exact HE3.out.keep HKT.out | exact HE3.out.keep (HKT.out.alloc HKT.out.size _))).mono ?_
               rw [HQ.out]
               rintro e wv ⟨av, cv, rfl, _, hbv⟩
               first | clear qz fz lz | skip
               first
                 | (have hbw : Below wj.heap.size wj wv := below_down HB3.out hbv (Nat.le_refl _)
                    have HBV := Lib.hid hbw
                    first
                      | (have hz4 := (hbv.block _ (Array.getElem?_eq_some_iff.1 HZ3.out).1).trans HZ3.out
                         have HZ4 := Lib.hid hz4
                         have qz := fun o => cell_of hz4 o
                         have fz := fun o => frozen_of hz4 o
                         have lz := (Array.getElem?_eq_some_iff.1 hz4).1
                         clear hz4)
                      | skip
                    clear hbw)
                 | (have hbw : Below wj.heap.size wj wv := below_down (HB3.out.alloc hw3 _) hbv (Nat.le_refl _)
                    have HBV := Lib.hid hbw
                    have hz4 := (hbv.block wt.heap.size (by simp)).trans (heap_last (w := wt) (o := (.cells #[.int .i64 0, .bool false, .int .i64 0, .string { data := #[] }, .slice none 0 0] 35)))
                    have HZ4 := Lib.hid hz4
                    have qz := fun o => cell_of hz4 o
                    have fz := fun o => frozen_of hz4 o
                    have lz := (Array.getElem?_eq_some_iff.1 hz4).1
                    have HZP : Hid (wj.heap.size ≤ wt.heap.size) := hw3
                    clear hbw hz4)
               clear hbv
               simp only [GV.agg])
            | skip)
          all_goals
            go_wp2_with fail
            go_meet
            refine ⟨_, rfl, rfl, Lib.hid ?_⟩
            with_reducible first
              | exact boxV_alloc HBV.out
              | exact boxV_store HBV.out HZP.out HZ4.out
        case rest =>
          obtain ⟨p13, rfl, rfl, HBXk⟩ := hcut
          obtain ⟨wk, hren⟩ : ∃ u, u = wc := ⟨_, rfl⟩
          subst hren
          have HBk : Hid (Below wa.heap.size wa wk) := below_down HBj.out HBXk.out.1 (Nat.le_refl _)
          have HXk := Lib.hid ((HBk.out.block _ la).trans HXA.out)
          have HSk := Lib.hid (isL_below HSXA.out HBk.out hBa)
          have HSAk := Lib.hid (isX_below HSAXA.out HBk.out hBa)
          have hBk : B ≤ wk.heap.size := Nat.le_trans hBa HBk.out.size
          have lk : wr.heap.size < wk.heap.size := Nat.lt_of_lt_of_le la HBk.out.size
          have qk := fun o => cell_of HXk.out o
          obtain ⟨sk, hk13⟩ := HBXk.out.2.2
          have HV13 := Lib.hid hk13
          have HV12 := Lib.hid ((HBXk.out.1.block _ (Array.getElem?_eq_some_iff.1 HVj.out).1).trans HVj.out)
          have q13 := fun o => cell_of HV13.out o
          have q12 := fun o => cell_of HV12.out o
          clear hk13 qj
          by_cases he : Pe = 0
          · subst he
            by_cases hk1 : Pv.k = 1
            · obtain ⟨rfl, hb1⟩ := HT.out.2.2 rfl hk1
              rw [hb1] at q13
              clear hb1
              have HRk := Lib.hid (below_down HBA.out HBk.out (Nat.le_refl _))
              go_wp2_with fail
              go_roundw
              case rel => exact ⟨k + 1, by omega, by omega, by go_num, below_down HB.out HRk.out (Nat.le_refl _), below_down HBE.out HRk.out (Nat.le_refl _), (HRk.out.block _ hz).trans hbox.out⟩
              case measure => simp [intOf]; omega
            · obtain rfl := HT.out.2.1 rfl hk1
              have hk2 : (Pv.k != 1) = true := by simpa using hk1
              have HRk := Lib.hid (below_down HBA.out HBk.out (Nat.le_refl _))
              go_wp2_with fail
              go_roundw
              case rel => exact ⟨k + 1, by omega, by omega, by go_num, below_down HB.out HRk.out (Nat.le_refl _), below_down HBE.out HRk.out (Nat.le_refl _), (HRk.out.block _ hz).trans hbox.out⟩
              case measure => simp [intOf]; omega
          · obtain rfl := HT.out.1 he
            have he2 : (Qe != 0) = true := by simpa using he
            have HRk := Lib.hid (below_down HBA.out HBk.out (Nat.le_refl _))
            go_wp2_with fail
            go_roundw
            case rel => exact ⟨k + 1, by omega, by omega, by go_num, below_down HB.out HRk.out (Nat.le_refl _), below_down HBE.out HRk.out (Nat.le_refl _), (HRk.out.block _ hz).trans hbox.out⟩
            case measure => simp [intOf]; omega
end Go.Proofs.Ytljljhjdlicfeaa
