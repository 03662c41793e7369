/-
  proctorref10.no, Run: what RunP tells of code whose jumps stand behind truths. Conditions: fewer than 2^30 instructions.
-/
import Derived.Test.YtljljhjdlicfeaaGreatCheckR
import Derived.Test.YtljljhjdlicfeaaGreatPAB
import Derived.Test.YtljljhjdlicfeaaGreatMW
import Derived.Test.YtljljhjdlicfeaaGreatNI
import Derived.Test.YtljljhjdlicfeaaGreatPAC
import Derived.Test.YtljljhjdlicfeaaGreatStk
import Derived.Test.YtljljhjdlicfeaaGreatPAJ
import Derived.Deep.DeepCutAuto
import Derived.Deep.CutBlock
namespace Go.Proofs.YtljljhjdlicfeaaGreat
open Go Go.RowKit
set_option maxRecDepth 100000
set_option linter.unusedVariables false
theorem noR_any (n e : Int) (w : World) : Calls Tryz.prog 29 #[.int .i64 n, .int .i64 e] w fun e' w' => e' = .returned (.tuple #[nullG.agg (.slice none 0 0), .int .i64 n, .int .i64 e]) ∧ Below w.heap.size w w' := by
  simp only [GV.agg, nullG]
  go_enter Tryz.func29, Tryz.ntmps29
  go_wp2_with fail
  refine bodyPost_ret (v := .tuple #[.agg #[.int .i64 0, .bool false, .int .i64 0, .string { data := #[] }, .slice none 0 0], .int .i64 n, .int .i64 e]) (by simp [results, Tryz.results29, go_sem]) rfl ⟨rfl, (Below.refl _ _).alloc (Nat.le_refl _) _⟩
def RunR (w : World) (lo0 : Nat) (r : GV × Int × Int) (e : Ending) (w' : World) : Prop := ∃ a c, e = .returned (.tuple #[r.1.agg (.slice a r.1.l.length c), .int .i64 r.2.1, .int .i64 r.2.2]) ∧ isZ w' (lo0, w.heap.size) w'.heap.size (.slice a r.1.l.length c) r.1.l ∧ Below w.heap.size w w' ∧ r.1.fit
def runZ (r : GV × Nat × Int) : GV × Int × Int := (r.1, (r.2.1 : Int), r.2.2)
set_option maxHeartbeats 25600000 in
theorem rrun_any (W : WV) (fW : W.fit) (fv : ∀ f ∈ W.facts, f.vals.length ≤ 2147483647) (l : List GI) (hll : l.length ≤ 1073741824) (fl : fitI l) (hJ : checkC l = true → JC l 0) (fuel : Int) (be Be : Nat) (s : Value) (w : World) (B Br lo0 : Nat) (hB : B ≤ w.heap.size) (hBe : Be ≤ w.heap.size) (hBr : B ≤ Br) (hBrw : Br ≤ w.heap.size) (hl0 : B ≤ lo0) (hl1 : Be ≤ lo0) (hl2 : lo0 ≤ w.heap.size) (hs : isI2 w Br B s l) (hE : isEnv w be Be W) :
    Calls Tryz.prog 18 #[s, .pointer (some ⟨be, 0, none⟩), .int .i64 fuel] w (RunR w lo0 (runZ (RunP (envP W) l fuel))) := by
  have HS := Lib.hid (isI2_I hs hBr)
  have HE := Lib.hid hE
  have HFL := Lib.hid fl
  have HJC := Lib.hid hJ
  obtain ⟨a, c, b, off, rfl, hc, ha, hA⟩ := hs
  have HA := Lib.hid hA
  have Ha := Lib.hid ha
  clear hA ha hE fl hJ
  obtain ⟨Q, hQ⟩ : ∃ Q, Q = runZ (RunP (envP W) l fuel) := ⟨_, rfl⟩
  rw [← hQ]
  have HQ := Lib.hid hQ
  clear hQ
  go_enter Tryz.func18, Tryz.ntmps18
  go_upto_region 1 with fail
  obtain ⟨w0, hw0⟩ : ∃ u, u = w.alloc (.cells #[.int .i64 0, .bool false, .int .i64 0, .string { data := #[] }, .slice none 0 0] 36) := ⟨_, rfl⟩
  have hb0 : Below w.heap.size w w0 := by rw [hw0]; exact (Below.refl _ _).alloc (Nat.le_refl _) _
  have HZ0 : Hid (w0.heap[w.heap.size]? = some (.cells #[.int .i64 0, .bool false, .int .i64 0, .string { data := #[] }, .slice none 0 0] 36 (0, 0))) := by rw [Hid, hw0]; exact heap_last
  have hz0 : w0.heap.size = w.heap.size + 1 := by rw [hw0]; simp
  rw [← hw0]
  clear hw0
  have HB0 := Lib.hid hb0
  have HS0 := Lib.hid hz0
  clear hb0 hz0
  go_wp2_with fail
  refine (checkR_any l (by omega) HFL.out (.slice a l.length c) w0 Br (Nat.le_trans hBrw HB0.out.size) (isI_below HS.out HB0.out hBrw)).mono ?_
  rintro e w1 ⟨rfl, hb1⟩
  have HB1 := Lib.hid (below_down HB0.out hb1 (Nat.le_refl _))
  have HZB := Lib.hid ((hb1.block w.heap.size (by have := HS0.out; omega)).trans HZ0.out)
  have lZ : w.heap.size < w1.heap.size := (Array.getElem?_eq_some_iff.1 HZB.out).1
  clear hb1 HZ0
  by_cases hck : checkC l = true
  rotate_left
  · have hck2 : checkC l = false := by simpa using hck
    rw [hck2]
    have HR : Hid (Q = (nullG, 0, 1)) := by rw [Hid, HQ.out, RunP, if_neg (fun h => hck h.1)]; rfl
    clear hck hck2
    go_wp2_with fail
    refine (noR_any 0 1 w1).mono ?_
    rintro e9 w9 ⟨rfl, hb9⟩
    have HB9 := Lib.hid (below_down HB1.out hb9 (Nat.le_refl _))
    have hz9 := (hb9.block w.heap.size lZ).trans HZB.out
    have q9 := fun o => cell_of hz9 o
    have f9 := fun o => frozen_of hz9 o
    have l9 : w.heap.size < w9.heap.size := Nat.lt_of_lt_of_le lZ hb9.size
    clear hb9 hz9
    simp only [GV.agg, nullG]
    go_wp2_with fail
    refine bodyPost_ret (v := .tuple #[.agg #[.int .i64 0, .bool false, .int .i64 0, .string { data := #[] }, .slice none 0 0], .int .i64 0, .int .i64 1]) (by simp [results, Tryz.results18, go_sem, q9]) rfl ?_
    rw [HR.out]
    exact ⟨none, 0, rfl, isZ_nil _ _, set5B HB9.out (Nat.le_refl _) _ _ _ _ _, nullG_fit⟩
  rw [hck]
  by_cases hf1 : fuel < 1
  · have HR : Hid (Q = (nullG, 0, 1)) := by rw [Hid, HQ.out, RunP, if_neg (fun h => by have := h.2.1; omega)]; rfl
    go_wp2_with fail
    refine (noR_any 0 1 w1).mono ?_
    rintro e9 w9 ⟨rfl, hb9⟩
    have HB9 := Lib.hid (below_down HB1.out hb9 (Nat.le_refl _))
    have hz9 := (hb9.block w.heap.size lZ).trans HZB.out
    have q9 := fun o => cell_of hz9 o
    have f9 := fun o => frozen_of hz9 o
    have l9 : w.heap.size < w9.heap.size := Nat.lt_of_lt_of_le lZ hb9.size
    clear hb9 hz9
    simp only [GV.agg, nullG]
    go_wp2_with fail
    refine bodyPost_ret (v := .tuple #[.agg #[.int .i64 0, .bool false, .int .i64 0, .string { data := #[] }, .slice none 0 0], .int .i64 0, .int .i64 1]) (by simp [results, Tryz.results18, go_sem, q9]) rfl ?_
    rw [HR.out]
    exact ⟨none, 0, rfl, isZ_nil _ _, set5B HB9.out (Nat.le_refl _) _ _ _ _ _, nullG_fit⟩
  by_cases hf2 : 1048576 < fuel
  · have HR : Hid (Q = (nullG, 0, 1)) := by rw [Hid, HQ.out, RunP, if_neg (fun h => by have := h.2.2; omega)]; rfl
    go_wp2_with fail
    refine (noR_any 0 1 w1).mono ?_
    rintro e9 w9 ⟨rfl, hb9⟩
    have HB9 := Lib.hid (below_down HB1.out hb9 (Nat.le_refl _))
    have hz9 := (hb9.block w.heap.size lZ).trans HZB.out
    have q9 := fun o => cell_of hz9 o
    have f9 := fun o => frozen_of hz9 o
    have l9 : w.heap.size < w9.heap.size := Nat.lt_of_lt_of_le lZ hb9.size
    clear hb9 hz9
    simp only [GV.agg, nullG]
    go_wp2_with fail
    refine bodyPost_ret (v := .tuple #[.agg #[.int .i64 0, .bool false, .int .i64 0, .string { data := #[] }, .slice none 0 0], .int .i64 0, .int .i64 1]) (by simp [results, Tryz.results18, go_sem, q9]) rfl ?_
    rw [HR.out]
    exact ⟨none, 0, rfl, isZ_nil _ _, set5B HB9.out (Nat.le_refl _) _ _ _ _ _, nullG_fit⟩
  obtain ⟨H, hH, hH0, hH1⟩ := hts_of hck
  have HH1 := Lib.hid hH1
  have HH := Lib.hid hH
  have HLE := Lib.hid (hts_le hH hH0)
  have HJ := Lib.hid (HJC.out hck)
  obtain ⟨R, hR⟩ : ∃ R, R = runP (envP W) l fuel l.length 0 [] 0 := ⟨_, rfl⟩
  have HR0 : Hid (runP (envP W) l fuel l.length 0 [] 0 = R) := hR.symm
  have HQR : Hid (Q = runZ (endP R)) := by rw [Hid, HQ.out, RunP, if_pos ⟨hck, by omega, by omega⟩, hR]
  have HH0 : Hid ((([] : List GV).length : Int) = H 0) := by rw [Hid, hH0]; rfl
  clear hH1 hH hH0 hR hck HQ HJC
  go_wp2_with fail
  go_loopw [9, 10, 11] (fun v0 n' i wr => ∃ (k n g : Nat) (st : List GV) (v : Value), v = v0 ∧ n' = .int .i64 n ∧ i = .int .i64 k ∧ Hid (k ≤ l.length) ∧ Hid (l.length ≤ k + g) ∧ Hid (n ≤ k) ∧ Hid (runP (envP W) l fuel g k st n = R) ∧ Hid ((st.length : Int) = H k) ∧ Hid (fitL st) ∧ Hid (badL st = false) ∧ Hid (JokP l k st) ∧ Hid (StkR wr (w.heap.size + 1) (lo0, w.heap.size) v st) ∧ Hid (Below w.heap.size w wr) ∧ Hid (wr.heap[w.heap.size]? = some (.cells #[.int .i64 0, .bool false, .int .i64 0, .string { data := #[] }, .slice none 0 0] 36 (0, 0)))) (fun _ _ i _ => l.length - (intOf i).toNat)
  case atStart => exact ⟨0, 0, l.length, [], _, rfl, rfl, rfl, Lib.hid (Nat.zero_le _), Lib.hid (Nat.le_add_left _ _), Lib.hid (Nat.le_refl _), HR0, HH0, Lib.hid trivial, Lib.hid rfl, Lib.hid (jok_zero HJ.out), Lib.hid (stk_nil _ _ _), HB1, HZB⟩
  case round =>
    clear HZB
    obtain ⟨k, n, g, st, v, rfl, rfl, rfl, HK, HG, HN, HR, HST, HFS, HBD, HJO, HSK, HB, HZB⟩ := hrel
    have lZr : w.heap.size < wr.heap.size := (Array.getElem?_eq_some_iff.1 HZB.out).1
    by_cases hlt : k < l.length
    rotate_left
    · have hk : k = l.length := by have := HK.out; omega
      have hrr : R = (.go st, n) := by
        rw [← HR.out]
        cases g with
        | zero => rfl
        | succ g => rw [runP, List.getElem?_eq_none (by omega)]
      have hst1 : st.length = 1 := by have h1 := HST.out; have h2 := HH1.out; rw [hk, h2] at h1; omega
      match st, hst1, hrr with
      | [y], _, hrr =>
        have HRQ : Hid (Q = (y, (n : Int), 0)) := by rw [Hid, HQR.out, hrr]; rfl
        rcases stk_form HSK.out with ⟨_, h0⟩ | ⟨gs, cap, rfl, hgb, hgl, hcap⟩
        · cases h0
        obtain ⟨ay, cy, y0, y1, y2, y3, y4, hsy⟩ := stk_one HSK.out
        have HSY := Lib.hid hsy
        have qz := fun o => cell_of HZB.out o
        have fz := fun o => frozen_of HZB.out o
        have hd : decide (k < l.length) = false := by simp; omega
        have hne : gs ≠ w.heap.size := by omega
        simp only [List.length_singleton] at hcap
        have hcap2 : (1 : Int) ≤ (cap : Int) := by omega
        clear hsy hrr HSK
        simp only [List.length_singleton]
        go_wp2_with fail
        refine bodyPost_ret (v := .tuple #[.agg #[.int .i64 y.k, .bool y.b, .int .i64 y.n, .string y.t, .slice ay y.l.length cy], .int .i64 n, .int .i64 0]) (by simp [results, Tryz.results18, go_sem, qz]) rfl ?_
        rw [HRQ.out]
        exact ⟨ay, cy, rfl, isZ_wide (isZ_keep HSY.out (fun b _ hb => five_heap (outH_ne hb hl2) ..)) (Nat.le_of_eq (by simp [World.setCell])), set5B HB.out (Nat.le_refl _) _ _ _ _ _, HFS.out.1⟩
    skip
    obtain ⟨g', hg'⟩ : ∃ g', g = g' + 1 := ⟨g - 1, by have := HG.out; omega⟩
    have hkz : (k : Int) < (l.length : Int) := by omega
    have HLT := Lib.hid hlt
    obtain ⟨x, hx⟩ : ∃ x, x = l[k] := ⟨_, rfl⟩
    have HXL := Lib.hid hx
    have HXS : Hid (l[k]? = some x) := by
      show l[k]? = some x
      exact (List.getElem?_eq_getElem hlt).trans (congrArg some (show l[k]'hlt = x from hx.symm))
    have hstep : R = if (n : Int) < fuel then
        (if x.op = 7 ∨ x.op = 8 then
          (if (topG st).b = decide (x.op = 8) then runP (envP W) l fuel g' x.arg.toNat st (n + 1) else runP (envP W) l fuel g' (k + 1) (lessN 1 st) (n + 1))
         else match doP (envP W) x st with
          | .go st' => runP (envP W) l fuel g' (k + 1) st' (n + 1)
          | .stop e => (.stop e, n + 1))
      else (.stop 6, n) := by
      rw [← HR.out, hg', runP, List.getElem?_eq_getElem hlt]
      dsimp only
      rw [← (show x = l[k]'hlt from hx)]
      rfl
    have HSTEP := Lib.hid hstep
    have HGG := Lib.hid hg'
    clear hstep hx hg' HR
    by_cases hf : fuel ≤ (n : Int)
    · have HRQ : Hid (Q = (nullG, (n : Int), 6)) := by rw [Hid, HQR.out, HSTEP.out, if_neg (by omega)]; rfl
      go_wp2_with fail
      refine (noR_any n 6 wr).mono ?_
      rintro e9 w9 ⟨rfl, hb9⟩
      have HB9 := Lib.hid (below_down HB.out hb9 (Nat.le_refl _))
      have hz9 := (hb9.block w.heap.size lZr).trans HZB.out
      have q9 := fun o => cell_of hz9 o
      have f9 := fun o => frozen_of hz9 o
      have l9 : w.heap.size < w9.heap.size := Nat.lt_of_lt_of_le lZr hb9.size
      clear hb9 hz9
      simp only [GV.agg, nullG]
      go_wp2_with fail
      refine bodyPost_ret (v := .tuple #[.agg #[.int .i64 0, .bool false, .int .i64 0, .string { data := #[] }, .slice none 0 0], .int .i64 n, .int .i64 6]) (by simp [results, Tryz.results18, go_sem, q9]) rfl ?_
      rw [HRQ.out]
      exact ⟨none, 0, rfl, isZ_nil _ _, set5B HB9.out (Nat.le_refl _) _ _ _ _ _, nullG_fit⟩
    have HF : Hid ((n : Int) < fuel) := by rw [Hid]; omega
    have hnw : IntKind.i64.wrap ((n : Int) + 1) = (n : Int) + 1 := by have := HN.out; have := HK.out; exact IntWalk.i64_in _ (by omega)
    obtain ⟨rfl, hbb⟩ := Ha.out (by omega)
    obtain ⟨av, cv, a0, a1, a2, a3, a4, a5, a6, a7, hvs⟩ := HA.out k hlt
    rw [← (show x = l[k]'HLT.out from HXL.out)] at a0 a1 a2 a3 a4 a5 a6 a7 hvs
    obtain ⟨hok, hoff, hnx, hjp⟩ := HH.out k hlt
    rw [← (show x = l[k]'HLT.out from HXL.out)] at hok hoff hnx hjp
    have HNX := Lib.hid hnx
    have HJP := Lib.hid hjp
    have HOK := Lib.hid hok
    obtain ⟨t, ht⟩ : ∃ t : Nat, offOf x = t := ⟨(offOf x).toNat, by have := okOf_off hok; omega⟩
    have HT := Lib.hid ht
    have htl : t ≤ st.length := by have h1 := HST.out; rw [ht] at hoff; omega
    have hfx := HFL.out x (by rw [HXL.out]; exact List.getElem_mem _)
    have HFX := Lib.hid hfx
    have HSTL : Hid (st.length ≤ k) := by rw [Hid]; have h1 := (HLE.out k HK.out).2; have h2 := HST.out; omega
    have hBw : Below Br w wr := HB.out.mono hBrw
    have HVS := Lib.hid (isL_below hvs hBw hBr)
    have hgr : ∀ o, wr.cell? ⟨b, o, none⟩ = w.cell? ⟨b, o, none⟩ := fun o => hBw.cell (p := ⟨b, o, none⟩) hbb
    have lb : b < wr.heap.size := by have := HB.out.size; omega
    clear hok hoff hnx hjp hfx hvs hBw ht
    skip
    go_upto_region 12 with fail
    obtain ⟨w2, hw2⟩ : ∃ u, u = wr.alloc (.cells #[.int .i64 x.op, .int .i64 x.arg, .string x.s, .int .i64 x.v.k, .bool x.v.b, .int .i64 x.v.n, .string x.v.t, .slice av x.v.l.length cv] 86) := ⟨_, rfl⟩
    have hb2 : Below wr.heap.size wr w2 := by rw [hw2]; exact (Below.refl _ _).alloc (Nat.le_refl _) _
    have HX2 : Hid (w2.heap[wr.heap.size]? = some (.cells #[.int .i64 x.op, .int .i64 x.arg, .string x.s, .int .i64 x.v.k, .bool x.v.b, .int .i64 x.v.n, .string x.v.t, .slice av x.v.l.length cv] 86 (0, 0))) := by rw [Hid, hw2]; exact heap_last
    rw [← hw2]
    obtain ⟨p12, hp12⟩ : ∃ u, u = wr.heap.size := ⟨_, rfl⟩
    rw [← hp12] at HX2 ⊢
    have q2 := fun o => cell_of HX2.out o
    have l2 : p12 < w2.heap.size := (Array.getElem?_eq_some_iff.1 HX2.out).1
    have HV2 := Lib.hid (isL_below HVS.out hb2 (by have := HB.out.size; omega))
    have HSK2 := Lib.hid (stk_keep HSK.out hb2)
    have HGV : Hid (∀ g, v.ownBlock = some g → g < p12) := fun g hg => by have := stk_lt HSK.out g hg; omega
    have HB2 := Lib.hid (below_down HB.out hb2 (Nat.le_refl _))
    have HB2R := Lib.hid hb2
    have hB2 : B ≤ w2.heap.size := Nat.le_trans hB HB2.out.size
    have hzp : w.heap.size < p12 := by omega
    clear hw2 hb2 a0 a1 a2 a3 a4 a5 a6 a7 hgr hp12 HVS HSK
    go_wp2_with fail
    refine (takesR_any x HFX.out.1 HFX.out.2 (.slice av x.v.l.length cv) w2 B hB2 HV2.out).mono ?_
    rw [takesR, if_pos HOK.out, HT.out]
    rintro e w3 ⟨rfl, hb3⟩
    have HX3 := Lib.hid ((hb3.block _ l2).trans HX2.out)
    have HV3 := Lib.hid (isL_below HV2.out hb3 hB2)
    have HSK3 := Lib.hid (stk_keep HSK2.out hb3)
    have HB3 := Lib.hid (below_down HB2.out hb3 (Nat.le_refl _))
    have l3 : p12 < w3.heap.size := Nat.lt_of_lt_of_le l2 hb3.size
    have HZ3 := Lib.hid (((HB2R.out.trans (hb3.mono HB2R.out.size)).block w.heap.size lZr).trans HZB.out)
    clear hb3 q2 l2 HX2 HV2 HSK2
    obtain ⟨m, hm⟩ : ∃ m, m + t = st.length := ⟨st.length - t, by omega⟩
    have HM := Lib.hid hm
    have hlst : st.length ≤ 1073741824 := by have := HSTL.out; omega
    have hmt : st.length - t = m := by omega
    have e1 : wrap64 ((st.length : Int) - (t : Int)) = (m : Int) := by unfold wrap64; omega
    have e2 : IntKind.i64.wrap ((st.length : Int) - (t : Int)) = (m : Int) := by rw [IntWalk.i64_left]; exact e1
    have e3 : (m : Int) ≤ (st.length : Int) := by omega
    have e4 : m ≤ st.length := by omega
    have e7 : st.length - m = t := by omega
    clear hm hmt
    skip
    go_upto_region 13 with fail
    go_cut [14] (fun s14 wx => ∃ a c, s14 = .slice a t c ∧ Hid (isR wx (since w3.heap.size wx) (.slice a t c) (lastN t st)) ∧ Hid (Below w3.heap.size w3 wx))
    case first =>
      as_aux_lemma =>
        rcases stk_form HSK3.out with ⟨rfl, rfl⟩ | ⟨gs, cap, rfl, hgb, hgl, hcap⟩
        · have ht0 : t = 0 := by have := HM.out; simp at this; omega
          have hm0 : m = 0 := by have := HM.out; simp at this; omega
          subst ht0 hm0
          clear e1 e2 e3 e4 e7
          go_wp2_with fail
          refine (zCopyVals_any [] (by simp) trivial (.slice none 0 0) w3 0 (Nat.zero_le _) (isL_nil _ _)).mono ?_
          rintro e w4 ⟨a4, c4, rfl, hr4, hb4⟩
          have HR4 := Lib.hid hr4
          have HB4 := Lib.hid hb4
          clear hr4 hb4
          go_wp2_with fail
          go_meet
          exact ⟨a4, c4, rfl, HR4, HB4⟩
        · have HLL := Lib.hid (stk_last HSK3.out HM.out hgl hcap)
          have e5 : (m : Int) ≤ (cap : Int) := by omega
          have e6 : m ≤ cap := by omega
          have hcz : cap - m = 0 ∨ ¬ cap - m = 0 := by omega
          have HCAP := Lib.hid hcap
          have flast : fitL (lastN t st) := fitL_subs HFS.out (fun y hy => List.mem_of_mem_drop hy)
          have HFLA := Lib.hid flast
          clear flast hcap
          rcases hcz with hcz | hcz
          · have ht0 : t = 0 := by have := HM.out; have := HCAP.out; omega
            have hm0 : m = st.length := by have := HM.out; omega
            have HL0 : Hid (lastN t st = []) := by rw [Hid]; exact List.eq_nil_of_length_eq_zero (by rw [lastN_len htl, ht0])
            clear HLL HFLA e1 e2 e3 e4 e6 e7
            subst ht0
            subst hm0
            have e8 : IntKind.i64.wrap (st.length : Int) = (st.length : Int) := IntWalk.i64_in _ (by omega)
            have e9 : st.length ≤ cap := by omega
            go_wp2_with fail
            refine (zCopyVals_any [] (by simp) trivial (.slice (some ⟨gs, 0, none⟩) 0 0) w3 0 (Nat.zero_le _) (isL_nil _ _)).mono ?_
            rintro e w4 ⟨a4, c4, rfl, hr4, hb4⟩
            have HR4 := Lib.hid hr4
            have HB4 := Lib.hid hb4
            clear hr4 hb4
            go_wp2_with fail
            go_meet
            refine ⟨a4, c4, rfl, ?_, HB4⟩
            rw [Hid, HL0.out]
            exact HR4.out
          · go_wp2_with fail
            refine (zCopyVals_any (lastN t st) (by rw [lastN_len htl]; omega) HFLA.out (.slice (some ⟨gs, m * 5, none⟩) t (cap - m)) w3 w3.heap.size (Nat.le_refl _) HLL.out).mono ?_
            rintro e w4 ⟨a4, c4, rfl, hr4, hb4⟩
            rw [lastN_len htl] at hr4 ⊢
            have HR4 := Lib.hid hr4
            have HB4 := Lib.hid hb4
            clear hr4 hb4
            go_wp2_with fail
            go_meet
            exact ⟨a4, c4, rfl, HR4, HB4⟩
    case rest =>
      skip
      obtain ⟨aA, cA, rfl, HAR4, HB34⟩ := hcut
      obtain ⟨w4, hren⟩ : ∃ u, u = wc := ⟨_, rfl⟩
      subst hren
      have HX4 := Lib.hid ((HB34.out.block _ l3).trans HX3.out)
      have HV4 := Lib.hid (isL_below HV3.out HB34.out (Nat.le_trans hB HB3.out.size))
      have HSK4 := Lib.hid (stk_keep HSK3.out HB34.out)
      have HB4 := Lib.hid (below_down HB3.out HB34.out (Nat.le_refl _))
      have l4 : p12 < w4.heap.size := Nat.lt_of_lt_of_le l3 HB34.out.size
      skip
      go_upto_region 14 with fail
      go_cut [9] (fun s9 wx => s9 = cutV v m ∧ wx = w4)
      case first =>
        rcases stk_form HSK4.out with ⟨rfl, rfl⟩ | ⟨gs, cap, rfl, hgb, hgl, hcap⟩
        · have ht0 : t = 0 := by have := HM.out; simp at this; omega
          have hm0 : m = 0 := by have := HM.out; simp at this; omega
          subst ht0 hm0
          clear e1 e2 e3 e4 e7
          go_wp2_with fail
          go_meet
          exact ⟨rfl, rfl⟩
        · have e5 : (m : Int) ≤ (cap : Int) := by omega
          have e6 : m ≤ cap := by omega
          clear hcap
          go_wp2_with fail
          go_meet
          exact ⟨rfl, rfl⟩
      case rest =>
        obtain ⟨rfl, hren⟩ := hcut
        have hren2 := hren.symm
        subst hren2
        have HSC : Hid (StkR w4 (w.heap.size + 1) (lo0, w.heap.size) (cutV v m) (lessN t st)) := by
          have h := stk_cut HSK4.out htl
          rw [show st.length - t = m from by have := HM.out; omega] at h
          exact h
        obtain ⟨vc, hvc⟩ : ∃ u, u = cutV v m := ⟨_, rfl⟩
        rw [← hvc] at HSC ⊢
        have HGC : Hid (∀ g, vc.ownBlock = some g → g < p12) := by rw [hvc, Hid, cut_own]; exact HGV.out
        clear hvc HSK4 HSK3 e1 e2 e3 e4 e7
        skip
        go_upto_region 18 with fail
        skip
        obtain ⟨w5, hw5⟩ : ∃ u, u = w4.alloc (.cells #[.int .i64 0, .bool false, .int .i64 0, .string { data := #[] }, .slice none 0 0] 36) := ⟨_, rfl⟩
        have hd5 : Below w4.heap.size w4 w5 := by rw [hw5]; exact (Below.refl _ _).alloc (Nat.le_refl _) _
        have HP5 : Hid (w5.heap[w4.heap.size]? = some (.cells #[.int .i64 0, .bool false, .int .i64 0, .string { data := #[] }, .slice none 0 0] 36 (0, 0))) := by rw [Hid, hw5]; exact heap_last
        rw [← hw5]
        obtain ⟨p16, hp16⟩ : ∃ u, u = w4.heap.size := ⟨_, rfl⟩
        rw [← hp16] at HP5 ⊢
        have HP16 := Lib.hid hp16
        have HD5 := Lib.hid hd5
        obtain ⟨op, hop⟩ : ∃ u, u = x.op := ⟨_, rfl⟩
        obtain ⟨arg, harg⟩ : ∃ u, u = x.arg := ⟨_, rfl⟩
        rw [← hop, ← harg] at HX4
        have HX5 := Lib.hid ((hd5.block _ l4).trans HX4.out)
        have HOP := Lib.hid hop
        have HARG := Lib.hid harg
        have q12 := fun o => cell_of HX5.out o
        have q16 := fun o => cell_of HP5.out o
        have f16 := fun o => frozen_of HP5.out o
        have l12 : p12 < w5.heap.size := (Array.getElem?_eq_some_iff.1 HX5.out).1
        have l16 : p16 < w5.heap.size := (Array.getElem?_eq_some_iff.1 HP5.out).1
        have n12 : p12 ≠ p16 := by omega
        have hB4 : B ≤ w4.heap.size := Nat.le_trans hB HB4.out.size
        have hBe4 : Be ≤ w4.heap.size := Nat.le_trans hBe HB4.out.size
        have HLA : Hid (isL w5 w3.heap.size w4.heap.size (.slice aA t cA) (lastN t st)) := isL_below (isR_isL HAR4.out (fun b hb => hb)) hd5 (Nat.le_refl _)
        have HEN : Hid (isEnv w5 be Be W) := isEnv_below HE.out ((HB4.out.mono hBe).trans (hd5.mono hBe4))
        have HV5 := Lib.hid (isL_below HV4.out hd5 hB4)
        have hs34 : w3.heap.size ≤ w4.heap.size := HB34.out.size
        have hs45 : w4.heap.size ≤ w5.heap.size := hd5.size
        have hz3 : w.heap.size < w3.heap.size := by omega
        have HZA : Hid (∀ b, w3.heap.size ≤ b → b < w4.heap.size → outH (lo0, w.heap.size) b ∧ b ≠ p16) := fun b h1 h2 => ⟨outH_gt (by omega), by have := HP16.out; omega⟩
        have HZB0 : Hid (∀ b, 0 ≤ b → b < B → outH (lo0, w.heap.size) b ∧ b ≠ p16) := fun b h1 h2 => ⟨outH_lt (by omega), by have := HP16.out; omega⟩
        have HZE0 : Hid (∀ b, 0 ≤ b → b < Be → outH (lo0, w.heap.size) b ∧ b ≠ p16) := fun b h1 h2 => ⟨outH_lt (by omega), by have := HP16.out; omega⟩
        have HLE5 : Hid (∀ u, w5.heap.size ≤ u → B ≤ u ∧ Be ≤ u ∧ w4.heap.size ≤ u) := fun u h => by omega
        have HLST : Hid ((lastN t st).length = t) := lastN_len htl
        have HFLA : Hid (fitL (lastN t st)) := fitL_subs HFS.out (fun y hy => List.mem_of_mem_drop hy)
        clear hp16 hop harg hw5 HAR4 hd5
        skip
        go_upto_block 2 with fail
        skip
        go_cut [15] (fun s15 wx => ∃ (out : GV) (e : Int) (s : Value), s15 = .int .i64 e ∧ Hid (StepR (envP W) x st out e) ∧ Hid out.fit ∧ Hid (Box16 w4 wx p16 (lo0, w.heap.size) out s))
        case first =>
          have hops := okOf_ops HOK.out
          rcases hops with h | h | h | h | h | h | h | h | h
          · as_aux_lemma =>
              obtain rfl : op = 0 := HOP.out.trans h
              have HSR := Lib.hid (step_push (E := envP W) (st := st) h HOK.out)
              clear h
              go_wp2_with fail
              go_meet
              exact ⟨x.v, 0, .slice av x.v.l.length cv, rfl, HSR, HFX.out.1, Lib.hid (close16 HD5.out (Nat.le_of_eq HP16.out.symm) HP5.out HV5.out HZB0.out (HLE5.out _ (Nat.le_refl _)).1)⟩
          · as_aux_lemma =>
              obtain rfl : op = 1 := HOP.out.trans h
              obtain ⟨out, bv, hv⟩ : ∃ u b, varP W x.s = (u, b) := ⟨_, _, rfl⟩
              have HSR := Lib.hid (step_var (E := envP W) (st := st) h out bv hv)
              have HVF : Hid out.fit := by
                have h2 := (envP_fit fW).1 x.s
                rw [show (envP W).var x.s = (out, bv) from hv] at h2
                exact h2
              have HV := Lib.hid hv
              clear h hv
              go_wp2_with fail
              refine (envVar_any be Be W x.s w5 HEN.out).mono ?_
              rw [HV.out]
              rintro e6 w6 ⟨ao, co, rfl, hl6, hb6⟩
              have HL6 := Lib.hid hl6
              have HB6 := Lib.hid hb6
              have HP6 := Lib.hid ((hb6.block _ l16).trans HP5.out)
              have q6 := fun o => cell_of HP6.out o
              have f6 := fun o => frozen_of HP6.out o
              have l6 : p16 < w6.heap.size := Nat.lt_of_lt_of_le l16 hb6.size
              have hs6 : w5.heap.size ≤ w6.heap.size := hb6.size
              clear hl6 hb6 q16 f16
              simp only [GV.agg]
              cases bv
              · go_wp2_with fail
                go_meet
                exact ⟨out, 5, .slice ao out.l.length co, rfl, HSR, HVF, Lib.hid (close16 (below_down HD5.out HB6.out (Nat.le_refl _)) (Nat.le_of_eq HP16.out.symm) HP6.out HL6.out HZE0.out (HLE5.out _ hs6).2.1)⟩
              · go_wp2_with fail
                go_meet
                exact ⟨out, 0, .slice ao out.l.length co, rfl, HSR, HVF, Lib.hid (close16 (below_down HD5.out HB6.out (Nat.le_refl _)) (Nat.le_of_eq HP16.out.symm) HP6.out HL6.out HZE0.out (HLE5.out _ hs6).2.1)⟩
          · as_aux_lemma =>
              obtain rfl : op = 2 := HOP.out.trans h
              obtain ⟨out, bv, hv⟩ : ∃ u b, fieldP W x.s = (u, b) := ⟨_, _, rfl⟩
              have HSR := Lib.hid (step_field (E := envP W) (st := st) h out bv hv)
              have HVF : Hid out.fit := by
                have h2 := (envP_fit fW).2.1 x.s
                rw [show (envP W).field x.s = (out, bv) from hv] at h2
                exact h2
              have HV := Lib.hid hv
              clear h hv
              go_wp2_with fail
              refine (envField_any be Be W x.s w5 HEN.out).mono ?_
              rw [HV.out]
              rintro e6 w6 ⟨ao, co, rfl, hl6, hb6⟩
              have HL6 := Lib.hid hl6
              have HB6 := Lib.hid hb6
              have HP6 := Lib.hid ((hb6.block _ l16).trans HP5.out)
              have q6 := fun o => cell_of HP6.out o
              have f6 := fun o => frozen_of HP6.out o
              have l6 : p16 < w6.heap.size := Nat.lt_of_lt_of_le l16 hb6.size
              have hs6 : w5.heap.size ≤ w6.heap.size := hb6.size
              clear hl6 hb6 q16 f16
              simp only [GV.agg]
              cases bv
              · go_wp2_with fail
                go_meet
                exact ⟨out, 11, .slice ao out.l.length co, rfl, HSR, HVF, Lib.hid (close16 (below_down HD5.out HB6.out (Nat.le_refl _)) (Nat.le_of_eq HP16.out.symm) HP6.out HL6.out HZE0.out (HLE5.out _ hs6).2.1)⟩
              · go_wp2_with fail
                go_meet
                exact ⟨out, 0, .slice ao out.l.length co, rfl, HSR, HVF, Lib.hid (close16 (below_down HD5.out HB6.out (Nat.le_refl _)) (Nat.le_of_eq HP16.out.symm) HP6.out HL6.out HZE0.out (HLE5.out _ hs6).2.1)⟩
          · as_aux_lemma =>
              obtain rfl : op = 3 := HOP.out.trans h
              have ht1 : t = 1 := by have h2 := HT.out; rw [off_eq, if_pos (by omega)] at h2; omega
              subst ht1
              have hst : 0 < st.length := by omega
              have hla := HLA.out
              rw [lastN_one hst] at hla
              obtain ⟨aA2, cA2, bA, oA, eA, hcA, haA, hA2⟩ := isL_open hla
              simp only [Value.slice.injEq] at eA
              obtain ⟨rfl, hlen1, rfl⟩ := eA
              clear hlen1
              obtain ⟨rfl, hbA1, hbA2⟩ := haA (by simp)
              obtain ⟨ax, cx, y0, y1, y2, y3, y4, hsy⟩ := cellsV_slice (hA2 0 (by simp))
              simp only [List.getElem_cons_zero] at y0 y1 y2 y3 y4 hsy
              simp only [Nat.zero_mul, Nat.add_zero] at y0 y1 y2 y3 y4
              simp only [List.length_singleton] at hcA
              have hcA2 : (1 : Int) ≤ (cA : Int) := by omega
              have HSY := Lib.hid hsy
              obtain ⟨y, hy⟩ : ∃ u, u = topG st := ⟨_, rfl⟩
              have HY := Lib.hid hy
              rw [← hy] at y0 y1 y2 y3 y4 HSY
              have nA : bA ≠ p16 := by have := HP16.out; omega
              have lA : bA < w5.heap.size := by omega
              have HFY : Hid y.fit := by rw [Hid, hy]; exact fitL_mem HFS.out _ (top_mem hst)
              have HVY : Hid (vmay y = true) := by rw [Hid, hy]; exact good_mem HBD.out _ (top_mem hst)
              clear hla hA2 haA hsy hy
              by_cases hk5 : y.k = 5
              rotate_left
              · have hstop := step_getno (E := envP W) h (st := st) (by rw [← HY.out]; exact hk5)
                have HRQ : Hid (Q = (nullG, ((n + 1 : Nat) : Int), 4)) := by rw [Hid, HQR.out, HSTEP.out, if_pos HF.out, if_neg (by omega), hstop]; rfl
                have HZ5 := Lib.hid ((HD5.out.block w.heap.size (by omega)).trans ((HB34.out.block w.heap.size hz3).trans HZ3.out))
                have lz5 : w.heap.size < w5.heap.size := by omega
                have HB5 := Lib.hid (below_down HB4.out HD5.out (Nat.le_refl _))
                clear h hstop q12
                go_wp2_with fail
                refine (noR_any ((n : Int) + 1) 4 w5).mono ?_
                rintro e9 w9 ⟨rfl, hb9⟩
                have HB9 := Lib.hid (below_down HB5.out hb9 (Nat.le_refl _))
                have hz9 := (hb9.block w.heap.size lz5).trans HZ5.out
                have q9 := fun o => cell_of hz9 o
                have f9 := fun o => frozen_of hz9 o
                have l9 : w.heap.size < w9.heap.size := Nat.lt_of_lt_of_le lz5 hb9.size
                clear hb9 hz9
                simp only [GV.agg, nullG]
                go_wp2_with fail
                refine bodyPost_ret (v := .tuple #[.agg #[.int .i64 0, .bool false, .int .i64 0, .string { data := #[] }, .slice none 0 0], .int .i64 ((n : Int) + 1), .int .i64 4]) (by simp [results, Tryz.results18, go_sem, q9]) rfl ?_
                rw [HRQ.out]
                exact ⟨none, 0, rfl, isZ_nil _ _, set5B HB9.out (Nat.le_refl _) _ _ _ _ _, nullG_fit⟩
              · obtain ⟨out, er, hv⟩ : ∃ u b, getP W y.n x.s = (u, b) := ⟨_, _, rfl⟩
                have HSR := Lib.hid (step_get (E := envP W) (st := st) h (by rw [← HY.out]; exact hk5) out er (by rw [← HY.out]; exact hv))
                have HVF : Hid out.fit := by
                  have h2 := (envP_fit fW).2.2 y.n x.s
                  rw [show (envP W).get y.n x.s = (out, er) from hv] at h2
                  exact h2
                have HV := Lib.hid hv
                rw [hk5] at y0
                clear h hv
                go_upto_region 35 with fail
                go_region_law (first
                  | (go_simp
                     go_at_call 34
                     refine (envGet_any be Be W y.n x.s _ (by first | exact HEN.out | exact isEnv_below HEN.out (Below.refl _ _).drew) fv).mono ?_
                     rw [HV.out]
                     rintro e6 w6 ⟨ao, co, rfl, hl6, hb6⟩
                     have HL6 := Lib.hid hl6
                     have hb6' : Below w5.heap.size w5 w6 := by first | exact hb6 | exact (Below.refl _ _).drew.trans hb6
                     have HB6 := Lib.hid hb6'
                     have HP6 := Lib.hid ((hb6'.block _ l16).trans HP5.out)
                     have q6 := fun o => cell_of HP6.out o
                     have f6 := fun o => frozen_of HP6.out o
                     have l6 : p16 < w6.heap.size := Nat.lt_of_lt_of_le l16 hb6'.size
                     have hs6 : w5.heap.size ≤ w6.heap.size := hb6'.size
                     clear hl6 hb6 hb6' q16 f16
                     simp only [GV.agg])
                  | skip)
                all_goals
                  go_wp2_with fail
                  go_meet
                  exact ⟨out, er, .slice ao out.l.length co, rfl, HSR, HVF, Lib.hid (close16 (below_down HD5.out HB6.out (Nat.le_refl _)) (Nat.le_of_eq HP16.out.symm) HP6.out HL6.out HZE0.out (HLE5.out _ hs6).2.1)⟩
          · as_aux_lemma =>
              obtain rfl : op = 4 := HOP.out.trans h
              have hsr := step_list (E := envP W) (st := st) h HOK.out t HT.out
              have HGF : Hid ((listG (lastN t st)).fit) := by
                simp only [Hid, listG, GV.fit]
                exact ⟨by omega, by omega, by omega, by omega, by decide, by rw [HLST.out]; omega, HFLA.out⟩
              have HBX := Lib.hid (close16 HD5.out (Nat.le_of_eq HP16.out.symm) HP5.out (out := listG (lastN t st)) HLA.out HZA.out (HLE5.out _ (Nat.le_refl _)).2.2)
              clear h
              go_upto_region 38 with fail
              obtain ⟨w6, hw6⟩ : ∃ u, u = (((((w5.setCell ⟨p16, 0, none⟩ (.int .i64 4)).setCell ⟨p16, 1, none⟩ (.bool false)).setCell ⟨p16, 2, none⟩ (.int .i64 0)).setCell ⟨p16, 3, none⟩ (.string { data := #[] })).setCell ⟨p16, 4, none⟩ (.slice aA t cA)) := ⟨_, rfl⟩
              have HBX6 : Hid (Box16 w4 w6 p16 (lo0, w.heap.size) (listG (lastN t st)) (.slice aA t cA)) := by rw [hw6]; exact HBX.out
              rw [← hw6]
              have q6 : ∀ o, w6.cell? ⟨p16, o, none⟩ = (#[.int .i64 4, .bool false, .int .i64 0, .string { data := #[] }, .slice aA t cA] : Array Value)[o]? := fun o => cell_of HBX6.out.1 o
              have l6 : p16 < w6.heap.size := (Array.getElem?_eq_some_iff.1 HBX6.out.1).1
              clear hw6 HBX q16 f16
              go_wp2_with fail
              refine (rCheck_any (listG (lastN t st)) HGF.out (.slice aA t cA) w6 w6.heap.size (Nat.le_refl _) (isZ_L HBX6.out.2.1)).mono ?_
              cases hvm : vmay (listG (lastN t st))
              · rw [hvm] at hsr
                have HSR := Lib.hid hsr
                clear hsr hvm
                rintro e7 w7 ⟨rfl, hb7⟩
                have HBX7 := Lib.hid (box16_keep HBX6.out hb7)
                clear hb7
                go_wp2_with fail
                go_meet
                exact ⟨listG (lastN t st), 2, .slice aA t cA, rfl, HSR, HGF, HBX7⟩
              · rw [hvm] at hsr
                have HSR := Lib.hid hsr
                clear hsr hvm
                rintro e7 w7 ⟨rfl, hb7⟩
                have HBX7 := Lib.hid (box16_keep HBX6.out hb7)
                clear hb7
                go_wp2_with fail
                go_meet
                exact ⟨listG (lastN t st), 0, .slice aA t cA, rfl, HSR, HGF, HBX7⟩
          · as_aux_lemma =>
              obtain rfl : op = 5 := HOP.out.trans h
              obtain ⟨out, er, hv⟩ : ∃ u b, applyP x.arg (lastN t st) = (u, b) := ⟨_, _, rfl⟩
              have HSR := Lib.hid (step_do (E := envP W) (st := st) h HOK.out t HT.out out er hv)
              have HVF : Hid out.fit := by
                have h2 := applyP_fit x.arg (lastN t st) HFLA.out
                rw [hv] at h2
                exact h2
              have HV := Lib.hid hv
              clear h hv
              go_wp2_with fail
              refine (rApply_any arg (lastN t st) (by rw [HLST.out]; omega) HFLA.out (.slice aA t cA) w5 w5.heap.size (Nat.le_refl _) (isL_wide HLA.out (Nat.zero_le _) hs45)).mono ?_
              rw [HARG.out, HV.out]
              rintro e6 w6 ⟨so, rfl, hl6, hb6⟩
              have HL6 := Lib.hid hl6
              have HB6 := Lib.hid hb6
              have HP6 := Lib.hid ((hb6.block _ l16).trans HP5.out)
              have q6 := fun o => cell_of HP6.out o
              have f6 := fun o => frozen_of HP6.out o
              have l6 : p16 < w6.heap.size := Nat.lt_of_lt_of_le l16 hb6.size
              obtain ⟨ao, co, rfl⟩ := isL_form hl6
              clear hl6 hb6 q16 f16
              simp only [GV.agg]
              go_wp2_with fail
              go_meet
              exact ⟨out, er, .slice ao out.l.length co, rfl, HSR, HVF, Lib.hid (close16 (below_down HD5.out HB6.out (Nat.le_refl _)) (Nat.le_of_eq HP16.out.symm) HP6.out HL6.out (fun b h1 h2 => ⟨outH_gt (by omega), by omega⟩) (Nat.le_refl _))⟩
          · as_aux_lemma =>
              obtain rfl : op = 6 := HOP.out.trans h
              have ht1 : t = 1 := by have h2 := HT.out; rw [off_eq, if_pos (by omega)] at h2; omega
              subst ht1
              have hst : 0 < st.length := by omega
              have hla := HLA.out
              rw [lastN_one hst] at hla
              obtain ⟨aA2, cA2, bA, oA, eA, hcA, haA, hA2⟩ := isL_open hla
              simp only [Value.slice.injEq] at eA
              obtain ⟨rfl, hlen1, rfl⟩ := eA
              clear hlen1
              obtain ⟨rfl, hbA1, hbA2⟩ := haA (by simp)
              obtain ⟨ax, cx, y0, y1, y2, y3, y4, hsy⟩ := cellsV_slice (hA2 0 (by simp))
              simp only [List.getElem_cons_zero] at y0 y1 y2 y3 y4 hsy
              simp only [Nat.zero_mul, Nat.add_zero] at y0 y1 y2 y3 y4
              simp only [List.length_singleton] at hcA
              have hcA2 : (1 : Int) ≤ (cA : Int) := by omega
              have HSY := Lib.hid hsy
              obtain ⟨y, hy⟩ : ∃ u, u = topG st := ⟨_, rfl⟩
              have HY := Lib.hid hy
              rw [← hy] at y0 y1 y2 y3 y4 HSY
              have nA : bA ≠ p16 := by have := HP16.out; omega
              have lA : bA < w5.heap.size := by omega
              have HFY : Hid y.fit := by rw [Hid, hy]; exact fitL_mem HFS.out _ (top_mem hst)
              have HVY : Hid (vmay y = true) := by rw [Hid, hy]; exact good_mem HBD.out _ (top_mem hst)
              clear hla hA2 haA hsy hy
              have hsr := step_truth (E := envP W) (st := st) h hst (by rw [← HY.out]; exact HVY.out)
              rw [← HY.out] at hsr
              clear h
              by_cases hk1 : y.k = 1
              · rw [if_pos hk1] at hsr
                have HSR := Lib.hid hsr
                have HBX := Lib.hid (close16 HD5.out (Nat.le_of_eq HP16.out.symm) HP5.out HSY.out HZA.out (HLE5.out _ (Nat.le_refl _)).2.2)
                have d1 : (y.k == 1) = true := by simp [hk1]
                have d2 : (y.k != 1) = false := by simp [hk1]
                clear hsr hk1
                go_wp2_with fail
                go_meet
                exact ⟨y, 0, .slice ax y.l.length cx, rfl, HSR, HFY, HBX⟩
              · rw [if_neg hk1] at hsr
                have HSR := Lib.hid hsr
                have HBX := Lib.hid (close16 HD5.out (Nat.le_of_eq HP16.out.symm) HP5.out HSY.out HZA.out (HLE5.out _ (Nat.le_refl _)).2.2)
                clear hsr
                go_wp2_with fail
                go_meet
                exact ⟨y, 4, .slice ax y.l.length cx, rfl, HSR, HFY, HBX⟩
          · as_aux_lemma =>
              obtain rfl : op = 7 := HOP.out.trans h
              have ht1 : t = 1 := by have h2 := HT.out; rw [off_eq, if_pos (by omega)] at h2; omega
              subst ht1
              have hst : 0 < st.length := by omega
              have hla := HLA.out
              rw [lastN_one hst] at hla
              obtain ⟨aA2, cA2, bA, oA, eA, hcA, haA, hA2⟩ := isL_open hla
              simp only [Value.slice.injEq] at eA
              obtain ⟨rfl, hlen1, rfl⟩ := eA
              clear hlen1
              obtain ⟨rfl, hbA1, hbA2⟩ := haA (by simp)
              obtain ⟨ax, cx, y0, y1, y2, y3, y4, hsy⟩ := cellsV_slice (hA2 0 (by simp))
              simp only [List.getElem_cons_zero] at y0 y1 y2 y3 y4 hsy
              simp only [Nat.zero_mul, Nat.add_zero] at y0 y1 y2 y3 y4
              simp only [List.length_singleton] at hcA
              have hcA2 : (1 : Int) ≤ (cA : Int) := by omega
              have HSY := Lib.hid hsy
              obtain ⟨y, hy⟩ : ∃ u, u = topG st := ⟨_, rfl⟩
              have HY := Lib.hid hy
              rw [← hy] at y0 y1 y2 y3 y4 HSY
              have nA : bA ≠ p16 := by have := HP16.out; omega
              have lA : bA < w5.heap.size := by omega
              have HFY : Hid y.fit := by rw [Hid, hy]; exact fitL_mem HFS.out _ (top_mem hst)
              have HVY : Hid (vmay y = true) := by rw [Hid, hy]; exact good_mem HBD.out _ (top_mem hst)
              clear hla hA2 haA hsy hy
              have hk1 : y.k = 1 := by rw [HY.out]; exact HJO.out x HXS.out (by unfold jmpI; omega)
              have hsr := step_leap (E := envP W) (st := st) (x := x) (by omega) (by rw [← HY.out]; exact HVY.out) (by rw [← HY.out]; exact hk1)
              rw [← HY.out] at hsr
              have HSR := Lib.hid hsr
              have HBX := Lib.hid (close16 HD5.out (Nat.le_of_eq HP16.out.symm) HP5.out HSY.out HZA.out (HLE5.out _ (Nat.le_refl _)).2.2)
              have d1 : (y.k == 1) = true := by simp [hk1]
              have d2 : (y.k != 1) = false := by simp [hk1]
              clear h hsr hk1
              go_wp2_with fail
              go_meet
              exact ⟨y, 0, .slice ax y.l.length cx, rfl, HSR, HFY, HBX⟩
          · as_aux_lemma =>
              obtain rfl : op = 8 := HOP.out.trans h
              have ht1 : t = 1 := by have h2 := HT.out; rw [off_eq, if_pos (by omega)] at h2; omega
              subst ht1
              have hst : 0 < st.length := by omega
              have hla := HLA.out
              rw [lastN_one hst] at hla
              obtain ⟨aA2, cA2, bA, oA, eA, hcA, haA, hA2⟩ := isL_open hla
              simp only [Value.slice.injEq] at eA
              obtain ⟨rfl, hlen1, rfl⟩ := eA
              clear hlen1
              obtain ⟨rfl, hbA1, hbA2⟩ := haA (by simp)
              obtain ⟨ax, cx, y0, y1, y2, y3, y4, hsy⟩ := cellsV_slice (hA2 0 (by simp))
              simp only [List.getElem_cons_zero] at y0 y1 y2 y3 y4 hsy
              simp only [Nat.zero_mul, Nat.add_zero] at y0 y1 y2 y3 y4
              simp only [List.length_singleton] at hcA
              have hcA2 : (1 : Int) ≤ (cA : Int) := by omega
              have HSY := Lib.hid hsy
              obtain ⟨y, hy⟩ : ∃ u, u = topG st := ⟨_, rfl⟩
              have HY := Lib.hid hy
              rw [← hy] at y0 y1 y2 y3 y4 HSY
              have nA : bA ≠ p16 := by have := HP16.out; omega
              have lA : bA < w5.heap.size := by omega
              have HFY : Hid y.fit := by rw [Hid, hy]; exact fitL_mem HFS.out _ (top_mem hst)
              have HVY : Hid (vmay y = true) := by rw [Hid, hy]; exact good_mem HBD.out _ (top_mem hst)
              clear hla hA2 haA hsy hy
              have hk1 : y.k = 1 := by rw [HY.out]; exact HJO.out x HXS.out (by unfold jmpI; omega)
              have hsr := step_leap (E := envP W) (st := st) (x := x) (by omega) (by rw [← HY.out]; exact HVY.out) (by rw [← HY.out]; exact hk1)
              rw [← HY.out] at hsr
              have HSR := Lib.hid hsr
              have HBX := Lib.hid (close16 HD5.out (Nat.le_of_eq HP16.out.symm) HP5.out HSY.out HZA.out (HLE5.out _ (Nat.le_refl _)).2.2)
              have d1 : (y.k == 1) = true := by simp [hk1]
              have d2 : (y.k != 1) = false := by simp [hk1]
              clear h hsr hk1
              go_wp2_with fail
              go_meet
              exact ⟨y, 0, .slice ax y.l.length cx, rfl, HSR, HFY, HBX⟩
        case rest =>
          obtain ⟨out, er, so, rfl, HSR, HVF, HBX⟩ := hcut
          obtain ⟨w7, hren⟩ : ∃ u, u = wc := ⟨_, rfl⟩
          subst hren
          obtain ⟨ao, co, hso⟩ := isS_form HBX.out.2.1
          subst hso
          clear q12 q16 f16
          have HX7 := Lib.hid ((HBX.out.2.2.block _ l4).trans HX4.out)
          have HSC7 := Lib.hid (stk_keep HSC.out HBX.out.2.2)
          have HB7 := Lib.hid (below_down HB4.out HBX.out.2.2 (Nat.le_refl _))
          have lz4 : w.heap.size < w4.heap.size := by omega
          have HZ7 := Lib.hid ((HBX.out.2.2.block w.heap.size lz4).trans ((HB34.out.block w.heap.size hz3).trans HZ3.out))
          have l127 : p12 < w7.heap.size := (Array.getElem?_eq_some_iff.1 HX7.out).1
          have l167 : p16 < w7.heap.size := (Array.getElem?_eq_some_iff.1 HBX.out.1).1
          have lz7 : w.heap.size < w7.heap.size := (Array.getElem?_eq_some_iff.1 HZ7.out).1
          have q127 := fun o => cell_of HX7.out o
          have q167 : ∀ o, w7.cell? ⟨p16, o, none⟩ = (#[.int .i64 out.k, .bool out.b, .int .i64 out.n, .string out.t, .slice ao out.l.length co] : Array Value)[o]? := fun o => cell_of HBX.out.1 o
          by_cases he : er = 0
          rotate_left
          · have hsr := HSR.out.1 he
            have HRQ : Hid (Q = (nullG, ((n : Int) + 1), er)) := by rw [Hid, HQR.out, HSTEP.out, if_pos HF.out, if_neg (show ¬ (x.op = 7 ∨ x.op = 8) from hsr.1), hsr.2]; rfl
            have he2 : (er != 0) = true := by simpa using he
            have he3 : (er == 0) = false := by simpa using he
            clear hsr
            go_wp2_with fail
            refine (noR_any ((n : Int) + 1) er w7).mono ?_
            rintro e9 w9 ⟨rfl, hb9⟩
            have HB9 := Lib.hid (below_down HB7.out hb9 (Nat.le_refl _))
            have hz9 := (hb9.block w.heap.size lz7).trans HZ7.out
            have q9 := fun o => cell_of hz9 o
            have f9 := fun o => frozen_of hz9 o
            have l9 : w.heap.size < w9.heap.size := Nat.lt_of_lt_of_le lz7 hb9.size
            clear hb9 hz9
            simp only [GV.agg, nullG]
            go_wp2_with fail
            refine bodyPost_ret (v := .tuple #[.agg #[.int .i64 0, .bool false, .int .i64 0, .string { data := #[] }, .slice none 0 0], .int .i64 ((n : Int) + 1), .int .i64 er]) (by simp [results, Tryz.results18, go_sem, q9]) rfl ?_
            rw [HRQ.out]
            exact ⟨none, 0, rfl, isZ_nil _ _, set5B HB9.out (Nat.le_refl _) _ _ _ _ _, nullG_fit⟩
          subst he
          go_wp2_with fail
          refine (rCheck_any out HVF.out (.slice ao out.l.length co) w7 w7.heap.size (Nat.le_refl _) (isZ_L HBX.out.2.1)).mono ?_
          rintro e8 w8 ⟨rfl, hb8⟩
          have HX8 := Lib.hid ((hb8.block _ l127).trans HX7.out)
          have HBX8 := Lib.hid (box16_keep HBX.out hb8)
          have HSC8 := Lib.hid (stk_keep HSC7.out hb8)
          have HB8 := Lib.hid (below_down HB7.out hb8 (Nat.le_refl _))
          have HZ8 := Lib.hid ((hb8.block w.heap.size lz7).trans HZ7.out)
          have l128 : p12 < w8.heap.size := (Array.getElem?_eq_some_iff.1 HX8.out).1
          have l168 : p16 < w8.heap.size := (Array.getElem?_eq_some_iff.1 HBX8.out.1).1
          have lz8 : w.heap.size < w8.heap.size := (Array.getElem?_eq_some_iff.1 HZ8.out).1
          have q128 := fun o => cell_of HX8.out o
          have q168 : ∀ o, w8.cell? ⟨p16, o, none⟩ = (#[.int .i64 out.k, .bool out.b, .int .i64 out.n, .string out.t, .slice ao out.l.length co] : Array Value)[o]? := fun o => cell_of HBX8.out.1 o
          clear hb8 q127 q167
          cases hvm : vmay out
          · have hsr := HSR.out.2.1 rfl hvm
            have HRQ : Hid (Q = (nullG, ((n : Int) + 1), 1)) := by rw [Hid, HQR.out, HSTEP.out, if_pos HF.out, if_neg (show ¬ (x.op = 7 ∨ x.op = 8) from hsr.1), hsr.2]; rfl
            clear hsr hvm
            go_wp2_with fail
            refine (noR_any ((n : Int) + 1) 1 w8).mono ?_
            rintro e9 w9 ⟨rfl, hb9⟩
            have HB9 := Lib.hid (below_down HB8.out hb9 (Nat.le_refl _))
            have hz9 := (hb9.block w.heap.size lz8).trans HZ8.out
            have q9 := fun o => cell_of hz9 o
            have f9 := fun o => frozen_of hz9 o
            have l9 : w.heap.size < w9.heap.size := Nat.lt_of_lt_of_le lz8 hb9.size
            clear hb9 hz9
            simp only [GV.agg, nullG]
            go_wp2_with fail
            refine bodyPost_ret (v := .tuple #[.agg #[.int .i64 0, .bool false, .int .i64 0, .string { data := #[] }, .slice none 0 0], .int .i64 ((n : Int) + 1), .int .i64 1]) (by simp [results, Tryz.results18, go_sem, q9]) rfl ?_
            rw [HRQ.out]
            exact ⟨none, 0, rfl, isZ_nil _ _, set5B HB9.out (Nat.le_refl _) _ _ _ _ _, nullG_fit⟩
          have hsr := HSR.out.2.2 rfl hvm
          have HVM := Lib.hid hvm
          clear hvm
          have HLLN : Hid ((lessN t st).length = st.length - t) := lessN_len htl
          by_cases hj : x.op = 7 ∨ x.op = 8
          rotate_left
          · have hdo := hsr.1 hj
            rw [HT.out, Int.toNat_natCast] at hdo
            have HDO := Lib.hid hdo
            have e7 : (op == 7) = false := by rw [HOP.out]; simp; omega
            have e8 : (op == 8) = false := by rw [HOP.out]; simp; omega
            clear hsr hdo
            have hlo : leftOf x = 1 := by have := okOf_ops HOK.out; unfold leftOf; rw [if_pos (by omega)]
            have HLO := Lib.hid hlo
            clear hlo
            go_upto_region 51 with fail
            have hsl : (lessN t st).length ≤ 2147483646 := by rw [HLLN.out]; omega
            go_region_law (first
              | (have hguard := HNR
                 clear hguard
                 refine step_pushN (y := out) (T' := 36) rfl _ _ rfl rfl rfl HNR.out hsl ?_ HOZ.out ?_ ?_
                 · with_reducible first | exact Below.refl _ _ | exact (Below.refl _ _).alloc (Nat.le_refl _) _
                 · with_reducible first | exact HGB.out | exact heap_last
                 intro v2 w10 hs2 hb2
                 have HS2 := Lib.hid hs2
                 have HB9a := Lib.hid hb2
                 clear hs2 hb2)
              | (refine step_newR (wA := w8) rfl _ _ rfl rfl rfl HSC8.out hsl ?_ ?_
                 · with_reducible first | exact (Below.refl _ _).drew | exact ((Below.refl _ _).alloc (Nat.le_refl _) _).drew
                 intro v1 w9 hn1 hb1
                 have HNR := Lib.hid hn1
                 have HOZ : Hid (isZ w9 (lo0, w.heap.size) w8.heap.size (.slice ao out.l.length co) out.l) := isZ_below HBX8.out.2.1 hn1.1 (Nat.le_refl _)
                 have q9 : ∀ o, w9.cell? ⟨p16, o, none⟩ = (#[.int .i64 out.k, .bool out.b, .int .i64 out.n, .string out.t, .slice ao out.l.length co] : Array Value)[o]? := fun o => cell_of ((hn1.1.block _ l168).trans HBX8.out.1) o
                 have l9 : p16 < w9.heap.size := Nat.lt_of_lt_of_le l168 hn1.1.size
                 first
                   | (have HGB : Hid (w9.heap[w8.heap.size]? = some (.cells #[.int .i64 out.k, .bool out.b, .int .i64 out.n, .string out.t, .slice ao out.l.length co] 36 (0, 0))) := by
                        rw [Hid]
                        with_reducible refine (hb1.block w8.heap.size alloc_drew_lt).trans ?_
                        exact heap_last (w := w8) (o := (.cells #[.int .i64 out.k, .bool out.b, .int .i64 out.n, .string out.t, .slice ao out.l.length co] 36)))
                   | skip
                 clear hn1 hb1)
              | skip)
            all_goals
              have HS9 := Lib.hid (stk_base (b0 := w.heap.size + 1) HS2.out lz8)
              have HB9 := Lib.hid (below_down HB8.out HB9a.out (Nat.le_refl _))
              have HZ9 := Lib.hid ((HB9a.out.block w.heap.size lz8).trans HZ8.out)
              clear HS2 HB9a
              go_wp2_with fail
              go_roundw
              case rel =>
                have hlt := HLT.out
                refine ⟨k + 1, n + 1, g', lessN t st ++ [out], _, rfl, num_next n, num_next k, Lib.hid HLT.out, Lib.hid (nxt_g HG.out HGG.out (Nat.lt_succ_self k)), Lib.hid (nxt_n HN.out (Nat.lt_succ_self k)), ?_, Lib.hid (nxt_h HNX.out HT.out HLO.out HST.out htl), Lib.hid (fitL_snocS (fitL_subs HFS.out less_sub) HVF.out), Lib.hid (badL_app (badL_sub HBD.out less_sub) (badL_one HVM.out)), Lib.hid (jok_next HJ.out HXS.out (fun h6 => do_six h6 HDO.out)), HS9, HB9.out, HZ9⟩
                rw [Hid, HSTEP.out, if_pos HF.out, if_neg hj, HDO.out]
              case measure => exact nxt_m HLT.out
          · obtain ⟨hot, hok1⟩ := hsr.2 hj
            have ho1 : t = 1 := by have h2 := HT.out; rw [off_eq, if_pos (by omega)] at h2; omega
            subst ho1
            have hst : 0 < st.length := by omega
            obtain ⟨hj1, hj2, hj3⟩ := HJP.out hj
            obtain ⟨ja, hja⟩ : ∃ ja : Nat, x.arg = (ja : Int) := ⟨x.arg.toNat, by omega⟩
            obtain rfl : arg = (ja : Int) := HARG.out.trans hja
            have hjk : k < ja := by omega
            have hjl : ja ≤ l.length := by omega
            have hjH : H ja = H k := by rw [hja, Int.toNat_natCast] at hj3; exact hj3
            have HJA := Lib.hid hja
            have hout : out.l = [] := bool_flat HVM.out hok1
            have HOUT := Lib.hid hout
            have HOT := Lib.hid hot
            have HJKL := Lib.hid (And.intro hjk (And.intro hjl hjH))
            have hlo : leftOf x = 0 := by unfold leftOf; rw [if_neg (by omega)]
            obtain ⟨tb, htb⟩ : ∃ u, u = out.b := ⟨_, rfl⟩
            rw [← htb] at q168
            have HTB := Lib.hid htb
            have hja1 : (ja : Int) - 1 + 1 = (ja : Int) := by omega
            have hja2 : IntKind.i64.wrap ((ja : Int) - 1) = (ja : Int) - 1 := IntWalk.i64_in _ (by omega)
            obtain ⟨ss, hls, hown, hin⟩ := HSC8.out
            have HLS := Lib.hid hls
            have HIN := Lib.hid hin
            obtain ⟨va, cva, hvc⟩ := isL_form (stk_isL HSC8.out)
            subst hvc
            obtain ⟨i0, hi, hz0, hz1, hz2⟩ := info_parts vinfo
            have HI := Lib.hid (And.intro hi (And.intro hz0 (And.intro hz1 hz2)))
            have HSL := Lib.hid Tryz.underlying34
            have hbA : Below w8.heap.size w8 (w8.alloc (.cells #[.int .i64 out.k, .bool tb, .int .i64 out.n, .string out.t, .slice ao out.l.length co] 36)) := (Below.refl _ _).alloc (Nat.le_refl _) _
            have HBA := Lib.hid hbA
            have HLT8 : Hid (∀ g, (Value.slice va (lessN 1 st).length cva).ownBlock = some g → w.heap.size + 1 ≤ g ∧ g < w8.heap.size) := fun g hg => ownBlock_lt hown hg
            have HOWN : Hid ((w8.alloc (.cells #[.int .i64 out.k, .bool tb, .int .i64 out.n, .string out.t, .slice ao out.l.length co] 36)).ownsRow (w.heap.size + 1) 36 5 (.slice va (lessN 1 st).length cva) (lessN 1 st).length (flat (lessN 1 st) ss)) := ownsRow_keep5 hown (fun g hg => hbA.block g (HLT8.out g hg).2)
            have HNEW : Hid (∀ j u, ([.int .i64 out.k, .bool tb, .int .i64 out.n, .string out.t, .slice ao out.l.length co] : List Value)[j]? = some u → (w8.alloc (.cells #[.int .i64 out.k, .bool tb, .int .i64 out.n, .string out.t, .slice ao out.l.length co] 36)).cell? ((⟨w8.heap.size, 0, none⟩ : Addr).add j) = some u) := fun j u hj => news_last hj
            clear hsr hot hok1 hj1 hj2 hj3 hja hout htb hls hown hin hi hz0 hz1 hz2 hbA
            rcases hj with h | h
            · obtain rfl : op = 7 := HOP.out.trans h
              have hopx : x.op = 7 := h
              have hj : x.op = 7 ∨ x.op = 8 := by omega
              clear h
              cases tb
              · have hjt : (topG st).b = decide (x.op = 8) := by rw [← HOT.out, ← HTB.out]; simp [hopx]
                go_wp2_with (at_builtin; go_loud (refine wpList_append_own_at _ rfl _ _ 34 rfl (w.heap.size + 1) 36 i0 (.agg #[.int .i64 0, .bool false, .int .i64 0, .string { data := #[] }, .slice none 0 0]) 5 64 HSL.out HI.out.1 HI.out.2.1 HI.out.2.2.1 HI.out.2.2.2 rfl (by decide) (.slice va (lessN 1 st).length cva) (lessN 1 st).length (flat (lessN 1 st) ss) rfl HOWN.out ⟨w8.heap.size, 0, none⟩ 1 1 [.int .i64 out.k, .bool false, .int .i64 out.n, .string out.t, .slice ao out.l.length co] rfl rfl HNEW.out ?c2 ?c3 ?c4 ?c5 ?_))
                case c2 => intro u hu; simp only [List.mem_cons, List.not_mem_nil, or_false] at hu; rcases hu with rfl | rfl | rfl | rfl | rfl <;> rfl
                case c3 => rw [HLLN.out]; unfold maxLen; omega
                case c4 => rw [HLLN.out]; omega
                case c5 => exact Nat.le_trans lz8 HBA.out.size
                intro v' w9 hown' hgr _ hat
                have hgA : Below (w.heap.size + 1) (w8.alloc (.cells #[.int .i64 out.k, .bool false, .int .i64 out.n, .string out.t, .slice ao out.l.length co] 36)) w9 := below_grown hgr (Nat.le_trans lz8 HBA.out.size) (fun g hg => (HLT8.out g hg).1)
                have h12 : w9.heap[p12]? = some (.cells #[.int .i64 7, .int .i64 (ja : Int), .string x.s, .int .i64 x.v.k, .bool x.v.b, .int .i64 x.v.n, .string x.v.t, .slice av x.v.l.length cv] 86 (0, 0)) := (hgr.block p12 (Nat.lt_of_lt_of_le l128 HBA.out.size) (fun e => by have := HGC.out p12 e.symm; omega)).trans ((HBA.out.block p12 l128).trans HX8.out)
                have q9 := fun o => cell_of h12 o
                have l9 : p12 < w9.heap.size := (Array.getElem?_eq_some_iff.1 h12).1
                have hsn := stk_after (w := w8.alloc (.cells #[.int .i64 out.k, .bool false, .int .i64 out.n, .string out.t, .slice ao out.l.length co] 36)) (x := out) HLS.out (fun i h1 h2 => isO_keep (HIN.out i h1 h2) (fun b hb _ => HBA.out.block b hb) HBA.out.size) HOUT.out (by rw [← HTB.out]; exact hown') hgr (by simpa using hat)
                rw [HOT.out, lessN_top hst] at hsn
                have HSN := Lib.hid hsn
                have HB9 := Lib.hid ((below_down HB8.out HBA.out (Nat.le_refl _)).trans (hgA.mono (by omega)))
                have HZ9 := Lib.hid ((hgA.block w.heap.size (by omega)).trans ((HBA.out.block w.heap.size lz8).trans HZ8.out))
                clear hown' hgr hat hgA h12 hsn q128 q168
                go_wp2_with fail
                go_roundw
                case rel =>
                  have hlt := HLT.out
                  have hjj := HJKL.out
                  refine ⟨ja, n + 1, g', st, _, rfl, num_next n, rfl, Lib.hid hjj.2.1, Lib.hid (nxt_g HG.out HGG.out hjj.1), Lib.hid (nxt_n HN.out hjj.1), ?_, ?_, HFS, HBD, Lib.hid (jok_jump HJ.out HXS.out (by unfold jmpI; omega) HJA.out), HSN, HB9.out, HZ9⟩
                  · rw [Hid, HSTEP.out, if_pos HF.out, if_pos hj, if_pos hjt, HJA.out, Int.toNat_natCast]
                  · rw [Hid, hjj.2.2]; exact HST.out
                case measure => exact nxt_j HJKL.out.1 HJKL.out.2.1
              · have hjt : ¬ (topG st).b = decide (x.op = 8) := by rw [← HOT.out, ← HTB.out]; simp [hopx]
                go_wp2_with fail
                go_roundw
                case rel =>
                  have hlt := HLT.out
                  refine ⟨k + 1, n + 1, g', lessN 1 st, _, rfl, num_next n, num_next k, Lib.hid HLT.out, Lib.hid (nxt_g HG.out HGG.out (Nat.lt_succ_self k)), Lib.hid (nxt_n HN.out (Nat.lt_succ_self k)), ?_, Lib.hid (nxt_h0 HNX.out HT.out hlo HST.out htl), Lib.hid (fitL_subs HFS.out less_sub), Lib.hid (badL_sub HBD.out less_sub), Lib.hid (jok_next HJ.out HXS.out (st := st) (fun h6 => absurd (hopx.symm.trans h6) (by decide))), HSC8, HB8.out, HZ8⟩
                  rw [Hid, HSTEP.out, if_pos HF.out, if_pos hj, if_neg hjt]
                case measure => exact nxt_m HLT.out
            · obtain rfl : op = 8 := HOP.out.trans h
              have hopx : x.op = 8 := h
              have hj : x.op = 7 ∨ x.op = 8 := by omega
              clear h
              cases tb
              · have hjt : ¬ (topG st).b = decide (x.op = 8) := by rw [← HOT.out, ← HTB.out]; simp [hopx]
                go_wp2_with fail
                go_roundw
                case rel =>
                  have hlt := HLT.out
                  refine ⟨k + 1, n + 1, g', lessN 1 st, _, rfl, num_next n, num_next k, Lib.hid HLT.out, Lib.hid (nxt_g HG.out HGG.out (Nat.lt_succ_self k)), Lib.hid (nxt_n HN.out (Nat.lt_succ_self k)), ?_, Lib.hid (nxt_h0 HNX.out HT.out hlo HST.out htl), Lib.hid (fitL_subs HFS.out less_sub), Lib.hid (badL_sub HBD.out less_sub), Lib.hid (jok_next HJ.out HXS.out (st := st) (fun h6 => absurd (hopx.symm.trans h6) (by decide))), HSC8, HB8.out, HZ8⟩
                  rw [Hid, HSTEP.out, if_pos HF.out, if_pos hj, if_neg hjt]
                case measure => exact nxt_m HLT.out
              · have hjt : (topG st).b = decide (x.op = 8) := by rw [← HOT.out, ← HTB.out]; simp [hopx]
                go_wp2_with (at_builtin; go_loud (refine wpList_append_own_at _ rfl _ _ 34 rfl (w.heap.size + 1) 36 i0 (.agg #[.int .i64 0, .bool false, .int .i64 0, .string { data := #[] }, .slice none 0 0]) 5 64 HSL.out HI.out.1 HI.out.2.1 HI.out.2.2.1 HI.out.2.2.2 rfl (by decide) (.slice va (lessN 1 st).length cva) (lessN 1 st).length (flat (lessN 1 st) ss) rfl HOWN.out ⟨w8.heap.size, 0, none⟩ 1 1 [.int .i64 out.k, .bool true, .int .i64 out.n, .string out.t, .slice ao out.l.length co] rfl rfl HNEW.out ?c2 ?c3 ?c4 ?c5 ?_))
                case c2 => intro u hu; simp only [List.mem_cons, List.not_mem_nil, or_false] at hu; rcases hu with rfl | rfl | rfl | rfl | rfl <;> rfl
                case c3 => rw [HLLN.out]; unfold maxLen; omega
                case c4 => rw [HLLN.out]; omega
                case c5 => exact Nat.le_trans lz8 HBA.out.size
                intro v' w9 hown' hgr _ hat
                have hgA : Below (w.heap.size + 1) (w8.alloc (.cells #[.int .i64 out.k, .bool true, .int .i64 out.n, .string out.t, .slice ao out.l.length co] 36)) w9 := below_grown hgr (Nat.le_trans lz8 HBA.out.size) (fun g hg => (HLT8.out g hg).1)
                have h12 : w9.heap[p12]? = some (.cells #[.int .i64 8, .int .i64 (ja : Int), .string x.s, .int .i64 x.v.k, .bool x.v.b, .int .i64 x.v.n, .string x.v.t, .slice av x.v.l.length cv] 86 (0, 0)) := (hgr.block p12 (Nat.lt_of_lt_of_le l128 HBA.out.size) (fun e => by have := HGC.out p12 e.symm; omega)).trans ((HBA.out.block p12 l128).trans HX8.out)
                have q9 := fun o => cell_of h12 o
                have l9 : p12 < w9.heap.size := (Array.getElem?_eq_some_iff.1 h12).1
                have hsn := stk_after (w := w8.alloc (.cells #[.int .i64 out.k, .bool true, .int .i64 out.n, .string out.t, .slice ao out.l.length co] 36)) (x := out) HLS.out (fun i h1 h2 => isO_keep (HIN.out i h1 h2) (fun b hb _ => HBA.out.block b hb) HBA.out.size) HOUT.out (by rw [← HTB.out]; exact hown') hgr (by simpa using hat)
                rw [HOT.out, lessN_top hst] at hsn
                have HSN := Lib.hid hsn
                have HB9 := Lib.hid ((below_down HB8.out HBA.out (Nat.le_refl _)).trans (hgA.mono (by omega)))
                have HZ9 := Lib.hid ((hgA.block w.heap.size (by omega)).trans ((HBA.out.block w.heap.size lz8).trans HZ8.out))
                clear hown' hgr hat hgA h12 hsn q128 q168
                go_wp2_with fail
                go_roundw
                case rel =>
                  have hlt := HLT.out
                  have hjj := HJKL.out
                  refine ⟨ja, n + 1, g', st, _, rfl, num_next n, rfl, Lib.hid hjj.2.1, Lib.hid (nxt_g HG.out HGG.out hjj.1), Lib.hid (nxt_n HN.out hjj.1), ?_, ?_, HFS, HBD, Lib.hid (jok_jump HJ.out HXS.out (by unfold jmpI; omega) HJA.out), HSN, HB9.out, HZ9⟩
                  · rw [Hid, HSTEP.out, if_pos HF.out, if_pos hj, if_pos hjt, HJA.out, Int.toNat_natCast]
                  · rw [Hid, hjj.2.2]; exact HST.out
                case measure => exact nxt_j HJKL.out.1 HJKL.out.2.1
end Go.Proofs.YtljljhjdlicfeaaGreat
