/-
  The machine's run: what runP tells. Conditions: fewer than 2^30 instructions.
-/
import Derived.Test.YtljljhjdlicfeaaGreatVmDo5
import Derived.Test.YtljljhjdlicfeaaGreatNE
import Derived.Defers
import Derived.Recover
import Derived.Test.YtljljhjdlicfeaaGreatPAE
namespace Go.Proofs.YtljljhjdlicfeaaGreat
open Go Go.RowKit
set_option maxRecDepth 100000
set_option linter.unusedVariables false
def RunO (bM base : Nat) (env : Value) (R : VO × Nat) (w : World) (e : Ending) (w' : World) : Prop := match R.1 with
  | .go st => e = .returned (.tuple #[]) ∧ st.length = 1 ∧ fitL st ∧ KB base bM w w' ∧ ∃ v, mach w' bM base env v st R.2
  | .stop k => e = faultE k ∧ KB base bM w w' ∧ ∃ v st, mach w' bM base env v st R.2
theorem mach_step {w : World} {bM base n : Nat} {env v : Value} {st : List GV} (h : mach w bM base env v st n) : mach (w.setCell ⟨bM, 2, none⟩ (.int .i64 ((n : Int) + 1))) bM base env v st (n + 1) := by
  obtain ⟨h1, h2, h3, h4⟩ := h
  refine ⟨?_, ownL_setCell h2 (show bM < base from h3) _, h3, by rw [hsz_setCell2]; exact h4⟩
  rw [heap_setCell2 h1]; rfl
theorem KB.set {base bM o : Nat} {w w1 : World} {u : Value} (h : KB base bM w w1) : KB base bM w (w1.setCell ⟨bM, o, none⟩ u) :=
  ⟨h.1, h.2.1, h.2.2.1, by rw [hsz_setCell2]; exact h.2.2.2.1, fun b hb hne => (set1_heap hne).trans (h.2.2.2.2 b hb hne)⟩
set_option maxHeartbeats 6400000 in
theorem mrun_any (E : EP) (fE : E.fit) (ev : Value) (B0 : Nat) (l : List GI) (hll : l.length ≤ 1073741824) (fl : fitI l) (hck : checkC l = true) (fuel : Int) (bM base : Nat) (s : Value) (w : World) (B : Nat) (hbase : base = w.heap.size) (hbm : bM < base) (hB : B ≤ bM) (hB0 : B0 ≤ bM)
    (hs : isI w B s l) (hE : EnvOk E ev B0 w) (hm : mach w bM base (.iface 43 ev) (.slice none 0 0) [] 0) :
    Calls Tryz.prog 25 #[.pointer (some ⟨bM, 0, none⟩), s, .int .i64 fuel] w (RunO bM base (.iface 43 ev) (runP E l fuel l.length 0 [] 0) w) := by
  obtain ⟨H, hH, hH0, hH1⟩ := hts_of hck
  have HH1 := Lib.hid hH1
  clear hH1
  have HH := Lib.hid hH
  have HLE := Lib.hid (hts_le hH hH0)
  have HFL := Lib.hid fl
  have HE := Lib.hid hE
  have HS := Lib.hid hs
  obtain ⟨a, c, b, off, rfl, hc, ha, hA⟩ := hs
  have HA := Lib.hid hA
  have Ha := Lib.hid ha
  obtain ⟨R, hR⟩ : ∃ R, R = runP E l fuel l.length 0 [] 0 := ⟨_, rfl⟩
  have HR : Hid (runP E l fuel l.length 0 [] 0 = R) := hR.symm
  rw [← hR]
  obtain ⟨env, henv⟩ : ∃ u, u = Value.iface 43 ev := ⟨_, rfl⟩
  have HENV := Lib.hid henv
  rw [← henv] at hm ⊢
  have HM := Lib.hid hm
  have HH0 : Hid ((([] : List GV).length : Int) = H 0) := by rw [Hid, hH0]; rfl
  clear hH hH0 fl hE hA ha hR henv hm hck
  go_enter Tryz.func25, Tryz.ntmps25
  go_wp2_with fail
  go_step3
  go_wp2_with fail
  go_step3
  go_wp2_with fail
  go_loopw [6] (fun i wr => ∃ (k : Nat) (st : List GV) (v : Value) (n g : Nat), i = .int .i64 k ∧ Hid (k ≤ l.length) ∧ Hid (l.length ≤ k + g) ∧ Hid (n ≤ k) ∧ Hid (runP E l fuel g k st n = R) ∧ Hid ((st.length : Int) = H k) ∧ Hid (fitL st) ∧ Hid (mach wr bM base env v st n) ∧ Hid (KB base bM w wr)) (fun i _ => l.length - (intOf i).toNat)
  case atStart => exact ⟨0, [], _, 0, l.length, rfl, Lib.hid (Nat.zero_le _), Lib.hid (Nat.le_add_left _ _), Lib.hid (Nat.le_refl _), HR, HH0, Lib.hid trivial, HM, KB.refl _ _ _⟩
  case round =>
    obtain ⟨k, st, v, n, g, rfl, HK, HG, HN, HR, HST, HFS, HM, HKB⟩ := hrel
    by_cases hlt : k < l.length
    rotate_left
    · have hk : k = l.length := by have := HK.out; omega
      have hrr : R = (.go st, n) := by
        rw [← HR.out]
        cases g with
        | zero => rfl
        | succ g => rw [runP, List.getElem?_eq_none (by omega)]
      have hd : decide (k < l.length) = false := by simp; omega
      go_wp2_with fail
      go_end0
      rw [hrr]
      exact ⟨rfl, by have h1 := HST.out; have h2 := HH1.out; rw [hk, h2] at h1; omega, HFS.out, HKB.out, v, HM.out⟩
    obtain ⟨g', hg'⟩ : ∃ g', g = g' + 1 := ⟨g - 1, by have := HG.out; omega⟩
    have hd : decide (k < l.length) = true := by simp; omega
    have hkz : (k : Int) < (l.length : Int) := by omega
    have HLT := Lib.hid hlt
    obtain ⟨x, hx⟩ : ∃ x, x = l[k] := ⟨_, rfl⟩
    have HXL := Lib.hid hx
    have hstep : R = if (n : Int) < fuel then
        (if x.op = 7 ∨ x.op = 8 then
          (if (topG st).b = decide (x.op = 8) then runP E l fuel g' x.arg.toNat st (n + 1) else runP E l fuel g' (k + 1) (lessN 1 st) (n + 1))
         else match doP E x st with
          | .go st' => runP E l fuel g' (k + 1) st' (n + 1)
          | .stop e => (.stop e, n + 1))
      else (.stop 6, n) := by
      rw [← HR.out, hg', runP, List.getElem?_eq_getElem hlt]
      dsimp only
      rw [← (show x = l[k]'hlt from hx)]
      rfl
    have HSTEP := Lib.hid hstep
    have hm1 := HM.out.1
    have p1 := fun o => cell_of hm1 o
    have f1 := fun o => frozen_of hm1 o
    have lM : bM < wr.heap.size := (Array.getElem?_eq_some_iff.1 hm1).1
    have HGG := Lib.hid hg'
    clear hm1 hstep hx hg'
    cases hf : decide ((n : Int) < fuel)
    · go_wp2_with fail
      refine (need_no 6 wr).mono ?_
      rintro e w5 ⟨rfl, rfl⟩
      refine ⟨rfl, ?_⟩
      rw [HSTEP.out, if_neg (by simpa using hf)]
      exact ⟨rfl, HKB.out, v, st, HM.out⟩
    have HF : Hid ((n : Int) < fuel) := Lib.hid (by simpa using hf)
    have hnw : IntKind.i64.wrap ((n : Int) + 1) = (n : Int) + 1 := by have := HN.out; have := HK.out; exact IntWalk.i64_in _ (by omega)
    go_wp2_with fail
    refine (need_ok 6 wr).mono ?_
    rintro e w5 ⟨rfl, hw5⟩
    rw [hw5]
    obtain ⟨rfl, hbb⟩ := Ha.out (by have := HLT.out; omega)
    obtain ⟨av, cv, a0, a1, a2, a3, a4, a5, a6, a7, hvs⟩ := HA.out k HLT.out
    rw [← (show x = l[k]'HLT.out from HXL.out)] at a0 a1 a2 a3 a4 a5 a6 a7 hvs
    obtain ⟨hok, hoff, hnx, hjp⟩ := HH.out k HLT.out
    rw [← (show x = l[k]'HLT.out from HXL.out)] at hok hoff hnx hjp
    have HNX := Lib.hid hnx
    have HJP := Lib.hid hjp
    have HOK := Lib.hid hok
    have HOFF : Hid (offOf x ≤ st.length) := by rw [Hid, HST.out]; exact hoff
    have hfx := (HFL.out x (by rw [HXL.out]; exact List.getElem_mem _)).1
    have HFX := Lib.hid hfx
    have HSTL : Hid (st.length ≤ k) := by rw [Hid]; have h1 := (HLE.out k HK.out).2; have h2 := HST.out; omega
    have hbel : Below B w wr := HKB.out.isBelow hB hbm
    have HVS := Lib.hid (isL_below hvs hbel (Nat.le_refl _))
    have hgr : ∀ o, wr.cell? ⟨b, o, none⟩ = w.cell? ⟨b, o, none⟩ := fun o => hbel.cell (p := ⟨b, o, none⟩) hbb
    have lb : b < wr.heap.size := by have := HKB.out.2.2.2.1; omega
    have nbm : b ≠ bM := by omega
    clear hok hoff hnx hjp hfx hvs hbel
    go_upto_region 4 with fail
    go_upto_region 5 with fail
    obtain ⟨w1, hw1⟩ : ∃ u, u = wr.setCell ⟨bM, 2, none⟩ (.int .i64 ((n : Int) + 1)) := ⟨_, rfl⟩
    rw [← hw1]
    have HM1 : Hid (mach w1 bM base env v st (n + 1)) := by rw [hw1]; exact mach_step HM.out
    have HK1 : Hid (KB base bM w w1) := by rw [hw1]; exact KB.set HKB.out
    have hs1 : w1.heap.size = wr.heap.size := by rw [hw1, hsz_setCell2]
    have HV1 : Hid (isL w1 0 B (.slice av x.v.l.length cv) x.v.l) := by
      rw [hw1]
      exact isL_mono HVS.out (fun c o _ hc2 => World.cell?_of_block (a := ⟨c, o, none⟩) (set1_heap (by show c ≠ bM; omega))) (Nat.le_refl _) (Nat.le_refl _)
    clear hw1
    obtain ⟨w2, hw2⟩ : ∃ u, u = w1.alloc (.cells #[.int .i64 x.op, .int .i64 x.arg, .string x.s, .int .i64 x.v.k, .bool x.v.b, .int .i64 x.v.n, .string x.v.t, .slice av x.v.l.length cv] 86) := ⟨_, rfl⟩
    have hb2 : Below w1.heap.size w1 w2 := by rw [hw2]; exact (Below.refl _ _).alloc (Nat.le_refl _) _
    have hx2 : w2.heap[w1.heap.size]? = some (.cells #[.int .i64 x.op, .int .i64 x.arg, .string x.s, .int .i64 x.v.k, .bool x.v.b, .int .i64 x.v.n, .string x.v.t, .slice av x.v.l.length cv] 86 (0, 0)) := by rw [hw2]; exact heap_last
    rw [hs1] at hx2
    rw [← hw2]
    obtain ⟨bI, hbI⟩ : ∃ u, u = wr.heap.size := ⟨_, rfl⟩
    rw [← hbI] at hx2 ⊢
    have q2 := fun o => cell_of hx2 o
    have l2 : bI < w2.heap.size := (Array.getElem?_eq_some_iff.1 hx2).1
    have HM2 := Lib.hid (mach_below HM1.out hb2)
    have HK2 : Hid (KB base bM w w2) := HK1.out.trans (KB.below hb2 HM1.out.2.2.2)
    have HV2 := Lib.hid (isL_below HV1.out hb2 (by have := HM1.out.2.2.2; omega))
    have hsz2 := HM2.out.2.2.2
    clear hw2 hb2 hx2 hbI p1 f1 hgr a0 a1 a2 a3 a4 a5 a6 a7 hs1
    by_cases hj : x.op = 7 ∨ x.op = 8
    rotate_left
    · have e7 : (x.op == 7) = false := by simp; omega
      have e8 : (x.op == 8) = false := by simp; omega
      go_wp2_with fail
      refine (do_any E fE ev B0 x HFX.out HOK.out hj bM base (n + 1) v st (.slice av x.v.l.length cv) w2 B (by omega) hB0 (by have := HSTL.out; omega) HFS.out HOK.out HOFF.out (by rw [← HENV.out]; exact HM2.out) HV2.out (HE.out.keep (HK2.out.isBelow hB0 hbm))).mono ?_
      rintro e w3 hD
      rw [← HENV.out] at hD
      cases hdo : doP E x st with
      | go st' =>
        rw [hdo] at hD
        have hp1 := hD.1
        subst hp1
        obtain ⟨v', hm'⟩ := hD.2.2
        have HM3 := Lib.hid hm'
        have HK3 := Lib.hid (HK2.out.trans hD.2.1)
        have HDO := Lib.hid hdo
        clear hD hm' hdo q2
        go_wp2_with fail
        go_roundw
        case rel =>
          have hlt := HLT.out
          refine ⟨k + 1, st', v', n + 1, g', by go_num, Lib.hid (by omega), Lib.hid (by have := HG.out; have := HGG.out; omega), Lib.hid (by have := HN.out; omega), ?_, ?_, doP_fit fE HFX.out HFS.out (by have := HSTL.out; omega) HDO.out, HM3.out, HK3.out⟩
          · rw [Hid, HSTEP.out, if_pos HF.out, if_neg hj, HDO.out]
          · rw [Hid, doP_len HOK.out hj HOFF.out HDO.out, HNX.out, HST.out]
        case measure => simp [intOf]; have := HLT.out; omega
      | stop er =>
        rw [hdo] at hD
        have hp1 := hD.1
        subst hp1
        obtain ⟨v', st', hm'⟩ := hD.2.2
        refine ⟨rfl, ?_⟩
        rw [HSTEP.out, if_pos HF.out, if_neg hj]
        simp only [hdo]
        exact ⟨rfl, HK2.out.trans hD.2.1, v', st', hm'⟩
    · have ho1 : offOf x = 1 := by unfold offOf; rw [if_pos (by omega)]
      have hl0 : leftOf x = 0 := by unfold leftOf; rw [if_neg (by omega)]
      have hst : 0 < st.length := by have := HOFF.out; rw [ho1] at this; omega
      obtain ⟨hj1, hj2, hj3⟩ := HJP.out hj
      obtain ⟨g5, m5, cap5, hm5, hv5, hgb5, hgl5, ht0, ht1⟩ := mach_top HM2.out hst
      have hM2 := HM2.out.1
      rw [hv5] at hM2
      have p2 := fun o => cell_of hM2 o
      have lM2 : bM < w2.heap.size := (Array.getElem?_eq_some_iff.1 hM2).1
      obtain ⟨tb, htb⟩ : ∃ u, u = (topG st).b := ⟨_, rfl⟩
      have HTB := Lib.hid htb
      rw [← htb] at ht1
      obtain ⟨ja, hja⟩ : ∃ ja : Nat, x.arg = (ja : Int) := ⟨x.arg.toNat, by omega⟩
      have hjk : k < ja := by omega
      have hjl : ja ≤ l.length := by omega
      have hjH : H ja = H k := by rw [hja] at hj3; exact hj3
      have HJK := Lib.hid (And.intro hjk (And.intro hjl hjH))
      have HJA : Hid (x.arg.toNat = ja) := by rw [Hid, hja]; rfl
      rw [hja] at q2
      have hm5b : m5 ≤ 1073741824 := by have := HSTL.out; have := HK.out; omega
      have e1 : IntKind.i64.wrap (m5 : Int) = (m5 : Int) := IntWalk.i64_in _ (by omega)
      have e2 : m5 < m5 + 1 := by omega
      have e3 : (m5 : Int) < (m5 : Int) + 1 := by omega
      have HL1 : Hid ((lessN 1 st).length = st.length - 1) := lessN_len (by omega)
      have HNX1 : Hid (H (k + 1) = H k - 1) := by rw [Hid, HNX.out, ho1, hl0]; omega
      have HJ := Lib.hid hj
      have lg5 : g5 < w2.heap.size := hgl5
      clear hM2 htb hj1 hj2 hj3 hja hjk hjl hjH ht0 hm5 hv5 hgb5 hgl5
      rcases hj with h7 | h8
      · have e7 : (x.op == 7) = true := by simp [h7]
        have e8 : (x.op == 8) = false := by simp [h7]
        have hd8 : decide (x.op = 8) = false := by simp [h7]
        cases tb
        · go_wp2_with fail
          go_quiet (fail)
          go_wp2_with fail
          go_roundw
          case rel =>
            obtain ⟨k1, k2, k3⟩ := HJK.out
            refine ⟨ja, st, v, n + 1, g', rfl, Lib.hid k2, Lib.hid (by have := HG.out; have := HGG.out; omega), Lib.hid (by have := HN.out; omega), ?_, ?_, HFS, mach_below HM2.out ⟨rfl, rfl, rfl, Nat.le_refl _, fun _ _ => rfl⟩, HK2.out.trans (KB.below ⟨rfl, rfl, rfl, Nat.le_refl _, fun _ _ => rfl⟩ hsz2)⟩
            · rw [Hid, HSTEP.out, if_pos HF.out, if_pos HJ.out, if_pos (by rw [← HTB.out, hd8]), HJA.out]
            · rw [Hid, HST.out, k3]
          case measure => obtain ⟨k1, k2, k3⟩ := HJK.out; simp [intOf]; omega
        · go_wp2_with fail
          go_quiet (fail)
          go_wp2_with fail
          refine (pop_any bM base (n + 1) 1 env v st (w2.drewN nq) (by have := HSTL.out; have := HK.out; omega) (by omega) (mach_below HM2.out ⟨rfl, rfl, rfl, Nat.le_refl _, fun _ _ => rfl⟩)).mono ?_
          rintro e w3 ⟨a3, c3, v3, rfl, _, hm3, _, hk3⟩
          have HM3 := Lib.hid hm3
          have HK3 : Hid (KB base bM w w3) := (HK2.out.trans (KB.below ⟨rfl, rfl, rfl, Nat.le_refl _, fun _ _ => rfl⟩ hsz2)).trans (KB.kg hk3 hsz2)
          clear hm3 hk3 p2 q2
          go_wp2_with fail
          go_roundw
          case rel =>
            have hlt := HLT.out
            refine ⟨k + 1, lessN 1 st, v3, n + 1, g', by go_num, Lib.hid (by omega), Lib.hid (by have := HG.out; have := HGG.out; omega), Lib.hid (by have := HN.out; omega), ?_, ?_, lessN_fit HFS.out, HM3.out, HK3.out⟩
            · rw [Hid, HSTEP.out, if_pos HF.out, if_pos HJ.out, if_neg (by rw [← HTB.out, hd8]; decide)]
            · rw [Hid, HL1.out, HNX1.out, ← HST.out]; omega
          case measure => simp [intOf]; have := HLT.out; omega
      · have e7 : (x.op == 7) = false := by simp [h8]
        have e8 : (x.op == 8) = true := by simp [h8]
        have hd8 : decide (x.op = 8) = true := by simp [h8]
        cases tb
        · go_wp2_with fail
          go_quiet (fail)
          go_wp2_with fail
          refine (pop_any bM base (n + 1) 1 env v st (w2.drewN nq) (by have := HSTL.out; have := HK.out; omega) (by omega) (mach_below HM2.out ⟨rfl, rfl, rfl, Nat.le_refl _, fun _ _ => rfl⟩)).mono ?_
          rintro e w3 ⟨a3, c3, v3, rfl, _, hm3, _, hk3⟩
          have HM3 := Lib.hid hm3
          have HK3 : Hid (KB base bM w w3) := (HK2.out.trans (KB.below ⟨rfl, rfl, rfl, Nat.le_refl _, fun _ _ => rfl⟩ hsz2)).trans (KB.kg hk3 hsz2)
          clear hm3 hk3 p2 q2
          go_wp2_with fail
          go_roundw
          case rel =>
            have hlt := HLT.out
            refine ⟨k + 1, lessN 1 st, v3, n + 1, g', by go_num, Lib.hid (by omega), Lib.hid (by have := HG.out; have := HGG.out; omega), Lib.hid (by have := HN.out; omega), ?_, ?_, lessN_fit HFS.out, HM3.out, HK3.out⟩
            · rw [Hid, HSTEP.out, if_pos HF.out, if_pos HJ.out, if_neg (by rw [← HTB.out, hd8]; decide)]
            · rw [Hid, HL1.out, HNX1.out, ← HST.out]; omega
          case measure => simp [intOf]; have := HLT.out; omega
        · go_wp2_with fail
          go_quiet (fail)
          go_wp2_with fail
          go_roundw
          case rel =>
            obtain ⟨k1, k2, k3⟩ := HJK.out
            refine ⟨ja, st, v, n + 1, g', rfl, Lib.hid k2, Lib.hid (by have := HG.out; have := HGG.out; omega), Lib.hid (by have := HN.out; omega), ?_, ?_, HFS, mach_below HM2.out ⟨rfl, rfl, rfl, Nat.le_refl _, fun _ _ => rfl⟩, HK2.out.trans (KB.below ⟨rfl, rfl, rfl, Nat.le_refl _, fun _ _ => rfl⟩ hsz2)⟩
            · rw [Hid, HSTEP.out, if_pos HF.out, if_pos HJ.out, if_pos (by rw [← HTB.out, hd8]), HJA.out]
            · rw [Hid, HST.out, k3]
          case measure => obtain ⟨k1, k2, k3⟩ := HJK.out; simp [intOf]; omega
end Go.Proofs.YtljljhjdlicfeaaGreat
namespace Go.Proofs.YtljljhjdlicfeaaGreat
open Go Go.RowKit
set_option maxRecDepth 100000
set_option linter.unusedVariables false
def KX (X : Nat → Prop) (w w' : World) : Prop := w'.os = w.os ∧ w'.tape = w.tape ∧ w'.output = w.output ∧ w.heap.size ≤ w'.heap.size ∧ ∀ b, b < w.heap.size → ¬ X b → w'.heap[b]? = w.heap[b]?
def fA (k : Int) : Value := .iface 80 (.agg #[.int .i64 k])
theorem nn_fault (v : Value) (w : World) : (binOp .neq 20 (.iface 80 v) .nilIface).run Tryz.prog w = .ok (.bool true) w := rfl
theorem nn_nil (w : World) : (binOp .neq 20 .nilIface .nilIface).run Tryz.prog w = .ok (.bool false) w := rfl
theorem as_fault (v : Value) (w : World) : (Instr.typeAssert (.iface 80 v) 20 80 true).run Tryz.prog w = .ok (.tuple #[v, .bool true]) w := by kernel_rfl
theorem os1d (w : World) : w.drew.os = w.os := rfl
theorem tp1d (w : World) : w.drew.tape = w.tape := rfl
theorem ou1d (w : World) : w.drew.output = w.output := rfl
def Run1O (bV bS bE : Nat) (k : Int) (n : Nat) (w : World) (e : Ending) (u' : FrameMode) (w' : World) : Prop :=
  e = .returned (.tuple #[]) ∧ u' = .panicking [{ v := fA k, recovered := true }] ∧ w'.heap[bV]? = some (.cells #[.int .i64 0, .bool false, .int .i64 0, .string { data := #[] }, .slice none 0 0] 36 (0, 0)) ∧
      w'.heap[bS]? = some (.cells #[.int .i64 n] 3 (0, 0)) ∧ w'.heap[bE]? = some (.cells #[.int .i64 k] 39 (0, 0)) ∧ KX (fun b => b = bV ∨ b = bS ∨ b = bE) w w'
set_option maxHeartbeats 400000 in
theorem run1_panic (bP bV bS bE bM : Nat) (k : Int) (n : Nat) (env S : Value) (w : World) (z0 z1 z2 z3 z4 x y : Value)
    (hP : w.heap[bP]? = some (.cells #[.pointer (some ⟨bM, 0, none⟩)] 76 (0, 0))) (hV : w.heap[bV]? = some (.cells #[z0, z1, z2, z3, z4] 36 (0, 0)))
    (hS : w.heap[bS]? = some (.cells #[x] 3 (0, 0))) (hE : w.heap[bE]? = some (.cells #[y] 39 (0, 0))) (hM : w.heap[bM]? = some (.cells #[env, S, .int .i64 n] 78 (0, 0)))
    (hn : bV ≠ bS ∧ bV ≠ bE ∧ bS ≠ bE ∧ bV ≠ bM ∧ bS ≠ bM ∧ bE ≠ bM ∧ bV ≠ bP ∧ bS ≠ bP ∧ bE ≠ bP) :
    CallsD Tryz.prog 24 #[.pointer (some ⟨bP, 0, none⟩), .pointer (some ⟨bV, 0, none⟩), .pointer (some ⟨bS, 0, none⟩), .pointer (some ⟨bE, 0, none⟩)] (.panicking [{ v := fA k, recovered := false }]) w (Run1O bV bS bE k n w) := by
  have HP := Lib.hid hP
  have HV := Lib.hid hV
  have HS := Lib.hid hS
  have HE := Lib.hid hE
  have HM := Lib.hid hM
  have HN := Lib.hid hn
  clear hP hV hS hE hM hn
  refine callsD_of_wpS Tryz.func24 rfl fun c₀ cs hu => ?_
  unfold fA at hu
  apply wpS_seq
  apply wpS_region
  simp [wpOpsS, go_sem, recoverD, hu, Tryz.ntmps24, Exit.thenS]
  refine wpS_of_wp ?_
  generalize hQ : (fun e a' w' => bodyPostS Tryz.prog Tryz.f24 c₀ cs (Run1O bV bS bE k n w) e a' _ w') = Q
  have HQ := Lib.hid hQ
  clear hQ hu
  have hnn := fun w => nn_fault (.agg #[.int .i64 k]) w
  have has := fun w => as_fault (.agg #[.int .i64 k]) w
  have htm : (#[.pointer (some ⟨bP, 0, none⟩), .pointer (some ⟨bV, 0, none⟩), .pointer (some ⟨bS, 0, none⟩), .pointer (some ⟨bE, 0, none⟩)] ++ ((Array.replicate 21 undef).setIfInBounds 3 (.iface 80 (.agg #[.int .i64 k]))).setIfInBounds 0 (.iface 80 (.agg #[.int .i64 k])) : Array Value) = #[.pointer (some ⟨bP, 0, none⟩), .pointer (some ⟨bV, 0, none⟩), .pointer (some ⟨bS, 0, none⟩), .pointer (some ⟨bE, 0, none⟩), (.iface 80 (.agg #[.int .i64 k])), undef, undef, (.iface 80 (.agg #[.int .i64 k])), undef, undef, undef, undef, undef, undef, undef, undef, undef, undef, undef, undef, undef, undef, undef, undef, undef] := by simp [Array.replicate, List.replicate]
  rw [htm]
  clear htm
  go_upto_region 2 with fail
  go_upto_region 5 with fail
  obtain ⟨w1, hw1⟩ : ∃ u, u = w.alloc (.cells #[.int .i64 k] 80) := ⟨_, rfl⟩
  have hb1 : Below w.heap.size w w1 := by rw [hw1]; exact (Below.refl _ _).alloc (Nat.le_refl _) _
  have hf1 : w1.heap[w.heap.size]? = some (.cells #[.int .i64 k] 80 (0, 0)) := by rw [hw1]; exact heap_last
  rw [← hw1]
  have lt := fun {b : Nat} {o : Obj} (h : w.heap[b]? = some o) => (Array.getElem?_eq_some_iff.1 h).1
  have hP1 := (hb1.block bP (lt HP.out)).trans HP.out
  have hV1 := (hb1.block bV (lt HV.out)).trans HV.out
  have hS1 := (hb1.block bS (lt HS.out)).trans HS.out
  have hE1 := (hb1.block bE (lt HE.out)).trans HE.out
  have hM1 := (hb1.block bM (lt HM.out)).trans HM.out
  obtain ⟨m1, m2, m3, m4, m5, m6, m7, m8, m9⟩ := HN.out
  have m1' := m1.symm
  have m2' := m2.symm
  have m3' := m3.symm
  have m4' := m4.symm
  have m5' := m5.symm
  have m6' := m6.symm
  have m7' := m7.symm
  have m8' := m8.symm
  have m9' := m9.symm
  have nV : w.heap.size ≠ bV := fun e => by have := lt HV.out; omega
  have nS : w.heap.size ≠ bS := fun e => by have := lt HS.out; omega
  have nE : w.heap.size ≠ bE := fun e => by have := lt HE.out; omega
  have qF := fun o => cell_of hf1 o
  have qP := fun o => cell_of hP1 o
  have qM := fun o => cell_of hM1 o
  have qV := fun o => cell_of hV1 o
  have qS := fun o => cell_of hS1 o
  have qE := fun o => cell_of hE1 o
  have fV := fun o => frozen_of hV1 o
  have fS := fun o => frozen_of hS1 o
  have fE := fun o => frozen_of hE1 o
  have HB1 := Lib.hid hb1
  have HV1 := Lib.hid hV1
  have HS1 := Lib.hid hS1
  have HE1 := Lib.hid hE1
  clear hw1 hb1 hf1 hP1 hV1 hS1 hE1 hM1 lt hnn has
  go_region
  rw [← HQ.out]
  refine ⟨rfl, _, rfl, .tuple #[], by simp [results, Tryz.results24], rfl, by unfold fA; rfl, ?_, ?_, ?_, ?_, ?_, ?_, ?_, fun b hb hne => ?_⟩
  · rw [drew_heap5, set1_heap m2, set1_heap m1, five_cells5 HV1.out]; rfl
  · rw [drew_heap5, set1_heap m3, heap_setCell2 ((five_heap m1' _ _ _ _ _ _ _ _ _ _).trans HS1.out)]; rfl
  · rw [drew_heap5, heap_setCell2 ((set1_heap m3').trans ((five_heap m2' _ _ _ _ _ _ _ _ _ _).trans HE1.out))]; rfl
  · simp only [os1d, os1]; exact HB1.out.os
  · simp only [tp1d, tp1]; exact HB1.out.tape
  · simp only [ou1d, ou1]; exact HB1.out.output
  · rw [drew_heap5]; simp only [hsz_setCell2]; exact HB1.out.size
  · rw [drew_heap5, set1_heap (fun e => hne (.inr (.inr e))), set1_heap (fun e => hne (.inr (.inl e))), five_heap (fun e => hne (.inl e))]
    exact HB1.out.block b hb
theorem run1_idle (bP bV bS bE : Nat) (w : World) :
    CallsD Tryz.prog 24 #[.pointer (some ⟨bP, 0, none⟩), .pointer (some ⟨bV, 0, none⟩), .pointer (some ⟨bS, 0, none⟩), .pointer (some ⟨bE, 0, none⟩)] .returning w fun e u' w' => e = .returned (.tuple #[]) ∧ u' = .returning ∧ w' = w := by
  refine callsD_of_wpS Tryz.func24 rfl fun c₀ cs hu => ?_
  apply wpS_seq
  apply wpS_region
  simp [wpOpsS, go_sem, recoverD, hu, Tryz.ntmps24, Exit.thenS]
  refine wpS_of_wp ?_
  generalize hQ : (fun e a' w' => bodyPostS Tryz.prog Tryz.f24 c₀ cs (fun e u' w' => e = .returned (.tuple #[]) ∧ u' = .returning ∧ w' = w) e a' _ w') = Q
  have hu2 : c₀ = { c₀ with mode := .returning } := by cases c₀; simp_all
  have HQ := Lib.hid hQ
  clear hQ hu
  have hnn := nn_nil
  have htm : (#[.pointer (some ⟨bP, 0, none⟩), .pointer (some ⟨bV, 0, none⟩), .pointer (some ⟨bS, 0, none⟩), .pointer (some ⟨bE, 0, none⟩)] ++ ((Array.replicate 21 undef).setIfInBounds 3 .nilIface).setIfInBounds 0 .nilIface : Array Value) = #[.pointer (some ⟨bP, 0, none⟩), .pointer (some ⟨bV, 0, none⟩), .pointer (some ⟨bS, 0, none⟩), .pointer (some ⟨bE, 0, none⟩), .nilIface, undef, undef, .nilIface, undef, undef, undef, undef, undef, undef, undef, undef, undef, undef, undef, undef, undef, undef, undef, undef, undef] := by simp [Array.replicate, List.replicate]
  rw [htm]
  clear htm
  go_wp2_with fail
  rw [← HQ.out]
  exact ⟨rfl, .returning, congrArg (· :: cs) hu2, .tuple #[], by simp [results, Tryz.results24], rfl, rfl, rfl⟩
end Go.Proofs.YtljljhjdlicfeaaGreat
namespace Go.Proofs.YtljljhjdlicfeaaGreat
open Go Go.RowKit
set_option maxRecDepth 100000
set_option linter.unusedVariables false
def RunT (r : GV × Nat × Int) (w : World) (e : Ending) (w' : World) : Prop := ∃ a c, e = .returned (.tuple #[r.1.agg (.slice a r.1.l.length c), .int .i64 r.2.1, .int .i64 r.2.2]) ∧ isR w' (since w.heap.size w') (.slice a r.1.l.length c) r.1.l ∧ Below w.heap.size w w'
theorem runT_null {w w' : World} {n : Nat} {k : Int} (hb : Below w.heap.size w w') : RunT (nullG, n, k) w (.returned (.tuple #[.agg #[.int .i64 0, .bool false, .int .i64 0, .string { data := #[] }, .slice none 0 0], .int .i64 n, .int .i64 k])) w' := ⟨none, 0, rfl, isR_nil5 _ _, hb⟩
theorem eq_nil_env (v : Value) (w : World) : (binOp .eql 66 (.iface 43 v) .nilIface).run Tryz.prog w = .ok (.bool false) w := rfl
set_option maxHeartbeats 6400000 in
theorem vrun_any (E : EP) (fE : E.fit) (ev : Value) (B0 : Nat) (l : List GI) (hll : l.length ≤ 1073741824) (fl : fitI l) (fuel : Int) (s : Value) (w : World) (B : Nat) (hB : B ≤ w.heap.size) (hB0 : B0 ≤ w.heap.size)
    (hs : isI w B s l) (hE : EnvOk E ev B0 w) :
    Calls Tryz.prog 16 #[s, .iface 43 ev, .int .i64 fuel] w (RunT (RunP E l fuel) w) := by
  have HS := Lib.hid hs
  have HE := Lib.hid hE
  obtain ⟨a, c, rfl⟩ := isI_form hs
  obtain ⟨CK, hCK⟩ : ∃ C, C = checkC l := ⟨_, rfl⟩
  have HCK := Lib.hid hCK
  have hen := fun w => eq_nil_env ev w
  have hmf : ∀ (fn : Fn) (first cap : Array Value) (w : World), (Instr.makeFunc fn first cap).run Tryz.prog w = .ok (.func fn first cap) w := fun _ _ _ _ => rfl
  clear hs hE hCK
  go_enter_defers Tryz.func16, Tryz.ntmps16
  go_upto_region 1 with fail
  obtain ⟨w0, hw0⟩ : ∃ u, u = ((w.alloc (.cells #[.int .i64 0, .bool false, .int .i64 0, .string { data := #[] }, .slice none 0 0] 36)).alloc (.cells #[.int .i64 0] 3)).alloc (.cells #[.int .i64 0] 39) := ⟨_, rfl⟩
  have hb0 : Below w.heap.size w w0 := by rw [hw0]; exact (((Below.refl _ _).alloc (Nat.le_refl _) _).alloc (by simp) _).alloc (by simp; omega) _
  have hv0 : w0.heap[w.heap.size]? = some (.cells #[.int .i64 0, .bool false, .int .i64 0, .string { data := #[] }, .slice none 0 0] 36 (0, 0)) := by rw [hw0, Below.heap_alloc _ _ _ (by simp; omega)]; exact heap_two
  have hs0 : w0.heap[w.heap.size + 1]? = some (.cells #[.int .i64 0] 3 (0, 0)) := by rw [hw0, Below.heap_alloc _ _ _ (by simp)]; exact heap_second
  have he0 : w0.heap[w.heap.size + 2]? = some (.cells #[.int .i64 0] 39 (0, 0)) := by
    rw [hw0]
    have := heap_last (w := (w.alloc (.cells #[.int .i64 0, .bool false, .int .i64 0, .string { data := #[] }, .slice none 0 0] 36)).alloc (.cells #[.int .i64 0] 3)) (o := .cells #[.int .i64 0] 39)
    rw [show ((w.alloc (.cells #[.int .i64 0, .bool false, .int .i64 0, .string { data := #[] }, .slice none 0 0] 36)).alloc (.cells #[.int .i64 0] 3)).heap.size = w.heap.size + 2 from by simp] at this
    exact this
  rw [← hw0]
  have hsz0 : w0.heap.size = w.heap.size + 3 := by rw [hw0]; simp
  obtain ⟨bE, hbE⟩ : ∃ u, u = w.heap.size + 1 + 1 := ⟨_, rfl⟩
  rw [show w.heap.size + 2 = w.heap.size + 1 + 1 from rfl] at he0
  rw [← hbE] at he0 ⊢
  obtain ⟨bS, hbS⟩ : ∃ u, u = w.heap.size + 1 := ⟨_, rfl⟩
  rw [← hbS] at hs0 ⊢
  obtain ⟨bV, hbV⟩ : ∃ u, u = w.heap.size := ⟨_, rfl⟩
  rw [← hbV] at hv0
  have HBS := Lib.hid (show bV = w.heap.size ∧ bS = w.heap.size + 1 ∧ bE = w.heap.size + 2 by omega)
  rw [← hbV] at hb0 ⊢
  have HB0 : Hid (Below w.heap.size w w0) := by rw [Hid, ← hbV]; exact hb0
  have HV0 := Lib.hid hv0
  have HS0 := Lib.hid hs0
  have HE0 := Lib.hid he0
  have HZ0 := Lib.hid hsz0
  clear hw0 hb0 hv0 hs0 he0 hsz0 hbV hbS hbE
  go_wp2_with fail
  refine (Check_any l (by omega) fl (.slice a l.length c) w0 B (Nat.le_trans hB HB0.out.size) (isI_below HS.out HB0.out hB)).mono ?_
  rintro e w1 ⟨rfl, hb1⟩
  rw [← HCK.out]
  have HB1 := Lib.hid (below_down HB0.out hb1 (Nat.le_refl _))
  have lt := fun (b : Nat) (h : b < w.heap.size + 3) => (show b < w0.heap.size by have := HZ0.out; omega)
  have HV1 := Lib.hid ((hb1.block bV (lt _ (by have := HBS.out; omega))).trans HV0.out)
  have HS1 := Lib.hid ((hb1.block bS (lt _ (by have := HBS.out; omega))).trans HS0.out)
  have HE1 := Lib.hid ((hb1.block bE (lt _ (by have := HBS.out; omega))).trans HE0.out)
  have HZ1 : Hid (w.heap.size + 3 ≤ w1.heap.size) := by have h1 := hb1.size; have h2 := HZ0.out; rw [Hid]; omega
  have qV := fun o => cell_of HV1.out o
  have qS := fun o => cell_of HS1.out o
  have qE := fun o => cell_of HE1.out o
  have zV := fun o => frozen_of HV1.out o
  have zS := fun o => frozen_of HS1.out o
  have zE := fun o => frozen_of HE1.out o
  have lV : bV < w1.heap.size := by have := HZ1.out; have := HBS.out; omega
  have lS : bS < w1.heap.size := by have := HZ1.out; have := HBS.out; omega
  have lE : bE < w1.heap.size := by have := HZ1.out; have := HBS.out; omega
  have nVS : bV ≠ bS := by have := HBS.out; omega
  have nVE : bV ≠ bE := by have := HBS.out; omega
  have nSE : bS ≠ bE := by have := HBS.out; omega
  have nSV : bS ≠ bV := by have := HBS.out; omega
  have nEV : bE ≠ bV := by have := HBS.out; omega
  have nES : bE ≠ bS := by have := HBS.out; omega
  clear lt hb1
  by_cases hbad : ¬ (CK = true ∧ 1 ≤ fuel ∧ fuel ≤ 1048576)
  · have HR : Hid (RunP E l fuel = (nullG, 0, 1)) := by rw [Hid, RunP, if_neg (by rw [← HCK.out]; exact hbad)]
    have hbad2 : CK = false ∨ (CK = true ∧ fuel < 1) ∨ (CK = true ∧ 1 ≤ fuel ∧ 1048576 < fuel) := by
      cases CK
      · exact .inl rfl
      · refine .inr ?_
        by_cases h : fuel < 1
        · exact .inl ⟨rfl, h⟩
        · exact .inr ⟨rfl, by omega, by simp at hbad; omega⟩
    clear hbad
    rcases hbad2 with rfl | ⟨rfl, h1⟩ | ⟨rfl, h1, h2⟩
    · go_wp2_with fail
      refine ⟨.tuple #[.agg #[.int .i64 0, .bool false, .int .i64 0, .string { data := #[] }, .slice none 0 0], .int .i64 0, .int .i64 1], by simp [results, Tryz.results16, go_sem, qV, qS, qE], ?_⟩
      rw [HR.out]
      exact runT_null ((set5B HB1.out (by have := HBS.out; omega) _ _ _ _ _).setCell (by have := HBS.out; show w.heap.size ≤ bS; omega) _ |>.setCell (by have := HBS.out; show w.heap.size ≤ bE; omega) _)
    · have d1 : decide (fuel < 1) = true := by simp; omega
      go_wp2_with fail
      refine ⟨.tuple #[.agg #[.int .i64 0, .bool false, .int .i64 0, .string { data := #[] }, .slice none 0 0], .int .i64 0, .int .i64 1], by simp [results, Tryz.results16, go_sem, qV, qS, qE], ?_⟩
      rw [HR.out]
      exact runT_null ((set5B HB1.out (by have := HBS.out; omega) _ _ _ _ _).setCell (by have := HBS.out; show w.heap.size ≤ bS; omega) _ |>.setCell (by have := HBS.out; show w.heap.size ≤ bE; omega) _)
    · have d1 : decide (fuel < 1) = false := by simp; omega
      have d2 : decide (1048576 < fuel) = true := by simp; omega
      go_wp2_with fail
      refine ⟨.tuple #[.agg #[.int .i64 0, .bool false, .int .i64 0, .string { data := #[] }, .slice none 0 0], .int .i64 0, .int .i64 1], by simp [results, Tryz.results16, go_sem, qV, qS, qE], ?_⟩
      rw [HR.out]
      exact runT_null ((set5B HB1.out (by have := HBS.out; omega) _ _ _ _ _).setCell (by have := HBS.out; show w.heap.size ≤ bS; omega) _ |>.setCell (by have := HBS.out; show w.heap.size ≤ bE; omega) _)
  · obtain ⟨rfl, hf1, hf2⟩ := Classical.not_not.1 hbad
    have d1 : decide (fuel < 1) = false := by simp; omega
    have d2 : decide (1048576 < fuel) = false := by simp; omega
    obtain ⟨R, hR⟩ : ∃ R, R = runP E l fuel l.length 0 [] 0 := ⟨_, rfl⟩
    have HR : Hid (RunP E l fuel = endP R) := by rw [Hid, RunP, if_pos ⟨HCK.out.symm, hf1, hf2⟩, hR]
    have HRR := Lib.hid hR
    clear hbad hR
    go_upto_region 4 with fail
    obtain ⟨w2, hw2⟩ : ∃ u, u = (w1.alloc (.cells #[.iface 43 ev, .slice none 0 0, .int .i64 0] 78)).alloc (.cells #[.pointer (some ⟨w1.heap.size, 0, none⟩)] 76) := ⟨_, rfl⟩
    have hb2 : Below w1.heap.size w1 w2 := by rw [hw2]; exact ((Below.refl _ _).alloc (Nat.le_refl _) _).alloc (by simp) _
    have hm2 : w2.heap[w1.heap.size]? = some (.cells #[.iface 43 ev, .slice none 0 0, .int .i64 0] 78 (0, 0)) := by rw [hw2]; exact heap_two
    have hp2 : w2.heap[w1.heap.size + 1]? = some (.cells #[.pointer (some ⟨w1.heap.size, 0, none⟩)] 76 (0, 0)) := by rw [hw2]; exact heap_second
    have hsz2 : w2.heap.size = w1.heap.size + 2 := by rw [hw2]; simp
    rw [← hw2]
    obtain ⟨bP, hbP⟩ : ∃ u, u = w1.heap.size + 1 := ⟨_, rfl⟩
    rw [← hbP] at hp2 ⊢
    obtain ⟨bM, hbM⟩ : ∃ u, u = w1.heap.size := ⟨_, rfl⟩
    rw [← hbM] at hm2 hp2
    have HBM := Lib.hid (show bM = w1.heap.size ∧ bP = bM + 1 ∧ bE < bM ∧ bS < bM ∧ bV < bM ∧ w2.heap.size = bM + 2 by omega)
    have HB2 := Lib.hid (below_down HB1.out hb2 (Nat.le_refl _))
    have HV2 := Lib.hid ((hb2.block bV lV).trans HV1.out)
    have HS2 := Lib.hid ((hb2.block bS lS).trans HS1.out)
    have HE2 := Lib.hid ((hb2.block bE lE).trans HE1.out)
    have HP2 := Lib.hid hp2
    have HM2 := Lib.hid hm2
    have qP := fun o => cell_of hp2 o
    have lP : bP < w2.heap.size := (Array.getElem?_eq_some_iff.1 hp2).1
    clear hw2 hb2 hm2 hp2 hsz2 hbP hbM qV qS qE zV zS zE lV lS lE
    go_wp2_with fail
    refine (mrun_any E fE ev B0 l hll fl HCK.out.symm fuel bM w2.heap.size (.slice a l.length c) w2 B rfl (by have := HBM.out; omega) (by have h1 := HBM.out; have h2 := HB1.out.size; omega) (by have h1 := HBM.out; have h2 := HB1.out.size; omega) (isI_below HS.out HB2.out hB) (HE.out.keep (HB2.out.mono hB0)) ⟨HM2.out, ownL_nil _ _ _, by have := HBM.out; omega, Nat.le_refl _⟩).mono ?_
    rintro e w3 hO
    rw [← HRR.out] at hO
    unfold RunO at hO
    cases hr : R.1 with
    | go st =>
      rw [hr] at hO
      obtain ⟨rfl, hl1, hfs, hkb, v', hm'⟩ := hO
      obtain ⟨x, rfl⟩ : ∃ x, st = [x] := by
        match st, hl1 with
        | [x], _ => exact ⟨x, rfl⟩
      have hisr := ownL_isR hm'.2.1
      obtain ⟨a', cap', g, off, rfl, hc', _, ha', hA'⟩ := isS_open hisr
      obtain ⟨rfl, hgb⟩ := ha' (by simp)
      obtain ⟨a5, c5, x0, x1, x2, x3, x4, hxr⟩ := cellsS_open (hA' 0 (by simp))
      simp only [Nat.zero_mul, Nat.add_zero, List.getElem_cons_zero] at x0 x1 x2 x3 x4 hxr
      have HXR := Lib.hid hxr
      have HKB := Lib.hid hkb
      have HGB := Lib.hid hgb
      have hV3 := (hkb.2.2.2.2 bV (by have := HBM.out; omega) (by have := HBM.out; omega)).trans HV2.out
      have hS3 := (hkb.2.2.2.2 bS (by have := HBM.out; omega) (by have := HBM.out; omega)).trans HS2.out
      have hE3 := (hkb.2.2.2.2 bE (by have := HBM.out; omega) (by have := HBM.out; omega)).trans HE2.out
      have hP3 := (hkb.2.2.2.2 bP (by have := HBM.out; omega) (by have := HBM.out; omega)).trans HP2.out
      have hM3 := hm'.1
      have hs3 := hkb.2.2.2.1
      have qP3 := fun o => cell_of hP3 o
      have qM3 := fun o => cell_of hM3 o
      have qV3 := fun o => cell_of hV3 o
      have qS3 := fun o => cell_of hS3 o
      have qE3 := fun o => cell_of hE3 o
      have zV3 := fun o => frozen_of hV3 o
      have zS3 := fun o => frozen_of hS3 o
      have zE3 := fun o => frozen_of hE3 o
      have lM3 : bM < w3.heap.size := by have := HBM.out; omega
      have lP3 : bP < w3.heap.size := by have := HBM.out; omega
      have lg3 : g < w3.heap.size := hgb.2
      have nMV : bM ≠ bV := by have := HBM.out; omega
      have nMS : bM ≠ bS := by have := HBM.out; omega
      have nME : bM ≠ bE := by have := HBM.out; omega
      have nPV : bP ≠ bV := by have := HBM.out; omega
      have nPS : bP ≠ bS := by have := HBM.out; omega
      have nPE : bP ≠ bE := by have := HBM.out; omega
      have ngV : g ≠ bV := by have := HBM.out; have := hgb.1; omega
      have ngS : g ≠ bS := by have := HBM.out; have := hgb.1; omega
      have ngE : g ≠ bE := by have := HBM.out; have := hgb.1; omega
      have HV3 := Lib.hid hV3
      have HS3 := Lib.hid hS3
      have HE3 := Lib.hid hE3
      clear qP hisr hA' ha' hxr hkb hm' hV3 hS3 hE3 hP3 hM3 hgb hl1 hfs
      go_upto_region 6 with fail
      go_region
      obtain ⟨w4, hw4⟩ : ∃ u, u = (((((((w3.setCell ⟨bV, 0, none⟩ (.int .i64 x.k)).setCell ⟨bV, 1, none⟩ (.bool x.b)).setCell ⟨bV, 2, none⟩ (.int .i64 x.n)).setCell ⟨bV, 3, none⟩ (.string x.t)).setCell ⟨bV, 4, none⟩ (.slice a5 x.l.length c5)).setCell ⟨bS, 0, none⟩ (.int .i64 (R.2 : Int))).setCell ⟨bE, 0, none⟩ (.int .i64 0)).drew := ⟨_, rfl⟩
      rw [← hw4]
      have hV4 : w4.heap[bV]? = some (.cells #[.int .i64 x.k, .bool x.b, .int .i64 x.n, .string x.t, .slice a5 x.l.length c5] 36 (0, 0)) := by rw [hw4, drew_heap5, set1_heap nVE, set1_heap nVS, five_cells5 HV3.out]; rfl
      have hS4 : w4.heap[bS]? = some (.cells #[.int .i64 (R.2 : Int)] 3 (0, 0)) := by rw [hw4, drew_heap5, set1_heap nSE, heap_setCell2 ((five_heap nSV _ _ _ _ _ _ _ _ _ _).trans HS3.out)]; rfl
      have hE4 : w4.heap[bE]? = some (.cells #[.int .i64 0] 39 (0, 0)) := by rw [hw4, drew_heap5, heap_setCell2 ((set1_heap nES).trans ((five_heap nEV _ _ _ _ _ _ _ _ _ _).trans HE3.out))]; rfl
      have ho4 : ∀ b, b ≠ bV → b ≠ bS → b ≠ bE → w4.heap[b]? = w3.heap[b]? := fun b k1 k2 k3 => by rw [hw4, drew_heap5, set1_heap k3, set1_heap k2, five_heap k1]
      have hs4 : w4.heap.size = w3.heap.size := by rw [hw4, drew_heap5]; simp only [hsz_setCell2]
      have hos4 : w4.os = w3.os ∧ w4.tape = w3.tape ∧ w4.output = w3.output := by
        rw [hw4]
        exact ⟨by simp only [os1d, os1], by simp only [tp1d, tp1], by simp only [ou1d, ou1]⟩
      clear hw4
      have HB4 : Hid (Below w.heap.size w w4) := ⟨hos4.1.trans (HKB.out.1.trans HB2.out.os), hos4.2.1.trans (HKB.out.2.1.trans HB2.out.tape), hos4.2.2.trans (HKB.out.2.2.1.trans HB2.out.output), by rw [hs4]; exact Nat.le_trans HB2.out.size HKB.out.2.2.2.1,
        fun b hb => (ho4 b (by have := HBS.out; omega) (by have := HBS.out; omega) (by have := HBS.out; omega)).trans ((HKB.out.2.2.2.2 b (Nat.lt_of_lt_of_le hb HB2.out.size) (by have := HBM.out; have := HBS.out; omega)).trans (HB2.out.block b hb))⟩
      have HX4 : Hid (isR w4 (since w.heap.size w4) (.slice a5 x.l.length c5) x.l) := isR_mono HXR.out (fun b hb => ho4 b (by have := hb.1; have := HBM.out; omega) (by have := hb.1; have := HBM.out; omega) (by have := hb.1; have := HBM.out; omega)) (fun b hb => ⟨by have := hb.1; have := HB2.out.size; omega, by rw [hs4]; exact hb.2⟩)
      have qV4 := fun o => cell_of hV4 o
      have qS4 := fun o => cell_of hS4 o
      have qE4 := fun o => cell_of hE4 o
      clear hV4 hS4 hE4 ho4 hs4 hos4 qV3 qS3 qE3 qP3 qM3 zV3 zS3 zE3
      go_wp2_with fail
      refine leaves_cons (f := 24) (args := #[.pointer (some ⟨bP, 0, none⟩), .pointer (some ⟨bV, 0, none⟩), .pointer (some ⟨bS, 0, none⟩), .pointer (some ⟨bE, 0, none⟩)]) (by simp) (by simp [go_sem]) ?_
      refine (run1_idle bP bV bS bE w4).mono ?_
      rintro e u' w5 ⟨rfl, rfl, rfl⟩
      refine ⟨.tuple #[.agg #[.int .i64 x.k, .bool x.b, .int .i64 x.n, .string x.t, .slice a5 x.l.length c5], .int .i64 (R.2 : Int), .int .i64 0], by simp [results, Tryz.results16, go_sem, qV4, qS4, qE4], ?_⟩
      rw [HR.out, endP, hr]
      exact ⟨a5, c5, rfl, HX4.out, HB4.out⟩
    | stop k =>
      rw [hr] at hO
      obtain ⟨rfl, hkb, v', st', hm'⟩ := hO
      have hV3 := (hkb.2.2.2.2 bV (by have := HBM.out; omega) (by have := HBM.out; omega)).trans HV2.out
      have hS3 := (hkb.2.2.2.2 bS (by have := HBM.out; omega) (by have := HBM.out; omega)).trans HS2.out
      have hE3 := (hkb.2.2.2.2 bE (by have := HBM.out; omega) (by have := HBM.out; omega)).trans HE2.out
      have hP3 := (hkb.2.2.2.2 bP (by have := HBM.out; omega) (by have := HBM.out; omega)).trans HP2.out
      refine leaves_cons (f := 24) (args := #[.pointer (some ⟨bP, 0, none⟩), .pointer (some ⟨bV, 0, none⟩), .pointer (some ⟨bS, 0, none⟩), .pointer (some ⟨bE, 0, none⟩)]) (by simp) (by simp [go_sem]) ?_
      refine (run1_panic bP bV bS bE bM k R.2 _ v' w3 _ _ _ _ _ _ _ hP3 hV3 hS3 hE3 hm'.1 (by have := HBM.out; have := HBS.out; omega)).mono ?_
      rintro e u' w4 ⟨rfl, rfl, hV4, hS4, hE4, hk4⟩
      have qV4 := fun o => cell_of hV4 o
      have qS4 := fun o => cell_of hS4 o
      have qE4 := fun o => cell_of hE4 o
      refine ⟨.tuple #[.agg #[.int .i64 0, .bool false, .int .i64 0, .string { data := #[] }, .slice none 0 0], .int .i64 R.2, .int .i64 k], by simp [results, Tryz.results16, go_sem, qV4, qS4, qE4], ?_⟩
      rw [HR.out, endP, hr]
      have hX : ∀ b, b < w.heap.size → ¬ (b = bV ∨ b = bS ∨ b = bE) := fun b hb h => by have := HBS.out; omega
      exact runT_null ⟨hk4.1.trans (hkb.1.trans HB2.out.os), hk4.2.1.trans (hkb.2.1.trans HB2.out.tape), hk4.2.2.1.trans (hkb.2.2.1.trans HB2.out.output), Nat.le_trans HB2.out.size (Nat.le_trans hkb.2.2.2.1 hk4.2.2.2.1),
        fun b hb => (hk4.2.2.2.2 b (Nat.lt_of_lt_of_le hb (Nat.le_trans HB2.out.size hkb.2.2.2.1)) (hX b hb)).trans ((hkb.2.2.2.2 b (Nat.lt_of_lt_of_le hb HB2.out.size) (by have := HBM.out; have := HBS.out; omega)).trans (HB2.out.block b hb))⟩
end Go.Proofs.YtljljhjdlicfeaaGreat
namespace Go.Proofs.YtljljhjdlicfeaaGreat
open Go Go.RowKit
set_option maxRecDepth 100000
set_option linter.unusedVariables false
theorem runP_mem (E : EP) (x : GE) (fuel : Int) (hm : emay x = true) : EvalP E x fuel = ((RunP E (codeOf x) fuel).1, (RunP E (codeOf x) fuel).2.2) := by rw [EvalP, if_pos hm]
theorem evalP_no (E : EP) (x : GE) (fuel : Int) (hm : emay x = false) : EvalP E x fuel = (nullG, 1) := by rw [EvalP, if_neg (by simp [hm])]
set_option maxHeartbeats 3200000 in
theorem veval_any (E : EP) (fE : E.fit) (ev : Value) (B0 : Nat) (x : GE) (fx : x.fit) (fuel : Int) (s sa : Value) (w : World) (B : Nat) (hB : B ≤ w.heap.size) (hB0 : B0 ≤ w.heap.size)
    (hs : isL w 0 B s x.v.l) (hsa : isX w B sa x.args) (hE : EnvOk E ev B0 w) :
    Calls Tryz.prog 8 #[x.agg s sa, .iface 43 ev, .int .i64 fuel] w (GivesO w (EvalP E x fuel)) := by
  obtain ⟨aa, ca, rfl⟩ := isE_form hsa
  obtain ⟨a, c, rfl⟩ := isL_form hs
  have HS := Lib.hid hs
  have HSA := Lib.hid hsa
  have HE := Lib.hid hE
  clear hs hsa hE
  simp only [GE.agg]
  obtain ⟨w0, hw0⟩ : ∃ u, u = (w.alloc (.cells #[.int .i64 x.op, .string x.text, .int .i64 x.v.k, .bool x.v.b, .int .i64 x.v.n, .string x.v.t, .slice a x.v.l.length c, .slice aa x.args.length ca] 38)).alloc (.cells #[.int .i64 0, .bool false, .int .i64 0, .string { data := #[] }, .slice none 0 0] 36) := ⟨_, rfl⟩
  have hb0 : Below w.heap.size w w0 := by rw [hw0]; exact ((Below.refl _ _).alloc (Nat.le_refl _) _).alloc (by simp) _
  have hx0 : w0.heap[w.heap.size]? = some (.cells #[.int .i64 x.op, .string x.text, .int .i64 x.v.k, .bool x.v.b, .int .i64 x.v.n, .string x.v.t, .slice a x.v.l.length c, .slice aa x.args.length ca] 38 (0, 0)) := by rw [hw0]; exact heap_two
  have hv0 : w0.heap[w.heap.size + 1]? = some (.cells #[.int .i64 0, .bool false, .int .i64 0, .string { data := #[] }, .slice none 0 0] 36 (0, 0)) := by rw [hw0]; exact heap_second
  have hz0 : w0.heap.size = w.heap.size + 2 := by rw [hw0]; simp
  go_enter Tryz.func8, Tryz.ntmps8
  go_upto_region 1 with fail
  rw [← hw0]
  have qx := fun o => cell_of hx0 o
  have HV0 := Lib.hid hv0
  have HB0 := Lib.hid hb0
  have HZ0 := Lib.hid hz0
  clear hw0 hv0 hb0 hz0 hx0
  go_wp2_with fail
  refine (Compile_any x fx (.slice a x.v.l.length c) (.slice aa x.args.length ca) w0 B (by have := HB0.out.size; omega) (isL_below HS.out HB0.out hB) (isX_below HSA.out HB0.out hB)).mono ?_
  rintro e w1 ⟨v, rfl, hown, hb1⟩
  have HI1 := Lib.hid (ownI_isI hown)
  obtain ⟨a1, c1, rfl⟩ := isI_form HI1.out
  have HB1 := Lib.hid (below_down HB0.out hb1 (Nat.le_refl _))
  have HV1 := Lib.hid ((hb1.block _ (by have := HZ0.out; omega)).trans HV0.out)
  have HZ1 : Hid (w.heap.size + 2 ≤ w1.heap.size) := by have h1 := hb1.size; have h2 := HZ0.out; rw [Hid]; omega
  clear hown hb1 qx
  cases hm : emay x
  · have he : errOf x = 1 := by simp [errOf, hm]
    have HP := Lib.hid (evalP_no E x fuel hm)
    rw [he]
    have qV := fun o => cell_of HV1.out o
    have zV := fun o => frozen_of HV1.out o
    have lV : w.heap.size + 1 < w1.heap.size := by have := HZ1.out; omega
    clear he hm
    go_wp2_with fail
    refine bodyPost_ret (v := .tuple #[.agg #[.int .i64 0, .bool false, .int .i64 0, .string { data := #[] }, .slice none 0 0], .int .i64 1]) (by simp [results, Tryz.results8, go_sem, qV]) rfl ?_
    rw [HP.out]
    exact ⟨none, 0, rfl, isR_nil5 _ _, set5B HB1.out (by omega) _ _ _ _ _⟩
  · have he : errOf x = 0 := by simp [errOf, hm]
    have HP := Lib.hid (runP_mem E x fuel hm)
    rw [he]
    clear he hm
    obtain ⟨R, hR⟩ : ∃ R, R = RunP E (codeOf x) fuel := ⟨_, rfl⟩
    have HR := Lib.hid hR
    clear hR
    go_wp2_with fail
    refine (vrun_any E fE ev B0 (codeOf x) (by have := codeOf_len x; omega) (codeOf_fit x fx) fuel (.slice a1 (codeOf x).length c1) w1 w1.heap.size (Nat.le_refl _) (by have := HZ1.out; omega) HI1.out (HE.out.keep (HB1.out.mono hB0))).mono ?_
    rw [← HR.out]
    rintro e w2 ⟨a2, c2, rfl, hr2, hb2⟩
    have HB2 := Lib.hid (below_down HB1.out hb2 (Nat.le_refl _))
    have HV2 := Lib.hid ((hb2.block _ (by have := HZ1.out; omega)).trans HV1.out)
    have HZ2 : Hid (w.heap.size + 2 ≤ w2.heap.size) := by have h1 := hb2.size; have h2 := HZ1.out; rw [Hid]; omega
    have HR2 : Hid (isR w2 (fun b => w.heap.size + 2 ≤ b ∧ b < w2.heap.size) (.slice a2 R.1.l.length c2) R.1.l) := isR_mono hr2 (fun b _ => rfl) (fun b h => ⟨Nat.le_trans HZ1.out h.1, h.2⟩)
    have qV := fun o => cell_of HV2.out o
    have zV := fun o => frozen_of HV2.out o
    have lV : w.heap.size + 1 < w2.heap.size := by have := HZ2.out; omega
    have nV : w.heap.size + 1 ≠ w2.heap.size := by omega
    have nV' : w2.heap.size ≠ w.heap.size + 1 := by omega
    clear hr2 hb2
    simp only [GV.agg]
    go_wp2_with fail
    obtain ⟨w3, hw3⟩ : ∃ u, u = (((((w2.setCell ⟨w.heap.size + 1, 0, none⟩ (.int .i64 R.1.k)).setCell ⟨w.heap.size + 1, 1, none⟩ (.bool R.1.b)).setCell ⟨w.heap.size + 1, 2, none⟩ (.int .i64 R.1.n)).setCell ⟨w.heap.size + 1, 3, none⟩ (.string R.1.t)).setCell ⟨w.heap.size + 1, 4, none⟩ (.slice a2 R.1.l.length c2)) := ⟨_, rfl⟩
    rw [← hw3]
    have hb3 : Below w.heap.size w w3 := by rw [hw3]; exact set5B HB2.out (by omega) _ _ _ _ _
    have hV3 : w3.heap[w.heap.size + 1]? = some (.cells #[.int .i64 R.1.k, .bool R.1.b, .int .i64 R.1.n, .string R.1.t, .slice a2 R.1.l.length c2] 36 (0, 0)) := by rw [hw3, five_cells5 HV2.out]; rfl
    have ho3 : ∀ b, b ≠ w.heap.size + 1 → w3.heap[b]? = w2.heap[b]? := fun b hb => by rw [hw3, five_heap hb]
    have hz3 : w3.heap.size = w2.heap.size := by rw [hw3]; simp only [hsz_setCell2]
    clear hw3
    obtain ⟨w4, hw4⟩ : ∃ u, u = w3.alloc (.cells #[.int .i64 R.1.k, .bool R.1.b, .int .i64 R.1.n, .string R.1.t, .slice a2 R.1.l.length c2] 36) := ⟨_, rfl⟩
    rw [← hw4]
    have hb4 : Below w.heap.size w w4 := by rw [hw4]; exact hb3.alloc hb3.size _
    have hV4 : w4.heap[w.heap.size + 1]? = some (.cells #[.int .i64 R.1.k, .bool R.1.b, .int .i64 R.1.n, .string R.1.t, .slice a2 R.1.l.length c2] 36 (0, 0)) := by rw [hw4, Below.heap_alloc _ _ _ (by omega)]; exact hV3
    have ho4 : ∀ b, b < w2.heap.size → b ≠ w.heap.size + 1 → w4.heap[b]? = w2.heap[b]? := fun b h1 h2 => by rw [hw4, Below.heap_alloc _ _ _ (by omega)]; exact ho3 b h2
    have hz4 : w4.heap.size = w2.heap.size + 1 := by rw [hw4, ← hz3]; simp
    clear hw4
    have qV4 := fun o => cell_of hV4 o
    refine bodyPost_ret (v := .tuple #[R.1.agg (.slice a2 R.1.l.length c2), .int .i64 R.2.2]) (by simp [results, Tryz.results8, go_sem, qV4, GV.agg]) rfl ?_
    rw [HP.out, ← HR.out]
    exact ⟨a2, c2, rfl, isR_mono HR2.out (fun b hb => ho4 b hb.2 (by have := hb.1; omega)) (fun b hb => ⟨by have := hb.1; omega, by rw [hz4]; have := hb.2; omega⟩), hb4⟩
end Go.Proofs.YtljljhjdlicfeaaGreat
