/-
  What the references' Check tells of instructions: may they be run. Conditions: fewer than 2^31 of them, texts and lists shorter than 2^31.
-/
import Derived.Test.YtljljhjdlicfeaaGreatNE
import Derived.Test.YtljljhjdlicfeaaGreatPAB
import Derived.BigQuiet
namespace Go.Proofs.YtljljhjdlicfeaaGreat
open Go Go.RowKit
set_option maxRecDepth 100000
set_option linter.unusedVariables false
def low (hs : List Int) : List Int := hs.map (· - 1)
theorem low_get (hs : List Int) (i : Nat) (h : i < hs.length) : (ints (low hs))[i]? = some (.int .i64 (hs.getD i 0 - 1)) := by
  rw [ints_get _ _ (by simpa [low] using h)]
  simp [low, h]
theorem low_set (hs : List Int) (i : Nat) (x : Int) : (ints (low hs)).setIfInBounds i (.int .i64 x) = ints (low (hs.set i (x + 1))) := by
  rw [ints_set, low, low, List.map_set]
  simp
def layH (n k : Nat) : List Int := (List.range (n + 1)).map fun i => if 0 < i ∧ i < k then -1 else 0
theorem layH_len (n k : Nat) : (layH n k).length = n + 1 := by simp [layH]
theorem layH_none (n : Nat) : layH n 1 = List.replicate (n + 1) 0 := by
  apply List.ext_getElem
  · simp [layH]
  · intro i h1 h2
    simp only [layH, List.getElem_map, List.getElem_range, List.getElem_replicate]
    rw [if_neg (by omega)]
theorem layH_set (n k : Nat) (h0 : 0 < k) (h : k ≤ n) : (layH n k).set k (-1) = layH n (k + 1) := by
  apply List.ext_getElem
  · simp [layH]
  · intro i h1 h2
    rw [List.getElem_set]
    simp only [layH, List.getElem_map, List.getElem_range]
    by_cases e : k = i
    · subst e; rw [if_pos rfl, if_pos (by omega)]
    · rw [if_neg e]
      by_cases hi : 0 < i ∧ i < k
      · rw [if_pos hi, if_pos (by omega)]
      · rw [if_neg hi, if_neg (by omega)]
theorem layH_all (n : Nat) : layH n (n + 1) = low (1 :: List.replicate n 0) := by
  apply List.ext_getElem
  · simp [layH, low]
  · intro i h1 h2
    have hi : i < n + 1 := by simpa [layH] using h1
    simp only [layH, List.getElem_map, List.getElem_range, low]
    cases i with
    | zero => rfl
    | succ i => rw [if_pos (by omega)]; simp
theorem takesR_bound (x : GI) : -1 ≤ takesR x ∧ takesR x ≤ 4096 := by
  unfold takesR
  cases h : okOf x
  · simp
  · have := okOf_off h
    simp; omega
theorem takesR_ok {x : GI} (h : ¬ takesR x < 0) : okOf x = true ∧ takesR x = offOf x := by
  unfold takesR at h ⊢
  cases hk : okOf x
  · rw [hk] at h; simp at h
  · simp
theorem takesR_no {x : GI} (h : takesR x < 0) : okOf x = false := by
  unfold takesR at h
  cases hk : okOf x
  · rfl
  · rw [hk, if_pos rfl] at h; have := okOf_off hk; omega
theorem below_drewN {B : Nat} {w w' : World} (h : Below B w w') (n : Nat) : Below B w (w'.drewN n) := ⟨h.os, h.tape, h.output, h.size, fun b hb => h.block b hb⟩
set_option maxHeartbeats 3200000 in
theorem checkR_any (l : List GI) (hl : l.length ≤ 2147483646) (fl : fitI l) (s : Value) (w : World) (B : Nat) (hB : B ≤ w.heap.size) (hs : isI w B s l) :
    Calls Tryz.prog 28 #[s] w fun e w' => e = .returned (.bool (checkC l)) ∧ Below w.heap.size w w' := by
  obtain ⟨a, c, b, off, rfl, hc, ha, hA⟩ := hs
  have HA := Lib.hid hA
  have Ha := Lib.hid ha
  have HFL := Lib.hid fl
  clear hA ha fl
  have hmk0 : ∀ w, (Instr.makeSlice 50 (.int .i64 ((l.length : Int) + 1)) (.int .i64 ((l.length : Int) + 1))).run Tryz.prog w = .ok (.slice (some ⟨w.heap.size, 0, none⟩) (l.length + 1) (l.length + 1)) (w.alloc (.cells (ints (List.replicate (l.length + 1) 0)) 3)) := fun w => by
    have := run_heights (l.length + 1) (by omega) w
    simpa using this
  go_enter Tryz.func28, Tryz.ntmps28
  go_wp2_with fail
  clear hmk0
  go_loopw [4] (fun i wr => ∃ k : Nat, 1 ≤ k ∧ k ≤ l.length + 1 ∧ i = .int .i64 k ∧ Below w.heap.size w wr ∧ w.heap.size < wr.heap.size ∧ Hid (isH wr w.heap.size (layH l.length k))) (fun i _ => l.length + 1 - (intOf i).toNat)
  case atStart => exact ⟨1, Nat.le_refl _, by omega, rfl, (Below.refl w.heap.size w).alloc (Nat.le_refl _) _, by simp, by rw [Hid, layH_none]; exact heap_last⟩
  case round =>
    obtain ⟨k, hk1, hk, rfl, hbel, hsz, hH⟩ := hrel
    have q1 := fun o => cell_of hH.out o
    have f1 := fun o => frozen_of hH.out o
    by_cases hlt : k < l.length + 1
    · have hu := ints_get (layH l.length k) k (by rw [layH_len]; exact hlt)
      have HB := Lib.hid hbel
      clear hbel
      have hlt' : decide ((k : Int) < (l.length : Int) + 1) = true := by simp; omega
      go_wp2_with fail
      go_roundw
      case rel =>
        refine ⟨k + 1, by omega, by omega, by go_num, HB.out.setCell (by simp) _, by simpa using hsz, ?_⟩
        refine (heap_setCell2 hH.out).trans ?_
        rw [ints_set, layH_set _ _ (by omega) (by omega)]
      case measure => simp [intOf]; omega
    have hke : k = l.length + 1 := by omega
    have HH : Hid (isH wr w.heap.size (low (1 :: List.replicate l.length 0))) := by
      have h := hH.out
      rw [hke, layH_all] at h
      exact h
    clear q1 f1 hH
    have HB := Lib.hid hbel
    clear hbel
    have hlt' : decide ((k : Int) < (l.length : Int) + 1) = false := by simp; omega
    obtain ⟨k0, rfl⟩ : ∃ k0, k0 = k := ⟨_, rfl⟩
    clear hke hlt hk hk1
    go_wp2_with fail
    clear hlt'
    obtain ⟨w0, rfl⟩ : ∃ w0, w0 = wr := ⟨_, rfl⟩
    go_loopw [5] (fun i wr => ∃ (k : Nat) (hs : List Int), k ≤ l.length ∧ i = .int .i64 k ∧ hs.length = l.length + 1 ∧ Below w.heap.size w wr ∧ w.heap.size < wr.heap.size ∧ Hid (isH wr w.heap.size (low hs)) ∧ Hid (inH (k + 1) hs) ∧ Hid (checkC l = checkFrom l.length (l.drop k) k hs)) (fun i _ => l.length - (intOf i).toNat)
    case atStart =>
      refine ⟨0, 1 :: List.replicate l.length 0, Nat.zero_le _, rfl, by simp, HB.out, hsz, HH, fun h hh => ?_, rfl⟩
      simp at hh
      omega
    case round =>
      obtain ⟨k, hs, hk, rfl, hlen, hbel, hsz, hH, hin, hck⟩ := hrel
      have HB := Lib.hid hbel
      clear hbel
      have q1 := fun o => cell_of hH.out o
      by_cases hlt : k < l.length
      rotate_left
      · obtain rfl : k = l.length := by omega
        have hu := low_get hs l.length (by omega)
        have HCK : Hid (checkC l = (hs.getD l.length 0 == 2)) := hck.out.trans (checkFrom_end l _ _ _ (Nat.le_refl _))
        have hr := inH_get hin.out (by omega) l.length
        generalize hs.getD l.length 0 = A at *
        clear hck hin
        go_wp2_with fail
        go_ret
        refine ⟨ret_bool ?_, HB.out⟩
        rw [HCK.out, Bool.eq_iff_iff]
        simp
        omega
      have hst := hck.out.trans (checkFrom_at l k hlt l.length hs)
      obtain ⟨heq1, heq2⟩ := stepR_eq (n := l.length) (x := l[k]) (i := k) (by omega) hin.out hlen hlt
      have HIN2 := Lib.hid (stepC_in (n := l.length) (x := l[k]) (i := k) (by omega) hin.out)
      have HL2 := Lib.hid (stepC_len l.length l[k] k hs)
      have RF : Hid ((stepR l.length l[k] k hs).1 = false → checkC l = false) := fun h => by rw [hst, ← heq1, h]; rfl
      have RT : Hid (∀ hs2, stepR l.length l[k] k hs = (true, hs2) → hs2.length = l.length + 1 ∧ inH ((k + 1 : Nat) + 1) hs2 ∧ checkC l = checkFrom l.length (l.drop (k + 1)) (k + 1) hs2) := fun hs2 h => by
        have e1 : (stepC l.length l[k] k hs).1 = true := by rw [← heq1, h]
        have e2 : hs2 = (stepC l.length l[k] k hs).2 := by rw [← heq2 e1, h]
        refine ⟨by rw [e2, HL2.out]; exact hlen, ?_, by rw [hst, e1, e2]; rfl⟩
        rw [e2]
        have := HIN2.out
        simpa using this
      have HST : Hid (stepR l.length l[k] k hs = stepR l.length l[k] k hs) := rfl
      clear hst heq1 heq2 HIN2 HL2 hck
      obtain ⟨rfl, hb2⟩ := Ha.out (by omega)
      obtain ⟨ax, cx, x0, x1, x2, x3, x4, x5, x6, x7, hsx⟩ := HA.out k hlt
      have hg : ∀ o, wr.cell? ⟨b, o, none⟩ = w.cell? ⟨b, o, none⟩ := fun o => HB.out.cell (p := ⟨b, o, none⟩) (Nat.lt_of_lt_of_le hb2 hB)
      have hu := low_get hs k (by omega)
      have hu1 := low_get hs (k + 1) (by omega)
      have hA0 := inH_get hin.out (by omega) k
      have hD0 := inH_get hin.out (by omega) (k + 1)
      have HX := Lib.hid (HFL.out _ (List.getElem_mem hlt))
      have HLX := Lib.hid (isL_below hsx HB.out hB)
      have hzb : b < wr.heap.size := by omega
      have HIN := Lib.hid hin.out
      clear hsx Ha hin
      go_wp2_with fail
      refine (takesR_any l[k] HX.out.1 HX.out.2 _ _ B (by omega) HLX.out).mono ?_
      rintro e w1 ⟨rfl, hb1⟩
      have HB1 := Lib.hid (below_down HB.out hb1 (Nat.le_refl _))
      have HH1 : Hid (isH w1 w.heap.size (low hs)) := (hb1.block w.heap.size (by omega)).trans hH.out
      have hsz1 : w.heap.size < w1.heap.size := Nat.lt_of_lt_of_le hsz hb1.size
      have hzb1 : b < w1.heap.size := by have := hb1.size; omega
      have hg1 : ∀ o, w1.cell? ⟨b, o, none⟩ = w.cell? ⟨b, o, none⟩ := fun o => HB1.out.cell (p := ⟨b, o, none⟩) (Nat.lt_of_lt_of_le hb2 hB)
      clear hb1 q1 hg hH
      have q1 := fun o => cell_of HH1.out o
      have f1 := fun o => frozen_of HH1.out o
      have htb := takesR_bound l[k]
      have HTO := Lib.hid (@takesR_ok l[k])
      have HTN := Lib.hid (@takesR_no l[k])
      obtain ⟨T, hT⟩ : ∃ T, T = takesR l[k] := ⟨_, rfl⟩
      obtain ⟨A, hAe⟩ : ∃ A, A = hs.getD k 0 := ⟨_, rfl⟩
      obtain ⟨D, hDe⟩ : ∃ D, D = hs.getD (k + 1) 0 := ⟨_, rfl⟩
      rw [← hT] at htb HTO HTN ⊢
      rw [← hAe] at hu hA0
      rw [← hDe] at hu1 hD0
      have HAE := Lib.hid hAe
      have HDE := Lib.hid hDe
      clear hT hAe hDe
      by_cases c0 : okOf l[k] = true ∧ 0 ≤ A - 1 ∧ offOf l[k] ≤ A - 1
      rotate_left
      · have HF : Hid (checkC l = false) := by
          refine RF.out ?_
          rw [stepR, if_neg]
          rw [← HAE.out]
          exact c0
        cases d1 : decide (A - 1 < 0)
        · cases d2 : decide (T < 0)
          · have d3 : decide (A - 1 < T) = true := by
              simp at d1 d2 ⊢
              have h := HTO.out (by omega)
              have : ¬ (offOf l[k] ≤ A - 1) := fun e => c0 ⟨h.1, by omega, e⟩
              omega
            clear c0
            go_wp2_with fail
            go_ret
            exact ⟨ret_bool HF.out.symm, HB1.out⟩
          · clear c0
            go_wp2_with fail
            go_ret
            exact ⟨ret_bool HF.out.symm, HB1.out⟩
        · clear c0
          go_wp2_with fail
          go_ret
          exact ⟨ret_bool HF.out.symm, HB1.out⟩
      have hTn : ¬ T < 0 := fun h => by have := HTN.out h; rw [c0.1] at this; cases this
      have hTo := (HTO.out hTn).2
      have HC0 := Lib.hid c0
      have d1 : decide (A - 1 < 0) = false := by simp; omega
      have d2 : decide (T < 0) = false := by simp; omega
      have d3 : decide (A - 1 < T) = false := by simp; omega
      have HT := Lib.hid hTo
      clear c0 hTn hTo HTO HTN
      by_cases hj : l[k].op = 7 ∨ l[k].op = 8
      rotate_left
      · have e7 : (l[k].op == 7) = false := by simp; omega
        have e8 : (l[k].op == 8) = false := by simp; omega
        have HR : Hid (stepR l.length l[k] k hs = if 0 ≤ D - 1 ∧ D - 1 ≠ A - 1 - T + 1 then (false, hs) else (true, hs.set (k + 1) (A - T + 1))) := by
          rw [Hid, HT.out, HAE.out, HDE.out]
          have h := HC0.out
          rw [HAE.out] at h
          rw [stepR, if_pos h, if_neg hj]
        clear hj
        cases g1 : decide (1 ≤ D)
        · have HR2 : Hid (stepR l.length l[k] k hs = (true, hs.set (k + 1) (A - T + 1))) := by
            rw [Hid, HR.out, if_neg (by simp at g1; omega)]
          go_wp2_with fail
          go_roundw
          case rel =>
            obtain ⟨r1, r2, r3⟩ := RT.out _ HR2.out
            refine ⟨k + 1, _, by omega, by go_num, r1, HB1.out.setCell (by simp) _, by simpa using hsz1, ?_, r2, r3⟩
            refine (heap_setCell2 HH1.out).trans ?_
            rw [low_set]
            first | (congr 4; omega) | (congr 5; omega) | (rw [show A - 1 - T + 1 + 1 = A - T + 1 from by omega])
          case measure => simp [intOf]; omega
        · cases g2 : (D - 1 != A - 1 - T + 1)
          · have HR2 : Hid (stepR l.length l[k] k hs = (true, hs.set (k + 1) (A - T + 1))) := by
              rw [Hid, HR.out, if_neg (by simp at g2; omega)]
            go_wp2_with fail
            go_roundw
            case rel =>
              obtain ⟨r1, r2, r3⟩ := RT.out _ HR2.out
              refine ⟨k + 1, _, by omega, by go_num, r1, HB1.out.setCell (by simp) _, by simpa using hsz1, ?_, r2, r3⟩
              refine (heap_setCell2 HH1.out).trans ?_
              rw [low_set]
              first | (congr 4; omega) | (congr 5; omega) | (rw [show A - 1 - T + 1 + 1 = A - T + 1 from by omega])
            case measure => simp [intOf]; omega
          · have HF : Hid (checkC l = false) := by
              refine RF.out ?_
              rw [HR.out, if_pos (by simp at g1 g2; omega)]
            go_wp2_with fail
            go_ret
            exact ⟨ret_bool HF.out.symm, HB1.out⟩
      · have hto1 : T = 1 := by rw [HT.out]; unfold offOf; rw [if_pos (by omega)]
        subst hto1
        have hsr := HC0.out
        rw [HAE.out] at hsr
        have hJ0 : Hid (stepR l.length l[k] k hs = if l[k].arg ≤ k ∨ (l.length : Int) < l[k].arg ∨ (0 ≤ hs.getD l[k].arg.toNat 0 - 1 ∧ hs.getD l[k].arg.toNat 0 ≠ A) then (false, hs) else
            (if 0 ≤ (hs.set l[k].arg.toNat A).getD (k + 1) 0 - 1 ∧ (hs.set l[k].arg.toNat A).getD (k + 1) 0 ≠ A - 1 then (false, hs) else (true, (hs.set l[k].arg.toNat A).set (k + 1) (A - 1)))) := by
          rw [Hid, HAE.out, stepR, if_pos hsr, if_pos hj]
        clear hsr
        have hj2 : (l[k].op == 7) = true ∨ ((l[k].op == 7) = false ∧ (l[k].op == 8) = true) := by
          rcases hj with e | e
          · exact .inl (by simp [e])
          · exact .inr ⟨by simp [e], by simp [e]⟩
        clear hj
        rcases hj2 with e7 | ⟨e7, e8⟩
        all_goals
          cases m1 : decide (l[k].arg ≤ k)
          rotate_left
          · have HF : Hid (checkC l = false) := by
              refine RF.out ?_
              rw [hJ0.out, if_pos (.inl (by simpa using m1))]
            go_wp2_with fail
            go_quiet (fail)
            go_wp2_with fail
            go_ret
            exact ⟨ret_bool HF.out.symm, below_drewN HB1.out _⟩
          cases m2 : decide ((l.length : Int) < l[k].arg)
          rotate_left
          · have HF : Hid (checkC l = false) := by
              refine RF.out ?_
              rw [hJ0.out, if_pos (.inr (.inl (by simpa using m2)))]
            go_wp2_with fail
            go_quiet (fail)
            go_wp2_with fail
            go_ret
            exact ⟨ret_bool HF.out.symm, below_drewN HB1.out _⟩
          obtain ⟨p, hp⟩ : ∃ p : Nat, l[k].arg = p := ⟨l[k].arg.toNat, by simp at m1; omega⟩
          have hu2 := low_get hs p (by simp at m1 m2; omega)
          have HJ1 := Lib.hid hJ0.out
          rw [hp, Int.toNat_natCast] at HJ1
          rw [hp] at x1 m1 m2
          obtain ⟨J, hJe⟩ : ∃ J, J = hs.getD p 0 := ⟨_, rfl⟩
          rw [← hJe] at hu2 HJ1
          have hpk : k < p := by simp at m1; omega
          have hpl : p ≤ l.length := by simp at m2; omega
          have hpl' : p < l.length + 1 := by omega
          have m1' : decide (p ≤ k) = false := by simp; omega
          have m2' : decide (l.length < p) = false := by simp; omega
          have HP := Lib.hid hp
          clear hp hJe hJ0
          cases m3 : decide (1 ≤ J)
          · have HJ2 : Hid (stepR l.length l[k] k hs = if 0 ≤ (hs.set p A).getD (k + 1) 0 - 1 ∧ (hs.set p A).getD (k + 1) 0 ≠ A - 1 then (false, hs) else (true, (hs.set p A).set (k + 1) (A - 1))) := by
              rw [Hid, HJ1.out, if_neg (by simp at m3; omega)]
            go_wp2_with fail
            go_quiet (fail)
            have HBq := Lib.hid (below_drewN HB1.out nq)
            have HHq : Hid (isH (w1.drewN nq) w.heap.size (low hs)) := HH1.out
            obtain ⟨wq, hwq⟩ : ∃ wq, wq = w1.drewN nq := ⟨_, rfl⟩
            have hszq : w.heap.size < wq.heap.size := by rw [hwq]; exact hsz1
            rw [← hwq] at HBq HHq ⊢
            clear hwq q1 f1
            have q1 := fun o => cell_of HHq.out o
            have f1 := fun o => frozen_of HHq.out o
            go_upto_region 18 with fail
            have HB2 := Lib.hid (HBq.out.setCell (p := ⟨w.heap.size, p, none⟩) (Nat.le_refl _) (.int .i64 (A - 1)))
            have HH2 : Hid (isH (wq.setCell ⟨w.heap.size, p, none⟩ (.int .i64 (A - 1))) w.heap.size (low (hs.set p A))) := by
              refine (heap_setCell2 HHq.out).trans ?_
              rw [low_set, show A - 1 + 1 = A from by omega]
            obtain ⟨w2, hw2⟩ : ∃ w2, w2 = wq.setCell ⟨w.heap.size, p, none⟩ (.int .i64 (A - 1)) := ⟨_, rfl⟩
            have hsz2 : w.heap.size < w2.heap.size := by rw [hw2]; simpa using hszq
            rw [← hw2] at HB2 HH2 ⊢
            clear hw2 q1 f1 hu hu1 hu2
            have q1 := fun o => cell_of HH2.out o
            have f1 := fun o => frozen_of HH2.out o
            have hu := low_get (hs.set p A) k (by simp; omega)
            rw [getD_set hs p k A (by omega), if_neg (by omega), ← HAE.out] at hu
            have hu1 := low_get (hs.set p A) (k + 1) (by simp; omega)
            have hD1 : 0 ≤ (hs.set p A).getD (k + 1) 0 ∧ (hs.set p A).getD (k + 1) 0 ≤ k + 1 := by
              rw [getD_set hs p (k + 1) A (by omega), ← HDE.out]
              split <;> omega
            obtain ⟨D2, hD2⟩ : ∃ D2, D2 = (hs.set p A).getD (k + 1) 0 := ⟨_, rfl⟩
            rw [← hD2] at hu1 HJ2 hD1
            clear hD2
            cases g1 : decide (1 ≤ D2)
            · have HR2 : Hid (stepR l.length l[k] k hs = (true, (hs.set p A).set (k + 1) (A - 1))) := by
                rw [Hid, HJ2.out, if_neg (by simp at g1; omega)]
              go_wp2_with fail
              go_roundw
              case rel =>
                obtain ⟨r1, r2, r3⟩ := RT.out _ HR2.out
                refine ⟨k + 1, _, by omega, by go_num, r1, HB2.out.setCell (by simp) _, by simpa using hsz2, ?_, r2, r3⟩
                refine (heap_setCell2 HH2.out).trans ?_
                rw [low_set, show A - 1 - 1 + 1 = A - 1 from by omega]
              case measure => simp [intOf]; omega
            · cases g2 : (D2 - 1 != A - 1 - 1)
              · have HR2 : Hid (stepR l.length l[k] k hs = (true, (hs.set p A).set (k + 1) (A - 1))) := by
                  rw [Hid, HJ2.out, if_neg (by simp at g2; omega)]
                go_wp2_with fail
                go_roundw
                case rel =>
                  obtain ⟨r1, r2, r3⟩ := RT.out _ HR2.out
                  refine ⟨k + 1, _, by omega, by go_num, r1, HB2.out.setCell (by simp) _, by simpa using hsz2, ?_, r2, r3⟩
                  refine (heap_setCell2 HH2.out).trans ?_
                  rw [low_set, show A - 1 - 1 + 1 = A - 1 from by omega]
                case measure => simp [intOf]; omega
              · have HF : Hid (checkC l = false) := by
                  refine RF.out ?_
                  rw [HJ2.out, if_pos (by simp at g1 g2; omega)]
                go_wp2_with fail
                go_ret
                exact ⟨ret_bool HF.out.symm, HB2.out⟩
          · cases m4 : (J - 1 != A - 1)
            · have HJ2 : Hid (stepR l.length l[k] k hs = if 0 ≤ (hs.set p A).getD (k + 1) 0 - 1 ∧ (hs.set p A).getD (k + 1) 0 ≠ A - 1 then (false, hs) else (true, (hs.set p A).set (k + 1) (A - 1))) := by
                rw [Hid, HJ1.out, if_neg (by simp at m3 m4; omega)]
              go_wp2_with fail
              go_quiet (fail)
              have HBq := Lib.hid (below_drewN HB1.out nq)
              have HHq : Hid (isH (w1.drewN nq) w.heap.size (low hs)) := HH1.out
              obtain ⟨wq, hwq⟩ : ∃ wq, wq = w1.drewN nq := ⟨_, rfl⟩
              have hszq : w.heap.size < wq.heap.size := by rw [hwq]; exact hsz1
              rw [← hwq] at HBq HHq ⊢
              clear hwq q1 f1
              have q1 := fun o => cell_of HHq.out o
              have f1 := fun o => frozen_of HHq.out o
              go_upto_region 18 with fail
              have HB2 := Lib.hid (HBq.out.setCell (p := ⟨w.heap.size, p, none⟩) (Nat.le_refl _) (.int .i64 (A - 1)))
              have HH2 : Hid (isH (wq.setCell ⟨w.heap.size, p, none⟩ (.int .i64 (A - 1))) w.heap.size (low (hs.set p A))) := by
                refine (heap_setCell2 HHq.out).trans ?_
                rw [low_set, show A - 1 + 1 = A from by omega]
              obtain ⟨w2, hw2⟩ : ∃ w2, w2 = wq.setCell ⟨w.heap.size, p, none⟩ (.int .i64 (A - 1)) := ⟨_, rfl⟩
              have hsz2 : w.heap.size < w2.heap.size := by rw [hw2]; simpa using hszq
              rw [← hw2] at HB2 HH2 ⊢
              clear hw2 q1 f1 hu hu1 hu2
              have q1 := fun o => cell_of HH2.out o
              have f1 := fun o => frozen_of HH2.out o
              have hu := low_get (hs.set p A) k (by simp; omega)
              rw [getD_set hs p k A (by omega), if_neg (by omega), ← HAE.out] at hu
              have hu1 := low_get (hs.set p A) (k + 1) (by simp; omega)
              have hD1 : 0 ≤ (hs.set p A).getD (k + 1) 0 ∧ (hs.set p A).getD (k + 1) 0 ≤ k + 1 := by
                rw [getD_set hs p (k + 1) A (by omega), ← HDE.out]
                split <;> omega
              obtain ⟨D2, hD2⟩ : ∃ D2, D2 = (hs.set p A).getD (k + 1) 0 := ⟨_, rfl⟩
              rw [← hD2] at hu1 HJ2 hD1
              clear hD2
              cases g1 : decide (1 ≤ D2)
              · have HR2 : Hid (stepR l.length l[k] k hs = (true, (hs.set p A).set (k + 1) (A - 1))) := by
                  rw [Hid, HJ2.out, if_neg (by simp at g1; omega)]
                go_wp2_with fail
                go_roundw
                case rel =>
                  obtain ⟨r1, r2, r3⟩ := RT.out _ HR2.out
                  refine ⟨k + 1, _, by omega, by go_num, r1, HB2.out.setCell (by simp) _, by simpa using hsz2, ?_, r2, r3⟩
                  refine (heap_setCell2 HH2.out).trans ?_
                  rw [low_set, show A - 1 - 1 + 1 = A - 1 from by omega]
                case measure => simp [intOf]; omega
              · cases g2 : (D2 - 1 != A - 1 - 1)
                · have HR2 : Hid (stepR l.length l[k] k hs = (true, (hs.set p A).set (k + 1) (A - 1))) := by
                    rw [Hid, HJ2.out, if_neg (by simp at g2; omega)]
                  go_wp2_with fail
                  go_roundw
                  case rel =>
                    obtain ⟨r1, r2, r3⟩ := RT.out _ HR2.out
                    refine ⟨k + 1, _, by omega, by go_num, r1, HB2.out.setCell (by simp) _, by simpa using hsz2, ?_, r2, r3⟩
                    refine (heap_setCell2 HH2.out).trans ?_
                    rw [low_set, show A - 1 - 1 + 1 = A - 1 from by omega]
                  case measure => simp [intOf]; omega
                · have HF : Hid (checkC l = false) := by
                    refine RF.out ?_
                    rw [HJ2.out, if_pos (by simp at g1 g2; omega)]
                  go_wp2_with fail
                  go_ret
                  exact ⟨ret_bool HF.out.symm, HB2.out⟩
            · have HF : Hid (checkC l = false) := by
                refine RF.out ?_
                rw [HJ1.out, if_pos (by simp at m3 m4; omega)]
              go_wp2_with fail
              go_quiet (fail)
              go_wp2_with fail
              go_ret
              exact ⟨ret_bool HF.out.symm, below_drewN HB1.out _⟩
end Go.Proofs.YtljljhjdlicfeaaGreat
