/-
  What code.Check tells of instructions: checkC. Conditions: fewer than 2^31 of them, texts and lists shorter than 2^31.
-/
import Derived.Test.YtnmolgmchoihmaaDoorReach
import Derived.Test.YtnmolgmchoihmaaDoorShape
import Derived.WalkMore
import Derived.ScopeJumps
namespace Go.Proofs.YtnmolgmchoihmaaDoor
open Go Go.RowKit
set_option maxRecDepth 100000
set_option linter.unusedVariables false
theorem checkFrom_at (l : List GI) (k : Nat) (hk : k < l.length) (n : Nat) (hs : List Int) : checkFrom n (l.drop k) k hs = ((stepC n l[k] k hs).1 && checkFrom n (l.drop (k + 1)) (k + 1) (stepC n l[k] k hs).2) := by
  rw [List.drop_eq_getElem_cons hk, checkFrom]
theorem checkFrom_end (l : List GI) (n : Nat) (hs : List Int) (k : Nat) (hk : l.length ≤ k) : checkFrom n (l.drop k) k hs = (hs.getD n 0 == 2) := by
  rw [List.drop_of_length_le hk, checkFrom]
/-- a scope whose run comes to its one label and then goes on as from a jump -/
theorem wp_scope_label {P : Program} {a : Act} {w : World} {Q : Exit → Act → World → Prop} {c rest : Code} (l : Nat) (J : Act → World → Prop) (μ : Act → World → Nat) (hf : findLabel c l = some (Code.skip.seq rest))
    (first : (∀ a w, J a w → rest.wp P (Exit.jump l J Q) a w) → c.wp P (Exit.jump l J Q) a w)
    (pass : ∀ a w, J a w → rest.wp P (Exit.jump l (fun a' w' => J a' w' ∧ μ a' w' < μ a w) Q) a w) : (Code.scope c).wp P Q a w :=
  wp_scope_jumps l J μ hf (first fun a w h => Code.wp_mono (fun e a' w' h' => by
    cases e with
    | goto l' => exact ⟨h'.1, h'.2.1⟩
    | _ => exact h') (pass a w h)) (fun a w h => wp_seq (wp_skip (pass a w h)))
/-- the frame at the label -/
def FrameC (x0 x3 x4 : Value) (k : Int) (a : Act) : Prop := a = ⟨#[x0, a.tmps.getD 1 undef, .bool false, x3, x4, .int .i64 k, a.tmps.getD 6 undef, a.tmps.getD 7 undef, a.tmps.getD 8 undef, a.tmps.getD 9 undef, a.tmps.getD 10 undef, a.tmps.getD 11 undef, a.tmps.getD 12 undef, a.tmps.getD 13 undef, a.tmps.getD 14 undef, a.tmps.getD 15 undef, a.tmps.getD 16 undef, a.tmps.getD 17 undef, a.tmps.getD 18 undef, a.tmps.getD 19 undef, a.tmps.getD 20 undef, a.tmps.getD 21 undef, a.tmps.getD 22 undef, a.tmps.getD 23 undef, a.tmps.getD 24 undef, a.tmps.getD 25 undef, a.tmps.getD 26 undef, a.tmps.getD 27 undef, a.tmps.getD 28 undef, a.tmps.getD 29 undef, a.tmps.getD 30 undef, a.tmps.getD 31 undef, a.tmps.getD 32 undef, a.tmps.getD 33 undef, a.tmps.getD 34 undef, a.tmps.getD 35 undef, a.tmps.getD 36 undef, a.tmps.getD 37 undef, a.tmps.getD 38 undef, a.tmps.getD 39 undef, a.tmps.getD 40 undef, a.tmps.getD 41 undef, a.tmps.getD 42 undef, a.tmps.getD 43 undef, a.tmps.getD 44 undef, a.tmps.getD 45 undef, a.tmps.getD 46 undef, a.tmps.getD 47 undef, a.tmps.getD 48 undef, a.tmps.getD 49 undef, a.tmps.getD 50 undef, a.tmps.getD 51 undef, a.tmps.getD 52 undef, a.tmps.getD 53 undef, a.tmps.getD 54 undef, a.tmps.getD 55 undef, a.tmps.getD 56 undef, a.tmps.getD 57 undef, a.tmps.getD 58 undef, a.tmps.getD 59 undef, a.tmps.getD 60 undef, a.tmps.getD 61 undef, a.tmps.getD 62 undef, a.tmps.getD 63 undef, a.tmps.getD 64 undef, a.tmps.getD 65 undef, a.tmps.getD 66 undef, a.tmps.getD 67 undef, a.tmps.getD 68 undef, a.tmps.getD 69 undef, a.tmps.getD 70 undef, a.tmps.getD 71 undef, a.tmps.getD 72 undef, a.tmps.getD 73 undef, a.tmps.getD 74 undef, a.tmps.getD 75 undef, a.tmps.getD 76 undef, a.tmps.getD 77 undef, a.tmps.getD 78 undef, a.tmps.getD 79 undef, a.tmps.getD 80 undef, a.tmps.getD 81 undef, a.tmps.getD 82 undef, a.tmps.getD 83 undef, a.tmps.getD 84 undef, a.tmps.getD 85 undef, a.tmps.getD 86 undef, a.tmps.getD 87 undef, a.tmps.getD 88 undef, a.tmps.getD 89 undef, a.tmps.getD 90 undef, a.tmps.getD 91 undef, a.tmps.getD 92 undef, a.tmps.getD 93 undef, a.tmps.getD 94 undef, a.tmps.getD 95 undef, a.tmps.getD 96 undef, a.tmps.getD 97 undef, a.tmps.getD 98 undef, a.tmps.getD 99 undef, a.tmps.getD 100 undef, a.tmps.getD 101 undef, a.tmps.getD 102 undef, a.tmps.getD 103 undef], []⟩
theorem frameC_open {x0 x3 x4 : Value} {k : Int} {a : Act} (h : FrameC x0 x3 x4 k a) : ∃ u : Nat → Value, a = ⟨#[x0, u 1, .bool false, x3, x4, .int .i64 k, u 6, u 7, u 8, u 9, u 10, u 11, u 12, u 13, u 14, u 15, u 16, u 17, u 18, u 19, u 20, u 21, u 22, u 23, u 24, u 25, u 26, u 27, u 28, u 29, u 30, u 31, u 32, u 33, u 34, u 35, u 36, u 37, u 38, u 39, u 40, u 41, u 42, u 43, u 44, u 45, u 46, u 47, u 48, u 49, u 50, u 51, u 52, u 53, u 54, u 55, u 56, u 57, u 58, u 59, u 60, u 61, u 62, u 63, u 64, u 65, u 66, u 67, u 68, u 69, u 70, u 71, u 72, u 73, u 74, u 75, u 76, u 77, u 78, u 79, u 80, u 81, u 82, u 83, u 84, u 85, u 86, u 87, u 88, u 89, u 90, u 91, u 92, u 93, u 94, u 95, u 96, u 97, u 98, u 99, u 100, u 101, u 102, u 103], []⟩ := ⟨fun n => a.tmps.getD n undef, h⟩
set_option maxHeartbeats 3200000 in
theorem Check_any (l : List GI) (hl : l.length ≤ 2147483646) (fl : fitI l) (s : Value) (w : World) (B : Nat) (hB : B ≤ w.heap.size) (hs : isI w B s l) :
    Calls Tryd.prog 18 #[s] w fun e w' => e = .returned (.bool (checkC l)) ∧ Below w.heap.size w w' := by
  obtain ⟨a, c, b, off, rfl, hc, ha, hA⟩ := hs
  have HA := Lib.hid hA
  have Ha := Lib.hid ha
  have HFL := Lib.hid fl
  clear hA ha fl
  have hmk0 : ∀ w, (Instr.makeSlice 65 (.int .i64 ((l.length : Int) + 1)) (.int .i64 ((l.length : Int) + 1))).run Tryd.prog w = .ok (.slice (some ⟨w.heap.size, 0, none⟩) (l.length + 1) (l.length + 1)) (w.alloc (.cells (ints (List.replicate (l.length + 1) 0)) 3)) := fun w => by
    have := run_heights (l.length + 1) (by omega) w
    simpa using this
  have hz0 : (ints (List.replicate (l.length + 1) 0))[0]? = some (.int .i64 0) := by rw [ints_get _ _ (by simp)]; simp
  go_enter Tryd.func18, Tryd.ntmps18
  go_wp2_with fail
  have hb0 : Below w.heap.size w (w.alloc (.cells (ints (List.replicate (l.length + 1) 0)) 3)) := (Below.refl w.heap.size w).alloc (Nat.le_refl _) _
  refine wp_scope_label 0 (fun a' wr => ∃ (k : Nat) (hs : List Int), FrameC (.slice a l.length c) (.pointer (some ⟨w.heap.size + 1, 0, none⟩)) (.func (.func 31) #[] #[.pointer (some ⟨w.heap.size + 1, 0, none⟩)]) k a' ∧ k ≤ l.length ∧ hs.length = l.length + 1 ∧
    Below w.heap.size w wr ∧ w.heap.size + 2 ≤ wr.heap.size ∧ Hid (wr.heap[w.heap.size + 1]? = some (.cells #[.slice (some ⟨w.heap.size, 0, none⟩) (l.length + 1) (l.length + 1)] 65 (0, 0))) ∧ Hid (isH wr w.heap.size hs) ∧ Hid (inH (k + 1) hs) ∧
    Hid (checkC l = checkFrom l.length (l.drop k) k hs)) (fun a' _ => l.length - (intOf (a'.tmps.getD 5 undef)).toNat) rfl ?_ ?_
  · intro hp
    go_wp2_with fail
    go_step3
    apply_assumption
    apply hp
    refine ⟨0, 1 :: List.replicate l.length 0, rfl, Nat.zero_le _, by simp, ?_, by simp, ?_, ?_, ?_, ?_⟩
    · exact ((Below.refl w.heap.size w).alloc (Nat.le_refl _) _).alloc (by simp) _
    · exact heap_second
    · show _ = _
      rw [heap_two]; rw [ints_set]; rfl
    · intro h hh
      simp at hh
      omega
    · rfl
  · rintro a' wr ⟨k, hs, hfr, hk, hlen, hbel, hsz, hc1, hg1, hin, hck⟩
    obtain ⟨u, rfl⟩ := frameC_open hfr
    clear hfr
    have q1 := fun o => cell_of hc1.out o
    have q2 := fun o => cell_of hg1.out o
    by_cases hlt : k < l.length
    rotate_left
    · have hu := ints_get hs l.length (by omega)
      have HCK : Hid (checkC l = (hs.getD l.length 0 == 2)) := hck.out.trans (checkFrom_end l _ _ _ (by omega))
      have HB := Lib.hid hbel
      generalize hs.getD l.length 0 = A at *
      clear hbel hck hin
      go_wp2_with fail
      simp only [Exit.jump]
      go_ret
      exact ⟨ret_bool HCK.out.symm, HB.out⟩
    have hst := hck.out.trans (checkFrom_at l k hlt l.length hs)
    obtain ⟨rfl, hb2⟩ := Ha.out (by omega)
    obtain ⟨ax, cx, x0, x1, x2, x3, x4, x5, x6, x7, hsx⟩ := HA.out k hlt
    have hg : ∀ o, wr.cell? ⟨b, o, none⟩ = w.cell? ⟨b, o, none⟩ := fun o => hbel.cell (p := ⟨b, o, none⟩) (Nat.lt_of_lt_of_le hb2 hB)
    have hu := ints_get hs k (by omega)
    have hA0 := inH_get hin.out (by omega) k
    have HX := Lib.hid (HFL.out _ (List.getElem_mem hlt))
    have hlx := isL_below hsx hbel hB
    have HLX := Lib.hid hlx
    have HCK := Lib.hid hst
    have HST : Hid (stepC l.length l[k] k hs = stepC l.length l[k] k hs) := rfl
    have HIN2 := Lib.hid (stepC_in (n := l.length) (x := l[k]) (i := k) (by omega) hin.out)
    have HL2 := Lib.hid (stepC_len l.length l[k] k hs)
    obtain ⟨A, hAe⟩ : ∃ A, A = hs.getD k 0 := ⟨_, rfl⟩
    rw [← hAe] at hu hA0
    have HAE := Lib.hid hAe
    have hzb : b < wr.heap.size := by omega
    clear hck hst hsx hlx hAe Ha hin
    go_wp2_with fail
    refine (shape_any l[k] HX.out.1 HX.out.2 _ _ B (by omega) HLX.out).mono ?_
    rintro e w1 ⟨rfl, hb1⟩
    have hbw1 : Below w.heap.size w w1 := below_down hbel hb1 (Nat.le_refl _)
    have hc1' := (hb1.block (w.heap.size + 1) (by omega)).trans hc1.out
    have hg1' : isH w1 w.heap.size hs := (hb1.block w.heap.size (by omega)).trans hg1.out
    have hsz1 : w.heap.size + 2 ≤ w1.heap.size := Nat.le_trans hsz hb1.size
    have HC1 := Lib.hid hc1'
    have HG1 := Lib.hid hg1'
    have HBW1 := Lib.hid hbw1
    clear hbw1 hc1' hg1' q1 q2 hg hb1 hbel hc1 hg1
    have RF : Hid ((stepC l.length l[k] k hs).1 = false → checkC l = false) := fun h => by rw [HCK.out, h]; rfl
    cases hok : okOf l[k]
    · have HOK := Lib.hid hok
      clear hok
      go_wp2_with fail
      simp only [Exit.jump]
      go_ret
      exact ⟨ret_bool (RF.out (by simp [stepC, HOK.out])).symm, HBW1.out⟩
    have hof := okOf_off hok
    have hlf := leftOf_le l[k]
    have HOK := Lib.hid hok
    clear hok
    by_cases hlo : A - 1 < offOf l[k]
    · have hlo' : decide (A - 1 < offOf l[k]) = true := by simpa using hlo
      have HLO := Lib.hid hlo
      clear hlo
      go_wp2_with fail
      simp only [Exit.jump]
      go_ret
      refine ⟨ret_bool (RF.out ?_).symm, HBW1.out⟩
      rw [stepC, if_neg]
      intro h; have := h.2.1; rw [← HAE.out] at this; have := HLO.out; omega
    have hlo' : decide (A - 1 < offOf l[k]) = false := by simp; omega
    go_wp2_with fail
    refine (reach_any hs _ (k + 1) (by simp) (A - 1 - offOf l[k] + leftOf l[k]) (by omega) (by omega) (by omega) (by omega) (w.heap.size + 1) w.heap.size (by omega) w1 (by rw [hlen]; exact HC1.out) HG1.out).mono ?_
    rintro e w2 ⟨rfl, hg2, hk2⟩
    have hb2w : Below w.heap.size w w2 := HBW1.out.trans (hk2.below (by omega))
    have hc2 := (hk2.block (w.heap.size + 1) (by omega) (by omega)).trans HC1.out
    have hsz2 : w.heap.size + 2 ≤ w2.heap.size := Nat.le_trans hsz1 hk2.size
    have HB2 := Lib.hid hb2w
    have HC2 := Lib.hid hc2
    have HG2 := Lib.hid hg2
    have hg' : ∀ o, w2.cell? ⟨b, o, none⟩ = w.cell? ⟨b, o, none⟩ := fun o => hb2w.cell (p := ⟨b, o, none⟩) (Nat.lt_of_lt_of_le hb2 hB)
    have hzb2 : b < w2.heap.size := by omega
    clear hb2w hc2 hk2 hg2 HC1 HG1
    cases hr : reachB hs (k + 1) (A - 1 - offOf l[k] + leftOf l[k])
    · have HRB := Lib.hid hr
      clear hr
      go_wp2_with fail
      simp only [Exit.jump]
      go_ret
      refine ⟨ret_bool (RF.out ?_).symm, HB2.out⟩
      rw [stepC, if_neg]
      intro h; have := h.2.2; rw [← HAE.out, HRB.out] at this; cases this
    have HRB := Lib.hid hr
    clear hr
    have HS1 : Hid (stepC l.length l[k] k hs = if l[k].op = 7 ∨ l[k].op = 8 then
      (if l[k].arg ≤ k ∨ (l.length : Int) < l[k].arg then (false, hs) else
        (reachB (hs.set (k + 1) (A - offOf l[k] + leftOf l[k])) l[k].arg.toNat (A - 1), (hs.set (k + 1) (A - offOf l[k] + leftOf l[k])).set l[k].arg.toNat A))
      else (true, hs.set (k + 1) (A - offOf l[k] + leftOf l[k]))) := by
      rw [Hid]
      rw [stepC, if_pos]
      · rw [← HAE.out]
      · rw [← HAE.out]; exact ⟨HOK.out, by omega, HRB.out⟩
    have hset : A - 1 - offOf l[k] + leftOf l[k] + 1 = A - offOf l[k] + leftOf l[k] := by omega
    rw [hset] at HG2
    clear hset
    by_cases hj : l[k].op = 7 ∨ l[k].op = 8
    rotate_left
    · have e7 : (l[k].op == 7) = false := by simp; omega
      have e8 : (l[k].op == 8) = false := by simp; omega
      have HS2 : Hid (stepC l.length l[k] k hs = (true, hs.set (k + 1) (A - offOf l[k] + leftOf l[k]))) := HS1.out.trans (if_neg hj)
      have HJ := Lib.hid hj
      clear hj
      go_wp2_with fail
      go_step3
      refine ⟨rfl, ⟨k + 1, hs.set (k + 1) (A - offOf l[k] + leftOf l[k]), ?_, by omega, by simpa using hlen, HB2.out, hsz2, HC2, HG2, ?_, ?_⟩, ?_⟩
      · rw [FrameC, show ((k + 1 : Nat) : Int) = (k : Int) + 1 from rfl]; rfl
      · have := HIN2.out; rw [HS2.out] at this; exact this
      · rw [Hid, HCK.out, HS2.out]; rfl
      · simp [intOf]; omega
    have HS2 : Hid (stepC l.length l[k] k hs = (if l[k].arg ≤ k ∨ (l.length : Int) < l[k].arg then (false, hs) else
        (reachB (hs.set (k + 1) (A - offOf l[k] + leftOf l[k])) l[k].arg.toNat (A - 1), (hs.set (k + 1) (A - offOf l[k] + leftOf l[k])).set l[k].arg.toNat A))) := HS1.out.trans (if_pos hj)
    clear HS1
    have hj2 : ((l[k].op == 7) = true) ∨ ((l[k].op == 7) = false ∧ (l[k].op == 8) = true) := by
      rcases hj with h | h
      · exact .inl (by simp [h])
      · exact .inr ⟨by simp [h], by simp [h]⟩
    clear hj
    have HL1 : Hid ((hs.set (k + 1) (A - offOf l[k] + leftOf l[k])).length = l.length + 1) := by rw [Hid]; simpa using hlen
    by_cases ha1 : l[k].arg ≤ k
    · have d1 : decide (l[k].arg ≤ (k : Int)) = true := by simpa using ha1
      have H1 := Lib.hid ha1
      clear ha1
      rcases hj2 with e7 | ⟨e7, e8⟩
      all_goals
        go_wp2_with fail
        simp only [Exit.jump]
        go_ret
        exact ⟨ret_bool (RF.out (by rw [HS2.out, if_pos (.inl H1.out)])).symm, HB2.out⟩
    have d1 : decide (l[k].arg ≤ (k : Int)) = false := by simpa using ha1
    by_cases ha2 : (l.length : Int) < l[k].arg
    · have d2 : decide ((l.length : Int) < l[k].arg) = true := by simpa using ha2
      have H2 := Lib.hid ha2
      clear ha1 ha2
      rcases hj2 with e7 | ⟨e7, e8⟩
      all_goals
        go_wp2_with fail
        simp only [Exit.jump]
        go_ret
        exact ⟨ret_bool (RF.out (by rw [HS2.out, if_pos (.inr H2.out)])).symm, HB2.out⟩
    have d2 : decide ((l.length : Int) < l[k].arg) = false := by simpa using ha2
    have HS3 : Hid (stepC l.length l[k] k hs = (reachB (hs.set (k + 1) (A - offOf l[k] + leftOf l[k])) l[k].arg.toNat (A - 1), (hs.set (k + 1) (A - offOf l[k] + leftOf l[k])).set l[k].arg.toNat A)) := HS2.out.trans (if_neg (by omega))
    clear HS2
    have HR2 : Calls Tryd.prog 31 #[.int .i64 l[k].arg, .int .i64 (A - 1), .pointer (some ⟨w.heap.size + 1, 0, none⟩)] w2 (fun e w' => e = .returned (.bool (reachB (hs.set (k + 1) (A - offOf l[k] + leftOf l[k])) l[k].arg.toNat (A - 1))) ∧ isH w' w.heap.size ((hs.set (k + 1) (A - offOf l[k] + leftOf l[k])).set l[k].arg.toNat A) ∧ Kept w.heap.size (w.heap.size + 1) w2 w') := by
      have := reach_any (hs.set (k + 1) (A - offOf l[k] + leftOf l[k])) l[k].arg l[k].arg.toNat (by omega) (A - 1) (by rw [HL1.out]; omega) (by rw [HL1.out]; omega) (by omega) (by omega) (w.heap.size + 1) w.heap.size (by omega) w2 (by rw [HL1.out]; exact HC2.out) HG2.out
      rwa [show A - 1 + 1 = A from by omega] at this
    have HR := Lib.hid HR2
    clear HR2 ha1 ha2
    rcases hj2 with e7 | ⟨e7, e8⟩
    all_goals
      go_wp2_with fail
      refine HR.out.mono ?_
      rintro e w3 ⟨rfl, hg3, hk3⟩
      have HB3 := Lib.hid (HB2.out.trans (hk3.below (by omega)))
      have hsz3 : w.heap.size + 2 ≤ w3.heap.size := Nat.le_trans hsz2 hk3.size
      have HC3 := Lib.hid ((hk3.block (w.heap.size + 1) (by omega) (by omega)).trans HC2.out)
      have HG3 := Lib.hid hg3
      clear hg3 hk3
      cases hr3 : reachB (hs.set (k + 1) (A - offOf l[k] + leftOf l[k])) l[k].arg.toNat (A - 1)
      · have HRB3 := Lib.hid hr3
        clear hr3
        go_wp2_with fail
        simp only [Exit.jump]
        go_ret
        exact ⟨ret_bool (RF.out (by rw [HS3.out]; exact HRB3.out)).symm, HB3.out⟩
      · have HRB3 := Lib.hid hr3
        clear hr3
        go_wp2_with fail
        go_step3
        refine ⟨rfl, ⟨k + 1, (hs.set (k + 1) (A - offOf l[k] + leftOf l[k])).set l[k].arg.toNat A, ?_, by omega, by simpa using hlen, HB3.out, hsz3, HC3, HG3, ?_, ?_⟩, ?_⟩
        · rw [FrameC, show ((k + 1 : Nat) : Int) = (k : Int) + 1 from rfl]; rfl
        · have := HIN2.out; rw [HS3.out] at this; exact this
        · rw [Hid, HCK.out, HS3.out, HRB3.out]; rfl
        · simp [intOf]; omega
end Go.Proofs.YtnmolgmchoihmaaDoor
