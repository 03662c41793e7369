/-
  What the references' own tells of an expression: nodeOk. Conditions: lists and texts shorter than 2^31.
-/
import Derived.Test.YtljljhjdlicfeaaGreatNB
import Derived.Test.YtljljhjdlicfeaaGreatPAB
import Derived.Test.YtljljhjdlicfeaaGreatPAH
namespace Go.Proofs.YtljljhjdlicfeaaGreat
open Go Go.RowKit
set_option maxRecDepth 100000
set_option linter.unusedVariables false
def preR (x : GE) : Bool := ((decide (x.op ≠ 1)) && !same x.v zeroV) || ((decide (x.op ≠ 2 ∧ x.op ≠ 3 ∧ x.op ≠ 4)) && !(x.text.toList == []))
def swR (x : GE) : Bool :=
  if x.op = 1 then (x.args.length == 0) && vmay x.v else if x.op = 2 ∨ x.op = 3 then (x.args.length == 0) && nameB x.text.data.toList else if x.op = 4 then (x.args.length == 1) && nameB x.text.data.toList
  else if x.op = 5 then decide (x.args.length ≤ 4096) else if x.op = 8 ∨ x.op = 9 then x.args.length == 2 else (takesOf x.op != 0) && ((x.args.length : Int) == takesOf x.op)
theorem nodeOk_R (x : GE) : nodeOk x = (!preR x && swR x) := by
  unfold nodeOk preR swR
  generalize hs0 : same x.v zeroV = s0
  generalize nameB x.text.data.toList = s1
  generalize (x.text.toList == []) = s2
  generalize vmay x.v = s3
  generalize x.args.length = len
  generalize hk : takesOf x.op = tk at *
  generalize x.op = op at *
  have h : op = 1 ∨ op = 2 ∨ op = 3 ∨ op = 4 ∨ op = 5 ∨ op = 8 ∨ op = 9 ∨ (op ≠ 1 ∧ op ≠ 2 ∧ op ≠ 3 ∧ op ≠ 4 ∧ op ≠ 5 ∧ op ≠ 8 ∧ op ≠ 9) := by omega
  rw [Bool.eq_iff_iff]
  rcases h with rfl | rfl | rfl | rfl | rfl | rfl | rfl | ⟨h1, h2, h3, h4, h5, h6, h7⟩
  all_goals (cases s0 <;> cases s1 <;> cases s2 <;> cases s3 <;> simp_all)
  all_goals try omega
set_option maxHeartbeats 3200000 in
theorem own_any (x : GE) (fx : x.fit) (s sa : Value) (w : World) (B : Nat) (hB : B ≤ w.heap.size) (hs : isL w 0 B s x.v.l) (hsa : isX w B sa x.args) :
    Calls Tryz.prog 68 #[x.agg s sa] w fun e w' => e = .returned (.bool (nodeOk x)) ∧ Below w.heap.size w w' := by
  obtain ⟨aa, ca, rfl⟩ := isE_form hsa
  obtain ⟨a, c, rfl⟩ := isL_form hs
  have HS := Lib.hid hs
  have HN := Lib.hid (nodeOk_R x)
  have hx := fitE_open fx
  have HX := Lib.hid hx
  have hal := hx.2.2.2.2.1
  clear hs hsa fx hx
  simp only [GE.agg]
  go_enter Tryz.func68, Tryz.ntmps68
  go_upto_region 2 with fail
  obtain ⟨wA, hwA⟩ : ∃ wA, wA = w.alloc (.cells #[.int .i64 x.op, .string x.text, .int .i64 x.v.k, .bool x.v.b, .int .i64 x.v.n, .string x.v.t, .slice a x.v.l.length c, .slice aa x.args.length ca] 38) := ⟨_, rfl⟩
  have hkA : Below w.heap.size w wA := by rw [hwA]; exact (Below.refl w.heap.size w).alloc (Nat.le_refl _) _
  have hxA : wA.heap[w.heap.size]? = some (.cells #[.int .i64 x.op, .string x.text, .int .i64 x.v.k, .bool x.v.b, .int .i64 x.v.n, .string x.v.t, .slice a x.v.l.length c, .slice aa x.args.length ca] 38 (0, 0)) := by rw [hwA]; exact heap_last
  have hzA : wA.heap.size = w.heap.size + 1 := by rw [hwA]; simp
  rw [← hwA]
  clear hwA
  have HA := Lib.hid (And.intro hkA hxA)
  have qA := fun o => cell_of hxA o
  clear hkA hxA
  go_cut [36] (fun s36 wx => s36 = .bool (preR x) ∧ Below wA.heap.size wA wx)
  case first =>
    have hcase : x.op = 1 ∨ x.op = 2 ∨ x.op = 3 ∨ x.op = 4 ∨ (x.op ≠ 1 ∧ x.op ≠ 2 ∧ x.op ≠ 3 ∧ x.op ≠ 4) := by omega
    have htl : (x.text.toList == []) = x.text.toList.isEmpty := by cases x.text.toList <;> rfl
    have HTL := Lib.hid htl
    clear htl
    rcases hcase with h | h | h | h | h
    · have n1 : (x.op != 1) = false := by simp [h]
      have n2 : (x.op != 2) = true := by simp [h]
      have n3 : (x.op != 3) = true := by simp [h]
      have n4 : (x.op != 4) = true := by simp [h]
      have H := Lib.hid h
      clear h
      cases ht : x.text.toList.isEmpty
      all_goals
        have HT := Lib.hid ht
        go_wp2_with fail
        go_meet
        exact ⟨by rw [preR, HTL.out, HT.out, H.out]; rfl, Below.refl _ _⟩
    · have n1 : (x.op != 1) = true := by simp [h]
      have n2 : (x.op != 2) = false := by simp [h]
      have n3 : (x.op != 3) = true := by simp [h]
      have n4 : (x.op != 4) = true := by simp [h]
      have H := Lib.hid h
      clear h
      go_wp2_with fail
      refine (zSame_any x.v zeroV HX.out.2.2.2.1 zeroV_fit _ _ _ B (by omega) (isL_below HS.out HA.out.1 hB) (isL_nil _ _)).mono ?_
      rintro e w2 ⟨rfl, hb⟩
      have HB := Lib.hid hb
      have qB := fun o => cell_of ((hb.block w.heap.size (by omega)).trans HA.out.2) o
      clear hb
      cases hsm : same x.v zeroV
      all_goals
        have HSM := Lib.hid hsm
        clear hsm
        go_wp2_with fail
        go_meet
        exact ⟨by rw [preR, HSM.out, H.out]; simp, HB.out⟩
    · have n1 : (x.op != 1) = true := by simp [h]
      have n2 : (x.op != 2) = true := by simp [h]
      have n3 : (x.op != 3) = false := by simp [h]
      have n4 : (x.op != 4) = true := by simp [h]
      have H := Lib.hid h
      clear h
      go_wp2_with fail
      refine (zSame_any x.v zeroV HX.out.2.2.2.1 zeroV_fit _ _ _ B (by omega) (isL_below HS.out HA.out.1 hB) (isL_nil _ _)).mono ?_
      rintro e w2 ⟨rfl, hb⟩
      have HB := Lib.hid hb
      have qB := fun o => cell_of ((hb.block w.heap.size (by omega)).trans HA.out.2) o
      clear hb
      cases hsm : same x.v zeroV
      all_goals
        have HSM := Lib.hid hsm
        clear hsm
        go_wp2_with fail
        go_meet
        exact ⟨by rw [preR, HSM.out, H.out]; simp, HB.out⟩
    · have n1 : (x.op != 1) = true := by simp [h]
      have n2 : (x.op != 2) = true := by simp [h]
      have n3 : (x.op != 3) = true := by simp [h]
      have n4 : (x.op != 4) = false := by simp [h]
      have H := Lib.hid h
      clear h
      go_wp2_with fail
      refine (zSame_any x.v zeroV HX.out.2.2.2.1 zeroV_fit _ _ _ B (by omega) (isL_below HS.out HA.out.1 hB) (isL_nil _ _)).mono ?_
      rintro e w2 ⟨rfl, hb⟩
      have HB := Lib.hid hb
      have qB := fun o => cell_of ((hb.block w.heap.size (by omega)).trans HA.out.2) o
      clear hb
      cases hsm : same x.v zeroV
      all_goals
        have HSM := Lib.hid hsm
        clear hsm
        go_wp2_with fail
        go_meet
        exact ⟨by rw [preR, HSM.out, H.out]; simp, HB.out⟩
    · obtain ⟨h1, h2, h3, h4⟩ := h
      have n1 : (x.op != 1) = true := by simpa using h1
      have n2 : (x.op != 2) = true := by simpa using h2
      have n3 : (x.op != 3) = true := by simpa using h3
      have n4 : (x.op != 4) = true := by simpa using h4
      have H := Lib.hid (And.intro h1 (And.intro h2 (And.intro h3 h4)))
      clear h1 h2 h3 h4
      go_wp2_with fail
      refine (zSame_any x.v zeroV HX.out.2.2.2.1 zeroV_fit _ _ _ B (by omega) (isL_below HS.out HA.out.1 hB) (isL_nil _ _)).mono ?_
      rintro e w2 ⟨rfl, hb⟩
      have HB := Lib.hid hb
      have qB := fun o => cell_of ((hb.block w.heap.size (by omega)).trans HA.out.2) o
      clear hb
      cases hsm : same x.v zeroV
      all_goals
        have HSM := Lib.hid hsm
        clear hsm
        cases ht : x.text.toList.isEmpty
        all_goals
          have HT := Lib.hid ht
          go_wp2_with fail
          go_meet
          exact ⟨by rw [preR, HSM.out, HTL.out, HT.out, decide_eq_true H.out.1, decide_eq_true (And.intro H.out.2.1 (And.intro H.out.2.2.1 H.out.2.2.2))]; rfl, HB.out⟩
  case rest =>
    obtain ⟨rfl, hbc⟩ := hcut
    have HB := Lib.hid hbc
    have HBW := Lib.hid (below_down HA.out.1 hbc (Nat.le_refl _))
    have qB := fun o => cell_of ((hbc.block w.heap.size (by omega)).trans HA.out.2) o
    have hzc : w.heap.size + 1 ≤ wc.heap.size := by have := hbc.size; omega
    clear hbc qA
    cases hpre : preR x
    rotate_left
    · have HP := Lib.hid hpre
      clear hpre
      go_wp2_with fail
      go_ret
      exact ⟨ret_bool (by rw [HN.out, HP.out]; rfl), HBW.out⟩
    have HP := Lib.hid hpre
    clear hpre
    have HF : Hid (∀ b, swR x = b → nodeOk x = b) := fun b h => by rw [HN.out, HP.out, h]; rfl
    have hcase : x.op = 1 ∨ x.op = 2 ∨ x.op = 3 ∨ x.op = 4 ∨ x.op = 5 ∨ x.op = 8 ∨ x.op = 9 ∨ (x.op ≠ 1 ∧ x.op ≠ 2 ∧ x.op ≠ 3 ∧ x.op ≠ 4 ∧ x.op ≠ 5 ∧ x.op ≠ 8 ∧ x.op ≠ 9) := by omega
    rcases hcase with h | h | h | h | h | h | h | h
    · have e1 : (x.op == 1) = true := by simp [h]
      have e2 : (x.op == 2) = false := by simp [h]
      have e3 : (x.op == 3) = false := by simp [h]
      have e4 : (x.op == 4) = false := by simp [h]
      have e5 : (x.op == 5) = false := by simp [h]
      have e8 : (x.op == 8) = false := by simp [h]
      have e9 : (x.op == 9) = false := by simp [h]
      have H := Lib.hid h
      clear h
      cases hl : (x.args.length == 0)
      · have hl2 : ((x.args.length : Int) == 0) = false := by simp at hl ⊢; omega
        have HL := Lib.hid hl
        clear hl
        go_wp2_with fail
        go_ret
        exact ⟨ret_bool (HF.out _ (by simp only [swR, H.out]; rw [HL.out]; rfl)).symm, HBW.out⟩
      · have hl2 : ((x.args.length : Int) == 0) = true := by simp at hl ⊢; omega
        have HL := Lib.hid hl
        clear hl
        go_wp2_with fail
        refine (rCheck_any x.v HX.out.2.2.2.1 _ _ B (by omega) (isL_below HS.out HBW.out hB)).mono ?_
        rintro e w2 ⟨rfl, hb⟩
        have HB2 := Lib.hid (below_down HBW.out hb (Nat.le_refl _))
        clear hb
        go_wp2_with fail
        go_ret
        exact ⟨ret_bool (HF.out _ (by simp only [swR, H.out]; rw [HL.out]; rfl)).symm, HB2.out⟩
    · have e1 : (x.op == 1) = false := by simp [h]
      have e2 : (x.op == 2) = true := by simp [h]
      have e3 : (x.op == 3) = false := by simp [h]
      have e4 : (x.op == 4) = false := by simp [h]
      have e5 : (x.op == 5) = false := by simp [h]
      have e8 : (x.op == 8) = false := by simp [h]
      have e9 : (x.op == 9) = false := by simp [h]
      have H := Lib.hid h
      clear h
      cases hl : (x.args.length == 0)
      · have hl2 : ((x.args.length : Int) == 0) = false := by simp at hl ⊢; omega
        have HL := Lib.hid hl
        clear hl
        go_wp2_with fail
        go_ret
        exact ⟨ret_bool (HF.out _ (by simp only [swR, H.out]; rw [HL.out]; rfl)).symm, HBW.out⟩
      · have hl2 : ((x.args.length : Int) == 0) = true := by simp at hl ⊢; omega
        have HL := Lib.hid hl
        clear hl
        go_wp2_with fail
        refine (rWord_any x.text HX.out.2.2.1 _).mono ?_
        rintro e w2 ⟨rfl, rfl⟩
        have HB2 := Lib.hid HBW.out
        go_wp2_with fail
        go_ret
        exact ⟨ret_bool (HF.out _ (by simp only [swR, H.out]; rw [HL.out]; rfl)).symm, HB2.out⟩
    · have e1 : (x.op == 1) = false := by simp [h]
      have e2 : (x.op == 2) = false := by simp [h]
      have e3 : (x.op == 3) = true := by simp [h]
      have e4 : (x.op == 4) = false := by simp [h]
      have e5 : (x.op == 5) = false := by simp [h]
      have e8 : (x.op == 8) = false := by simp [h]
      have e9 : (x.op == 9) = false := by simp [h]
      have H := Lib.hid h
      clear h
      cases hl : (x.args.length == 0)
      · have hl2 : ((x.args.length : Int) == 0) = false := by simp at hl ⊢; omega
        have HL := Lib.hid hl
        clear hl
        go_wp2_with fail
        go_ret
        exact ⟨ret_bool (HF.out _ (by simp only [swR, H.out]; rw [HL.out]; rfl)).symm, HBW.out⟩
      · have hl2 : ((x.args.length : Int) == 0) = true := by simp at hl ⊢; omega
        have HL := Lib.hid hl
        clear hl
        go_wp2_with fail
        refine (rWord_any x.text HX.out.2.2.1 _).mono ?_
        rintro e w2 ⟨rfl, rfl⟩
        have HB2 := Lib.hid HBW.out
        go_wp2_with fail
        go_ret
        exact ⟨ret_bool (HF.out _ (by simp only [swR, H.out]; rw [HL.out]; rfl)).symm, HB2.out⟩
    · have e1 : (x.op == 1) = false := by simp [h]
      have e2 : (x.op == 2) = false := by simp [h]
      have e3 : (x.op == 3) = false := by simp [h]
      have e4 : (x.op == 4) = true := by simp [h]
      have e5 : (x.op == 5) = false := by simp [h]
      have e8 : (x.op == 8) = false := by simp [h]
      have e9 : (x.op == 9) = false := by simp [h]
      have H := Lib.hid h
      clear h
      cases hl : (x.args.length == 1)
      · have hl2 : ((x.args.length : Int) == 1) = false := by simp at hl ⊢; omega
        have HL := Lib.hid hl
        clear hl
        go_wp2_with fail
        go_ret
        exact ⟨ret_bool (HF.out _ (by simp only [swR, H.out]; rw [HL.out]; rfl)).symm, HBW.out⟩
      · have hl2 : ((x.args.length : Int) == 1) = true := by simp at hl ⊢; omega
        have HL := Lib.hid hl
        clear hl
        go_wp2_with fail
        refine (rWord_any x.text HX.out.2.2.1 _).mono ?_
        rintro e w2 ⟨rfl, rfl⟩
        have HB2 := Lib.hid HBW.out
        go_wp2_with fail
        go_ret
        exact ⟨ret_bool (HF.out _ (by simp only [swR, H.out]; rw [HL.out]; rfl)).symm, HB2.out⟩
    · have e1 : (x.op == 1) = false := by simp [h]
      have e2 : (x.op == 2) = false := by simp [h]
      have e3 : (x.op == 3) = false := by simp [h]
      have e4 : (x.op == 4) = false := by simp [h]
      have e5 : (x.op == 5) = true := by simp [h]
      have e8 : (x.op == 8) = false := by simp [h]
      have e9 : (x.op == 9) = false := by simp [h]
      have H := Lib.hid h
      clear h
      go_wp2_with fail
      go_ret
      exact ⟨ret_bool (HF.out _ (by simp only [swR, H.out]; simp; omega)).symm, HBW.out⟩
    · have e1 : (x.op == 1) = false := by simp [h]
      have e2 : (x.op == 2) = false := by simp [h]
      have e3 : (x.op == 3) = false := by simp [h]
      have e4 : (x.op == 4) = false := by simp [h]
      have e5 : (x.op == 5) = false := by simp [h]
      have e8 : (x.op == 8) = true := by simp [h]
      have e9 : (x.op == 9) = false := by simp [h]
      have H := Lib.hid h
      clear h
      cases hl : (x.args.length == 2)
      all_goals
        have HL := Lib.hid hl
        clear hl
        go_wp2_with fail
        go_ret
        exact ⟨ret_bool (HF.out _ (by simp only [swR, H.out]; rw [Bool.eq_iff_iff]; simp; omega)).symm, HBW.out⟩
    · have e1 : (x.op == 1) = false := by simp [h]
      have e2 : (x.op == 2) = false := by simp [h]
      have e3 : (x.op == 3) = false := by simp [h]
      have e4 : (x.op == 4) = false := by simp [h]
      have e5 : (x.op == 5) = false := by simp [h]
      have e8 : (x.op == 8) = false := by simp [h]
      have e9 : (x.op == 9) = true := by simp [h]
      have H := Lib.hid h
      clear h
      cases hl : (x.args.length == 2)
      all_goals
        have HL := Lib.hid hl
        clear hl
        go_wp2_with fail
        go_ret
        exact ⟨ret_bool (HF.out _ (by simp only [swR, H.out]; rw [Bool.eq_iff_iff]; simp; omega)).symm, HBW.out⟩
    · obtain ⟨h1, h2, h3, h4, h5, h8, h9⟩ := h
      have e1 : (x.op == 1) = false := by simpa using h1
      have e2 : (x.op == 2) = false := by simpa using h2
      have e3 : (x.op == 3) = false := by simpa using h3
      have e4 : (x.op == 4) = false := by simpa using h4
      have e5 : (x.op == 5) = false := by simpa using h5
      have e8 : (x.op == 8) = false := by simpa using h8
      have e9 : (x.op == 9) = false := by simpa using h9
      have hsw : swR x = ((takesOf x.op != 0) && ((x.args.length : Int) == takesOf x.op)) := by
        rw [swR, if_neg h1, if_neg (by omega), if_neg h4, if_neg h5, if_neg (by omega)]
      have HSW := Lib.hid hsw
      have htk := takesOf_cases x.op
      clear h1 h2 h3 h4 h5 h8 h9 hsw
      go_wp2_with fail
      refine (rTakes_any x.op _).mono ?_
      rintro e w2 ⟨rfl, rfl⟩
      by_cases h0 : takesOf x.op = 0
      · have d0 : decide (0 < takesOf x.op) = false := by simp; omega
        have H0 := Lib.hid h0
        clear h0 htk
        go_wp2_with fail
        go_ret
        exact ⟨ret_bool (HF.out _ (by rw [HSW.out, H0.out]; rfl)).symm, HBW.out⟩
      · have d0 : decide (0 < takesOf x.op) = true := by simp; omega
        have H0 : Hid ((takesOf x.op != 0) = true) := by rw [Hid]; simpa using h0
        clear h0 htk
        go_wp2_with fail
        refine (rTakes_any x.op _).mono ?_
        rintro e w3 ⟨rfl, rfl⟩
        go_wp2_with fail
        go_ret
        exact ⟨ret_bool (HF.out _ (by rw [HSW.out, H0.out]; rfl)).symm, HBW.out⟩
end Go.Proofs.YtljljhjdlicfeaaGreat
