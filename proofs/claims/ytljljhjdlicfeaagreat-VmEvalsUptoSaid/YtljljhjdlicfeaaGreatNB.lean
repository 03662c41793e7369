/-
  Plain words on expressions that may be: what code.May and the references' May tell. Conditions: none.
-/
import Derived.Test.YtljljhjdlicfeaaGreatPAF
import Derived.Test.YtljljhjdlicfeaaGreatMC
import Derived.Test.YtljljhjdlicfeaaGreatNA
import Derived.Test.YtljljhjdlicfeaaGreatMO
import Derived.Test.YtljljhjdlicfeaaGreatMD
import Derived.Deep.DeepCutAuto
import Derived.Deep.CutBlock
namespace Go.Proofs.YtljljhjdlicfeaaGreat
open Go Go.RowKit
set_option linter.unusedVariables false
def zeroV : GV := ⟨0, false, 0, { data := #[] }, []⟩
def nodeOk (x : GE) : Bool :=
  if x.op = 1 then vmay x.v && (x.text.toList == []) && (x.args.length == 0)
  else same x.v zeroV && (if x.op = 2 ∨ x.op = 3 then nameB x.text.data.toList && (x.args.length == 0)
    else if x.op = 4 then nameB x.text.data.toList && (x.args.length == 1)
    else if x.op = 5 then (x.text.toList == []) && decide (x.args.length ≤ 4096)
    else if x.op = 8 ∨ x.op = 9 then (x.text.toList == []) && (x.args.length == 2)
    else (takesOf x.op != 0) && (x.text.toList == []) && ((x.args.length : Int) == takesOf x.op))
theorem zeroV_fit : zeroV.fit := by simp only [zeroV, GV.fit, fitL]; refine ⟨by omega, by omega, by omega, by omega, ?_, by simp, trivial⟩; decide
mutual
/-- may the expression be, so deep, so many counted; and how many are counted then -/
def mayC : GE → Nat → Nat → Bool × Nat
  | ⟨op, text, v, args⟩, d, n => if 4096 < n + 1 ∨ 30 < d ∨ nodeOk ⟨op, text, v, args⟩ = false then (false, n + 1) else maysC args (d + 1) (n + 1)
def maysC : List GE → Nat → Nat → Bool × Nat
  | [], _, n => (true, n)
  | x :: r, d, n => if (mayC x d n).1 = true then maysC r d (mayC x d n).2 else (false, (mayC x d n).2)
end
theorem mayC_eq (x : GE) (d n : Nat) : mayC x d n = if 4096 < n + 1 ∨ 30 < d ∨ nodeOk x = false then (false, n + 1) else maysC x.args (d + 1) (n + 1) := by
  cases x; rw [mayC]
mutual
theorem mayC_le : ∀ (x : GE) (d n : Nat), (mayC x d n).1 = true → (mayC x d n).2 ≤ 4096
  | ⟨op, text, v, args⟩, d, n, h => by
    rw [mayC] at h ⊢
    split at h
    · cases h
    · rename_i hc
      rw [if_neg hc]
      exact maysC_le args (d + 1) (n + 1) (by omega) h
theorem maysC_le : ∀ (l : List GE) (d n : Nat), n ≤ 4096 → (maysC l d n).1 = true → (maysC l d n).2 ≤ 4096
  | [], d, n, hn, _ => by simpa [maysC] using hn
  | x :: r, d, n, hn, h => by
    rw [maysC] at h ⊢
    split at h
    · rename_i hc
      rw [if_pos hc]
      exact maysC_le r d _ (mayC_le x d n hc) h
    · cases h
end
def namedOf (op : Int) : Bool := decide (op = 2 ∨ op = 3 ∨ op = 4)
def argcOf (op : Int) (len : Nat) : Int := if op = 1 ∨ op = 2 ∨ op = 3 then 0 else if op = 4 then 1 else if op = 5 then (if (4096 : Int) < len then 4096 else len) else if op = 8 ∨ op = 9 then 2 else takesOf op
def swOk (x : GE) : Bool := if x.op = 1 then vmay x.v else if x.op = 2 ∨ x.op = 3 ∨ x.op = 4 ∨ x.op = 5 ∨ x.op = 8 ∨ x.op = 9 then true else takesOf x.op != 0
theorem nodeOk_sw (x : GE) : nodeOk x = ((decide (x.op = 1) || same x.v zeroV) && (swOk x && !((namedOf x.op && !nameB x.text.data.toList) || ((!namedOf x.op && !(x.text.toList == [])) || ((x.args.length : Int) != argcOf x.op x.args.length))))) := by
  unfold nodeOk swOk namedOf argcOf
  generalize same x.v zeroV = s0
  generalize nameB x.text.data.toList = s1
  generalize (x.text.toList == []) = s2
  generalize vmay x.v = s3
  generalize x.args.length = len
  have ht := takesOf_cases x.op
  generalize hk : takesOf x.op = tk at *
  generalize x.op = op at *
  have h : op = 1 ∨ op = 2 ∨ op = 3 ∨ op = 4 ∨ op = 5 ∨ op = 8 ∨ op = 9 ∨ (op ≠ 1 ∧ op ≠ 2 ∧ op ≠ 3 ∧ op ≠ 4 ∧ op ≠ 5 ∧ op ≠ 8 ∧ op ≠ 9) := by omega
  rw [Bool.eq_iff_iff]
  rcases h with rfl | rfl | rfl | rfl | rfl | rfl | rfl | ⟨h1, h2, h3, h4, h5, h6, h7⟩
  all_goals (cases s0 <;> cases s1 <;> cases s2 <;> cases s3 <;> simp_all)
  all_goals omega
end Go.Proofs.YtljljhjdlicfeaaGreat
namespace Go.Proofs.YtljljhjdlicfeaaGreat
open Go Go.RowKit
set_option maxRecDepth 100000
set_option linter.unusedVariables false
def MayPost (x : GE) (d n cb : Nat) (w : World) (e : Ending) (w' : World) : Prop :=
  e = .returned (.bool (mayC x d n).1) ∧ w'.heap[cb]? = some (.cells #[.int .i64 ((mayC x d n).2 : Nat)] 96 (0, 0)) ∧ Kept cb (cb + 1) w w'
def MayC (x : GE) (d : Nat) : Prop := ∀ (n cb : Nat) (s sa : Value) (w : World) (B : Nat), n ≤ 4096 → B ≤ cb → cb < w.heap.size → w.heap[cb]? = some (.cells #[.int .i64 (n : Nat)] 96 (0, 0)) →
  isL w 0 B s x.v.l → isX w B sa x.args → Calls Tryz.prog 37 #[.pointer (some ⟨cb, 0, none⟩), x.agg s sa, .int .i64 (d : Nat)] w (MayPost x d n cb w)
set_option maxHeartbeats 1600000 in
theorem may_step (x : GE) (fx : x.fit) (d : Nat) (hd : d ≤ 31) (h : d ≤ 30 → ∀ y ∈ x.args, MayC y (d + 1)) : MayC x d := by
  intro n cb s sa w B hn hB hcb hc hs hsa
  obtain ⟨aa, ca, ea⟩ := isE_form hsa
  obtain ⟨a, c, e⟩ := isL_form hs
  subst e ea
  have HS := Lib.hid hs
  have HSA := Lib.hid hsa
  have HH := Lib.hid h
  have q1 := fun o => cell_of hc o
  have f1 := fun o => frozen_of hc o
  have HC := Lib.hid hc
  have hx := fitE_open fx
  have HX := Lib.hid hx
  have HE := Lib.hid (mayC_eq x d n)
  clear hs hsa h hc hx fx
  simp only [GE.agg]
  by_cases h1 : 4096 < n + 1
  · go_enter Tryz.func37, Tryz.ntmps37
    go_wp2_with fail
    go_ret
    refine ⟨ret_bool (by rw [HE.out, if_pos (.inl h1)]), ?_, ?_⟩
    · rw [Below.heap_alloc _ _ _ (by rw [hsz_setCell]; omega), heap_setCell HC.out, HE.out, if_pos (.inl h1)]; rfl
    · exact (Kept.refl cb (cb + 1) w).setIn (Nat.le_refl _) (by omega) _ _ |>.alloc _
  by_cases h2 : 30 < d
  · go_enter Tryz.func37, Tryz.ntmps37
    go_wp2_with fail
    go_ret
    refine ⟨ret_bool (by rw [HE.out, if_pos (.inr (.inl h2))]), ?_, ?_⟩
    · rw [Below.heap_alloc _ _ _ (by rw [hsz_setCell]; omega), heap_setCell HC.out, HE.out, if_pos (.inr (.inl h2))]; rfl
    · exact (Kept.refl cb (cb + 1) w).setIn (Nat.le_refl _) (by omega) _ _ |>.alloc _
  go_enter Tryz.func37, Tryz.ntmps37
  go_upto_region 2 with fail
  obtain ⟨wA, hwA⟩ : ∃ wA, wA = (w.setCell ⟨cb, 0, none⟩ (.int .i64 ((n : Int) + 1))).alloc (.cells #[.int .i64 x.op, .string x.text, .int .i64 x.v.k, .bool x.v.b, .int .i64 x.v.n, .string x.v.t, .slice a x.v.l.length c, .slice aa x.args.length ca] 38) := ⟨_, rfl⟩
  have hkA : Kept cb (cb + 1) w wA := by rw [hwA]; exact (Kept.refl cb (cb + 1) w).setIn (Nat.le_refl _) (by omega) _ _ |>.alloc _
  have hcA : wA.heap[cb]? = some (.cells #[.int .i64 ((n + 1 : Nat) : Int)] 96 (0, 0)) := by
    rw [hwA, Below.heap_alloc _ _ _ (by rw [hsz_setCell]; omega), heap_setCell HC.out]; rfl
  have hxA : wA.heap[w.heap.size]? = some (.cells #[.int .i64 x.op, .string x.text, .int .i64 x.v.k, .bool x.v.b, .int .i64 x.v.n, .string x.v.t, .slice a x.v.l.length c, .slice aa x.args.length ca] 38 (0, 0)) := by
    rw [hwA]
    have := @heap_last (w.setCell ⟨cb, 0, none⟩ (.int .i64 ((n : Int) + 1))) (.cells #[.int .i64 x.op, .string x.text, .int .i64 x.v.k, .bool x.v.b, .int .i64 x.v.n, .string x.v.t, .slice a x.v.l.length c, .slice aa x.args.length ca] 38)
    rwa [hsz_setCell] at this
  rw [← hwA]
  have HA := Lib.hid (And.intro hkA (And.intro hcA hxA))
  have RF : Hid (∀ w', Below wA.heap.size wA w' → nodeOk x = false → MayPost x d n cb w (.returned (.bool false)) w') := fun w' hb hno => by
    refine ⟨ret_bool (by rw [HE.out, if_pos (.inr (.inr hno))]), ?_, hkA.trans ⟨hb.os, hb.tape, hb.output, hb.size, fun b _ hb' => hb.block b hb'⟩⟩
    rw [hb.block cb (Nat.lt_of_lt_of_le hcb hkA.size), hcA, HE.out, if_pos (.inr (.inr hno))]
  have qA := fun o => cell_of hxA o
  have qC := fun o => cell_of hcA o
  have hzA : w.heap.size < wA.heap.size := by rw [hwA, show ∀ (v : World) (o : Obj), (v.alloc o).heap.size = v.heap.size + 1 from fun v o => by simp, hsz_setCell]; omega
  clear hwA hkA hcA hxA q1 f1
  go_cut [38] (fun s38 wx => s38 = .bool (!(decide (x.op = 1) || same x.v zeroV)) ∧ Below wA.heap.size wA wx)
  case first =>
    by_cases h3 : x.op = 1
    · have h4 : (x.op != 1) = false := by simp [h3]
      have H3 := Lib.hid h3
      clear h3
      go_wp2_with fail
      go_meet
      refine ⟨?_, Below.refl _ _⟩
      rw [H3.out, show decide (4096 < (n : Int) + 1) = false from by simp; omega, show decide ((30 : Int) < (d : Int)) = false from by simp; omega]
      rfl
    · have h4 : (x.op != 1) = true := by simp [h3]
      have H3 := Lib.hid h3
      clear h3
      go_wp2_with fail
      refine (vSame_any x.v zeroV HX.out.2.2.2.1 zeroV_fit _ _ _ B (Nat.le_trans hB (Nat.le_trans (Nat.le_of_lt hcb) (Nat.le_of_lt hzA))) (isL_below HS.out (HA.out.1.below (Nat.le_of_lt hcb)) hB) (isL_nil _ _)).mono ?_
      rintro e w2 ⟨rfl, hb⟩
      go_wp2_with fail
      go_meet
      refine ⟨?_, hb⟩
      rw [show decide (x.op = 1) = false from by simpa using H3.out, show decide (4096 < (n : Int) + 1) = false from by simp; omega, show decide ((30 : Int) < (d : Int)) = false from by simp; omega]
      simp
  case rest =>
    obtain ⟨rfl, hbc⟩ := hcut
    have HB := Lib.hid hbc
    have qB : ∀ o, wc.cell? ⟨w.heap.size, o, none⟩ = (#[.int .i64 x.op, .string x.text, .int .i64 x.v.k, .bool x.v.b, .int .i64 x.v.n, .string x.v.t, .slice a x.v.l.length c, .slice aa x.args.length ca] : Array Value)[o]? := fun o => by
      rw [hbc.cell (p := ⟨w.heap.size, o, none⟩) hzA, qA]
    clear hbc qA
    cases hpre : (decide (x.op = 1) || same x.v zeroV)
    · have HP := Lib.hid hpre
      clear hpre
      go_wp2_with fail
      go_ret
      have hno : nodeOk x = false := by
        have := HP.out
        simp at this
        rw [nodeOk, if_neg this.1, this.2]
        rfl
      exact RF.out _ HB.out hno
    · have HP := Lib.hid hpre
      clear hpre
      go_wp2_with fail
      go_quiet (fail)
      obtain ⟨wD, hwD⟩ : ∃ wD, wD = wc.drewN nq := ⟨_, rfl⟩
      rw [← hwD]
      have hbD : Below wA.heap.size wA wD := by
        rw [hwD]; exact ⟨HB.out.os, HB.out.tape, HB.out.output, HB.out.size, fun b hb => HB.out.block b hb⟩
      have qD : ∀ o, wD.cell? ⟨w.heap.size, o, none⟩ = (#[.int .i64 x.op, .string x.text, .int .i64 x.v.k, .bool x.v.b, .int .i64 x.v.n, .string x.v.t, .slice a x.v.l.length c, .slice aa x.args.length ca] : Array Value)[o]? := fun o => by
        rw [hwD]; exact qB o
      have HBD := Lib.hid hbD
      clear hwD hbD qB HB
      go_upto_block 0 with fail
      go_cut [7, 8] (fun s7 s8 wx => s7 = .bool (namedOf x.op) ∧ s8 = .int .i64 (argcOf x.op x.args.length) ∧ Below wA.heap.size wA wx ∧ Hid (swOk x = true))
      case first =>
        have hcase : x.op = 1 ∨ x.op = 2 ∨ x.op = 3 ∨ x.op = 4 ∨ x.op = 5 ∨ x.op = 8 ∨ x.op = 9 ∨ (x.op ≠ 1 ∧ x.op ≠ 2 ∧ x.op ≠ 3 ∧ x.op ≠ 4 ∧ x.op ≠ 5 ∧ x.op ≠ 8 ∧ x.op ≠ 9) := by omega
        have hzD : w.heap.size < wD.heap.size := Nat.lt_of_lt_of_le hzA HBD.out.size
        have hBD : B ≤ wD.heap.size := by omega
        have hSD : Hid (isL wD 0 B (.slice a x.v.l.length c) x.v.l) := isL_below (isL_below HS.out (HA.out.1.below (Nat.le_of_lt hcb)) hB) HBD.out (by omega)
        rcases hcase with h | h | h | h | h | h | h | h
        · have e1 : (x.op == 1) = true := by simp [h]
          have H := Lib.hid h
          clear h
          go_wp2_with fail
          refine (vCheck_any x.v HX.out.2.2.2.1 _ _ B hBD hSD.out).mono ?_
          rintro e w2 ⟨rfl, hb⟩
          cases hv : vmay x.v
          · have HV := Lib.hid hv
            clear hv
            go_wp2_with fail
            go_ret
            refine RF.out _ (below_down HBD.out hb (Nat.le_refl _)) ?_
            rw [nodeOk_sw, show swOk x = false from by rw [swOk, if_pos H.out]; exact HV.out]
            simp
          · have HV := Lib.hid hv
            clear hv
            go_wp2_with fail
            go_meet
            exact ⟨by rw [H.out]; rfl, by rw [H.out]; rfl, below_down HBD.out hb (Nat.le_refl _), by rw [swOk, if_pos H.out]; exact HV.out⟩
        · have e1 : (x.op == 1) = false := by simp [h]
          have e2 : (x.op == 2) = true := by simp [h]
          have e3 : (x.op == 3) = false := by simp [h]
          have e4 : (x.op == 4) = false := by simp [h]
          have e5 : (x.op == 5) = false := by simp [h]
          have e8 : (x.op == 8) = false := by simp [h]
          have e9 : (x.op == 9) = false := by simp [h]
          have H := Lib.hid h
          clear h
          go_wp2_with fail
          go_meet
          exact ⟨by rw [H.out]; rfl, by rw [H.out]; rfl, HBD.out, by unfold swOk; rw [H.out]; rfl⟩
        · have e1 : (x.op == 1) = false := by simp [h]
          have e2 : (x.op == 2) = false := by simp [h]
          have e3 : (x.op == 3) = true := by simp [h]
          have e4 : (x.op == 4) = false := by simp [h]
          have e5 : (x.op == 5) = false := by simp [h]
          have e8 : (x.op == 8) = false := by simp [h]
          have e9 : (x.op == 9) = false := by simp [h]
          have H := Lib.hid h
          clear h
          go_wp2_with fail
          go_meet
          exact ⟨by rw [H.out]; rfl, by rw [H.out]; rfl, HBD.out, by unfold swOk; rw [H.out]; rfl⟩
        · have e1 : (x.op == 1) = false := by simp [h]
          have e2 : (x.op == 2) = false := by simp [h]
          have e3 : (x.op == 3) = false := by simp [h]
          have e4 : (x.op == 4) = true := by simp [h]
          have e5 : (x.op == 5) = false := by simp [h]
          have e8 : (x.op == 8) = false := by simp [h]
          have e9 : (x.op == 9) = false := by simp [h]
          have H := Lib.hid h
          clear h
          go_wp2_with fail
          go_meet
          exact ⟨by rw [H.out]; rfl, by rw [H.out]; rfl, HBD.out, by unfold swOk; rw [H.out]; rfl⟩
        · have e1 : (x.op == 1) = false := by simp [h]
          have e2 : (x.op == 2) = false := by simp [h]
          have e3 : (x.op == 3) = false := by simp [h]
          have e4 : (x.op == 4) = false := by simp [h]
          have e5 : (x.op == 5) = true := by simp [h]
          have e8 : (x.op == 8) = false := by simp [h]
          have e9 : (x.op == 9) = false := by simp [h]
          have H := Lib.hid h
          clear h
          by_cases hm : (4096 : Int) < (x.args.length : Int)
          · go_wp2_with fail
            go_meet
            exact ⟨by rw [H.out]; rfl, by rw [H.out]; unfold argcOf; rw [if_neg (by decide), if_neg (by decide), if_pos rfl, if_pos hm], HBD.out, by unfold swOk; rw [H.out]; rfl⟩
          · go_wp2_with fail
            go_meet
            exact ⟨by rw [H.out]; rfl, by rw [H.out]; unfold argcOf; rw [if_neg (by decide), if_neg (by decide), if_pos rfl, if_neg (by omega)], HBD.out, by unfold swOk; rw [H.out]; rfl⟩
        · have e1 : (x.op == 1) = false := by simp [h]
          have e2 : (x.op == 2) = false := by simp [h]
          have e3 : (x.op == 3) = false := by simp [h]
          have e4 : (x.op == 4) = false := by simp [h]
          have e5 : (x.op == 5) = false := by simp [h]
          have e8 : (x.op == 8) = true := by simp [h]
          have e9 : (x.op == 9) = false := by simp [h]
          have H := Lib.hid h
          clear h
          go_wp2_with fail
          go_meet
          exact ⟨by rw [H.out]; rfl, by rw [H.out]; rfl, HBD.out, by unfold swOk; rw [H.out]; rfl⟩
        · have e1 : (x.op == 1) = false := by simp [h]
          have e2 : (x.op == 2) = false := by simp [h]
          have e3 : (x.op == 3) = false := by simp [h]
          have e4 : (x.op == 4) = false := by simp [h]
          have e5 : (x.op == 5) = false := by simp [h]
          have e8 : (x.op == 8) = false := by simp [h]
          have e9 : (x.op == 9) = true := by simp [h]
          have H := Lib.hid h
          clear h
          go_wp2_with fail
          go_meet
          exact ⟨by rw [H.out]; rfl, by rw [H.out]; rfl, HBD.out, by unfold swOk; rw [H.out]; rfl⟩
        · have e1 : (x.op == 1) = false := by simp; omega
          have e2 : (x.op == 2) = false := by simp; omega
          have e3 : (x.op == 3) = false := by simp; omega
          have e4 : (x.op == 4) = false := by simp; omega
          have e5 : (x.op == 5) = false := by simp; omega
          have e8 : (x.op == 8) = false := by simp; omega
          have e9 : (x.op == 9) = false := by simp; omega
          have H := Lib.hid h
          clear h
          go_wp2_with fail
          refine (takes_any _ _).mono ?_
          rintro e w2 ⟨rfl, rfl⟩
          by_cases htk : takesOf x.op = 0
          · have HT := Lib.hid htk
            have ht0 : (takesOf x.op == 0) = true := by simp [htk]
            clear htk
            go_wp2_with fail
            go_ret
            refine RF.out _ HBD.out ?_
            rw [nodeOk_sw, show swOk x = false from by have := H.out; have h2 := HT.out; unfold swOk; rw [if_neg (by omega), if_neg (by omega), h2]; rfl]
            simp
          · have HT := Lib.hid htk
            have ht0 : (takesOf x.op == 0) = false := by simp [htk]
            clear htk
            go_wp2_with fail
            go_meet
            have h9 := H.out
            exact ⟨by unfold namedOf; rw [show decide (x.op = 2 ∨ x.op = 3 ∨ x.op = 4) = false from by simp; omega], by unfold argcOf; rw [if_neg (by omega), if_neg (by omega), if_neg (by omega), if_neg (by omega)], HBD.out, by unfold swOk; rw [if_neg (by omega), if_neg (by omega), bne_iff_ne]; exact HT.out⟩
      case rest =>
        obtain ⟨rfl, rfl, hbE, hsw⟩ := hcut
        have qE : ∀ o, wc.cell? ⟨w.heap.size, o, none⟩ = (#[.int .i64 x.op, .string x.text, .int .i64 x.v.k, .bool x.v.b, .int .i64 x.v.n, .string x.v.t, .slice a x.v.l.length c, .slice aa x.args.length ca] : Array Value)[o]? := fun o => by
          rw [hbE.cell (p := ⟨w.heap.size, o, none⟩) hzA]; exact cell_of HA.out.2.2 o
        have HBE := Lib.hid hbE
        clear hbE qD
        have hlen := HX.out.2.2.2.2.1
        have hts := HX.out.2.2.1
        have NO : Hid ((((namedOf x.op && !nameB x.text.data.toList) || ((!namedOf x.op && !(x.text.toList == [])) || ((x.args.length : Int) != argcOf x.op x.args.length))) = true) → nodeOk x = false) := fun hx => by
          rw [nodeOk_sw, hx]; simp
        have YES : Hid ((((namedOf x.op && !nameB x.text.data.toList) || ((!namedOf x.op && !(x.text.toList == [])) || ((x.args.length : Int) != argcOf x.op x.args.length))) = false) → nodeOk x = true) := fun hx => by
          rw [nodeOk_sw, hx, HP.out, hsw.out]; rfl
        go_upto_region 23 with fail
        generalize hnm : namedOf x.op = nm at *
        generalize hac : argcOf x.op x.args.length = ac at *
        have HN := Lib.hid hnm
        have HAC := Lib.hid hac
        clear hnm hac
        go_cut [89] (fun s89 wx => s89 = .bool ((nm && !nameB x.text.data.toList) || ((!nm && !(x.text.toList == [])) || ((x.args.length : Int) != ac))) ∧ Below wA.heap.size wA wx)
        case first =>
          cases nm
          · cases htx : (x.text.toList == [])
            · have htx2 : x.text.toList.isEmpty = false := by simpa using htx
              have HT := Lib.hid htx
              clear htx
              go_wp2_with fail
              go_meet
              refine ⟨?_, HBE.out⟩
              simp [htx2]
            · have htx2 : x.text.toList.isEmpty = true := by simpa using htx
              have HT := Lib.hid htx
              clear htx
              go_wp2_with fail
              go_meet
              refine ⟨?_, HBE.out⟩
              simp [htx2]
          · go_wp2_with fail
            refine (name_any x.text hts _).mono ?_
            rintro e w2 ⟨rfl, rfl⟩
            cases hnb : nameB x.text.data.toList
            · have HNB := Lib.hid hnb
              clear hnb
              go_wp2_with fail
              go_meet
              exact ⟨by rw [HNB.out]; rfl, HBE.out⟩
            · have HNB := Lib.hid hnb
              clear hnb
              go_wp2_with fail
              go_meet
              refine ⟨?_, HBE.out⟩
              rw [HNB.out]
              simp
        case rest =>
          obtain ⟨rfl, hbF⟩ := hcut
          have qF : ∀ o, wc.cell? ⟨w.heap.size, o, none⟩ = (#[.int .i64 x.op, .string x.text, .int .i64 x.v.k, .bool x.v.b, .int .i64 x.v.n, .string x.v.t, .slice a x.v.l.length c, .slice aa x.args.length ca] : Array Value)[o]? := fun o => by
            rw [hbF.cell (p := ⟨w.heap.size, o, none⟩) hzA]; exact cell_of HA.out.2.2 o
          have HBF := Lib.hid hbF
          clear hbF qE HBE HBD
          cases hbad : ((nm && !nameB x.text.data.toList) || ((!nm && !(x.text.toList == [])) || ((x.args.length : Int) != ac)))
          rotate_left
          · have hno := NO.out hbad
            clear hbad
            go_wp2_with fail
            go_ret
            exact RF.out _ HBF.out hno
          have HY := Lib.hid (YES.out hbad)
          clear hbad
          have hcc : wc.heap[cb]? = some (.cells #[.int .i64 ((n + 1 : Nat) : Int)] 96 (0, 0)) := by
            rw [HBF.out.block cb (by omega)]; exact HA.out.2.1
          have HCC := Lib.hid hcc
          have HME : Hid (mayC x d n = maysC x.args (d + 1) (n + 1)) := by
            show mayC x d n = maysC x.args (d + 1) (n + 1)
            rw [HE.out, if_neg (by intro hx; rcases hx with hx | hx | hx; exact h1 hx; exact h2 hx; rw [HY.out] at hx; cases hx)]
          have hwB : Below cb w wc := (HA.out.1.below (Nat.le_of_lt hcb)).trans (HBF.out.mono (by omega))
          have HWB := Lib.hid hwB
          have hzc : w.heap.size < wc.heap.size := Nat.lt_of_lt_of_le hzA HBF.out.size
          clear hcc hwB
          go_wp2_with fail
          go_loopw [93] (fun i wr => ∃ k nk : Nat, k ≤ x.args.length ∧ i = .int .i64 k ∧ nk ≤ 4096 ∧ Kept cb (cb + 1) wc wr ∧ Hid (wr.heap[cb]? = some (.cells #[.int .i64 (nk : Nat)] 96 (0, 0))) ∧ Hid (maysC x.args (d + 1) (n + 1) = maysC (x.args.drop k) (d + 1) nk)) (fun i _ => x.args.length - (intOf i).toNat)
          case atStart => exact ⟨0, n + 1, Nat.zero_le _, rfl, by omega, Kept.refl _ _ _, HCC.out, (rfl : maysC x.args (d + 1) (n + 1) = maysC x.args (d + 1) (n + 1))⟩
          case round =>
            obtain ⟨k, nk, hk, rfl, hnk, hkp, hcr, hmr⟩ := hrel
            have hkw : Kept cb (cb + 1) w wr := (HA.out.1.trans ⟨HBF.out.os, HBF.out.tape, HBF.out.output, HBF.out.size, fun b _ hb => HBF.out.block b hb⟩).trans hkp
            have HKW := Lib.hid hkw
            have hszr : wc.heap.size ≤ wr.heap.size := hkp.size
            clear hkw
            by_cases hlt : k < x.args.length
            · obtain ⟨a2, ca2, bb, off, e2, hc2, ha2, hA2⟩ := isX_open HSA.out
              simp only [Value.slice.injEq] at e2
              obtain ⟨ea2, _, ec2⟩ := e2
              subst ec2
              obtain ⟨ea3, hb2⟩ := ha2 (by omega)
              obtain rfl := ea2.trans ea3
              obtain ⟨ax, cx, aax, cax, x0, x1, x2, x3, x4, x5, x6, x7, hsx, hsax⟩ := cellsE_open (hA2 k hlt)
              have hwr : Below cb w wr := HKW.out.below (Nat.le_of_lt hcb)
              have hg : ∀ o, wr.cell? ⟨bb, o, none⟩ = w.cell? ⟨bb, o, none⟩ := fun o => hwr.cell (p := ⟨bb, o, none⟩) (by dsimp only; omega)
              have hzb : bb < wr.heap.size := by omega
              have qR : ∀ o, wr.cell? ⟨w.heap.size, o, none⟩ = (#[.int .i64 x.op, .string x.text, .int .i64 x.v.k, .bool x.v.b, .int .i64 x.v.n, .string x.v.t, .slice a x.v.l.length c, .slice (some ⟨bb, off, none⟩) x.args.length ca] : Array Value)[o]? := fun o => by
                rw [World.cell?_of_block (w := wc) (a := ⟨w.heap.size, o, none⟩) (hkp.block w.heap.size (.inr (by omega)) hzc), qF]
              have HSX := Lib.hid hsx
              have HSAX := Lib.hid hsax
              have HWR := Lib.hid hwr
              have Ha2 := Lib.hid hA2
              clear hsx hsax hwr hA2 ha2 ea2 ea3 hc2
              go_wp2_with fail
              have hC := HH.out (by omega) x.args[k] (List.getElem_mem _) nk cb _ _ (wr.alloc (.cells #[.int .i64 x.args[k].op, .string x.args[k].text, .int .i64 x.args[k].v.k, .bool x.args[k].v.b, .int .i64 x.args[k].v.n, .string x.args[k].v.t, .slice ax x.args[k].v.l.length cx, .slice aax x.args[k].args.length cax] 38)) B hnk hB (by simp; omega)
                (by rw [Below.heap_alloc _ _ _ (by omega)]; exact hcr.out) (isL_below (isL_below HSX.out HWR.out hB) ((Below.refl wr.heap.size wr).alloc (Nat.le_refl _) _) (by omega)) (isX_below (isX_below HSAX.out HWR.out hB) ((Below.refl wr.heap.size wr).alloc (Nat.le_refl _) _) (by omega))
              rw [show (((d + 1 : Nat)) : Int) = (d : Int) + 1 from by simp] at hC
              refine hC.mono ?_
              clear hC
              rintro e w2 hpost
              obtain ⟨rfl, hcb2, hkp2⟩ := hpost
              have hkp3 : Kept cb (cb + 1) wc w2 := (hkp.alloc _).trans hkp2
              have HKP2 := Lib.hid hkp2
              have HCB2 := Lib.hid hcb2
              have hstep : maysC (x.args.drop k) (d + 1) nk = if (mayC x.args[k] (d + 1) nk).1 = true then maysC (x.args.drop (k + 1)) (d + 1) (mayC x.args[k] (d + 1) nk).2 else (false, (mayC x.args[k] (d + 1) nk).2) := by
                rw [List.drop_eq_getElem_cons hlt, maysC]
              have HST := Lib.hid hstep
              have hle := mayC_le x.args[k] (d + 1) nk
              have HLE := Lib.hid hle
              clear hkp2 hcb2 hstep hle hg x0 x1 x2 x3 x4 x5 x6 x7 qR
              cases hr : (mayC x.args[k] (d + 1) nk).1
              · have HR := Lib.hid hr
                clear hr
                go_wp2_with fail
                go_ret
                have hfin : mayC x d n = (false, (mayC x.args[k] (d + 1) nk).2) := by
                  rw [HME.out, hmr.out, HST.out, if_neg (by rw [HR.out]; simp)]
                refine ⟨ret_bool (by rw [hfin]), by rw [hfin]; exact HCB2.out, (HKW.out.alloc _).trans HKP2.out⟩
              · have HR := Lib.hid hr
                clear hr
                go_wp2_with fail
                go_roundw
                case rel => exact ⟨k + 1, (mayC x.args[k] (d + 1) nk).2, by omega, by go_num, HLE.out HR.out, hkp3, HCB2.out, (by rw [hmr.out, HST.out, if_pos HR.out] : maysC x.args (d + 1) (n + 1) = maysC (x.args.drop (k + 1)) (d + 1) (mayC x.args[k] (d + 1) nk).2)⟩
                case measure => simp [intOf]; omega
            · go_wp2_with fail
              go_ret
              have hfin : mayC x d n = (true, nk) := by
                rw [HME.out, hmr.out, List.drop_of_length_le (by omega), maysC]
              refine ⟨ret_bool (by rw [hfin]), by rw [hfin]; exact hcr.out, HKW.out⟩
theorem may_all : ∀ (m : Nat) (x : GE) (d : Nat), x.size ≤ m → x.fit → d ≤ 31 → MayC x d := by
  intro m
  induction m with
  | zero => intro x d h; have := size_args x; omega
  | succ m ih =>
    intro x d h fx hd
    refine may_step x fx d hd fun hd2 y hy => ih y (d + 1) ?_ (fitE_mem (fitE_open fx).2.2.2.2.2 y hy) (by omega)
    have := size_args x
    have := sizeE_mem hy
    omega
theorem may_any (x : GE) (fx : x.fit) (d : Nat) (hd : d ≤ 31) : MayC x d := may_all x.size x d (Nat.le_refl _) fx hd
def emay (x : GE) : Bool := (mayC x 1 0).1
set_option maxHeartbeats 400000 in
theorem May_any (x : GE) (fx : x.fit) (s sa : Value) (w : World) (B : Nat) (hB : B ≤ w.heap.size) (hs : isL w 0 B s x.v.l) (hsa : isX w B sa x.args) :
    Calls Tryz.prog 21 #[x.agg s sa] w fun e w' => e = .returned (.bool (emay x)) ∧ Below w.heap.size w w' := by
  obtain ⟨aa, ca, ea⟩ := isE_form hsa
  obtain ⟨a, c, e⟩ := isL_form hs
  subst e ea
  have HS := Lib.hid hs
  have HSA := Lib.hid hsa
  have HC := Lib.hid (may_any x fx 1 (by omega))
  clear hs hsa
  simp only [GE.agg]
  go_enter Tryz.func21, Tryz.ntmps21
  go_wp2_with fail
  have hb0 := ((Below.refl w.heap.size w).alloc (Nat.le_refl _) (.cells #[.int .i64 x.op, .string x.text, .int .i64 x.v.k, .bool x.v.b, .int .i64 x.v.n, .string x.v.t, .slice a x.v.l.length c, .slice aa x.args.length ca] 38)).alloc (by simp) (.cells #[.int .i64 0] 96)
  refine (HC.out 0 (w.heap.size + 1) _ _ _ B (by omega) (by omega) (by simp) heap_second (isL_below HS.out hb0 hB) (isX_below HSA.out hb0 hB)).mono ?_
  rintro e w' hpost
  obtain ⟨rfl, _, hk⟩ := hpost
  have hk2 := hb0.trans (hk.below (by simp) |>.mono (Nat.le_succ _))
  go_wp2_with fail
  go_ret
  exact ⟨rfl, hk2⟩
end Go.Proofs.YtljljhjdlicfeaaGreat
