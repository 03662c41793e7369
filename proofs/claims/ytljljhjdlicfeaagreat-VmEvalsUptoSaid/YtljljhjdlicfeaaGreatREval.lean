/-
  proctorref10.Eval tells what EvalP says. Conditions: the expression fits.
-/
import Derived.Test.YtljljhjdlicfeaaGreatRRun
import Derived.Test.YtljljhjdlicfeaaGreatPAC
import Derived.Test.YtljljhjdlicfeaaGreatNJ
namespace Go.Proofs.YtljljhjdlicfeaaGreat
open Go Go.RowKit
set_option maxRecDepth 100000
set_option linter.unusedVariables false
def RevO (w : World) (lo0 : Nat) (r : GV × Int) (e : Ending) (w' : World) : Prop := ∃ a c, e = .returned (.tuple #[r.1.agg (.slice a r.1.l.length c), .int .i64 r.2]) ∧ isZ w' (lo0, w.heap.size) w'.heap.size (.slice a r.1.l.length c) r.1.l ∧ Below w.heap.size w w' ∧ r.1.fit
set_option maxHeartbeats 3200000 in
theorem reval_any (W : WV) (fW : W.fit) (fv : ∀ f ∈ W.facts, f.vals.length ≤ 2147483647) (x : GE) (fx : x.fit) (fuel : Int) (be Be : Nat) (s sa : Value) (w : World) (B lo0 : Nat) (hB : B ≤ w.heap.size) (hBe : Be ≤ w.heap.size) (hl0 : B ≤ lo0) (hl1 : Be ≤ lo0) (hl2 : lo0 ≤ w.heap.size) (hs : isL w 0 B s x.v.l) (hsa : isX w B sa x.args) (hE : isEnv w be Be W) :
    Calls Tryz.prog 9 #[x.agg s sa, .pointer (some ⟨be, 0, none⟩), .int .i64 fuel] w (RevO w lo0 (EvalP (envP W) x fuel)) := by
  obtain ⟨aa, ca, rfl⟩ := isE_form hsa
  obtain ⟨a, c, rfl⟩ := isL_form hs
  have HS := Lib.hid hs
  have HSA := Lib.hid hsa
  have HE := Lib.hid hE
  clear hs hsa hE
  simp only [GE.agg]
  obtain ⟨w0, hw0⟩ : ∃ u, u = (w.alloc (.cells #[.int .i64 x.op, .string x.text, .int .i64 x.v.k, .bool x.v.b, .int .i64 x.v.n, .string x.v.t, .slice a x.v.l.length c, .slice aa x.args.length ca] 38)).alloc (.cells #[.int .i64 0, .bool false, .int .i64 0, .string { data := #[] }, .slice none 0 0] 36) := ⟨_, rfl⟩
  have hb0 : Below w.heap.size w w0 := by rw [hw0]; exact ((Below.refl _ _).alloc (Nat.le_refl _) _).alloc (by simp) _
  have hx0 : w0.heap[w.heap.size]? = some (.cells #[.int .i64 x.op, .string x.text, .int .i64 x.v.k, .bool x.v.b, .int .i64 x.v.n, .string x.v.t, .slice a x.v.l.length c, .slice aa x.args.length ca] 38 (0, 0)) := by rw [hw0]; exact heap_two
  have hv0 : w0.heap[w.heap.size + 1]? = some (.cells #[.int .i64 0, .bool false, .int .i64 0, .string { data := #[] }, .slice none 0 0] 36 (0, 0)) := by rw [hw0]; exact heap_second
  have hz0 : w0.heap.size = w.heap.size + 2 := by rw [hw0]; simp
  go_enter Tryz.func9, Tryz.ntmps9
  go_upto_region 1 with fail
  rw [← hw0]
  have qx := fun o => cell_of hx0 o
  have HV0 := Lib.hid hv0
  have HB0 := Lib.hid hb0
  have HZ0 := Lib.hid hz0
  clear hw0 hv0 hb0 hz0 hx0
  go_wp2_with fail
  refine (RCompile_any x fx (.slice a x.v.l.length c) (.slice aa x.args.length ca) w0 B (by have := HB0.out.size; omega) (isL_below HS.out HB0.out hB) (isX_below HSA.out HB0.out hB)).mono ?_
  rintro e w1 ⟨v, rfl, hown, hb1⟩
  have HI1 := Lib.hid hown
  have HB1 := Lib.hid (below_down HB0.out hb1 (Nat.le_refl _))
  obtain ⟨a1, c1, rfl⟩ := isI_form (isI2_I hown (Nat.le_trans hB HB1.out.size))
  have HV1 := Lib.hid ((hb1.block _ (by have := HZ0.out; omega)).trans HV0.out)
  have HZ1 : Hid (w.heap.size + 2 ≤ w1.heap.size) := by have h1 := hb1.size; have h2 := HZ0.out; rw [Hid]; omega
  clear hown hb1 qx
  have qV := fun o => cell_of HV1.out o
  have zV := fun o => frozen_of HV1.out o
  have lV : w.heap.size + 1 < w1.heap.size := by have := HZ1.out; omega
  cases hm : emay x
  · have he : errOf x = 1 := by simp [errOf, hm]
    have HP := Lib.hid (evalP_no (envP W) x fuel hm)
    rw [he]
    clear he hm
    go_wp2_with fail
    refine bodyPost_ret (v := .tuple #[.agg #[.int .i64 0, .bool false, .int .i64 0, .string { data := #[] }, .slice none 0 0], .int .i64 1]) (by simp [results, Tryz.results9, go_sem, qV]) rfl ?_
    rw [HP.out]
    exact ⟨none, 0, rfl, isZ_nil _ _, set5B HB1.out (by omega) _ _ _ _ _, nullG_fit⟩
  · have he : errOf x = 0 := by simp [errOf, hm]
    have HP := Lib.hid (runP_mem (envP W) x fuel hm)
    have HM := Lib.hid hm
    rw [he]
    clear he hm
    go_wp2_with fail
    refine (rrun_any W fW fv (codeOf x) (by have := codeOf_len x; omega) (codeOf_fit x fx) (fun _ => code_JC HM.out) fuel be Be (.slice a1 (codeOf x).length c1) w1 B w1.heap.size lo0 (Nat.le_trans hB HB1.out.size) (Nat.le_trans hBe HB1.out.size) (Nat.le_trans hB HB1.out.size) (Nat.le_refl _) hl0 hl1 (Nat.le_trans hl2 HB1.out.size) HI1.out (isEnv_below HE.out (HB1.out.mono hBe))).mono ?_
    obtain ⟨rv, rn, re, hr⟩ : ∃ u n e, RunP (envP W) (codeOf x) fuel = (u, n, e) := ⟨_, _, _, rfl⟩
    have HR := Lib.hid hr
    have HP2 : Hid (EvalP (envP W) x fuel = (rv, re)) := by rw [Hid, HP.out, hr]
    rw [hr, runZ]
    clear hr HP
    rintro e w2 ⟨a2, c2, rfl, hL2, hb2, hf2⟩
    have HL2 := Lib.hid hL2
    have HF2 := Lib.hid hf2
    have HB2 := Lib.hid (below_down HB1.out hb2 (Nat.le_refl _))
    have hv2 := (hb2.block _ lV).trans HV1.out
    have HV2 := Lib.hid hv2
    have q2 := fun o => cell_of hv2 o
    have f2 := fun o => frozen_of hv2 o
    have l2 : w.heap.size + 1 < w2.heap.size := (Array.getElem?_eq_some_iff.1 hv2).1
    clear hL2 hb2 hf2 hv2 qV zV
    simp only [GV.agg]
    go_wp2_with fail
    obtain ⟨w3, hw3⟩ : ∃ u, u = (((((w2.setCell ⟨w.heap.size + 1, 0, none⟩ (.int .i64 rv.k)).setCell ⟨w.heap.size + 1, 1, none⟩ (.bool rv.b)).setCell ⟨w.heap.size + 1, 2, none⟩ (.int .i64 rv.n)).setCell ⟨w.heap.size + 1, 3, none⟩ (.string rv.t)).setCell ⟨w.heap.size + 1, 4, none⟩ (.slice a2 rv.l.length c2)) := ⟨_, rfl⟩
    rw [← hw3]
    have hx3 : w3.heap[w.heap.size + 1]? = some (.cells #[.int .i64 rv.k, .bool rv.b, .int .i64 rv.n, .string rv.t, .slice a2 rv.l.length c2] 36 (0, 0)) := by rw [hw3]; exact five_box HV2.out ..
    have hb3 : Below w.heap.size w w3 := by rw [hw3]; exact set5B HB2.out (by omega) _ _ _ _ _
    have hz3 : w3.heap.size = w2.heap.size := by rw [hw3]; simp only [hsz_setCell2]
    have hl3 : isZ w3 (lo0, w.heap.size) w3.heap.size (.slice a2 rv.l.length c2) rv.l := by
      rw [hz3, hw3]
      refine isS_mono HL2.out (fun b off hS => World.cell?_of_block (w := w2) (a := ⟨b, off, none⟩) (five_heap (fun e => ?_) ..)) (fun b hS => ⟨hS.1, ?_⟩) (fun _ _ h => h)
      · have e2 : b = w.heap.size + 1 := e
        rcases hS.2 with h | h
        · have h2 : b < lo0 := h
          omega
        · have h2 : w1.heap.size < b := h
          omega
      · rcases hS.2 with h | h
        · exact .inl h
        · have h2 : w1.heap.size < b := h
          exact outH_gt (by omega)
    clear hw3
    have q3 := fun o => cell_of hx3 o
    have l3 : w.heap.size + 1 < w3.heap.size := (Array.getElem?_eq_some_iff.1 hx3).1
    have hbA := (Below.refl w3.heap.size w3).alloc (Nat.le_refl _) (.cells #[.int .i64 rv.k, .bool rv.b, .int .i64 rv.n, .string rv.t, .slice a2 rv.l.length c2] 36)
    refine bodyPost_ret (v := .tuple #[.agg #[.int .i64 rv.k, .bool rv.b, .int .i64 rv.n, .string rv.t, .slice a2 rv.l.length c2], .int .i64 re]) (by simp [results, Tryz.results9, go_sem, q3, l3]) rfl ?_
    rw [HP2.out]
    exact ⟨a2, c2, rfl, isZ_wide (isZ_below hl3 hbA (Nat.le_refl _)) hbA.size, below_down hb3 hbA (Nat.le_refl _), HF2.out⟩
end Go.Proofs.YtljljhjdlicfeaaGreat
