/-
  What the references' Compile tells: compE of an expression that may be; else the refusal. Conditions: none.
-/
import Derived.Test.YtnmolgmchoihmaaDoorRCompU
import Derived.Test.YtnmolgmchoihmaaDoorCompile
import Derived.Test.YtnmolgmchoihmaaDoorParts
namespace Go.Proofs.YtnmolgmchoihmaaDoor
open Go Go.RowKit
set_option maxRecDepth 100000
set_option linter.unusedVariables false
theorem rcomp_all : ∀ (m : Nat) (x : GE), x.size ≤ m → x.fit → x.wf → RCompC x := by
  intro m
  induction m with
  | zero => exact fun x h => by have := size_args x; omega
  | succ m ih =>
    intro x h fx wx
    have hs := size_args x
    have hA : ∀ y ∈ x.args, RCompC y := fun y hy => ih y (by have := sizeE_mem hy; omega) (fitE_mem (fitE_open fx).2.2.2.2.2 y hy) (wfE_mem (wf_open wx).2 y hy)
    by_cases h1 : x.op = 1 ∨ x.op = 2 ∨ x.op = 3
    · exact rcomp_leaf x fx h1
    by_cases h2 : x.op = 8 ∨ x.op = 9
    · have hl := (wf_open wx).1 h2
      obtain ⟨y, z, e⟩ : ∃ y z, x.args = [y, z] := by
        match x.args, hl with
        | [y, z], _ => exact ⟨y, z, rfl⟩
      rcases h2 with h2 | h2
      · exact rcomp_two8 x y z fx h2 e (hA y (by rw [e]; simp)) (hA z (by rw [e]; simp))
      · exact rcomp_two9 x y z fx h2 e (hA y (by rw [e]; simp)) (hA z (by rw [e]; simp))
    · exact rcomp_many x fx (by omega) hA
theorem rcomp_any (x : GE) (fx : x.fit) (wx : x.wf) : RCompC x := rcomp_all x.size x (Nat.le_refl _) fx wx

set_option maxHeartbeats 1600000 in
theorem RCompile_any (x : GE) (fx : x.fit) (s sa : Value) (w : World) (B : Nat) (hB : B ≤ w.heap.size) (hs : isL w 0 B s x.v.l) (hsa : isX w B sa x.args) :
    Calls Tryd.prog 10 #[x.agg s sa] w fun e w' => ∃ v, e = .returned (.tuple #[v, .int .i64 (errOf x)]) ∧ ownI false w' 0 w.heap.size 40 v (codeOf x) ∧ Below w.heap.size w w' := by
  obtain ⟨aa, ca, rfl⟩ := isE_form hsa
  obtain ⟨a, c, rfl⟩ := isL_form hs
  have HS := Lib.hid hs
  have HSA := Lib.hid hsa
  clear hs hsa
  simp only [GE.agg]
  have hb0 : Below w.heap.size w (w.alloc (.cells #[.int .i64 x.op, .string x.text, .int .i64 x.v.k, .bool x.v.b, .int .i64 x.v.n, .string x.v.t, .slice a x.v.l.length c, .slice aa x.args.length ca] 30)) := (Below.refl w.heap.size w).alloc (Nat.le_refl _) _
  have HB0 := Lib.hid hb0
  clear hb0
  go_enter Tryd.func10, Tryd.ntmps10
  go_wp2_with fail
  refine (rMayE_any x fx _ _ _ B (by have := HB0.out.size; omega) (isL_below HS.out HB0.out hB) (isX_below HSA.out HB0.out hB)).mono ?_
  rintro e w1 ⟨rfl, hb⟩
  have hb1 := HB0.out.trans (hb.mono HB0.out.size)
  have p1 := hb.block w.heap.size (by simp)
  rw [heap_last] at p1
  have q1 := fun o => cell_of p1 o
  have HB := Lib.hid hb
  have HB1 := Lib.hid hb1
  clear hb hb1 p1
  cases hm : emay x
  · have HM := Lib.hid hm
    clear hm
    go_wp2_with fail
    refine bodyPost_ret (v := .tuple #[.slice none 0 0, .int .i64 1]) (by simp [results, Tryd.results10, go_sem]) rfl ⟨_, by rw [errOf, HM.out]; rfl, by rw [codeOf, HM.out]; exact ownI_nil _ _ _ _ _, HB1.out⟩
  · have HM := Lib.hid hm
    have hsz : x.size ≤ 4096 := by
      have h1 := (mayC_true x 1 0 hm).2
      have h2 := mayC_le x 1 0 hm
      omega
    have hwf := (mayC_true x 1 0 hm).1
    have HWF := Lib.hid hwf
    clear hm hwf
    have hz1 : w.heap.size + 1 ≤ w1.heap.size := by have := HB.out.size; simpa using this
    go_wp2_with fail
    refine (rcomp_any x fx HWF.out [] 0 w1.heap.size _ _ _ _ B (by omega) (by omega) (Nat.le_refl _) ⟨ownI_nil _ _ _ _ _, rfl⟩ (isL_below HS.out HB1.out hB) (isX_below HSA.out HB1.out hB)).mono ?_
    rintro e w2 ⟨v, n', rfl, ho, hgr⟩
    have hb3 : Below w.heap.size w w2 := HB1.out.trans (hgr.below (B := w.heap.size) (by omega) (fun k hk => hk.elim) (fun g hg => by cases hg))
    have HO := Lib.hid ho
    have HB3 := Lib.hid hb3
    clear ho hb3 hgr
    go_wp2_with fail
    have hown : ownI false w2 0 w.heap.size 40 v (codeOf x) := by
      rw [codeOf, if_pos HM.out]
      exact ownI_wide (by simpa using HO.out.1) (by omega) (by omega)
    exact bodyPost_ret (v := .tuple #[v, .int .i64 0]) (by simp [results, Tryd.results10, go_sem]) rfl ⟨v, by rw [errOf, if_pos HM.out], hown, HB3.out⟩
end Go.Proofs.YtnmolgmchoihmaaDoor
