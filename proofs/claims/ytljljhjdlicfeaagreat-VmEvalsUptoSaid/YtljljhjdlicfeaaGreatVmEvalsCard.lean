/-
  proctorlaw11.VmEvals answers true, whatever it is handed, and leaves it as it is: the statement's second form (bulk at most 1048576). Conditions: none beyond the given statement's own.
-/
import Derived.Test.YtljljhjdlicfeaaGreatMK
import Derived.Test.YtljljhjdlicfeaaGreatNN
import Derived.Test.YtljljhjdlicfeaaGreatVEvals
namespace Go.Proofs.YtljljhjdlicfeaaGreat
open Go Go.ChangeShapes Go.WideShapes Go.ChangeAt Go.RowKit
set_option maxRecDepth 100000
set_option linter.unusedVariables false
theorem vmEvals_own : ownKnob Tryz.prog.godebug = none := by kernel_rfl
theorem vmEvals_contract (H : Type) (enc : TypeId × Value → H) (W : Go.World) (base : Nat) (args : Array Value) (ds gs : List (DataW H)) (before : List MemPlace)
    (hval : ∀ (j : Nat) t v, Tryz.f3.params[j]? = some t → args[j]? = some v → Value.okWide Tryz.prog W .any base t v)
    (hW : DataW.Whole enc Tryz.prog Tryz.f3.params.toList Rows.vmEvalsSpec.vars false W args.toList ds gs before)
    (hk : Rows.uptoSmall H (ds ++ gs) = true) :
    Calls Tryz.prog 3 args W fun e W' => ∃ v, e = .returned v ∧ Rows.vmEvalsSpec.post enc Tryz.prog Tryz.f3 false true false false W args v W' := by
  have hW' := hW
  have hlt0 := fun p hp => hW.lt (p := p) hp
  obtain ⟨p, q, hA0, hV, rfl, hfz, hnd⟩ := hW
  have hA : DataW.TrodAll enc Tryz.prog W 0 (fun _ => true) true Tryz.f3.params.toList args.toList ds p := hA0
  rw [Tryz.params3] at hA hval
  obtain ⟨v0, d0, rfl, rfl, h0⟩ := trodAll_one hA
  obtain ⟨rfl, rfl⟩ := trodVars_none hV
  have hbk : Rows.uptoBulk d0 ≤ 1048576 := by
    have h1 : Rows.uptoSmall H ([d0] ++ []) = true := hk
    simp only [Rows.uptoSmall, List.append_nil, Rows.uptoBulkAll, decide_eq_true_eq] at h1
    omega
  obtain ⟨sL, sI, s0, s1, s2, s3, fuel, L, V, rfl, hL, hwL, hbL, hG, fV, sV, fvl, hwV, hf1, hf2⟩ := read_ask (okWide_struct Tryz.underlying28 (hval 0 28 v0 rfl rfl)) h0 hbk
  simp only [List.append_nil] at hW'
  refine (vevals_any V fV sV fvl L (by have := len_ebks L; omega) (fitEs_of L hwL hbL) (okWs_of L hbL) sL sI s0 s1 s2 s3 fuel W W.heap.size (Nat.le_refl _) hG hL).mono fun e W' ⟨he, hb⟩ => ?_
  subst he
  refine ⟨_, rfl, post_below (pa := p) (pv := []) hW' (fun _ _ _ => trodAll_cons_mk (shut_bool Tryz.underlying4 _) trodAll_mk0) (fun sp hsp => ?_) (fun _ _ => rfl) (by simp) hb (ok_one (by kernel_rfl) rfl (okWide_bool_mk Tryz.underlying4 _))⟩
  rw [Tryz.params3]
  exact again_below (by intro t ht; simp only [List.mem_cons, List.not_mem_nil, or_false] at ht; subst ht; exact of_decide_eq_true (by kernel_rfl)) hA (fun x hx => hlt0 x (by simpa using hx)) hb hsp
theorem vmEvals_lifted (os : Os) (started : os.Started) (H : Type) (enc : TypeId × Value → H) (F : Stop.Interp) :
    ReturnsInHanded {} Tryz.checked os 3 .any ((Rows.OpenSpec.upto Rows.vmEvalsSpec).pre6 enc Tryz.prog Tryz.f3 Rows.vmEvalsUptoRow.domain false) (((Rows.OpenSpec.upto Rows.vmEvalsSpec).at F).post enc Tryz.prog Tryz.f3 false true false false) := by
  refine returnsInHanded_of_cond (C := Tryz.checked) (s := Rows.OpenSpec.upto Rows.vmEvalsSpec) (k := Rows.uptoSmall) rfl vmEvals_own started (by kernel_rfl) Tryz.func3
    (OpenSpec.witness (enc := enc) (C := Tryz.checked) (s := Rows.OpenSpec.upto Rows.vmEvalsSpec) (k := Rows.uptoSmall) rfl false ⟨#[], #[.agg #[.slice none 0 0, .slice none 0 0, .slice none 0 0, .slice none 0 0, .slice none 0 0, .slice none 0 0, .int .i64 0]], []⟩ 8 (by kernel_rfl) (by kernel_rfl) (by kernel_rfl)
      (x := ([.agg [.nil, .nil, .nil, .nil, .nil, .nil, .lit (.int .i64 0)]], [], [])) (by kernel_rfl) rfl (by kernel_rfl)) ?_
  intro W base args ds gs before hval hW _ hk _
  exact vmEvals_contract H enc W base args ds gs before hval hW hk
theorem vmEvals_said : Rows.VmEvalsUptoSaid :=
  OpenClaim.holds_of_cond 3 Tryz.f3 rfl rfl rfl rfl rfl rfl rfl ⟨rfl, rfl, rfl, rfl, rfl⟩ rfl rfl rfl rfl rfl (by kernel_rfl) Tryz.func3 (by kernel_rfl)
    (of_decide_eq_true (by kernel_rfl)) (by unfold Func.isWrapper; first | (rw [if_pos (by decide +kernel)]; kernel_rfl) | (rw [if_neg (by decide +kernel)]; exact ⟨rfl, rfl⟩))
    (fun os started H enc _ F => vmEvals_lifted os started H enc F)
#print axioms vmEvals_said
end Go.Proofs.YtljljhjdlicfeaaGreat
