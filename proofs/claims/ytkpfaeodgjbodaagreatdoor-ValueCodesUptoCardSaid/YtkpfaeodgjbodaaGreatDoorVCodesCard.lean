/-
  proctorlaw1.ValueCodes answers true, whatever it is handed, and leaves it as it is. The tied card of the statement's second form (bulk at most 1048576). Conditions: none beyond the given card's own.
-/
import Derived.Test.YtkpfaeodgjbodaaGreatDoorMK
import Derived.Test.YtkpfaeodgjbodaaGreatDoorVCodes
import Derived.Test.YtkpfaeodgjbodaaGreatDoorReadB
namespace Go.Proofs.YtkpfaeodgjbodaaGreatDoor
open Go Go.ChangeShapes Go.WideShapes Go.ChangeAt Go.RowKit
set_option maxRecDepth 100000
set_option linter.unusedVariables false
theorem valueCodes_contract (H : Type) (enc : TypeId × Value → H) (W : World) (base : Nat) (args : Array Value) (ds gs : List (DataW H)) (before : List MemPlace)
    (hval : ∀ (j : Nat) t v, Tryz.f3.params[j]? = some t → args[j]? = some v → Value.okWide Tryz.prog W .any base t v)
    (hW : DataW.Whole enc Tryz.prog Tryz.f3.params.toList Rows.valueCodesSpec.vars false W args.toList ds gs before)
    (hk : ∀ k, (Rows.OpenSpec.upto Rows.valueCodesSpec).cond = some k → k H (ds ++ gs) = true) (hL : laidMetH Tryz.prog Rows.valueCodesUptoRow.laid W) :
    Calls Tryz.prog 3 args W fun e W' => ∃ v, e = .returned v ∧ Rows.valueCodesSpec.post enc Tryz.prog Tryz.f3 false true false false W args v W' := by
  have hW' := hW
  have hlt0 := fun p hp => hW.lt (p := p) hp
  obtain ⟨p, q, hA0, hV, rfl, hfz, hnd⟩ := hW
  have hA : DataW.TrodAll enc Tryz.prog W 0 (fun _ => true) true Tryz.f3.params.toList args.toList ds p := hA0
  rw [Tryz.params3] at hA hval
  obtain ⟨v0, d0, rfl, rfl, h0⟩ := trodAll_one hA
  obtain ⟨rfl, rfl⟩ := trodVars_none hV
  have hbk : Rows.uptoBulk d0 ≤ 1048576 := by
    have h1 : Rows.uptoSmall H ([d0] ++ []) = true := hk _ rfl
    simp only [Rows.uptoSmall, List.append_nil, Rows.uptoBulkAll, decide_eq_true_eq] at h1
    omega
  obtain ⟨s, l, t, m, rfl, hs, hwf, hle, hbb⟩ := read_codes (okWide_struct Tryz.underlying25 (hval 0 25 v0 rfl rfl)) h0
  simp only [List.append_nil] at hW'
  refine (vcodes_any l (fitL_of l hwf (by omega)) (by omega) (by have := len_bulk l; omega) s t m W W.heap.size (Nat.le_refl _) (tab_of_laid hL) hs hbb).mono fun e W' ⟨he, hb⟩ => ?_
  subst he
  refine ⟨_, rfl, post_below (pa := p) (pv := []) hW' (fun _ _ _ => trodAll_cons_mk (shut_bool Tryz.underlying4 _) trodAll_mk0) (fun sp hsp => ?_) (fun _ _ => rfl) (by simp) hb (ok_one (by kernel_rfl) rfl (okWide_bool_mk Tryz.underlying4 _))⟩
  rw [Tryz.params3]
  exact again_below (by intro t ht; simp only [List.mem_cons, List.not_mem_nil, or_false] at ht; subst ht; exact of_decide_eq_true (by kernel_rfl)) hA (fun x hx => hlt0 x (by simpa using hx)) hb hsp
theorem valueCodes_laid (os : Os) : laidMet Tryz.prog Rows.valueCodesUptoRow.laid ((laidWorld os).forCall (fun _ _ => 0) ⟨#[], #[.agg #[.slice none 0 0, .slice none 0 0]], []⟩).memory :=
  laidMet_of_run' 8 (by kernel_rfl) (by kernel_rfl)
theorem valueCodes_reads (os : Os) {H : Type} (enc : TypeId × Value → H) : ∃ places, DataW.whole enc Tryz.prog ((laidWorld os).forCall (fun _ _ => 0) ⟨#[], #[.agg #[.slice none 0 0, .slice none 0 0]], []⟩).memory Tryz.f3.params.toList Rows.valueCodesSpec.vars false (#[.agg #[.slice none 0 0, .slice none 0 0]] : Array Value).toList 8 = some ([.agg [.nil, .nil]], [], places) :=
  ⟨[], by kernel_rfl⟩
theorem valueCodes_lifted (os : Os) (started : os.Started) (H : Type) (enc : TypeId × Value → H) (F : Stop.Interp) :
    ReturnsInHanded {} Tryz.checked os 3 .any ((Rows.OpenSpec.upto Rows.valueCodesSpec).preRow enc Tryz.prog Tryz.f3 Rows.valueCodesUptoRow.domain false Rows.valueCodesUptoRow.laid) (((Rows.OpenSpec.upto Rows.valueCodesSpec).at F).post enc Tryz.prog Tryz.f3 false true false false) := by
  obtain ⟨places, hx⟩ := valueCodes_reads os enc
  refine returnsInHanded_of_row (C := Tryz.checked) (s := Rows.OpenSpec.upto Rows.valueCodesSpec) ownRow started (by kernel_rfl) Tryz.func3
    (witness_row_at (enc := enc) (C := Tryz.checked) false (laidWorld os) #[.agg #[.slice none 0 0, .slice none 0 0]] rfl (by kernel_rfl) (by kernel_rfl) (by kernel_rfl)
      (OpenSpec.preRow_of_cond 8 hx (by kernel_rfl) (fun k hk => by cases hk; rfl) (by kernel_rfl) (valueCodes_laid os))) ?_
  intro W base args ds gs before hval hW _ hk _ hL _ _
  exact valueCodes_contract H enc W base args ds gs before hval hW hk hL
theorem valueCodes_said : Rows.ValueCodesUptoSaid :=
  OpenClaim.holds_of_cond 3 Tryz.f3 rfl rfl rfl rfl rfl rfl rfl ⟨rfl, rfl, rfl, rfl, rfl⟩ rfl rfl rfl rfl rfl (by kernel_rfl) Tryz.func3 (by kernel_rfl)
    (of_decide_eq_true (by kernel_rfl)) (by unfold Func.isWrapper; first | (rw [if_pos (by decide +kernel)]; kernel_rfl) | (rw [if_neg (by decide +kernel)]; exact ⟨rfl, rfl⟩))
    (fun os started H enc _ F => by rw [OpenClaim.pre_eq_preRow]; exact valueCodes_lifted os started H enc F)
theorem valueCodes_plain (f : FuncId) (fn : Func) (hf : Tryz.pinned.checked.prog.funcNamed "proctor/proctorlaw1.ValueCodes" = some f) (hfn : Tryz.pinned.checked.prog.funcs[f]? = some fn) :
    false = Tryz.pinned.checked.prog.looks [] ∧ ∀ (j : Nat) t, fn.params[j]? = some t → Tryz.pinned.checked.prog.wantsStandIn t = false := by
  obtain rfl : f = 3 := Option.some.inj ((show Tryz.prog.funcNamed "proctor/proctorlaw1.ValueCodes" = some 3 by kernel_rfl).symm.trans hf) |>.symm
  obtain rfl : fn = Tryz.f3 := (Option.some.inj (Tryz.func3.symm.trans hfn)).symm
  refine ⟨by kernel_rfl, fun j t ht => ?_⟩
  rw [Tryz.params3] at ht
  have hall : ([25].all fun u => !Tryz.pinned.checked.prog.wantsStandIn u) = true := by kernel_rfl
  have hm : t ∈ [25] := by simpa using List.mem_of_getElem? (show [25][j]? = some t by simpa using ht)
  exact (show Tryz.pinned.checked.prog.wantsStandIn t = false by simpa using List.all_eq_true.1 hall t hm)
theorem valueCodes_card : Rows.ValueCodesUptoCardSaid :=
  Claim7.holds_tied_plain_at .later [] _ _ _ _ valueCodes_said (fun _ h => by cases h) (by kernel_rfl) (fun _ h => by cases h) valueCodesUpto_row_tie rfl ⟨rfl, rfl⟩ (by kernel_rfl) rfl valueCodes_plain (by kernel_rfl)
#print axioms valueCodes_card
end Go.Proofs.YtkpfaeodgjbodaaGreatDoor
