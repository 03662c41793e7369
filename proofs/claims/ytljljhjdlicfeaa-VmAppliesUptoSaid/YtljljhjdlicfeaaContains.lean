/-
  Whether a list holds a value that may not be: slices.ContainsFunc, slices.IndexFunc over what Apply asks. Conditions: lists and texts shorter than 2^31.
-/
import Derived.Test.YtljljhjdlicfeaaMH
import Derived.Test.YtljljhjdlicfeaaMC
namespace Go.Proofs.Ytljljhjdlicfeaa
open Go Go.RowKit
set_option maxRecDepth 100000
set_option linter.unusedVariables false
theorem bad_any (x : GV) (fx : x.fit) (s : Value) (w : World) (B : Nat) (hB : B ≤ w.heap.size) (hs : isL w 0 B s x.l) :
    Calls Try.prog 23 #[x.agg s] w fun e w' => e = .returned (.bool (!vmay x)) ∧ Below w.heap.size w w' := by
  have HS := Lib.hid hs
  have HF := Lib.hid fx
  obtain ⟨a, c, rfl⟩ := isL_form hs
  clear hs fx
  simp only [GV.agg]
  go_enter Try.func23, Try.ntmps23
  go_wp2_with fail
  have hb0 := (Below.refl w.heap.size w).alloc (Nat.le_refl _) (.cells #[.int .i64 x.k, .bool x.b, .int .i64 x.n, .string x.t, .slice a x.l.length c] 35)
  refine (vCheck_any x HF.out (.slice a x.l.length c) _ B (Nat.le_trans hB hb0.size) (isL_below HS.out hb0 hB)).mono ?_
  rintro e w1 ⟨rfl, hb1⟩
  go_wp2_with fail
  go_ret
  exact ⟨rfl, below_down hb0 hb1 (Nat.le_refl _)⟩
def badL (l : List GV) : Bool := l.any fun x => !vmay x
set_option maxHeartbeats 800000 in
theorem index_any (l : List GV) (hl : l.length ≤ 2147483647) (fl : fitL l) (s : Value) (w : World) (B : Nat) (hB : B ≤ w.heap.size) (hs : isL w 0 B s l) :
    Calls Try.prog 54 #[s, fn0 23] w fun e w' => (∃ i : Int, e = .returned (.int .i64 i) ∧ (decide (0 ≤ i)) = badL l) ∧ Below w.heap.size w w' := by
  obtain ⟨a, c, b, off, rfl, hc, ha, hA⟩ := isL_open hs
  have HA := Lib.hid hA
  have Ha := Lib.hid ha
  have HF := Lib.hid fl
  clear hA hs ha fl
  unfold fn0
  go_enter Try.func54, Try.ntmps54
  go_wp2_with fail
  go_loopw [8] (fun i wr => ∃ k : Nat, k ≤ l.length ∧ i = .int .i64 k ∧ Below w.heap.size w wr ∧ Hid (badL l = badL (l.drop k))) (fun i _ => l.length - (intOf i).toNat)
  case atStart => exact ⟨0, Nat.zero_le _, rfl, Below.refl _ _, rfl⟩
  case round =>
    obtain ⟨k, hk, rfl, hbel, hR⟩ := hrel
    have HB := Lib.hid hbel
    clear hbel
    by_cases hlt : k < l.length
    · obtain ⟨rfl, hb1, hb2⟩ := Ha.out (by omega)
      obtain ⟨ax, cx, x0, x1, x2, x3, x4, hsx⟩ := cellsV_slice (HA.out k hlt)
      have hg : ∀ o, wr.cell? ⟨b, o, none⟩ = w.cell? ⟨b, o, none⟩ := fun o => HB.out.cell (p := ⟨b, o, none⟩) (Nat.lt_of_lt_of_le hb2 hB)
      have hz : b < wr.heap.size := Nat.lt_of_lt_of_le hb2 (Nat.le_trans hB HB.out.size)
      have Hsx := Lib.hid hsx
      have HR : Hid (badL l = ((!vmay l[k]) || badL (l.drop (k + 1)))) := by
        rw [Hid, hR.out, List.drop_eq_getElem_cons hlt]; rfl
      clear hsx hR
      go_wp2_with fail
      refine (bad_any l[k] (fitL_mem HF.out _ (List.getElem_mem hlt)) (.slice ax l[k].l.length cx) wr B (Nat.le_trans hB HB.out.size) (isL_below Hsx.out HB.out hB)).mono ?_
      rintro e w1 ⟨rfl, hb3⟩
      have HB3 := Lib.hid (below_down HB.out hb3 (Nat.le_refl _))
      clear hb3 hg x0 x1 x2 x3 x4 Ha
      cases hv : vmay l[k]
      · have HV := Lib.hid hv
        clear hv
        go_wp2_with fail
        go_ret
        exact ⟨⟨(k : Int), rfl, by rw [HR.out, HV.out]; simp⟩, HB3.out⟩
      · have HV := Lib.hid hv
        clear hv
        go_wp2_with fail
        go_roundw
        case rel => exact ⟨k + 1, by omega, by go_num, HB3.out, by rw [Hid, HR.out, HV.out]; rfl⟩
        case measure => simp [intOf]; omega
    · go_wp2_with fail
      go_ret
      exact ⟨⟨-1, rfl, by rw [hR.out, List.drop_of_length_le (by omega)]; rfl⟩, HB.out⟩
theorem contains_any (l : List GV) (hl : l.length ≤ 2147483647) (fl : fitL l) (s : Value) (w : World) (B : Nat) (hB : B ≤ w.heap.size) (hs : isL w 0 B s l) :
    Calls Try.prog 22 #[s, fn0 23] w fun e w' => e = .returned (.bool (badL l)) ∧ Below w.heap.size w w' := by
  have HI := Lib.hid (index_any l hl fl s w B hB hs)
  obtain ⟨a, c, rfl⟩ := isL_form hs
  unfold fn0 at HI ⊢
  clear hs fl
  go_enter Try.func22, Try.ntmps22
  go_wp2_with fail
  refine HI.out.mono ?_
  rintro e w1 ⟨⟨i, rfl, hi⟩, hb⟩
  go_wp2_with fail
  go_ret
  exact ⟨ret_bool (by rw [← hi]), hb⟩
end Go.Proofs.Ytljljhjdlicfeaa
