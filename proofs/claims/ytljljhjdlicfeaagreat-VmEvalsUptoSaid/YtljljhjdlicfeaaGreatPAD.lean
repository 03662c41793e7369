/-
  Whether a list holds a value that may not be: slices.ContainsFunc, slices.IndexFunc over what Apply asks. Conditions: lists and texts shorter than 2^31.
-/
import Derived.Test.YtljljhjdlicfeaaGreatMH
import Derived.Test.YtljljhjdlicfeaaGreatMC
import Derived.Deep.RegionLaw
import Derived.Deep.DeepCutAuto
import Derived.Deep.CutRange
import Derived.Test.YtljljhjdlicfeaaGreatMD
import Derived.Test.YtljljhjdlicfeaaGreatPAG
import Derived.StillTailTactics
namespace Go.Proofs.YtljljhjdlicfeaaGreat
open Go Go.RowKit
set_option maxRecDepth 100000
set_option linter.unusedVariables false
theorem bad_any (x : GV) (fx : x.fit) (s : Value) (w : World) (B : Nat) (hB : B ≤ w.heap.size) (hs : isL w 0 B s x.l) :
    Calls Tryz.prog 81 #[x.agg s] w fun e w' => e = .returned (.bool (!vmay x)) ∧ Below w.heap.size w w' := by
  have HS := Lib.hid hs
  have HF := Lib.hid fx
  obtain ⟨a, c, rfl⟩ := isL_form hs
  clear hs fx
  simp only [GV.agg]
  go_enter Tryz.func81, Tryz.ntmps81
  go_wp2_with fail
  have hb0 := (Below.refl w.heap.size w).alloc (Nat.le_refl _) (.cells #[.int .i64 x.k, .bool x.b, .int .i64 x.n, .string x.t, .slice a x.l.length c] 36)
  refine (vCheck_any x HF.out (.slice a x.l.length c) _ B (Nat.le_trans hB hb0.size) (isL_below HS.out hb0 hB)).mono ?_
  rintro e w1 ⟨rfl, hb1⟩
  go_wp2_with fail
  go_ret
  exact ⟨rfl, below_down hb0 hb1 (Nat.le_refl _)⟩
def badL (l : List GV) : Bool := l.any fun x => !vmay x
set_option maxHeartbeats 800000 in
theorem index_any (l : List GV) (hl : l.length ≤ 2147483647) (fl : fitL l) (s : Value) (w : World) (B : Nat) (hB : B ≤ w.heap.size) (hs : isL w 0 B s l) :
    Calls Tryz.prog 106 #[s, fn0 81] w fun e w' => (∃ i : Int, e = .returned (.int .i64 i) ∧ (decide (0 ≤ i)) = badL l) ∧ Below w.heap.size w w' := by
  obtain ⟨a, c, b, off, rfl, hc, ha, hA⟩ := isL_open hs
  have HA := Lib.hid hA
  have Ha := Lib.hid ha
  have HF := Lib.hid fl
  clear hA hs ha fl
  unfold fn0
  go_enter Tryz.func106, Tryz.ntmps106
  go_wp2_with fail
  go_loopw [8] (fun i wr => ∃ k : Nat, k ≤ l.length ∧ i = .int .i64 k ∧ Below w.heap.size w wr ∧ Hid (badL l = badL (l.drop k))) (fun i _ => l.length - (intOf i).toNat)
  case atStart => exact ⟨0, Nat.zero_le _, rfl, Below.refl _ _, rfl⟩
  case round =>
    obtain ⟨k, hk, rfl, hbel, hR⟩ := hrel
    have HB := Lib.hid hbel
    clear hbel
    by_cases hlt : k < l.length
    · obtain ⟨rfl, hb1, hb2⟩ := Ha.out (by omega)
      obtain ⟨ax, cx, x0, x1, x2, x3, x4, hsx⟩ := cellsV_slice (HA.out k hlt)
      have hg : ∀ o, wr.cell? ⟨b, o, none⟩ = w.cell? ⟨b, o, none⟩ := fun o => HB.out.cell (p := ⟨b, o, none⟩) (Nat.lt_of_lt_of_le hb2 hB)
      have hz : b < wr.heap.size := Nat.lt_of_lt_of_le hb2 (Nat.le_trans hB HB.out.size)
      have Hsx := Lib.hid hsx
      have HR : Hid (badL l = ((!vmay l[k]) || badL (l.drop (k + 1)))) := by
        rw [Hid, hR.out, List.drop_eq_getElem_cons hlt]; rfl
      clear hsx hR
      go_wp2_with fail
      refine (bad_any l[k] (fitL_mem HF.out _ (List.getElem_mem hlt)) (.slice ax l[k].l.length cx) wr B (Nat.le_trans hB HB.out.size) (isL_below Hsx.out HB.out hB)).mono ?_
      rintro e w1 ⟨rfl, hb3⟩
      have HB3 := Lib.hid (below_down HB.out hb3 (Nat.le_refl _))
      clear hb3 hg x0 x1 x2 x3 x4 Ha
      cases hv : vmay l[k]
      · have HV := Lib.hid hv
        clear hv
        go_wp2_with fail
        go_ret
        exact ⟨⟨(k : Int), rfl, by rw [HR.out, HV.out]; simp⟩, HB3.out⟩
      · have HV := Lib.hid hv
        clear hv
        go_wp2_with fail
        go_roundw
        case rel => exact ⟨k + 1, by omega, by go_num, HB3.out, by rw [Hid, HR.out, HV.out]; rfl⟩
        case measure => simp [intOf]; omega
    · go_wp2_with fail
      go_ret
      exact ⟨⟨-1, rfl, by rw [hR.out, List.drop_of_length_le (by omega)]; rfl⟩, HB.out⟩
theorem contains_any (l : List GV) (hl : l.length ≤ 2147483647) (fl : fitL l) (s : Value) (w : World) (B : Nat) (hB : B ≤ w.heap.size) (hs : isL w 0 B s l) :
    Calls Tryz.prog 80 #[s, fn0 81] w fun e w' => e = .returned (.bool (badL l)) ∧ Below w.heap.size w w' := by
  have HI := Lib.hid (index_any l hl fl s w B hB hs)
  obtain ⟨a, c, rfl⟩ := isL_form hs
  unfold fn0 at HI ⊢
  clear hs fl
  go_enter Tryz.func80, Tryz.ntmps80
  go_wp2_with fail
  refine HI.out.mono ?_
  rintro e w1 ⟨⟨i, rfl, hi⟩, hb⟩
  go_wp2_with fail
  go_ret
  exact ⟨ret_bool (by rw [← hi]), hb⟩
end Go.Proofs.YtljljhjdlicfeaaGreat
namespace Go.Proofs.YtljljhjdlicfeaaGreat
open Go Go.RowKit
set_option maxRecDepth 100000
set_option linter.unusedVariables false
def numA (n : Int) : Value := .agg #[.int .i64 2, .bool false, .int .i64 n, .string { data := #[] }, .slice none 0 0]
theorem number_v (n : Int) (w : World) : Calls Tryz.prog 103 #[.int .i64 n] w fun e w' => e = .returned (.tuple #[numA n, .int .i64 0]) ∧ Below w.heap.size w w' := by
  unfold numA
  go_enter Tryz.func103, Tryz.ntmps103
  go_wp2_with fail
  refine bodyPost_ret (v := .tuple #[.agg #[.int .i64 2, .bool false, .int .i64 n, .string { data := #[] }, .slice none 0 0], .int .i64 0]) (by simp [results, Tryz.results103, go_sem]) rfl ⟨rfl, ?_⟩
  exact (Below.refl _ _).alloc (Nat.le_refl _) _
theorem no_v (n : Int) (w : World) : Calls Tryz.prog 82 #[.int .i64 n] w fun e w' => e = .returned (.tuple #[.agg #[.int .i64 0, .bool false, .int .i64 0, .string { data := #[] }, .slice none 0 0], .int .i64 n]) ∧ Below w.heap.size w w' := by
  go_enter Tryz.func82, Tryz.ntmps82
  go_wp2_with fail
  refine bodyPost_ret (v := .tuple #[.agg #[.int .i64 0, .bool false, .int .i64 0, .string { data := #[] }, .slice none 0 0], .int .i64 n]) (by simp [results, Tryz.results82, go_sem]) rfl ⟨rfl, ?_⟩
  exact (Below.refl _ _).alloc (Nat.le_refl _) _
theorem within_v (n : Int) (b : Bool) (w : World) : Calls Tryz.prog 109 #[.int .i64 n, .bool b] w fun e w' => e = .returned (.tuple #[.int .i64 (if b = true then n else 0), .int .i64 (if b = true then 0 else 2)]) ∧ w' = w := by
  cases b
  all_goals
    go_enter Tryz.func109, Tryz.ntmps109
    go_wp2_with fail
    go_ret2
    exact ⟨rfl, rfl⟩
theorem field_do (n c : Value) (w : World) : (Instr.field 130 (.agg #[n, c]) 1).run Tryz.prog w = .ok c w := by
  have h := Tryz.isAgg128 w
  simp [Instr.field, run_underlying Tryz.underlying130, part, h, Result.andThen, asAgg]
theorem set5_far {w : World} {g b o : Nat} (h : b ≠ g) (a0 a1 a2 a3 a4 : Value) : (((((w.setCell ⟨g, 0, none⟩ a0).setCell ⟨g, 1, none⟩ a1).setCell ⟨g, 2, none⟩ a2).setCell ⟨g, 3, none⟩ a3).setCell ⟨g, 4, none⟩ a4).cell? ⟨b, o, none⟩ = w.cell? ⟨b, o, none⟩ := by
  have k : ∀ (w : World) (i : Nat) (a : Value), (w.setCell ⟨g, i, none⟩ a).heap[b]? = w.heap[b]? := fun w i a => Below.heap_setCell _ _ _ _ h
  exact World.cell?_of_block (a := ⟨b, o, none⟩) ((k _ _ _).trans ((k _ _ _).trans ((k _ _ _).trans ((k _ _ _).trans (k _ _ _)))))
end Go.Proofs.YtljljhjdlicfeaaGreat
namespace Go.Proofs.YtljljhjdlicfeaaGreat
open Go Go.RowKit
set_option maxRecDepth 100000
set_option linter.unusedVariables false
end Go.Proofs.YtljljhjdlicfeaaGreat
namespace Go.Proofs.YtljljhjdlicfeaaGreat
open Go Go.RowKit
set_option maxRecDepth 100000
set_option linter.unusedVariables false
theorem lookup_run (w : World) (b : Nat) (es : Array MapEntry) (clock : Nat) (hh : w.heap[b]? = some (.map es clock)) (n : Int) (i : Nat) (v : Value) (hf : Instr.findNow (.int .i64) (.int .i64 n) es.toList 0 = some (some (i, v))) :
    (Instr.lookup 132 (.map (some b)) (.int .i64 n) true).run Tryz.prog w = .ok (.tuple #[v, .bool true]) w := by
  have hc : ∀ e, (Instr.checkKey e 10000 3 (.int .i64 n)).run Tryz.prog w = .ok () w := fun e => MapKept.run_checkKey (k := .int .i64 n) Tryz.underlying3 (by simp [MapKept.IsKey]) e 9999
  simp [Instr.lookup, run_underlying Tryz.underlying132, MapKept.run_getObj_map hh, hc, MapKept.run_findKey Tryz.underlying3 hf, Result.andThen]
end Go.Proofs.YtljljhjdlicfeaaGreat
namespace Go.Proofs.YtljljhjdlicfeaaGreat
open Go Go.RowKit
set_option maxRecDepth 100000
set_option linter.unusedVariables false
def numP (n : Int) : GV × Int := (⟨2, false, n, ⟨#[]⟩, []⟩, 0)
def truthP (b : Bool) : GV × Int := (⟨1, b, 0, ⟨#[]⟩, []⟩, 0)
def noP (n : Int) : GV × Int := (⟨0, false, 0, ⟨#[]⟩, []⟩, n)
def GivesO (w : World) (r : GV × Int) (e : Ending) (w' : World) : Prop := ∃ a c, e = .returned (.tuple #[r.1.agg (.slice a r.1.l.length c), .int .i64 r.2]) ∧ isR w' (since w.heap.size w') (.slice a r.1.l.length c) r.1.l ∧ Below w.heap.size w w'
theorem isR_nil (w : World) (S : Nat → Prop) : isR w S (.slice none 0 0) [] := ⟨none, 0, rfl, Nat.le_refl _, fun h => absurd h (by omega), fun h => absurd h (by simp)⟩
theorem gives_flat {w w' : World} {r : GV × Int} {e : Ending} (hl : r.1.l = []) (he : e = .returned (.tuple #[.agg #[.int .i64 r.1.k, .bool r.1.b, .int .i64 r.1.n, .string r.1.t, .slice none 0 0], .int .i64 r.2])) (hb : Below w.heap.size w w') : GivesO w r e w' :=
  ⟨none, 0, by rw [he, GV.agg, hl]; rfl, by rw [hl]; exact isR_nil _ _, hb⟩
theorem boxes3 (w : World) (a b c : Array Value) (T : TypeId) : ∃ wA, wA = ((w.alloc (.cells a T)).alloc (.cells b T)).alloc (.cells c T) ∧ Below w.heap.size w wA ∧ wA.heap[w.heap.size]? = some (.cells a T (0, 0)) ∧ wA.heap[w.heap.size + 1]? = some (.cells b T (0, 0)) ∧ wA.heap[w.heap.size + 2]? = some (.cells c T (0, 0)) ∧ wA.heap.size = w.heap.size + 3 := by
  refine ⟨_, rfl, (((Below.refl _ _).alloc (Nat.le_refl _) _).alloc (by simp) _).alloc (by simp; omega) _, heap_three, heap_three2, ?_, by simp⟩
  have := @heap_last ((w.alloc (.cells a T)).alloc (.cells b T)) (.cells c T)
  rwa [show ((w.alloc (.cells a T)).alloc (.cells b T)).heap.size = w.heap.size + 2 from by simp] at this
theorem boxes2 (w : World) (a b : Array Value) (T : TypeId) : ∃ wA, wA = (w.alloc (.cells a T)).alloc (.cells b T) ∧ Below w.heap.size w wA ∧ wA.heap[w.heap.size]? = some (.cells a T (0, 0)) ∧ wA.heap[w.heap.size + 1]? = some (.cells b T (0, 0)) ∧ wA.heap.size = w.heap.size + 2 :=
  ⟨_, rfl, ((Below.refl _ _).alloc (Nat.le_refl _) _).alloc (by simp) _, heap_two, heap_second, by simp⟩
theorem below_set5 {B b : Nat} {w w' : World} (h : Below B w w') (hb : B ≤ b) (a0 a1 a2 a3 a4 : Value) : Below B w (((((w'.setCell ⟨b, 0, none⟩ a0).setCell ⟨b, 1, none⟩ a1).setCell ⟨b, 2, none⟩ a2).setCell ⟨b, 3, none⟩ a3).setCell ⟨b, 4, none⟩ a4) :=
  ((((h.setCell (p := ⟨b, 0, none⟩) hb _).setCell (p := ⟨b, 1, none⟩) hb _).setCell (p := ⟨b, 2, none⟩) hb _).setCell (p := ⟨b, 3, none⟩) hb _).setCell (p := ⟨b, 4, none⟩) hb _
theorem truth_v (b : Bool) (w : World) : Calls Tryz.prog 90 #[.bool b] w fun e w' => e = .returned (.tuple #[.agg #[.int .i64 1, .bool b, .int .i64 0, .string { data := #[] }, .slice none 0 0], .int .i64 0]) ∧ Below w.heap.size w w' := by
  go_enter Tryz.func90, Tryz.ntmps90
  go_wp2_with fail
  refine bodyPost_ret (v := .tuple #[.agg #[.int .i64 1, .bool b, .int .i64 0, .string { data := #[] }, .slice none 0 0], .int .i64 0]) (by simp [results, Tryz.results90, go_sem]) rfl ⟨rfl, ?_⟩
  exact (Below.refl _ _).alloc (Nat.le_refl _) _
def DoC (f : Nat) (caps : Array Value) (K : World → Prop) (g : GV → GV → GV × Int) : Prop := ∀ (x y : GV), x.fit → y.fit → ∀ (sx sy : Value) (w : World) (B : Nat), B ≤ w.heap.size → isL w 0 B sx x.l → isL w 0 B sy y.l → K w →
  Calls Tryz.prog f (#[x.agg sx, y.agg sy] ++ caps) w (GivesO w (g x y))
end Go.Proofs.YtljljhjdlicfeaaGreat
namespace Go.Proofs.YtljljhjdlicfeaaGreat
open Go Go.RowKit
set_option maxRecDepth 100000
set_option linter.unusedVariables false
def inI (n : Int) : Prop := -9223372036854775808 ≤ n ∧ n ≤ 9223372036854775807
instance (n : Int) : Decidable (inI n) := by unfold inI; exact inferInstance
def boundK (n : Int) : Int × Int := if inI n then (n, 0) else (0, 2)
def divK (a b : Int) : Int × Int := if b = 0 then (0, 3) else boundK (a.tdiv b)
def modK (a b : Int) : Int × Int := if b = 0 then (0, 3) else (a.tmod b, 0)
theorem add_ok (a b : Int) (ha : inI a) (hb : inI b) : (decide (a < wrap64 (a + b)) == decide (0 < b)) = decide (inI (a + b)) := by
  by_cases h : inI (a + b)
  · rw [decide_eq_true h]
    unfold inI wrap64 at *
    rw [beq_iff_eq, decide_eq_decide]
    omega
  · rw [decide_eq_false h]
    unfold inI wrap64 at *
    rw [beq_eq_false_iff_ne, ne_eq, decide_eq_decide]
    omega
theorem sub_ok (a b : Int) (ha : inI a) (hb : inI b) : (decide (wrap64 (a - b) < a) == decide (0 < b)) = decide (inI (a - b)) := by
  by_cases h : inI (a - b)
  · rw [decide_eq_true h]
    unfold inI wrap64 at *
    rw [beq_iff_eq, decide_eq_decide]
    omega
  · rw [decide_eq_false h]
    unfold inI wrap64 at *
    rw [beq_eq_false_iff_ne, ne_eq, decide_eq_decide]
    omega
theorem wrap64I {n : Int} (h : inI n) : wrap64 n = n := by unfold inI wrap64 at *; omega
theorem tdiv_in (a b : Int) (ha : inI a) (hb : inI b) (h0 : b ≠ 0) (h : ¬ (a = -9223372036854775808 ∧ b = -1)) : inI (a.tdiv b) := by
  have h1 : (a.tdiv b).natAbs = a.natAbs / b.natAbs := Int.natAbs_tdiv a b
  have h2 : 1 ≤ b.natAbs := by omega
  have h3 : a.natAbs / b.natAbs ≤ a.natAbs := Nat.div_le_self _ _
  unfold inI at *
  by_cases hb1 : b.natAbs = 1
  · have hb2 : b = 1 ∨ b = -1 := by omega
    rcases hb2 with rfl | rfl
    · rw [Int.tdiv_one]; exact ha
    · rw [Int.tdiv_neg, Int.tdiv_one]; omega
  · have h4 : a.natAbs / b.natAbs ≤ a.natAbs / 2 := Nat.div_le_div_left (by omega) (by omega)
    omega
theorem bound_in (n : Int) (c : Bool) (h : c = decide (inI n)) : (if c = true then wrap64 n else 0) = (boundK n).1 ∧ (if c = true then (0 : Int) else 2) = (boundK n).2 := by
  subst h
  unfold boundK
  by_cases hn : inI n
  · rw [if_pos hn, wrap64I hn]; simp [hn]
  · rw [if_neg hn]; simp [hn]
def ArC (f : Nat) (g : Int → Int → Int × Int) : Prop := ∀ (a b : Int), inI a → inI b → ∀ w : World, Calls Tryz.prog f #[.int .i64 a, .int .i64 b] w fun e w' => e = .returned (.tuple #[.int .i64 (g a b).1, .int .i64 (g a b).2]) ∧ w' = w
theorem add_k : ArC 112 (fun a b => boundK (a + b)) := by
  intro a b ha hb w
  have hok := bound_in _ _ (add_ok a b ha hb)
  go_enter Tryz.func112, Tryz.ntmps112
  go_wp2_with fail
  refine (within_v _ _ _).mono ?_
  rintro e w1 ⟨rfl, rfl⟩
  rw [hok.1, hok.2]
  go_wp2_with fail
  go_ret2
  exact ⟨rfl, rfl⟩
theorem sub_k : ArC 88 (fun a b => boundK (a - b)) := by
  intro a b ha hb w
  have hok := bound_in _ _ (sub_ok a b ha hb)
  go_enter Tryz.func88, Tryz.ntmps88
  go_wp2_with fail
  refine (within_v _ _ _).mono ?_
  rintro e w1 ⟨rfl, rfl⟩
  rw [hok.1, hok.2]
  go_wp2_with fail
  go_ret2
  exact ⟨rfl, rfl⟩
theorem mod_k : ArC 101 modK := by
  intro a b ha hb w
  unfold modK
  by_cases h0 : b = 0
  · subst h0
    go_enter Tryz.func101, Tryz.ntmps101
    go_wp2_with fail
    go_ret2
    exact ⟨rfl, rfl⟩
  · rw [if_neg h0]
    go_enter Tryz.func101, Tryz.ntmps101
    go_wp2_with fail
    go_ret2
    exact ⟨rfl, rfl⟩
theorem div_k : ArC 100 divK := by
  intro a b ha hb w
  unfold divK
  by_cases h0 : b = 0
  · subst h0
    go_enter Tryz.func100, Tryz.ntmps100
    go_wp2_with fail
    go_ret2
    exact ⟨rfl, rfl⟩
  · rw [if_neg h0]
    by_cases hm : a = -9223372036854775808 ∧ b = -1
    · obtain ⟨rfl, rfl⟩ := hm
      go_enter Tryz.func100, Tryz.ntmps100
      go_wp2_with fail
      refine (within_v _ _ _).mono ?_
      rintro e w1 ⟨rfl, rfl⟩
      go_wp2_with fail
      go_ret2
      exact ⟨rfl, rfl⟩
    have hin := tdiv_in a b ha hb h0 hm
    have hw := wrap64I hin
    have hok : boundK (a.tdiv b) = (a.tdiv b, 0) := if_pos hin
    rw [hok]
    by_cases ham : a = -9223372036854775808
    · have hbm : (b != -1) = true := by simp; omega
      have hbm2 : (b == -1) = false := by simp; omega
      have hbm3 : (a == -9223372036854775808) = true := by simpa using ham
      have hbm4 : (a != -9223372036854775808) = false := by simpa using ham
      obtain ⟨d, hd⟩ : ∃ d, d = a.tdiv b := ⟨_, rfl⟩
      rw [← hd] at hw ⊢
      have HW : wrap64 (a.tdiv b) = d := by rw [← hd]; exact hw
      clear ham hm hin hok hd hw
      go_enter Tryz.func100, Tryz.ntmps100
      go_wp2_with fail
      refine (within_v _ _ _).mono ?_
      rintro e w1 ⟨rfl, rfl⟩
      go_wp2_with fail
      go_ret2
      exact ⟨rfl, rfl⟩
    · have hbm : (a != -9223372036854775808) = true := by simpa using ham
      have hbm2 : (a == -9223372036854775808) = false := by simpa using ham
      go_enter Tryz.func100, Tryz.ntmps100
      go_wp2_with fail
      refine (within_v _ _ _).mono ?_
      rintro e w1 ⟨rfl, rfl⟩
      go_wp2_with fail
      go_ret2
      exact ⟨rfl, rfl⟩
def reckP (g : Int → Int → Int × Int) (x y : GV) : GV × Int := if x.k = 2 ∧ y.k = 2 then (if (g x.n y.n).2 = 0 then numP (g x.n y.n).1 else noP (g x.n y.n).2) else noP 4
set_option maxHeartbeats 1600000 in
theorem do_reck (f : Nat) (g : Int → Int → Int × Int) (eg : ∀ (args : Array Value) (w : World), (callFunc f args).run Tryz.prog w = .ok (.enter f args) w) (hf : ArC f g) (b : Nat) : DoC 108 #[.pointer (some ⟨b, 0, none⟩)] (fun w => lies w b (fn0 f) 141) (reckP g) := by
  intro x y fx fy sx sy w B hB hx hy hl
  have HL := Lib.hid hl
  have hlt := lies_lt hl
  have HF := Lib.hid hf
  have ix : inI x.n := ⟨(fit_open fx).2.2.1, (fit_open fx).2.2.2.1⟩
  have iy : inI y.n := ⟨(fit_open fy).2.2.1, (fit_open fy).2.2.2.1⟩
  have HIX := Lib.hid ix
  have HIY := Lib.hid iy
  clear hl hf ix iy
  obtain ⟨ax, cx, rfl⟩ := isL_form hx
  obtain ⟨ay, cy, rfl⟩ := isL_form hy
  have HX := Lib.hid hx
  have HY := Lib.hid hy
  have HFX := Lib.hid fx
  have HFY := Lib.hid fy
  obtain ⟨P, hP⟩ : ∃ P, P = reckP g x y := ⟨_, rfl⟩
  rw [← hP]
  have HP := Lib.hid hP
  clear hx hy fx fy hP
  obtain ⟨kx, bx, nx, tx, lx⟩ := x
  obtain ⟨ky, by_, ny, ty, ly⟩ := y
  simp only [GV.agg]
  show Calls Tryz.prog 108 #[.agg #[.int .i64 kx, .bool bx, .int .i64 nx, .string tx, .slice ax lx.length cx], .agg #[.int .i64 ky, .bool by_, .int .i64 ny, .string ty, .slice ay ly.length cy], .pointer (some ⟨b, 0, none⟩)] w _
  go_enter Tryz.func108, Tryz.ntmps108
  go_upto_region 1 with fail
  obtain ⟨wA, hwA, hb0, h0, h1, h2, hsz⟩ := boxes3 w #[.int .i64 kx, .bool bx, .int .i64 nx, .string tx, .slice ax lx.length cx] #[.int .i64 ky, .bool by_, .int .i64 ny, .string ty, .slice ay ly.length cy] #[.int .i64 0, .bool false, .int .i64 0, .string { data := #[] }, .slice none 0 0] 36
  rw [← hwA]
  have hcz : wA.cell? ⟨b, 0, none⟩ = some (.func (.func f) #[] #[]) := (hb0.cell (p := ⟨b, 0, none⟩) hlt).trans ((cell_of HL.out 0).trans rfl)
  have HB0 := Lib.hid hb0
  have HZ := Lib.hid h2
  have q0 := fun o => cell_of h0 o
  have q1 := fun o => cell_of h1 o
  have s0 : w.heap.size < wA.heap.size := by omega
  have s1 : w.heap.size + 1 < wA.heap.size := by omega
  have s2 : w.heap.size + 2 < wA.heap.size := by omega
  have s5 : b < wA.heap.size := by omega
  clear hwA hb0 h0 h1 h2 hsz
  by_cases hk : kx = 2
  · by_cases hk2 : ky = 2
    · subst hk
      subst hk2
      have e0 : Hid (P = if (g nx ny).2 = 0 then numP (g nx ny).1 else noP (g nx ny).2) := by rw [Hid, HP.out, reckP, if_pos ⟨rfl, rfl⟩]
      have HC := Lib.hid (HF.out nx ny HIX.out HIY.out)
      obtain ⟨m, hm⟩ : ∃ m, m = (g nx ny).1 := ⟨_, rfl⟩
      obtain ⟨er, her⟩ : ∃ m, m = (g nx ny).2 := ⟨_, rfl⟩
      rw [← hm, ← her] at e0 HC
      clear hm her
      go_wp2_with fail
      refine (HC.out _).mono ?_
      rintro e w1 ⟨rfl, rfl⟩
      by_cases h0 : er = 0
      · subst h0
        have HN : Hid (P = numP m) := by rw [Hid, e0.out, if_pos rfl]
        go_wp2_with fail
        refine (number_v m _).mono ?_
        rintro e w9 ⟨rfl, hb9⟩
        have HB9 := Lib.hid (below_down HB0.out hb9 (Nat.le_refl _))
        have hz9 := (hb9.block (w.heap.size + 2) s2).trans HZ.out
        have s9 : w.heap.size + 2 < w9.heap.size := by have := hb9.size; omega
        have q9 := fun o => cell_of hz9 o
        have f9 := fun o => frozen_of hz9 o
        clear hb9 hz9
        unfold numA
        go_wp2_with fail
        refine bodyPost_ret (v := .tuple #[.agg #[.int .i64 2, .bool false, .int .i64 m, .string { data := #[] }, .slice none 0 0], .int .i64 0]) (by simp [results, Tryz.results108, go_sem, q9]) rfl (gives_flat (by rw [HN.out]; rfl) (by rw [HN.out]; rfl) (below_set5 HB9.out (by omega) _ _ _ _ _))
      · have hne : (er != 0) = true := by simp; omega
        have hne2 : (er == 0) = false := by simp; omega
        have HN : Hid (P = noP er) := by rw [Hid, e0.out, if_neg h0]
        clear h0
        go_wp2_with fail
        refine (no_v er _).mono ?_
        rintro e w9 ⟨rfl, hb9⟩
        have HB9 := Lib.hid (below_down HB0.out hb9 (Nat.le_refl _))
        have hz9 := (hb9.block (w.heap.size + 2) s2).trans HZ.out
        have s9 : w.heap.size + 2 < w9.heap.size := by have := hb9.size; omega
        have q9 := fun o => cell_of hz9 o
        have f9 := fun o => frozen_of hz9 o
        clear hb9 hz9
        go_wp2_with fail
        refine bodyPost_ret (v := .tuple #[.agg #[.int .i64 0, .bool false, .int .i64 0, .string { data := #[] }, .slice none 0 0], .int .i64 er]) (by simp [results, Tryz.results108, go_sem, q9]) rfl (gives_flat (by rw [HN.out]; rfl) (by rw [HN.out]; rfl) (below_set5 HB9.out (by omega) _ _ _ _ _))
    · have HN : Hid (P = noP 4) := by rw [Hid, HP.out, reckP, if_neg (fun h => hk2 h.2)]
      have hne : (ky != 2) = true := by simp; omega
      have hne2 : (ky == 2) = false := by simp; omega
      subst hk
      clear hk2
      go_wp2_with fail
      refine (no_v 4 _).mono ?_
      rintro e w9 ⟨rfl, hb9⟩
      have HB9 := Lib.hid (below_down HB0.out hb9 (Nat.le_refl _))
      have hz9 := (hb9.block (w.heap.size + 2) s2).trans HZ.out
      have s9 : w.heap.size + 2 < w9.heap.size := by have := hb9.size; omega
      have q9 := fun o => cell_of hz9 o
      have f9 := fun o => frozen_of hz9 o
      clear hb9 hz9
      go_wp2_with fail
      refine bodyPost_ret (v := .tuple #[.agg #[.int .i64 0, .bool false, .int .i64 0, .string { data := #[] }, .slice none 0 0], .int .i64 4]) (by simp [results, Tryz.results108, go_sem, q9]) rfl (gives_flat (by rw [HN.out]; rfl) (by rw [HN.out]; rfl) (below_set5 HB9.out (by omega) _ _ _ _ _))
  · have HN : Hid (P = noP 4) := by rw [Hid, HP.out, reckP, if_neg (fun h => hk h.1)]
    have hne : (kx != 2) = true := by simp; omega
    have hne2 : (kx == 2) = false := by simp; omega
    clear hk
    go_wp2_with fail
    refine (no_v 4 _).mono ?_
    rintro e w9 ⟨rfl, hb9⟩
    have HB9 := Lib.hid (below_down HB0.out hb9 (Nat.le_refl _))
    have hz9 := (hb9.block (w.heap.size + 2) s2).trans HZ.out
    have s9 : w.heap.size + 2 < w9.heap.size := by have := hb9.size; omega
    have q9 := fun o => cell_of hz9 o
    have f9 := fun o => frozen_of hz9 o
    clear hb9 hz9
    go_wp2_with fail
    refine bodyPost_ret (v := .tuple #[.agg #[.int .i64 0, .bool false, .int .i64 0, .string { data := #[] }, .slice none 0 0], .int .i64 4]) (by simp [results, Tryz.results108, go_sem, q9]) rfl (gives_flat (by rw [HN.out]; rfl) (by rw [HN.out]; rfl) (below_set5 HB9.out (by omega) _ _ _ _ _))
end Go.Proofs.YtljljhjdlicfeaaGreat
namespace Go.Proofs.YtljljhjdlicfeaaGreat
open Go Go.RowKit
set_option maxRecDepth 100000
set_option linter.unusedVariables false
theorem wrap64_kin (p : Int) : ∃ q, p = wrap64 p + 18446744073709551616 * q := by
  refine ⟨(p + 9223372036854775808) / 18446744073709551616, ?_⟩
  unfold wrap64
  omega
theorem mul_yes {a b : Int} (ha : a ≠ 0) (hb : inI b) (h : inI (a * b)) : wrap64 ((wrap64 (a * b)).tdiv a) = b ∧ ¬ (a = -1 ∧ b = -9223372036854775808) := by
  rw [wrap64I h, Int.mul_tdiv_cancel_left b ha, wrap64I hb]
  refine ⟨rfl, ?_⟩
  rintro ⟨rfl, rfl⟩
  unfold inI at h
  omega
theorem mul_no {a b : Int} (ha : inI a) (hb : inI b) (h0 : a ≠ 0) (h : ¬ inI (a * b)) (h2 : ¬ (a = -1 ∧ b = -9223372036854775808)) : wrap64 ((wrap64 (a * b)).tdiv a) ≠ b := by
  intro e
  obtain ⟨q, hq⟩ := wrap64_kin (a * b)
  obtain ⟨x, hx⟩ : ∃ x, x = wrap64 (a * b) := ⟨_, rfl⟩
  have hxi : inI x := by rw [hx]; unfold inI wrap64; omega
  rw [← hx] at e hq
  have hq0 : q ≠ 0 := by
    rintro rfl
    apply h
    rw [hq]
    simpa using hxi
  by_cases ha1 : a = -1
  · subst ha1
    have hb2 : b ≠ -9223372036854775808 := fun hb2 => h2 ⟨rfl, hb2⟩
    apply h
    unfold inI at *
    omega
  have hin := tdiv_in x a hxi ha h0 (fun hh => ha1 hh.2)
  rw [wrap64I hin] at e
  have h1 := Int.mul_tdiv_add_tmod x a
  rw [e] at h1
  have h3 : (x.tmod a).natAbs = x.natAbs % a.natAbs := Int.natAbs_tmod x a
  have h4 : x.natAbs % a.natAbs < a.natAbs := Nat.mod_lt _ (by omega)
  obtain ⟨r, hr⟩ : ∃ r, r = x.tmod a := ⟨_, rfl⟩
  rw [← hr] at h1 h3
  have h5 : r.natAbs < a.natAbs := by omega
  obtain ⟨p, hp⟩ : ∃ p, p = a * b := ⟨_, rfl⟩
  rw [← hp] at h1 hq
  unfold inI at ha
  omega
theorem mul_k : ArC 99 (fun a b => boundK (a * b)) := by
  intro a b ha hb w
  dsimp only
  by_cases h0 : a = 0
  · subst h0
    have e : boundK (0 * b) = (0, 0) := by rw [Int.zero_mul]; rfl
    have z : (0 : Int) * b = 0 := Int.zero_mul b
    rw [e]
    go_enter Tryz.func99, Tryz.ntmps99
    go_wp2_with fail
    refine (within_v _ _ _).mono ?_
    rintro e w1 ⟨rfl, rfl⟩
    go_wp2_with fail
    go_ret2
    exact ⟨rfl, rfl⟩
  have hn0 : (a == 0) = false := by simpa using h0
  have hn1 : (a != 0) = true := by simpa using h0
  obtain ⟨P, hP⟩ : ∃ P, P = boundK (a * b) := ⟨_, rfl⟩
  rw [← hP]
  by_cases hin : inI (a * b)
  · obtain ⟨h1, h2⟩ := mul_yes h0 hb hin
    have hT : (wrap64 ((wrap64 (a * b)).tdiv a) == b) = true := by simpa using h1
    have hPe : P = (wrap64 (a * b), 0) := by rw [hP, boundK, if_pos hin, wrap64I hin]
    obtain ⟨M, hM⟩ : ∃ M, M = wrap64 (a * b) := ⟨_, rfl⟩
    rw [← hM] at hT hPe
    by_cases ha1 : a = -1
    · have hb1 : (b == -9223372036854775808) = false := by simp; intro hb1; exact h2 ⟨ha1, hb1⟩
      have ha2 : (a == -1) = true := by simpa using ha1
      have HM : wrap64 (a * b) = M := hM.symm
      clear hin h1 h2 hP hM ha1
      go_enter Tryz.func99, Tryz.ntmps99
      go_wp2_with fail
      refine (within_v _ _ _).mono ?_
      rintro e w1 ⟨rfl, rfl⟩
      go_wp2_with fail
      go_ret2
      exact ⟨by subst hPe; rfl, rfl⟩
    · have ha2 : (a == -1) = false := by simpa using ha1
      have HM : wrap64 (a * b) = M := hM.symm
      clear hin h1 h2 hP hM ha1
      go_enter Tryz.func99, Tryz.ntmps99
      go_wp2_with fail
      refine (within_v _ _ _).mono ?_
      rintro e w1 ⟨rfl, rfl⟩
      go_wp2_with fail
      go_ret2
      exact ⟨by subst hPe; rfl, rfl⟩
  · have hPe : P = (0, 2) := by rw [hP, boundK, if_neg hin]
    obtain ⟨M, hM⟩ : ∃ M, M = wrap64 (a * b) := ⟨_, rfl⟩
    have HM : wrap64 (a * b) = M := hM.symm
    by_cases h2 : a = -1 ∧ b = -9223372036854775808
    · obtain ⟨rfl, rfl⟩ := h2
      have hMv : M = -9223372036854775808 := by rw [hM]; unfold wrap64; omega
      subst hMv
      have hw1 : wrap64 9223372036854775808 = -9223372036854775808 := by unfold wrap64; omega
      clear hin hP hM h0
      go_enter Tryz.func99, Tryz.ntmps99
      go_wp2_with fail
      refine (within_v _ _ _).mono ?_
      rintro e w1 ⟨rfl, rfl⟩
      go_wp2_with fail
      go_ret2
      exact ⟨by subst hPe; rfl, rfl⟩
    · have h1 := mul_no ha hb h0 hin h2
      rw [← hM] at h1
      have hT : (wrap64 (M.tdiv a) == b) = false := by simpa using h1
      clear hin h1 h2 hP hM
      go_enter Tryz.func99, Tryz.ntmps99
      go_wp2_with fail
      refine (within_v _ _ _).mono ?_
      rintro e w1 ⟨rfl, rfl⟩
      go_wp2_with fail
      go_ret2
      exact ⟨by subst hPe; rfl, rfl⟩
end Go.Proofs.YtljljhjdlicfeaaGreat
namespace Go.Proofs.YtljljhjdlicfeaaGreat
open Go Go.RowKit
set_option linter.unusedVariables false
theorem cmpI_bound (a b : Int) : -1 ≤ cmpI a b ∧ cmpI a b ≤ 1 := by
  unfold cmpI
  split
  · omega
  · split <;> omega
theorem cmpT_bound (a b : List UInt8) : -1 ≤ cmpT a b ∧ cmpT a b ≤ 1 := by
  unfold cmpT
  split
  · omega
  · split <;> omega
mutual
theorem ordV_bound : ∀ (x y : GV), -1 ≤ ordV x y ∧ ordV x y ≤ 1
  | ⟨k, b, n, t, l⟩, y => by
    rw [ordV_eq]
    dsimp only
    split
    · exact cmpI_bound _ _
    · split
      · omega
      · split
        · unfold bitI; split <;> split <;> omega
        · split
          · exact cmpI_bound _ _
          · split
            · exact ordL_bound l y.l
            · exact cmpT_bound _ _
theorem ordL_bound : ∀ (l m : List GV), -1 ≤ ordL l m ∧ ordL l m ≤ 1
  | [], [] => by simp [ordL]
  | [], _ :: _ => by simp [ordL]
  | _ :: _, [] => by simp [ordL]
  | x :: r, y :: s => by
    simp only [ordL]
    split
    · exact ordV_bound x y
    · exact ordL_bound r s
end
end Go.Proofs.YtljljhjdlicfeaaGreat
