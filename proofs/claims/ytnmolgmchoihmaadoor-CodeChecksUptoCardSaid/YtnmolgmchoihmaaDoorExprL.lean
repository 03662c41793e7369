/-
  What the writer's expr writes of all arguments in turn; of any expression. Conditions: fewer than 2^31 instructions.
-/
import Derived.Test.YtnmolgmchoihmaaDoorExprW
namespace Go.Proofs.YtnmolgmchoihmaaDoor
open Go Go.RowKit
set_option maxRecDepth 100000
set_option linter.unusedVariables false

theorem sizeE_take : ∀ (l : List GE) (k : Nat) (h : k < l.length), sizeE (l.take k) + l[k].size ≤ sizeE l
  | x :: r, 0, _ => by simp [sizeE]
  | x :: r, k + 1, h => by
    have := sizeE_take r k (by simpa using h)
    simp only [List.take_succ_cons, sizeE, List.getElem_cons_succ]
    omega

set_option maxHeartbeats 6400000 in
theorem expr_many (x : GE) (fx : x.fit) (hop : x.op ≠ 1 ∧ x.op ≠ 2 ∧ x.op ≠ 3 ∧ x.op ≠ 8 ∧ x.op ≠ 9) (hy : ∀ y ∈ x.args, ExprC y) : ExprC x := by
  intro l wb base ob s sa w B hl hB hst hs hsa
  have hsz := size_args x
  obtain ⟨aa, ca, bb, off, rfl, hc, ha, hA⟩ := isX_open hsa
  obtain ⟨a, c, rfl⟩ := isL_form hs
  have HST := Lib.hid hst
  have HE := Lib.hid (compE_eq x l.length)
  have HY := Lib.hid hy
  have HA := Lib.hid hA
  have Ha := Lib.hid ha
  have hwb : wb < base ∧ base ≤ w.heap.size := by obtain ⟨v, h1, h2, h3, h4, h5⟩ := hst; exact ⟨h4, h5⟩
  have HW := Lib.hid hwb
  have hBw : B ≤ w.heap.size := by omega
  have hfl := (fitE_open fx).2.2.2.2.1
  clear hs hsa hst fx hwb hA ha hy
  simp only [GE.agg]
  have hb0 : Below w.heap.size w (w.alloc (.cells #[.int .i64 x.op, .string x.text, .int .i64 x.v.k, .bool x.v.b, .int .i64 x.v.n, .string x.v.t, .slice a x.v.l.length c, .slice aa x.args.length ca] 30)) := (Below.refl w.heap.size w).alloc (Nat.le_refl _) _
  have HB0 := Lib.hid hb0
  clear hb0
  have e1 : (x.op == 1) = false := by simpa using hop.1
  have e2 : (x.op == 2) = false := by simpa using hop.2.1
  have e3 : (x.op == 3) = false := by simpa using hop.2.2.1
  have e8 : (x.op == 8) = false := by simpa using hop.2.2.2.1
  have e9 : (x.op == 9) = false := by simpa using hop.2.2.2.2
  have HOP := Lib.hid hop
  clear hop
  go_enter Tryd.func24, Tryd.ntmps24
  go_wp2_with fail
  go_loopw [64] (fun i wr => ∃ (k : Nat) (o' : Option Nat), k ≤ x.args.length ∧ i = .int .i64 k ∧ Hid (St wr wb base (l ++ compEs (x.args.take k) l.length) o') ∧
    Hid (Grow (· = wb) ob o' (w.alloc (.cells #[.int .i64 x.op, .string x.text, .int .i64 x.v.k, .bool x.v.b, .int .i64 x.v.n, .string x.v.t, .slice a x.v.l.length c, .slice aa x.args.length ca] 30)) wr)) (fun i _ => x.args.length - (intOf i).toNat)
  case atStart => exact ⟨0, ob, Nat.zero_le _, rfl, by rw [List.take_zero, show compEs [] l.length = [] from rfl, List.append_nil]; exact HST.out.keep HB0.out, Grow.refl _ _ _⟩
  case round =>
    obtain ⟨k, o', hk, rfl, hO, hG⟩ := hrel
    by_cases hlt : k < x.args.length
    · obtain ⟨rfl, hb2⟩ := Ha.out (by omega)
      obtain ⟨ay, cy, aay, cay, y0, y1, y2, y3, y4, y5, y6, y7, ys, ysa⟩ := cellsE_open (HA.out k hlt)
      have hg := fun o => row_keep HST.out hG.out hB hb2 o
      have hz : bb < wr.heap.size := by have := hG.out.size; have := HB0.out.size; omega
      have HYS := Lib.hid (And.intro (isL_grow (isL_below ys HB0.out hBw) hB (HST.out.keep HB0.out) hG.out) (isX_grow (isX_below ysa HB0.out hBw) hB (HST.out.keep HB0.out) hG.out))
      have hBr : B ≤ wr.heap.size := by have := hG.out.size; have := HB0.out.size; omega
      have hln := compEs_len (x.args.take k) l.length
      have hsm := sizeE_take x.args k hlt
      clear ys ysa
      go_wp2_with fail
      have hb1 : Below wr.heap.size wr (wr.alloc (.cells #[.int .i64 x.args[k].op, .string x.args[k].text, .int .i64 x.args[k].v.k, .bool x.args[k].v.b, .int .i64 x.args[k].v.n, .string x.args[k].v.t, .slice ay x.args[k].v.l.length cy, .slice aay x.args[k].args.length cay] 30)) := (Below.refl wr.heap.size wr).alloc (Nat.le_refl _) _
      refine (HY.out x.args[k] (List.getElem_mem _) _ wb base o' _ _ _ B ?_ hB (hO.out.keep hb1) (isL_below HYS.out.1 hb1 hBr) (isX_below HYS.out.2 hb1 hBr)).mono ?_
      · rw [List.length_append]; omega
      rintro e w2 ⟨rfl, o2, hst2, hg2⟩
      have HST2 := Lib.hid hst2
      have HG2 := Lib.hid ((hG.out.trans (Grow.of_below hb1)).trans hg2)
      clear hst2 hg2 hb1
      go_wp2_with fail
      go_roundw
      case rel =>
        refine ⟨k + 1, o2, by omega, by go_num, ?_, HG2⟩
        have := HST2.out
        rw [List.append_assoc, List.length_append, ← compEs_take_succ _ _ _ hlt] at this
        exact this
      case measure => simp [intOf]; omega
    · have q3 := fun k => cell_of (box_keep HST.out hG.out) k
      have hO2 : Hid (St wr wb base (l ++ compEs x.args l.length) o') := by rw [← List.take_of_length_le (l := x.args) (i := k) (by omega)]; exact hO.out
      have hln : (l ++ compEs x.args l.length).length ≤ 2147483647 := by have := compEs_len x.args l.length; rw [List.length_append]; omega
      have hfin : ∀ i, compE x l.length = compEs x.args l.length ++ [i] → ∀ o2 w2, St w2 wb base ((l ++ compEs x.args l.length) ++ [i]) o2 → St w2 wb base (l ++ compE x l.length) o2 := fun i h o2 w2 h2 => by rw [h, ← List.append_assoc]; exact h2
      have hE : compE x l.length = compEs x.args l.length ++ [if x.op = 4 then gi 3 0 x.text noV else if x.op = 5 then gi 4 x.args.length ByteArray.empty noV else gi 5 x.op ByteArray.empty noV] := by
        rw [HE.out, if_neg HOP.out.1, if_neg HOP.out.2.1, if_neg HOP.out.2.2.1, if_neg (by have := HOP.out; omega)]
      have HF := Lib.hid hfin
      have HE2 := Lib.hid hE
      clear hfin hE
      by_cases h4 : x.op = 4
      · have e4 : (x.op == 4) = true := by simp [h4]
        have H := Lib.hid h4
        clear h4
        go_wp2_with fail
        refine (put_any _ (gi 3 0 x.text noV) hln wb base o' _ _ hO2.out inner_nil).mono ?_
        rintro e w2 ⟨rfl, o2, hst', hgr⟩
        go_wp2_with fail
        go_end0
        exact ⟨rfl, o2, HF.out _ (by rw [HE2.out, if_pos H.out]) _ _ hst', (Grow.of_below HB0.out).trans (hG.out.trans hgr)⟩
      have e4 : (x.op == 4) = false := by simpa using h4
      have H4 := Lib.hid h4
      clear h4
      by_cases h5 : x.op = 5
      · have e5 : (x.op == 5) = true := by simp [h5]
        have H := Lib.hid h5
        clear h5
        go_wp2_with fail
        refine (put_any _ (gi 4 x.args.length ByteArray.empty noV) hln wb base o' _ _ hO2.out inner_nil).mono ?_
        rintro e w2 ⟨rfl, o2, hst', hgr⟩
        go_wp2_with fail
        go_end0
        exact ⟨rfl, o2, HF.out _ (by rw [HE2.out, if_neg H4.out, if_pos H.out]) _ _ hst', (Grow.of_below HB0.out).trans (hG.out.trans hgr)⟩
      have e5 : (x.op == 5) = false := by simpa using h5
      have H5 := Lib.hid h5
      clear h5
      go_wp2_with fail
      refine (put_any _ (gi 5 x.op ByteArray.empty noV) hln wb base o' _ _ hO2.out inner_nil).mono ?_
      rintro e w2 ⟨rfl, o2, hst', hgr⟩
      go_wp2_with fail
      go_end0
      exact ⟨rfl, o2, HF.out _ (by rw [HE2.out, if_neg H4.out, if_neg H5.out]) _ _ hst', (Grow.of_below HB0.out).trans (hG.out.trans hgr)⟩

theorem expr_all : ∀ (m : Nat) (x : GE), x.size ≤ m → x.fit → x.wf → ExprC x := by
  intro m
  induction m with
  | zero => exact fun x h => by have := size_args x; omega
  | succ m ih =>
    intro x h fx wx
    have hs := size_args x
    have hA : ∀ y ∈ x.args, ExprC y := fun y hy => ih y (by have := sizeE_mem hy; omega) (fitE_mem (fitE_open fx).2.2.2.2.2 y hy) (wfE_mem (wf_open wx).2 y hy)
    by_cases h1 : x.op = 1 ∨ x.op = 2 ∨ x.op = 3
    · exact expr_leaf x fx h1
    by_cases h2 : x.op = 8 ∨ x.op = 9
    · have hl := (wf_open wx).1 h2
      obtain ⟨y, z, e⟩ : ∃ y z, x.args = [y, z] := by
        match x.args, hl with
        | [y, z], _ => exact ⟨y, z, rfl⟩
      exact expr_two x y z fx h2 e (hA y (by rw [e]; simp)) (hA z (by rw [e]; simp))
    · exact expr_many x fx (by omega) hA
theorem expr_any (x : GE) (fx : x.fit) (wx : x.wf) : ExprC x := expr_all x.size x (Nat.le_refl _) fx wx
end Go.Proofs.YtnmolgmchoihmaaDoor
