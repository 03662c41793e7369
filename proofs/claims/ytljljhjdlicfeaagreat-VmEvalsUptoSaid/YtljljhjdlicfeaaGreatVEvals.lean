/-
  proctorlaw11.VmEvals answers true. Conditions: what it is handed is of bulk at most 1048576.
-/
import Derived.Test.YtljljhjdlicfeaaGreatNK
import Derived.Test.YtljljhjdlicfeaaGreatVl4
import Derived.Test.YtljljhjdlicfeaaGreatPAE
import Derived.Test.YtljljhjdlicfeaaGreatNJ
import Derived.Test.YtljljhjdlicfeaaGreatREval
import Derived.Test.YtljljhjdlicfeaaGreatMO
import Derived.Deep.DeepCutAuto
import Derived.Deep.RegionHeld3
namespace Go.Proofs.YtljljhjdlicfeaaGreat
open Go Go.RowKit
set_option maxRecDepth 100000
set_option linter.unusedVariables false
def BoxQ (w0 w : World) (p : Nat) (v : GV) (s : Value) : Prop := Below w0.heap.size w0 w ∧ w0.heap.size ≤ p ∧ isR w (fun b => w0.heap.size ≤ b ∧ b < w.heap.size ∧ b ≠ p) s v.l ∧
  w.heap[p]? = some (.cells #[.int .i64 v.k, .bool v.b, .int .i64 v.n, .string v.t, s] 36 (0, 0))
theorem boxQ_alloc {w0 w : World} {lo : Nat} {v : GV} {s : Value} (hb : Below w0.heap.size w0 w) (hlo : w0.heap.size ≤ lo) (h : isR w (since lo w) s v.l) :
    BoxQ w0 (w.alloc (.cells #[.int .i64 v.k, .bool v.b, .int .i64 v.n, .string v.t, s] 36)) w.heap.size v s :=
  ⟨hb.alloc hb.size _, hb.size, isR_mono h (fun b hb => Below.heap_alloc _ _ _ hb.2) (fun b hb => ⟨Nat.le_trans hlo hb.1, by have := hb.2; simp; omega, Nat.ne_of_lt hb.2⟩), heap_last⟩
theorem boxQ_store {w0 w : World} {v : GV} {s c0 c1 c2 c3 c4 : Value} {p : Nat} (hb : Below w0.heap.size w0 w) (hp : w0.heap.size ≤ p) (h : isR w (since (p + 1) w) s v.l) (hc : w.heap[p]? = some (.cells #[c0, c1, c2, c3, c4] 36 (0, 0))) :
    BoxQ w0 (((((w.setCell ⟨p, 0, none⟩ (.int .i64 v.k)).setCell ⟨p, 1, none⟩ (.bool v.b)).setCell ⟨p, 2, none⟩ (.int .i64 v.n)).setCell ⟨p, 3, none⟩ (.string v.t)).setCell ⟨p, 4, none⟩ s) p v s := by
  have st := fun (w1 : World) (o : Nat) (u : Value) (h : Below w0.heap.size w0 w1) => Below.setCell (p := ⟨p, o, none⟩) h hp u
  refine ⟨st _ _ _ (st _ _ _ (st _ _ _ (st _ _ _ (st _ _ _ hb)))), hp, isR_sub (isR_set5 h (b := p) (fun hS => by have := hS.1; omega) ..) (fun b hS => ⟨by have := hS.1; omega, ?_, by have := hS.1; omega⟩), five_box hc ..⟩
  simp only [hsz_setCell2]
  exact hS.2
def BoxL (w0 w : World) (p : Nat) (v : GV) (s : Value) : Prop := Below w0.heap.size w0 w ∧ w0.heap.size ≤ p ∧ isL w 0 w.heap.size s v.l ∧
  w.heap[p]? = some (.cells #[.int .i64 v.k, .bool v.b, .int .i64 v.n, .string v.t, s] 36 (0, 0))
theorem boxL_alloc {w0 w : World} {v : GV} {s : Value} (hb : Below w0.heap.size w0 w) (h : isL w 0 w.heap.size s v.l) :
    BoxL w0 (w.alloc (.cells #[.int .i64 v.k, .bool v.b, .int .i64 v.n, .string v.t, s] 36)) w.heap.size v s :=
  ⟨hb.alloc hb.size _, hb.size, isL_wide (isL_below h ((Below.refl _ _).alloc (Nat.le_refl _) _) (Nat.le_refl _)) (Nat.le_refl _) (by simp), heap_last⟩
theorem boxL_store {w0 w : World} {v : GV} {s c0 c1 c2 c3 c4 : Value} {hi : Nat} (hb : Below w0.heap.size w0 w) (h : isZ w (w0.heap.size, hi) w.heap.size s v.l) (hc : w.heap[w0.heap.size]? = some (.cells #[c0, c1, c2, c3, c4] 36 (0, 0))) (hh : w0.heap.size ≤ hi := by omega) :
    BoxL w0 (((((w.setCell ⟨w0.heap.size, 0, none⟩ (.int .i64 v.k)).setCell ⟨w0.heap.size, 1, none⟩ (.bool v.b)).setCell ⟨w0.heap.size, 2, none⟩ (.int .i64 v.n)).setCell ⟨w0.heap.size, 3, none⟩ (.string v.t)).setCell ⟨w0.heap.size, 4, none⟩ s) w0.heap.size v s := by
  have st := fun (w1 : World) (o : Nat) (u : Value) (h : Below w0.heap.size w0 w1) => Below.setCell (p := ⟨w0.heap.size, o, none⟩) h (Nat.le_refl _) u
  refine ⟨st _ _ _ (st _ _ _ (st _ _ _ (st _ _ _ (st _ _ _ hb)))), Nat.le_refl _, ?_, five_box hc ..⟩
  refine isS_mono h (fun b off hS => World.cell?_of_block (w := w) (a := ⟨b, off, none⟩) (five_heap (fun e => ?_) ..)) (fun b hS => ⟨Nat.zero_le _, ?_⟩) (fun _ _ h => h)
  · have e2 : b = w0.heap.size := e
    rcases hS.2 with h | h
    · have h2 : b < w0.heap.size := h
      omega
    · have h2 : hi < b := h
      omega
  · simp only [hsz_setCell2]
    exact hS.1
def TrueO (w : World) (e : Ending) (w' : World) : Prop := e = .returned (.bool true) ∧ Below w.heap.size w w'
set_option maxHeartbeats 6400000 in
theorem vevals_any (W : WV) (fW : W.fit) (hW : W.small) (fv : ∀ f ∈ W.facts, f.vals.length ≤ 2147483647) (L : List GE) (hLl : L.length ≤ 1048576) (fL : fitE L) (oL : okWs L) (sL sI s0 s1 s2 s3 : Value) (fuel : Int) (w : World) (B : Nat) (hB : B ≤ w.heap.size) (h : isAsk w B W s0 s1 s2 s3) (hL : isX w B sL L) :
    Calls Tryz.prog 3 #[.agg #[sL, sI, s0, s1, s2, s3, .int .i64 fuel]] w (TrueO w) := by
  obtain ⟨aL, cL, rfl⟩ := isE_form hL
  have H := Lib.hid h
  have HL := Lib.hid hL
  have HW := Lib.hid hW
  have HFL := Lib.hid fL
  have HOL := Lib.hid oL
  clear h hL hW fL oL
  go_enter Tryz.func3, Tryz.ntmps3
  go_upto_region 1 with fail
  obtain ⟨w1, hw1⟩ : ∃ u, u = w.alloc (.cells #[.slice aL L.length cL, sI, s0, s1, s2, s3, .int .i64 fuel] 28) := ⟨_, rfl⟩
  have hb1 : Below w.heap.size w w1 := by rw [hw1]; exact (Below.refl _ _).alloc (Nat.le_refl _) _
  have hx1 : w1.heap[w.heap.size]? = some (.cells #[.slice aL L.length cL, sI, s0, s1, s2, s3, .int .i64 fuel] 28 (0, 0)) := by rw [hw1]; exact heap_last
  rw [← hw1]
  clear hw1
  have HB1 := Lib.hid hb1
  have HX1 := Lib.hid hx1
  have HZ1 : Hid (w.heap.size < w1.heap.size) := (Array.getElem?_eq_some_iff.1 hx1).1
  have q1 := fun o => cell_of hx1 o
  clear hb1 hx1
  go_wp2_with fail
  refine (light_any W (.slice aL L.length cL) sI s0 s1 s2 s3 fuel w1 B (Nat.le_trans hB HB1.out.size) (isAsk_below H.out (HB1.out.mono hB)) HW.out).mono ?_
  rintro e w2 hO
  obtain ⟨b, rfl, hfew, hb2⟩ := hO
  have HB2 := Lib.hid (below_down HB1.out hb2 (Nat.le_refl _))
  have HX2 := Lib.hid ((hb2.block _ HZ1.out).trans HX1.out)
  have HZ2 : Hid (w.heap.size < w2.heap.size) := Nat.lt_of_lt_of_le HZ1.out hb2.size
  have q2 := fun o => cell_of HX2.out o
  clear hb2 q1
  cases b
  · clear hfew
    go_wp2_with fail
    refine (vwakes_any w2).mono ?_
    rintro e w3 ⟨rfl, hb3⟩
    have HB3' := Lib.hid (below_down HB2.out hb3 (Nat.le_refl _))
    clear hb3
    go_wp2_with fail
    go_ret
    exact ⟨rfl, HB3'.out⟩
  have HF := Lib.hid (hfew rfl)
  clear hfew
  go_wp2_with fail
  refine (world_any W (.slice aL L.length cL) sI s0 s1 s2 s3 fuel w2 B (Nat.le_trans hB HB2.out.size) (isAsk_below H.out (HB2.out.mono hB)) (by have := HF.out.1; omega) (by have := HF.out.2.1; omega) (by have := HF.out.2.2.1; omega) (by have := HF.out.2.2.2.1; omega) (fun c hc => by have := HF.out.2.2.2.2 c hc; omega)).mono ?_
  rintro e w3 ⟨be, rfl, hen, hb3⟩
  have HE3 := Lib.hid (env_ok be w3.heap.size W fW fv w3 hen)
  have HEN3 := Lib.hid hen
  have HB3 := Lib.hid (below_down HB2.out hb3 (Nat.le_refl _))
  have HX3 := Lib.hid ((hb3.block _ HZ2.out).trans HX2.out)
  have HZ3 : Hid (w.heap.size < w3.heap.size) := Nat.lt_of_lt_of_le HZ2.out hb3.size
  clear hen hb3 q2
  go_wp2_with fail
  go_loopw [4] (fun i wr => ∃ k : Nat, k ≤ L.length ∧ k ≤ 6 ∧ i = .int .i64 k ∧ Below w.heap.size w wr ∧ Below w3.heap.size w3 wr ∧ Hid (wr.heap[w.heap.size]? = some (.cells #[.slice aL L.length cL, sI, s0, s1, s2, s3, .int .i64 fuel] 28 (0, 0)))) (fun i _ => 6 - (intOf i).toNat)
  case atStart => exact ⟨0, Nat.zero_le _, by omega, rfl, HB3.out, Below.refl _ _, HX3.out⟩
  case round =>
    obtain ⟨k, hk, hk6, rfl, hbel, hbe, hbox⟩ := hrel
    have q := fun o => cell_of hbox.out o
    have HB := Lib.hid hbel
    have HBE := Lib.hid hbe
    have hz : w.heap.size < wr.heap.size := (Array.getElem?_eq_some_iff.1 hbox.out).1
    by_cases hlt : k < L.length
    case neg =>
      clear hbel hbe
      go_wp2_with fail
      refine (vwakes_any wr).mono ?_
      rintro e w4 ⟨rfl, hb4⟩
      have HB4' := Lib.hid (below_down HB.out hb4 (Nat.le_refl _))
      clear hb4
      go_wp2_with fail
      go_ret
      exact ⟨rfl, HB4'.out⟩
    by_cases h6 : k < 6
    case neg =>
      clear hbel hbe
      go_wp2_with fail
      refine (vwakes_any wr).mono ?_
      rintro e w4 ⟨rfl, hb4⟩
      have HB4' := Lib.hid (below_down HB.out hb4 (Nat.le_refl _))
      clear hb4
      go_wp2_with fail
      go_ret
      exact ⟨rfl, HB4'.out⟩
    obtain ⟨aL2, cL2, bb, off, e, hc, ha, hA⟩ := isX_open HL.out
    simp only [Value.slice.injEq] at e
    obtain ⟨rfl, _, rfl⟩ := e
    obtain ⟨rfl, hb2⟩ := ha (by omega)
    obtain ⟨ax, cx, aax, cax, x0, x1, x2, x3, x4, x5, x6, x7, hsx, hsax⟩ := cellsE_open (hA k hlt)
    have hg : ∀ o, wr.cell? ⟨bb, o, none⟩ = w.cell? ⟨bb, o, none⟩ := fun o => hbel.cell (p := ⟨bb, o, none⟩) (Nat.lt_of_lt_of_le hb2 hB)
    have HSX := Lib.hid (isL_below hsx HB.out hB)
    have HSAX := Lib.hid (isX_below hsax HB.out hB)
    have HFX := Lib.hid (fitE_mem HFL.out _ (List.getElem_mem hlt))
    have HOX := Lib.hid (okWs_mem HOL.out _ (List.getElem_mem hlt))
    obtain ⟨x, hx⟩ : ∃ x, x = L[k] := ⟨_, rfl⟩
    rw [← hx] at x0 x1 x2 x3 x4 x5 x6 x7 HSX HSAX HFX HOX
    clear hx hsx hsax hA ha hbel hbe
    have hBr : B ≤ wr.heap.size := Nat.le_trans hB HB.out.size
    have hbz : bb < wr.heap.size := by omega
    go_wp2_with fail
    refine (weight_any x HOX.out 0 (.slice ax x.v.l.length cx) (.slice aax x.args.length cax) wr B (by omega) hBr HSX.out HSAX.out).mono ?_
    rintro e wb ⟨⟨nw, rfl⟩, hbb⟩
    have HBb : Hid (Below wr.heap.size wr wb) := hbb
    have HSb := Lib.hid (isL_below HSX.out HBb.out hBr)
    have HSAb := Lib.hid (isX_below HSAX.out HBb.out hBr)
    have hBb : B ≤ wb.heap.size := Nat.le_trans hBr HBb.out.size
    have HKb : Hid (Below w3.heap.size w3 wb) := below_down HBE.out HBb.out (Nat.le_refl _)
    have HQb := Lib.hid ((HBb.out.block _ hz).trans hbox.out)
    have lb : w.heap.size < wb.heap.size := Nat.lt_of_lt_of_le hz HBb.out.size
    have lbb : bb < wb.heap.size := Nat.lt_of_lt_of_le hbz HBb.out.size
    have HXC : Hid (wr.cell? ⟨bb, off + k * 8, none⟩ = some (.int .i64 x.op) ∧ wr.cell? ⟨bb, off + k * 8 + 1, none⟩ = some (.string x.text) ∧ wr.cell? ⟨bb, off + k * 8 + 2, none⟩ = some (.int .i64 x.v.k) ∧ wr.cell? ⟨bb, off + k * 8 + 3, none⟩ = some (.bool x.v.b) ∧ wr.cell? ⟨bb, off + k * 8 + 4, none⟩ = some (.int .i64 x.v.n) ∧ wr.cell? ⟨bb, off + k * 8 + 5, none⟩ = some (.string x.v.t) ∧ wr.cell? ⟨bb, off + k * 8 + 6, none⟩ = some (.slice ax x.v.l.length cx) ∧ wr.cell? ⟨bb, off + k * 8 + 7, none⟩ = some (.slice aax x.args.length cax)) := ⟨(hg _).trans x0, (hg _).trans x1, (hg _).trans x2, (hg _).trans x3, (hg _).trans x4, (hg _).trans x5, (hg _).trans x6, (hg _).trans x7⟩
    clear hbb q x0 x1 x2 x3 x4 x5 x6 x7 hg
    by_cases hw : 500 < nw
    · go_wp2_with fail
      go_roundw
      case rel => exact ⟨k + 1, by omega, by omega, by go_num, below_down HB.out HBb.out (Nat.le_refl _), HKb.out, HQb.out⟩
      case measure => simp [intOf]; omega
    obtain ⟨Vv, Ve, hV⟩ : ∃ u e, EvalP (envP W) x fuel = (u, e) := ⟨_, _, rfl⟩
    have HV := Lib.hid hV
    clear hV
    go_upto_region 8 with fail
    go_cut [5, 6] (fun s5 s6 wx => ∃ (p : Nat) (s : Value), s5 = .pointer (some ⟨p, 0, none⟩) ∧ s6 = .int .i64 Ve ∧ Hid (BoxQ wb wx p Vv s))
    case first =>
      have SH : Hid (∀ w' : World, Below wb.heap.size wb w' → (w'.cell? ⟨w.heap.size, 0, none⟩ = some (.slice (some ⟨bb, off, none⟩) L.length cL) ∧ w'.cell? ⟨w.heap.size, 6, none⟩ = some (.int .i64 fuel) ∧ w'.cell? ⟨bb, off + k * 8, none⟩ = some (.int .i64 x.op) ∧ w'.cell? ⟨bb, off + k * 8 + 1, none⟩ = some (.string x.text) ∧ w'.cell? ⟨bb, off + k * 8 + 2, none⟩ = some (.int .i64 x.v.k) ∧ w'.cell? ⟨bb, off + k * 8 + 3, none⟩ = some (.bool x.v.b) ∧ w'.cell? ⟨bb, off + k * 8 + 4, none⟩ = some (.int .i64 x.v.n) ∧ w'.cell? ⟨bb, off + k * 8 + 5, none⟩ = some (.string x.v.t) ∧ w'.cell? ⟨bb, off + k * 8 + 6, none⟩ = some (.slice ax x.v.l.length cx) ∧ w'.cell? ⟨bb, off + k * 8 + 7, none⟩ = some (.slice aax x.args.length cax) ∧ w.heap.size < w'.heap.size ∧ bb < w'.heap.size)) := fun w' hb => ⟨(hb.cell (p := ⟨w.heap.size, 0, none⟩) lb).trans ((cell_of HQb.out 0).trans rfl), (hb.cell (p := ⟨w.heap.size, 6, none⟩) lb).trans ((cell_of HQb.out 6).trans rfl), (hb.cell (p := ⟨bb, off + k * 8, none⟩) lbb).trans ((HBb.out.cell (p := ⟨bb, off + k * 8, none⟩) hbz).trans HXC.out.1), (hb.cell (p := ⟨bb, off + k * 8 + 1, none⟩) lbb).trans ((HBb.out.cell (p := ⟨bb, off + k * 8 + 1, none⟩) hbz).trans HXC.out.2.1), (hb.cell (p := ⟨bb, off + k * 8 + 2, none⟩) lbb).trans ((HBb.out.cell (p := ⟨bb, off + k * 8 + 2, none⟩) hbz).trans HXC.out.2.2.1), (hb.cell (p := ⟨bb, off + k * 8 + 3, none⟩) lbb).trans ((HBb.out.cell (p := ⟨bb, off + k * 8 + 3, none⟩) hbz).trans HXC.out.2.2.2.1), (hb.cell (p := ⟨bb, off + k * 8 + 4, none⟩) lbb).trans ((HBb.out.cell (p := ⟨bb, off + k * 8 + 4, none⟩) hbz).trans HXC.out.2.2.2.2.1), (hb.cell (p := ⟨bb, off + k * 8 + 5, none⟩) lbb).trans ((HBb.out.cell (p := ⟨bb, off + k * 8 + 5, none⟩) hbz).trans HXC.out.2.2.2.2.2.1), (hb.cell (p := ⟨bb, off + k * 8 + 6, none⟩) lbb).trans ((HBb.out.cell (p := ⟨bb, off + k * 8 + 6, none⟩) hbz).trans HXC.out.2.2.2.2.2.2.1), (hb.cell (p := ⟨bb, off + k * 8 + 7, none⟩) lbb).trans ((HBb.out.cell (p := ⟨bb, off + k * 8 + 7, none⟩) hbz).trans HXC.out.2.2.2.2.2.2.2), Nat.lt_of_lt_of_le lb hb.size, Nat.lt_of_lt_of_le lbb hb.size⟩
      have s0 := SH.out wb (Below.refl _ _)
      obtain ⟨u0, u6, y0, y1, y2, y3, y4, y5, y6, y7, v0, v1⟩ := s0
      have hle0 : wb.heap.size ≤ wb.heap.size := Nat.le_refl _
      clear lb lbb
      go_region_held3 (fun w' => (w'.cell? ⟨w.heap.size, 0, none⟩ = some (.slice (some ⟨bb, off, none⟩) L.length cL) ∧ w'.cell? ⟨w.heap.size, 6, none⟩ = some (.int .i64 fuel) ∧ w'.cell? ⟨bb, off + k * 8, none⟩ = some (.int .i64 x.op) ∧ w'.cell? ⟨bb, off + k * 8 + 1, none⟩ = some (.string x.text) ∧ w'.cell? ⟨bb, off + k * 8 + 2, none⟩ = some (.int .i64 x.v.k) ∧ w'.cell? ⟨bb, off + k * 8 + 3, none⟩ = some (.bool x.v.b) ∧ w'.cell? ⟨bb, off + k * 8 + 4, none⟩ = some (.int .i64 x.v.n) ∧ w'.cell? ⟨bb, off + k * 8 + 5, none⟩ = some (.string x.v.t) ∧ w'.cell? ⟨bb, off + k * 8 + 6, none⟩ = some (.slice ax x.v.l.length cx) ∧ w'.cell? ⟨bb, off + k * 8 + 7, none⟩ = some (.slice aax x.args.length cax) ∧ w.heap.size < w'.heap.size ∧ bb < w'.heap.size)) (first
          | (with_reducible refine SH.out _ ?_
             repeat (with_reducible first | exact HBV.out | exact Below.refl _ _ | refine Below.setCell (p := ⟨wb.heap.size, _, none⟩) ?_ hle0 _ | refine Below.setCell (p := ⟨wv.heap.size, _, none⟩) ?_ hlev _ | refine Below.alloc ?_ hle0 _ | refine Below.alloc ?_ hlev _ | refine Below.drew ?_)))
       (first
        | (go_simp
           go_at_call 8
           refine (veval_any (envP W) (envP_fit fW) (.agg #[.pointer (some ⟨be, 0, none⟩)]) w3.heap.size x HFX.out fuel (.slice ax x.v.l.length cx) (.slice aax x.args.length cax) _ B (Nat.le_trans hBb (show Below wb.heap.size wb _ from by with_reducible first | exact (Below.refl _ _).drew | exact ((Below.refl _ _).alloc (Nat.le_refl _) _).drew).size) (Nat.le_trans HKb.out.size (show Below wb.heap.size wb _ from by with_reducible first | exact (Below.refl _ _).drew | exact ((Below.refl _ _).alloc (Nat.le_refl _) _).drew).size) (isL_below HSb.out (show Below wb.heap.size wb _ from by with_reducible first | exact (Below.refl _ _).drew | exact ((Below.refl _ _).alloc (Nat.le_refl _) _).drew) hBb) (isX_below HSAb.out (show Below wb.heap.size wb _ from by with_reducible first | exact (Below.refl _ _).drew | exact ((Below.refl _ _).alloc (Nat.le_refl _) _).drew) hBb) (HE3.out.keep (HKb.out.trans ((show Below wb.heap.size wb _ from by with_reducible first | exact (Below.refl _ _).drew | exact ((Below.refl _ _).alloc (Nat.le_refl _) _).drew).mono HKb.out.size)))).mono ?_
           rw [HV.out]
           rintro e wv ⟨av, cv, rfl, hrv, hbv⟩
           first
             | (have hbw : Below wb.heap.size wb wv := by
                  with_reducible refine (Below.refl _ wb).drew.trans (hbv.mono ?_)
                  exact (Below.refl wb.heap.size wb).drew.size
                have HBV := Lib.hid hbw
                have HRV := Lib.hid (isR_sub (S' := since wb.heap.size wv) hrv (fun b hb => hb))
                clear hbw)
             | (have hbw : Below wb.heap.size wb wv := by
                  with_reducible refine ((Below.refl _ wb).alloc (Nat.le_refl _) _).drew.trans (hbv.mono ?_)
                  exact ((Below.refl wb.heap.size wb).alloc (Nat.le_refl _) _).drew.size
                have HBV := Lib.hid hbw
                have hz2 := (hbv.block wb.heap.size (by simp)).trans (heap_last (w := wb) (o := (.cells #[.int .i64 0, .bool false, .int .i64 0, .string { data := #[] }, .slice none 0 0] 36)))
                have HZ := Lib.hid hz2
                have qz := fun o => cell_of hz2 o
                have fz := fun o => frozen_of hz2 o
                have lz : wb.heap.size < wv.heap.size := (Array.getElem?_eq_some_iff.1 hz2).1
                have HRV : Hid (isR wv (since (wb.heap.size + 1) wv) (.slice av Vv.l.length cv) Vv.l) := isR_sub hrv (fun b hb => ⟨by simpa using hb.1, hb.2⟩)
                clear hbw hz2)
           skip
           have hlev : wb.heap.size ≤ wv.heap.size := HBV.out.size
           clear hrv hbv
           simp only [GV.agg]))
      all_goals
        go_wp2_with fail
        skip
        go_meet
        refine ⟨_, .slice av Vv.l.length cv, rfl, rfl, Lib.hid ?_⟩
        with_reducible first
          | exact boxQ_alloc HBV.out (Nat.le_refl _) HRV.out
          | exact boxQ_store HBV.out (Nat.le_refl _) HRV.out HZ.out
    case rest =>
      obtain ⟨p5, s5, rfl, rfl, HO5⟩ := hcut
      obtain ⟨w8, hren⟩ : ∃ u, u = wc := ⟨_, rfl⟩
      subst hren
      have HB8 : Hid (Below wr.heap.size wr w8) := below_down HBb.out HO5.out.1 (Nat.le_refl _)
      have HS8 := Lib.hid (isL_below HSX.out HB8.out hBr)
      have HSA8 := Lib.hid (isX_below HSAX.out HB8.out hBr)
      have hB8 : B ≤ w8.heap.size := Nat.le_trans hBr HB8.out.size
      have HK8 : Hid (Below w3.heap.size w3 w8) := below_down HBE.out HB8.out (Nat.le_refl _)
      have HQ8 := Lib.hid ((HB8.out.block _ hz).trans hbox.out)
      have l8 : w.heap.size < w8.heap.size := Nat.lt_of_lt_of_le hz HB8.out.size
      have lb8 : bb < w8.heap.size := Nat.lt_of_lt_of_le hbz HB8.out.size
      have HP5 := Lib.hid HO5.out.2.2.2
      have lp5 : p5 < w8.heap.size := (Array.getElem?_eq_some_iff.1 HP5.out).1
      go_upto_region 9 with fail
      go_cut [7, 8] (fun s7 s8 wx => ∃ (p : Nat) (s : Value), s7 = .pointer (some ⟨p, 0, none⟩) ∧ s8 = .int .i64 Ve ∧ Hid Vv.fit ∧ Hid (BoxL w8 wx p Vv s))
      case first =>
        have SH : Hid (∀ w' : World, Below w8.heap.size w8 w' → (w'.cell? ⟨w.heap.size, 0, none⟩ = some (.slice (some ⟨bb, off, none⟩) L.length cL) ∧ w'.cell? ⟨w.heap.size, 6, none⟩ = some (.int .i64 fuel) ∧ w'.cell? ⟨bb, off + k * 8, none⟩ = some (.int .i64 x.op) ∧ w'.cell? ⟨bb, off + k * 8 + 1, none⟩ = some (.string x.text) ∧ w'.cell? ⟨bb, off + k * 8 + 2, none⟩ = some (.int .i64 x.v.k) ∧ w'.cell? ⟨bb, off + k * 8 + 3, none⟩ = some (.bool x.v.b) ∧ w'.cell? ⟨bb, off + k * 8 + 4, none⟩ = some (.int .i64 x.v.n) ∧ w'.cell? ⟨bb, off + k * 8 + 5, none⟩ = some (.string x.v.t) ∧ w'.cell? ⟨bb, off + k * 8 + 6, none⟩ = some (.slice ax x.v.l.length cx) ∧ w'.cell? ⟨bb, off + k * 8 + 7, none⟩ = some (.slice aax x.args.length cax) ∧ w.heap.size < w'.heap.size ∧ bb < w'.heap.size)) := fun w' hb => ⟨(hb.cell (p := ⟨w.heap.size, 0, none⟩) l8).trans ((cell_of HQ8.out 0).trans rfl), (hb.cell (p := ⟨w.heap.size, 6, none⟩) l8).trans ((cell_of HQ8.out 6).trans rfl), (hb.cell (p := ⟨bb, off + k * 8, none⟩) lb8).trans ((HB8.out.cell (p := ⟨bb, off + k * 8, none⟩) hbz).trans HXC.out.1), (hb.cell (p := ⟨bb, off + k * 8 + 1, none⟩) lb8).trans ((HB8.out.cell (p := ⟨bb, off + k * 8 + 1, none⟩) hbz).trans HXC.out.2.1), (hb.cell (p := ⟨bb, off + k * 8 + 2, none⟩) lb8).trans ((HB8.out.cell (p := ⟨bb, off + k * 8 + 2, none⟩) hbz).trans HXC.out.2.2.1), (hb.cell (p := ⟨bb, off + k * 8 + 3, none⟩) lb8).trans ((HB8.out.cell (p := ⟨bb, off + k * 8 + 3, none⟩) hbz).trans HXC.out.2.2.2.1), (hb.cell (p := ⟨bb, off + k * 8 + 4, none⟩) lb8).trans ((HB8.out.cell (p := ⟨bb, off + k * 8 + 4, none⟩) hbz).trans HXC.out.2.2.2.2.1), (hb.cell (p := ⟨bb, off + k * 8 + 5, none⟩) lb8).trans ((HB8.out.cell (p := ⟨bb, off + k * 8 + 5, none⟩) hbz).trans HXC.out.2.2.2.2.2.1), (hb.cell (p := ⟨bb, off + k * 8 + 6, none⟩) lb8).trans ((HB8.out.cell (p := ⟨bb, off + k * 8 + 6, none⟩) hbz).trans HXC.out.2.2.2.2.2.2.1), (hb.cell (p := ⟨bb, off + k * 8 + 7, none⟩) lb8).trans ((HB8.out.cell (p := ⟨bb, off + k * 8 + 7, none⟩) hbz).trans HXC.out.2.2.2.2.2.2.2), Nat.lt_of_lt_of_le l8 hb.size, Nat.lt_of_lt_of_le lb8 hb.size⟩
        have s0 := SH.out w8 (Below.refl _ _)
        obtain ⟨u0, u6, y0, y1, y2, y3, y4, y5, y6, y7, v0, v1⟩ := s0
        have hle0 : w8.heap.size ≤ w8.heap.size := Nat.le_refl _
        clear l8 lb8
        go_region_held3 (fun w' => (w'.cell? ⟨w.heap.size, 0, none⟩ = some (.slice (some ⟨bb, off, none⟩) L.length cL) ∧ w'.cell? ⟨w.heap.size, 6, none⟩ = some (.int .i64 fuel) ∧ w'.cell? ⟨bb, off + k * 8, none⟩ = some (.int .i64 x.op) ∧ w'.cell? ⟨bb, off + k * 8 + 1, none⟩ = some (.string x.text) ∧ w'.cell? ⟨bb, off + k * 8 + 2, none⟩ = some (.int .i64 x.v.k) ∧ w'.cell? ⟨bb, off + k * 8 + 3, none⟩ = some (.bool x.v.b) ∧ w'.cell? ⟨bb, off + k * 8 + 4, none⟩ = some (.int .i64 x.v.n) ∧ w'.cell? ⟨bb, off + k * 8 + 5, none⟩ = some (.string x.v.t) ∧ w'.cell? ⟨bb, off + k * 8 + 6, none⟩ = some (.slice ax x.v.l.length cx) ∧ w'.cell? ⟨bb, off + k * 8 + 7, none⟩ = some (.slice aax x.args.length cax) ∧ w.heap.size < w'.heap.size ∧ bb < w'.heap.size)) (first
            | (with_reducible refine SH.out _ ?_
               repeat (with_reducible first | exact HBV.out | exact Below.refl _ _ | refine Below.setCell (p := ⟨w8.heap.size, _, none⟩) ?_ hle0 _ | refine Below.setCell (p := ⟨wv.heap.size, _, none⟩) ?_ hlev _ | refine Below.alloc ?_ hle0 _ | refine Below.alloc ?_ hlev _ | refine Below.drew ?_)))
         (first
          | (go_simp
             go_at_call 9
             refine (reval_any W fW fv x HFX.out fuel be w3.heap.size (.slice ax x.v.l.length cx) (.slice aax x.args.length cax) _ B w8.heap.size (Nat.le_trans hB8 (show Below w8.heap.size w8 _ from by with_reducible first | exact (Below.refl _ _).drew | exact ((Below.refl _ _).alloc (Nat.le_refl _) _).drew).size) (Nat.le_trans HK8.out.size (show Below w8.heap.size w8 _ from by with_reducible first | exact (Below.refl _ _).drew | exact ((Below.refl _ _).alloc (Nat.le_refl _) _).drew).size) hB8 HK8.out.size ((show Below w8.heap.size w8 _ from by with_reducible first | exact (Below.refl _ _).drew | exact ((Below.refl _ _).alloc (Nat.le_refl _) _).drew).size) (isL_below HS8.out (show Below w8.heap.size w8 _ from by with_reducible first | exact (Below.refl _ _).drew | exact ((Below.refl _ _).alloc (Nat.le_refl _) _).drew) hB8) (isX_below HSA8.out (show Below w8.heap.size w8 _ from by with_reducible first | exact (Below.refl _ _).drew | exact ((Below.refl _ _).alloc (Nat.le_refl _) _).drew) hB8) (isEnv_below HEN3.out (HK8.out.trans ((show Below w8.heap.size w8 _ from by with_reducible first | exact (Below.refl _ _).drew | exact ((Below.refl _ _).alloc (Nat.le_refl _) _).drew).mono HK8.out.size)))).mono ?_
             rw [HV.out]
             rintro e wv ⟨av, cv, rfl, hrv, hbv, hfv⟩
             first
               | (have hbw : Below w8.heap.size w8 wv := by
                    with_reducible refine (Below.refl _ w8).drew.trans (hbv.mono ?_)
                    exact (Below.refl w8.heap.size w8).drew.size
                  have HBV := Lib.hid hbw
                  have HRV := Lib.hid (isZ_L hrv)
                  clear hbw)
               | (have hbw : Below w8.heap.size w8 wv := by
                    with_reducible refine ((Below.refl _ w8).alloc (Nat.le_refl _) _).drew.trans (hbv.mono ?_)
                    exact ((Below.refl w8.heap.size w8).alloc (Nat.le_refl _) _).drew.size
                  have HBV := Lib.hid hbw
                  have hz2 := (hbv.block w8.heap.size (by simp)).trans (heap_last (w := w8) (o := (.cells #[.int .i64 0, .bool false, .int .i64 0, .string { data := #[] }, .slice none 0 0] 36)))
                  have HZ := Lib.hid hz2
                  have qz := fun o => cell_of hz2 o
                  have fz := fun o => frozen_of hz2 o
                  have lz : w8.heap.size < wv.heap.size := (Array.getElem?_eq_some_iff.1 hz2).1
                  have HRV : Hid (isZ wv (w8.heap.size, w8.heap.size + 1) wv.heap.size (.slice av Vv.l.length cv) Vv.l) := by rw [Hid]; simpa using hrv
                  clear hbw hz2)
             have HFV := Lib.hid hfv
             have hlev : w8.heap.size ≤ wv.heap.size := HBV.out.size
             clear hrv hbv hfv
             simp only [GV.agg]))
        all_goals
          go_wp2_with fail
          skip
          go_meet
          refine ⟨_, .slice av Vv.l.length cv, rfl, rfl, HFV, Lib.hid ?_⟩
          with_reducible first
            | exact boxL_alloc HBV.out HRV.out
            | exact boxL_store HBV.out HRV.out HZ.out
      case rest =>
        obtain ⟨p7, s7, rfl, rfl, HFV, HO7⟩ := hcut
        obtain ⟨w9, hren⟩ : ∃ u, u = wc := ⟨_, rfl⟩
        subst hren
        have HB9 : Hid (Below wr.heap.size wr w9) := below_down HB8.out HO7.out.1 (Nat.le_refl _)
        have HS9 := Lib.hid (isL_below HSX.out HB9.out hBr)
        have HSA9 := Lib.hid (isX_below HSAX.out HB9.out hBr)
        have hB9 : B ≤ w9.heap.size := Nat.le_trans hBr HB9.out.size
        have HK9 : Hid (Below w3.heap.size w3 w9) := below_down HBE.out HB9.out (Nat.le_refl _)
        have HQ9 := Lib.hid ((HB9.out.block _ hz).trans hbox.out)
        have l9 : w.heap.size < w9.heap.size := Nat.lt_of_lt_of_le hz HB9.out.size
        have lb9 : bb < w9.heap.size := Nat.lt_of_lt_of_le hbz HB9.out.size
        have HP59 := Lib.hid ((HO7.out.1.block _ lp5).trans HP5.out)
        have HP79 := Lib.hid HO7.out.2.2.2
        have q5 := fun o => cell_of HP59.out o
        have q7 := fun o => cell_of HP79.out o
        have HL7 := Lib.hid HO7.out.2.2.1
        have HR5 := Lib.hid (isR_below HO5.out.2.2.1 HO7.out.1 (fun b hb => hb.2.1))
        have HL5 := Lib.hid (isR_isL HR5.out (lo := 0) (hi := w9.heap.size) (fun b hb => ⟨Nat.zero_le _, Nat.lt_of_lt_of_le hb.2.1 HO7.out.1.size⟩))
        go_wp2_with fail
        refine (zSame_any Vv Vv HFV.out HFV.out s5 s7 w9 w9.heap.size (Nat.le_refl _) HL5.out HL7.out).mono ?_
        rw [(same_iff Vv Vv).2 rfl]
        rintro e wz ⟨rfl, hbz2⟩
        have HBZ := Lib.hid hbz2
        have HP5z := Lib.hid ((hbz2.block _ (Array.getElem?_eq_some_iff.1 HP59.out).1).trans HP59.out)
        have q5z := fun o => cell_of HP5z.out o
        have HR5z : Hid (isR wz (since wb.heap.size wz) s5 Vv.l) := isR_sub (isR_below HR5.out hbz2 (fun b hb => Nat.lt_of_lt_of_le hb.2.1 HO7.out.1.size)) (fun b hb => ⟨hb.1, Nat.lt_of_lt_of_le hb.2.1 (Nat.le_trans HO7.out.1.size hbz2.size)⟩)
        have hwz : wb.heap.size ≤ wz.heap.size := Nat.le_trans HO5.out.1.size (Nat.le_trans HO7.out.1.size hbz2.size)
        clear hbz2 q5 q7
        go_wp2_with fail
        refine (over_any Vv HFV.out wb.heap.size s5 wz hwz HR5z.out).mono ?_
        rintro e wy ⟨rfl, hby⟩
        have HBY : Hid (Below wb.heap.size wb wy) := (HO5.out.1.trans ((HO7.out.1.trans (HBZ.out.mono HO7.out.1.size)).mono HO5.out.1.size)).trans hby
        clear hby q5z
        have HBy : Hid (Below wr.heap.size wr wy) := below_down HBb.out HBY.out (Nat.le_refl _)
        have HSy := Lib.hid (isL_below HSX.out HBy.out hBr)
        have HSAy := Lib.hid (isX_below HSAX.out HBy.out hBr)
        have hBy : B ≤ wy.heap.size := Nat.le_trans hBr HBy.out.size
        have HKy : Hid (Below w3.heap.size w3 wy) := below_down HBE.out HBy.out (Nat.le_refl _)
        have HQy := Lib.hid ((HBy.out.block _ hz).trans hbox.out)
        have ly : w.heap.size < wy.heap.size := Nat.lt_of_lt_of_le hz HBy.out.size
        have lby : bb < wy.heap.size := Nat.lt_of_lt_of_le hbz HBy.out.size
        go_wp2_with fail
        go_roundw
        case rel => exact ⟨k + 1, by omega, by omega, by go_num, below_down HB.out HBy.out (Nat.le_refl _), HKy.out, HQy.out⟩
        case measure => simp [intOf]; omega
end Go.Proofs.YtljljhjdlicfeaaGreat
