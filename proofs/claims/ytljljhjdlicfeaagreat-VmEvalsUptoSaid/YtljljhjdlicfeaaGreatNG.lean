/-
  No block but one is written. Conditions: none.
-/
import Derived.Test.YtljljhjdlicfeaaGreatMO
import Derived.Deep.DeepCutAuto
namespace Go.Proofs.YtljljhjdlicfeaaGreat
open Go Go.RowKit
set_option linter.unusedVariables false
def Kg (g : Nat) (w w' : World) : Prop := w'.os = w.os ∧ w'.tape = w.tape ∧ w'.output = w.output ∧ w.heap.size ≤ w'.heap.size ∧ ∀ b, b < w.heap.size → b ≠ g → w'.heap[b]? = w.heap[b]?
theorem Kg.refl (g : Nat) (w : World) : Kg g w w := ⟨rfl, rfl, rfl, Nat.le_refl _, fun _ _ _ => rfl⟩
theorem Kg.below {g : Nat} {w w1 w2 : World} (h : Kg g w w1) (hb : Below w1.heap.size w1 w2) : Kg g w w2 :=
  ⟨hb.os.trans h.1, hb.tape.trans h.2.1, hb.output.trans h.2.2.1, Nat.le_trans h.2.2.2.1 hb.size, fun b h1 h2 => (hb.block b (Nat.lt_of_lt_of_le h1 h.2.2.2.1)).trans (h.2.2.2.2 b h1 h2)⟩
theorem Kg.set {g o : Nat} {w w1 : World} {v : Value} (h : Kg g w w1) : Kg g w (w1.setCell ⟨g, o, none⟩ v) :=
  ⟨h.1, h.2.1, h.2.2.1, by simpa [World.setCell] using h.2.2.2.1, fun b h1 h2 => (Below.heap_setCell _ _ _ _ h2).trans (h.2.2.2.2 b h1 h2)⟩
theorem Kg.drew {g : Nat} {w w1 : World} (h : Kg g w w1) : Kg g w w1.drew := h
theorem Kg.trans {g : Nat} {w w1 w2 : World} (h : Kg g w w1) (k : Kg g w1 w2) : Kg g w w2 :=
  ⟨k.1.trans h.1, k.2.1.trans h.2.1, k.2.2.1.trans h.2.2.1, Nat.le_trans h.2.2.2.1 k.2.2.2.1, fun b h1 h2 => (k.2.2.2.2 b (Nat.lt_of_lt_of_le h1 h.2.2.2.1) h2).trans (h.2.2.2.2 b h1 h2)⟩
end Go.Proofs.YtljljhjdlicfeaaGreat
namespace Go.Proofs.YtljljhjdlicfeaaGreat
open Go Go.RowKit
set_option maxRecDepth 100000
set_option linter.unusedVariables false
set_option maxHeartbeats 3200000 in
theorem cCopied_step (x : GV) (hl : x.l.length ≤ 2147483647) (h : ∀ y ∈ x.l, CopyVC 39 y) : CopyVC 39 x := by
  intro s w B hB hs
  obtain ⟨a, c, bb, off, rfl, hc, ha, hA⟩ := isL_open hs
  have HA := Lib.hid hA
  have Ha := Lib.hid ha
  have HH := Lib.hid h
  clear hA hs ha h
  simp only [GV.agg]
  go_enter Tryz.func39, Tryz.ntmps39
  go_wp2_with fail
  go_loopw [11] (fun i wr => ∃ (k cp : Nat) (va : Option Addr), k ≤ x.l.length ∧ i = .int .i64 k ∧ Below w.heap.size w wr ∧ w.heap.size + 2 ≤ wr.heap.size ∧
    Hid (wr.heap[w.heap.size]? = some (.cells #[.int .i64 x.k, .bool x.b, .int .i64 x.n, .string x.t, .slice va k cp] 36 (0, 0))) ∧
    Hid (wr.heap[w.heap.size + 1]? = some (.cells #[.int .i64 0, .bool false, .int .i64 0, .string { data := #[] }, .slice none 0 0] 36 (0, 0))) ∧ Hid (ownL wr (w.heap.size + 2) 36 (.slice va k cp) (x.l.take k))) (fun i _ => x.l.length - (intOf i).toNat)
  case atStart => exact ⟨0, 0, none, Nat.zero_le _, rfl, ((Below.refl w.heap.size w).alloc (Nat.le_refl _) _).alloc (by simp) _, by simp, heap_two, heap_second, ownL_nil _ _ _⟩
  case round =>
    obtain ⟨k, cp, va, hk, rfl, hbel, hsz, hx1, hx2, hO⟩ := hrel
    have q1 := fun o => cell_of hx1.out o
    have f1 := fun o => frozen_of hx1.out o
    by_cases hlt : k < x.l.length
    · obtain ⟨rfl, hb1, hb2⟩ := Ha.out (by omega)
      obtain ⟨ax, cx, x0, x1, x2, x3, x4, hsx⟩ := cellsV_slice (HA.out k hlt)
      have hg : ∀ o, wr.cell? ⟨bb, o, none⟩ = w.cell? ⟨bb, o, none⟩ := fun o => hbel.cell (p := ⟨bb, o, none⟩) (Nat.lt_of_lt_of_le hb2 hB)
      have hz : bb < wr.heap.size := Nat.lt_of_lt_of_le hb2 (Nat.le_trans hB hbel.size)
      have Hsx := Lib.hid hsx
      clear hsx
      obtain ⟨ss0, hls0, hown0, hin0⟩ := hO.out
      have hov0 : ∀ g, (Value.slice va k cp).ownBlock = some g → w.heap.size + 2 ≤ g ∧ g < wr.heap.size := fun g hg => ownBlock_lt hown0 hg
      have HOV := Lib.hid hov0
      obtain ⟨i0, hi, hz0, hz1, hz2⟩ := info_parts vinfo
      have HI := Lib.hid (And.intro hi (And.intro hz0 (And.intro hz1 hz2)))
      have HSL := Lib.hid Tryz.underlying34
      clear hls0 hown0 hin0 hov0 hi hz0 hz1 hz2 Ha
      go_wp2_with fail
      have hb0 : Below wr.heap.size wr (wr.alloc (.cells #[.int .i64 x.l[k].k, .bool x.l[k].b, .int .i64 x.l[k].n, .string x.l[k].t, .slice ax x.l[k].l.length cx] 36)).drew := ((Below.refl wr.heap.size wr).alloc (Nat.le_refl _) _).drew
      have HB0 := Lib.hid hb0
      have hbw := hbel.trans (hb0.mono hbel.size)
      have HBW := Lib.hid hbw
      clear hb0 hbw
      have hzh : w.heap.size < wr.heap.size := by omega
      have hne : w.heap.size ≠ wr.heap.size := by omega
      go_region_law (first
        | (refine step_append_own_at rfl _ _ 34 rfl (w.heap.size + 2) 36 i0 (.agg #[.int .i64 0, .bool false, .int .i64 0, .string { data := #[] }, .slice none 0 0]) 5 64 HSL.out HI.out.1 HI.out.2.1 HI.out.2.2.1 HI.out.2.2.2 rfl (by decide) (.slice va k cp) (x.l.take k).length (flat (x.l.take k) ss) rfl (HOWN.out.alloc _) ⟨w1.heap.size, 0, none⟩ 1 1 [.int .i64 x.l[k].k, .bool x.l[k].b, .int .i64 x.l[k].n, .string x.l[k].t, .slice a1 x.l[k].l.length c1] rfl rfl ?c1 ?c2 ?c3 ?c4 ?c5 ?_
           case c1 => exact fun j u hj => news_last hj
           case c2 => intro u hu; simp only [List.mem_cons, List.not_mem_nil, or_false] at hu; rcases hu with rfl | rfl | rfl | rfl | rfl <;> rfl
           case c3 => unfold maxLen; simp; omega
           case c4 => simp; omega
           case c5 => simp; omega
           intro v' w2 hown2 hgrow hat
           have hP := copied_push (l := x.l.take k) (y := x.l[k]) hbel hsz hx1.out hx2.out HB0.out HB0.out.size HB1.out HR.out (n := (x.l.take k).length + 1) rfl HLS.out HIN.out HOV.out hown2 hgrow (by simpa using hat)
           obtain ⟨g, cap, cur, hv, hg, hh, hcur⟩ := owns_slice (n := (x.l.take k).length) hown2
           have HP := Lib.hid hP
           have q3 := fun o => cell_of hP.1 o
           have f3 := fun o => frozen_of hP.1 o
           rw [show (x.l.take k).length = k from by simp; omega] at hv
           have HV := Lib.hid hv
           clear hP hown2 hgrow hat hg hh hcur
           rw [hv]
           clear hv)
        | (go_simp
           go_at_call 39
           refine (HH.out x.l[k] (List.getElem_mem _) _ _ B (Nat.le_trans hB HBW.out.size) (isL_below Hsx.out HBW.out hB)).mono ?_
           rintro e w1 hgv
           obtain ⟨a1, c1, rfl, hr, hb1⟩ := hgv
           have hb01 := HB0.out.trans (hb1.mono HB0.out.size)
           obtain ⟨ss, hls, hown, hin⟩ := ownL_keep hO.out hb01
           have q4 : ∀ o, w1.cell? ⟨w.heap.size, o, none⟩ = (#[.int .i64 x.k, .bool x.b, .int .i64 x.n, .string x.t, .slice va k cp] : Array Value)[o]? := fun o => by
             rw [hb01.cell (p := ⟨w.heap.size, o, none⟩) hzh, q1]
           have hz1 : wr.heap.size ≤ w1.heap.size := hb01.size
           have hzh1 : w.heap.size < w1.heap.size := by omega
           have hne1 : w.heap.size ≠ w1.heap.size := by omega
           have HR := Lib.hid hr
           have HB1 := Lib.hid hb1
           have HLS := Lib.hid hls
           have HOWN := Lib.hid hown
           have HIN := Lib.hid hin
           clear hr hb1 hb01 hls hown hin
           simp only [GV.agg]))
      all_goals
        go_wp2_with fail
        go_roundw
        case rel =>
          obtain ⟨_, p1, p2, p3, p4, p5⟩ := HP.out
          rw [HV.out] at p1 p2 p3 p4 p5
          rw [← List.take_succ_eq_append_getElem hlt] at p5
          exact ⟨k + 1, cap, some ⟨g, 0, none⟩, by omega, by go_num, p1, p2, p3, p4, p5⟩
        case measure => simp [intOf]; omega
    · have q2 := fun o => cell_of hx2.out o
      have f2 := fun o => frozen_of hx2.out o
      go_wp2_with fail
      have hfin := ownL_isR hO.out
      rw [List.take_of_length_le (by omega)] at hfin
      obtain ⟨a1, c1, e1⟩ := isS_form hfin
      simp only [Value.slice.injEq] at e1
      obtain ⟨_, ek, _⟩ := e1
      subst ek
      refine bodyPost_ret (v := .agg #[.int .i64 x.k, .bool x.b, .int .i64 x.n, .string x.t, .slice va x.l.length cp]) (by simp [results, Tryz.results39, go_sem, q2]) rfl ⟨va, cp, rfl, ?_, ?_⟩
      · refine isR_sub (isR_setCell (isR_setCell (isR_setCell (isR_setCell (isR_setCell hfin ?_ _) ?_ _) ?_ _) ?_ _) ?_ _) (S' := since w.heap.size _) (fun b hb => ⟨by have := hb.1; omega, by have := hb.2; simpa [World.setCell] using this⟩)
        all_goals (intro hx; have := hx.1; dsimp only at this; omega)
      · refine ((((hbel.setCell ?_ _).setCell ?_ _).setCell ?_ _).setCell ?_ _).setCell ?_ _
        all_goals simp
theorem cCopied_all : ∀ (m : Nat) (x : GV), x.size ≤ m → x.fit → CopyVC 39 x := by
  intro m
  induction m with
  | zero => exact fun x h => by have := size_l x; omega
  | succ m ih =>
    intro x h fx
    have := size_l x
    obtain ⟨_, _, _, _, _, a, b⟩ := fit_open fx
    exact cCopied_step x a fun y hy => ih y (by have := sizeL_mem hy; omega) (fitL_mem b y hy)
theorem cCopied_any (x : GV) (fx : x.fit) : CopyVC 39 x := cCopied_all x.size x (Nat.le_refl _) fx
end Go.Proofs.YtljljhjdlicfeaaGreat
namespace Go.Proofs.YtljljhjdlicfeaaGreat
open Go Go.RowKit
set_option maxRecDepth 100000
set_option linter.unusedVariables false
set_option maxHeartbeats 3200000 in
theorem mCopied_step (x : GV) (hl : x.l.length ≤ 2147483647) (h : ∀ y ∈ x.l, CopyVC 65 y) : CopyVC 65 x := by
  intro s w B hB hs
  obtain ⟨a, c, bb, off, rfl, hc, ha, hA⟩ := isL_open hs
  have HA := Lib.hid hA
  have Ha := Lib.hid ha
  have HH := Lib.hid h
  clear hA hs ha h
  simp only [GV.agg]
  go_enter Tryz.func65, Tryz.ntmps65
  go_wp2_with fail
  go_loopw [11] (fun i wr => ∃ (k cp : Nat) (va : Option Addr), k ≤ x.l.length ∧ i = .int .i64 k ∧ Below w.heap.size w wr ∧ w.heap.size + 2 ≤ wr.heap.size ∧
    Hid (wr.heap[w.heap.size]? = some (.cells #[.int .i64 x.k, .bool x.b, .int .i64 x.n, .string x.t, .slice va k cp] 36 (0, 0))) ∧
    Hid (wr.heap[w.heap.size + 1]? = some (.cells #[.int .i64 0, .bool false, .int .i64 0, .string { data := #[] }, .slice none 0 0] 36 (0, 0))) ∧ Hid (ownL wr (w.heap.size + 2) 36 (.slice va k cp) (x.l.take k))) (fun i _ => x.l.length - (intOf i).toNat)
  case atStart => exact ⟨0, 0, none, Nat.zero_le _, rfl, ((Below.refl w.heap.size w).alloc (Nat.le_refl _) _).alloc (by simp) _, by simp, heap_two, heap_second, ownL_nil _ _ _⟩
  case round =>
    obtain ⟨k, cp, va, hk, rfl, hbel, hsz, hx1, hx2, hO⟩ := hrel
    have q1 := fun o => cell_of hx1.out o
    have f1 := fun o => frozen_of hx1.out o
    by_cases hlt : k < x.l.length
    · obtain ⟨rfl, hb1, hb2⟩ := Ha.out (by omega)
      obtain ⟨ax, cx, x0, x1, x2, x3, x4, hsx⟩ := cellsV_slice (HA.out k hlt)
      have hg : ∀ o, wr.cell? ⟨bb, o, none⟩ = w.cell? ⟨bb, o, none⟩ := fun o => hbel.cell (p := ⟨bb, o, none⟩) (Nat.lt_of_lt_of_le hb2 hB)
      have hz : bb < wr.heap.size := Nat.lt_of_lt_of_le hb2 (Nat.le_trans hB hbel.size)
      have Hsx := Lib.hid hsx
      clear hsx
      obtain ⟨ss0, hls0, hown0, hin0⟩ := hO.out
      have hov0 : ∀ g, (Value.slice va k cp).ownBlock = some g → w.heap.size + 2 ≤ g ∧ g < wr.heap.size := fun g hg => ownBlock_lt hown0 hg
      have HOV := Lib.hid hov0
      obtain ⟨i0, hi, hz0, hz1, hz2⟩ := info_parts vinfo
      have HI := Lib.hid (And.intro hi (And.intro hz0 (And.intro hz1 hz2)))
      have HSL := Lib.hid Tryz.underlying34
      clear hls0 hown0 hin0 hov0 hi hz0 hz1 hz2 Ha
      go_wp2_with fail
      have hb0 : Below wr.heap.size wr (wr.alloc (.cells #[.int .i64 x.l[k].k, .bool x.l[k].b, .int .i64 x.l[k].n, .string x.l[k].t, .slice ax x.l[k].l.length cx] 36)).drew := ((Below.refl wr.heap.size wr).alloc (Nat.le_refl _) _).drew
      have HB0 := Lib.hid hb0
      have hbw := hbel.trans (hb0.mono hbel.size)
      have HBW := Lib.hid hbw
      clear hb0 hbw
      have hzh : w.heap.size < wr.heap.size := by omega
      have hne : w.heap.size ≠ wr.heap.size := by omega
      go_region_law (first
        | (refine step_append_own_at rfl _ _ 34 rfl (w.heap.size + 2) 36 i0 (.agg #[.int .i64 0, .bool false, .int .i64 0, .string { data := #[] }, .slice none 0 0]) 5 64 HSL.out HI.out.1 HI.out.2.1 HI.out.2.2.1 HI.out.2.2.2 rfl (by decide) (.slice va k cp) (x.l.take k).length (flat (x.l.take k) ss) rfl (HOWN.out.alloc _) ⟨w1.heap.size, 0, none⟩ 1 1 [.int .i64 x.l[k].k, .bool x.l[k].b, .int .i64 x.l[k].n, .string x.l[k].t, .slice a1 x.l[k].l.length c1] rfl rfl ?c1 ?c2 ?c3 ?c4 ?c5 ?_
           case c1 => exact fun j u hj => news_last hj
           case c2 => intro u hu; simp only [List.mem_cons, List.not_mem_nil, or_false] at hu; rcases hu with rfl | rfl | rfl | rfl | rfl <;> rfl
           case c3 => unfold maxLen; simp; omega
           case c4 => simp; omega
           case c5 => simp; omega
           intro v' w2 hown2 hgrow hat
           have hP := copied_push (l := x.l.take k) (y := x.l[k]) hbel hsz hx1.out hx2.out HB0.out HB0.out.size HB1.out HR.out (n := (x.l.take k).length + 1) rfl HLS.out HIN.out HOV.out hown2 hgrow (by simpa using hat)
           obtain ⟨g, cap, cur, hv, hg, hh, hcur⟩ := owns_slice (n := (x.l.take k).length) hown2
           have HP := Lib.hid hP
           have q3 := fun o => cell_of hP.1 o
           have f3 := fun o => frozen_of hP.1 o
           rw [show (x.l.take k).length = k from by simp; omega] at hv
           have HV := Lib.hid hv
           clear hP hown2 hgrow hat hg hh hcur
           rw [hv]
           clear hv)
        | (go_simp
           go_at_call 65
           refine (HH.out x.l[k] (List.getElem_mem _) _ _ B (Nat.le_trans hB HBW.out.size) (isL_below Hsx.out HBW.out hB)).mono ?_
           rintro e w1 hgv
           obtain ⟨a1, c1, rfl, hr, hb1⟩ := hgv
           have hb01 := HB0.out.trans (hb1.mono HB0.out.size)
           obtain ⟨ss, hls, hown, hin⟩ := ownL_keep hO.out hb01
           have q4 : ∀ o, w1.cell? ⟨w.heap.size, o, none⟩ = (#[.int .i64 x.k, .bool x.b, .int .i64 x.n, .string x.t, .slice va k cp] : Array Value)[o]? := fun o => by
             rw [hb01.cell (p := ⟨w.heap.size, o, none⟩) hzh, q1]
           have hz1 : wr.heap.size ≤ w1.heap.size := hb01.size
           have hzh1 : w.heap.size < w1.heap.size := by omega
           have hne1 : w.heap.size ≠ w1.heap.size := by omega
           have HR := Lib.hid hr
           have HB1 := Lib.hid hb1
           have HLS := Lib.hid hls
           have HOWN := Lib.hid hown
           have HIN := Lib.hid hin
           clear hr hb1 hb01 hls hown hin
           simp only [GV.agg]))
      all_goals
        go_wp2_with fail
        go_roundw
        case rel =>
          obtain ⟨_, p1, p2, p3, p4, p5⟩ := HP.out
          rw [HV.out] at p1 p2 p3 p4 p5
          rw [← List.take_succ_eq_append_getElem hlt] at p5
          exact ⟨k + 1, cap, some ⟨g, 0, none⟩, by omega, by go_num, p1, p2, p3, p4, p5⟩
        case measure => simp [intOf]; omega
    · have q2 := fun o => cell_of hx2.out o
      have f2 := fun o => frozen_of hx2.out o
      go_wp2_with fail
      have hfin := ownL_isR hO.out
      rw [List.take_of_length_le (by omega)] at hfin
      obtain ⟨a1, c1, e1⟩ := isS_form hfin
      simp only [Value.slice.injEq] at e1
      obtain ⟨_, ek, _⟩ := e1
      subst ek
      refine bodyPost_ret (v := .agg #[.int .i64 x.k, .bool x.b, .int .i64 x.n, .string x.t, .slice va x.l.length cp]) (by simp [results, Tryz.results65, go_sem, q2]) rfl ⟨va, cp, rfl, ?_, ?_⟩
      · refine isR_sub (isR_setCell (isR_setCell (isR_setCell (isR_setCell (isR_setCell hfin ?_ _) ?_ _) ?_ _) ?_ _) ?_ _) (S' := since w.heap.size _) (fun b hb => ⟨by have := hb.1; omega, by have := hb.2; simpa [World.setCell] using this⟩)
        all_goals (intro hx; have := hx.1; dsimp only at this; omega)
      · refine ((((hbel.setCell ?_ _).setCell ?_ _).setCell ?_ _).setCell ?_ _).setCell ?_ _
        all_goals simp
theorem mCopied_all : ∀ (m : Nat) (x : GV), x.size ≤ m → x.fit → CopyVC 65 x := by
  intro m
  induction m with
  | zero => exact fun x h => by have := size_l x; omega
  | succ m ih =>
    intro x h fx
    have := size_l x
    obtain ⟨_, _, _, _, _, a, b⟩ := fit_open fx
    exact mCopied_step x a fun y hy => ih y (by have := sizeL_mem hy; omega) (fitL_mem b y hy)
theorem mCopied_any (x : GV) (fx : x.fit) : CopyVC 65 x := mCopied_all x.size x (Nat.le_refl _) fx
end Go.Proofs.YtljljhjdlicfeaaGreat
