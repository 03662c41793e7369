/-
  What the references' CopyExpr and CopyExprs hand back: the same expressions, in memory of their own. Conditions: lists and texts shorter than 2^31.
-/
import Derived.Test.YtnmolgmchoihmaaDoorOwnE
import Derived.Test.YtnmolgmchoihmaaDoorWriter
namespace Go.Proofs.YtnmolgmchoihmaaDoor
open Go Go.RowKit
set_option maxRecDepth 100000
set_option linter.unusedVariables false
def GivesE (w : World) (x : GE) (e : Ending) (w' : World) : Prop := ∃ s sa, e = .returned (x.agg s sa) ∧ innE w' (since w.heap.size w') s sa x ∧ Below w.heap.size w w'
def GivesEs (w : World) (l : List GE) (e : Ending) (w' : World) : Prop := ∃ v, e = .returned v ∧ isE w' (since w.heap.size w') noRoom noRoom v l ∧ Below w.heap.size w w'
def CopyEC (x : GE) : Prop := ∀ (s sa : Value) (w : World) (B : Nat), B ≤ w.heap.size → isL w 0 B s x.v.l → isX w B sa x.args → Calls Tryd.prog 8 #[x.agg s sa] w (GivesE w x)
def CopyEsC (l : List GE) : Prop := ∀ (s : Value) (w : World) (B : Nat), B ≤ w.heap.size → isX w B s l → Calls Tryd.prog 23 #[s] w (GivesEs w l)
theorem xinfo : (Tryd.prog.info? 30).map (fun i => (i.zero, i.size, i.bytes)) = some (some (.agg #[.int .i64 0, .string { data := #[] }, .int .i64 0, .bool false, .int .i64 0, .string { data := #[] }, .slice none 0 0, .slice none 0 0]), 8, 112) := by kernel_rfl
set_option maxHeartbeats 1600000 in
theorem copyE_step (x : GE) (fv : x.v.fit) (h : CopyEsC x.args) : CopyEC x := by
  intro s sa w B hB hs hsa
  obtain ⟨aa, ca, rfl⟩ := isE_form hsa
  obtain ⟨a, c, rfl⟩ := isL_form hs
  have HS := Lib.hid hs
  have HSA := Lib.hid hsa
  have HH := Lib.hid h
  have FV := Lib.hid fv
  clear hs hsa h fv
  simp only [GE.agg]
  go_enter Tryd.func8, Tryd.ntmps8
  go_wp2_with fail
  have hb0 := ((Below.refl w.heap.size w).alloc (Nat.le_refl _) (.cells #[.int .i64 x.op, .string x.text, .int .i64 x.v.k, .bool x.v.b, .int .i64 x.v.n, .string x.v.t, .slice a x.v.l.length c, .slice aa x.args.length ca] 30)).alloc (by simp) (.cells #[.int .i64 0, .string { data := #[] }, .int .i64 0, .bool false, .int .i64 0, .string { data := #[] }, .slice none 0 0, .slice none 0 0] 30)
  have HB0 := Lib.hid hb0
  refine (zCopyValue_any x.v FV.out _ _ B (Nat.le_trans hB hb0.size) (isL_below HS.out hb0 hB)).mono ?_
  rintro e w1 hgv
  obtain ⟨a1, c1, rfl, hr, hb⟩ := hgv
  have hsz1 : w.heap.size + 2 ≤ w1.heap.size := by have := hb.size; simpa using this
  have p1 := (hb.block w.heap.size (by simp; omega)).trans heap_two
  have p2 := (hb.block (w.heap.size + 1) (by simp)).trans heap_second
  have q1 := fun o => cell_of p1 o
  have f1 := fun o => frozen_of p1 o
  have HP := Lib.hid (And.intro p1 p2)
  have HR : Hid (isS w1 (since (w.heap.size + 2) w1) noRoom (.slice a1 x.v.l.length c1) x.v.l) := isS_mono hr (fun _ _ _ => rfl) (fun b hb => ⟨by have := hb.1; simpa using this, hb.2⟩) (fun _ _ _ => trivial)
  have HB1 := Lib.hid (HB0.out.trans (hb.mono HB0.out.size))
  clear hr p1 p2 hb hb0
  simp only [GV.agg]
  go_wp2_with fail
  have hsets : ∀ W : World, Below w.heap.size w W → Below w.heap.size w (((((W.setCell ⟨w.heap.size, 2, none⟩ (.int .i64 x.v.k)).setCell ⟨w.heap.size, 3, none⟩ (.bool x.v.b)).setCell ⟨w.heap.size, 4, none⟩ (.int .i64 x.v.n)).setCell ⟨w.heap.size, 5, none⟩ (.string x.v.t)).setCell ⟨w.heap.size, 6, none⟩ (.slice a1 x.v.l.length c1)) := fun W h => by
    refine ((((h.setCell ?_ _).setCell ?_ _).setCell ?_ _).setCell ?_ _).setCell ?_ _
    all_goals simp
  have hb2 := hsets w1 HB1.out
  have hx2 := heap_setCell2 (o := 6) (v := .slice a1 x.v.l.length c1) (heap_setCell2 (o := 5) (v := .string x.v.t) (heap_setCell2 (o := 4) (v := .int .i64 x.v.n) (heap_setCell2 (o := 3) (v := .bool x.v.b) (heap_setCell2 (o := 2) (v := .int .i64 x.v.k) HP.out.1))))
  have hk2 : ∀ b, b ≠ w.heap.size → (((((w1.setCell ⟨w.heap.size, 2, none⟩ (.int .i64 x.v.k)).setCell ⟨w.heap.size, 3, none⟩ (.bool x.v.b)).setCell ⟨w.heap.size, 4, none⟩ (.int .i64 x.v.n)).setCell ⟨w.heap.size, 5, none⟩ (.string x.v.t)).setCell ⟨w.heap.size, 6, none⟩ (.slice a1 x.v.l.length c1)).heap[b]? = w1.heap[b]? := fun b hb => by
    rw [Below.heap_setCell _ _ _ _ hb, Below.heap_setCell _ _ _ _ hb, Below.heap_setCell _ _ _ _ hb, Below.heap_setCell _ _ _ _ hb, Below.heap_setCell _ _ _ _ hb]
  have hz2 : (((((w1.setCell ⟨w.heap.size, 2, none⟩ (.int .i64 x.v.k)).setCell ⟨w.heap.size, 3, none⟩ (.bool x.v.b)).setCell ⟨w.heap.size, 4, none⟩ (.int .i64 x.v.n)).setCell ⟨w.heap.size, 5, none⟩ (.string x.v.t)).setCell ⟨w.heap.size, 6, none⟩ (.slice a1 x.v.l.length c1)).heap.size = w1.heap.size := by simp only [hsz_setCell2]
  obtain ⟨w2, hw2⟩ : ∃ w2, w2 = (((((w1.setCell ⟨w.heap.size, 2, none⟩ (.int .i64 x.v.k)).setCell ⟨w.heap.size, 3, none⟩ (.bool x.v.b)).setCell ⟨w.heap.size, 4, none⟩ (.int .i64 x.v.n)).setCell ⟨w.heap.size, 5, none⟩ (.string x.v.t)).setCell ⟨w.heap.size, 6, none⟩ (.slice a1 x.v.l.length c1)) := ⟨_, rfl⟩
  rw [← hw2] at hb2 hx2 hk2 hz2 ⊢
  clear hw2 hsets q1 f1
  refine (HH.out _ _ B (by omega) (isX_below HSA.out hb2 hB)).mono ?_
  rintro e w3 hgv
  obtain ⟨v, rfl, hr3, hb3⟩ := hgv
  obtain ⟨a3, c3, rfl⟩ := isE_form hr3
  have hz3 : w1.heap.size ≤ w3.heap.size := by have := hb3.size; omega
  have p3 : w3.heap[w.heap.size]? = some (.cells #[.int .i64 x.op, .string x.text, .int .i64 x.v.k, .bool x.v.b, .int .i64 x.v.n, .string x.v.t, .slice a1 x.v.l.length c1, .slice aa x.args.length ca] 30 (0, 0)) := (hb3.block w.heap.size (by omega)).trans (hx2.trans (by simp))
  have p4 := (hb3.block (w.heap.size + 1) (by omega)).trans ((hk2 _ (by omega)).trans HP.out.2)
  have hkeep : ∀ b, w.heap.size + 2 ≤ b → b < w1.heap.size → w3.heap[b]? = w1.heap[b]? := fun b h1 h2 => (hb3.block b (by omega)).trans (hk2 b (by omega))
  have hin : innE w3 (since (w.heap.size + 2) w3) (.slice a1 x.v.l.length c1) (.slice a3 x.args.length c3) x :=
    ⟨isS_mono HR.out (fun b off g => World.cell?_of_block (a := ⟨b, off, none⟩) (hkeep b g.1 g.2)) (fun b g => ⟨g.1, Nat.lt_of_lt_of_le g.2 hz3⟩) (fun _ _ h => h),
      isE_mono hr3 (fun _ _ _ => rfl) (fun b g => ⟨by have := g.1; omega, g.2⟩) (fun _ _ h => h) (fun _ _ h => h)⟩
  have HIN := Lib.hid hin
  have HB3 := Lib.hid (hb2.trans (hb3.mono (by omega)))
  have q3 := fun o => cell_of p3 o
  have f3 := fun o => frozen_of p3 o
  have q4 := fun o => cell_of p4 o
  have f4 := fun o => frozen_of p4 o
  have hza : w.heap.size < w3.heap.size := by omega
  clear hb2 hx2 hk2 hz2 hr3 hb3 p3 p4 hkeep hin HR HP
  go_wp2_with fail
  have hsz : ∀ (W : World) (p : Addr) (u : Value), (W.setCell p u).heap.size = W.heap.size := hsz_setCell2
  refine bodyPost_ret (v := .agg #[.int .i64 x.op, .string x.text, .int .i64 x.v.k, .bool x.v.b, .int .i64 x.v.n, .string x.v.t, .slice a1 x.v.l.length c1, .slice a3 x.args.length c3]) (by simp [results, Tryd.results8, go_sem, q4]) rfl ⟨.slice a1 x.v.l.length c1, .slice a3 x.args.length c3, rfl, ?_, ?_⟩
  · refine innE_mono HIN.out (fun b hb => ?_) (fun b hb => ⟨by have := hb.1; omega, by simp only [hsz]; exact hb.2⟩)
    have h1 : b ≠ w.heap.size := by have := hb.1; omega
    have h2 : b ≠ w.heap.size + 1 := by have := hb.1; omega
    have k1 : ∀ (W : World) (o : Nat) (u : Value), (W.setCell ⟨w.heap.size, o, none⟩ u).heap[b]? = W.heap[b]? := fun W o u => Below.heap_setCell _ _ _ _ h1
    have k2 : ∀ (W : World) (o : Nat) (u : Value), (W.setCell ⟨w.heap.size + 1, o, none⟩ u).heap[b]? = W.heap[b]? := fun W o u => Below.heap_setCell _ _ _ _ h2
    rw [k2, k2, k2, k2, k2, k2, k2, k2, k1]
  · refine ((((((((HB3.out.setCell ?_ _).setCell ?_ _).setCell ?_ _).setCell ?_ _).setCell ?_ _).setCell ?_ _).setCell ?_ _).setCell ?_ _).setCell ?_ _
    all_goals simp
set_option maxHeartbeats 1600000 in
theorem copyEs_step (l : List GE) (hl : l.length ≤ 2147483647) (h : ∀ x ∈ l, CopyEC x) : CopyEsC l := by
  intro s w B hB hs
  obtain ⟨a, c, bb, off, rfl, hc, ha, hA⟩ := isX_open hs
  have HA := Lib.hid hA
  have Ha := Lib.hid ha
  have HH := Lib.hid h
  clear hA hs ha h
  go_enter Tryd.func23, Tryd.ntmps23
  go_wp2_with fail
  go_loopw [3, 4] (fun v i wr => ∃ k : Nat, k ≤ l.length ∧ i = .int .i64 k ∧ Below w.heap.size w wr ∧ Hid (ownE wr w.heap.size 30 v (l.take k))) (fun _ i _ => l.length - (intOf i).toNat)
  case atStart => exact ⟨0, Nat.zero_le _, rfl, Below.refl _ _, ownE_nil _ _ _⟩
  case round =>
    obtain ⟨k, hk, rfl, hbel, hO⟩ := hrel
    by_cases hlt : k < l.length
    · obtain ⟨rfl, hb2⟩ := Ha.out (by omega)
      obtain ⟨ax, cx, aax, cax, x0, x1, x2, x3, x4, x5, x6, x7, hsx, hsax⟩ := cellsE_open (HA.out k hlt)
      have hg : ∀ o, wr.cell? ⟨bb, o, none⟩ = w.cell? ⟨bb, o, none⟩ := fun o => hbel.cell (p := ⟨bb, o, none⟩) (Nat.lt_of_lt_of_le hb2 hB)
      have hz : bb < wr.heap.size := Nat.lt_of_lt_of_le hb2 (Nat.le_trans hB hbel.size)
      have Hsx := Lib.hid hsx
      have Hsax := Lib.hid hsax
      clear hsx hsax
      go_wp2_with fail
      refine (HH.out l[k] (List.getElem_mem _) _ _ _ B (Nat.le_trans hB hbel.size) (isL_below Hsx.out hbel hB) (isX_below Hsax.out hbel hB)).mono ?_
      rintro e w1 hgv
      obtain ⟨s1, sa1, rfl, hr, hb5⟩ := hgv
      obtain ⟨a1, c1, rfl⟩ := isS_form hr.1
      obtain ⟨aa1, ca1, rfl⟩ := isE_form hr.2
      have hb3 := below_down hbel hb5 (Nat.le_refl _)
      have HO1 := Lib.hid (ownE_keep hO.out hb5)
      obtain ⟨_, _, _, _, hownr, _⟩ := hO.out
      have HOWNR := Lib.hid hownr
      have HR := Lib.hid hr
      have hsz := hb5.size
      clear hownr hr hb5 hg x0 x1 x2 x3 x4 x5 x6 x7 Hsx Hsax Ha hO
      obtain ⟨ss, sas, hl1, hl2, hown, hin⟩ := HO1.out
      have HL1 := Lib.hid (And.intro hl1 hl2)
      have HOWN := Lib.hid hown
      have HIN := Lib.hid hin
      have hk2 : (l.take k).length ≤ 2147483647 := Nat.le_trans (List.length_take_le _ _) (by omega)
      have hbase : w.heap.size ≤ w1.heap.size := hb3.size
      obtain ⟨i0, hi, hz0, hz1, hz2⟩ := info_parts xinfo
      have HI := Lib.hid (And.intro hi (And.intro hz0 (And.intro hz1 hz2)))
      clear hl1 hl2 hown hin hi hz0 hz1 hz2 HO1
      simp only [GE.agg]
      go_wp2_with (at_builtin; refine wpList_append_own_at _ rfl _ _ 22 rfl w.heap.size 30 i0 (.agg #[.int .i64 0, .string { data := #[] }, .int .i64 0, .bool false, .int .i64 0, .string { data := #[] }, .slice none 0 0, .slice none 0 0]) 8 112 Tryd.underlying22 HI.out.1 HI.out.2.1 HI.out.2.2.1 HI.out.2.2.2 rfl (by decide) _ _ _ rfl (HOWN.out.alloc _) ⟨w1.heap.size, 0, none⟩ 1 1 [.int .i64 l[k].op, .string l[k].text, .int .i64 l[k].v.k, .bool l[k].v.b, .int .i64 l[k].v.n, .string l[k].v.t, .slice a1 l[k].v.l.length c1, .slice aa1 l[k].args.length ca1] rfl rfl ?c1 ?c2 ?c3 ?c4 ?c5 ?_)
      case c1 => exact fun j u hj => news_last hj
      case c2 => intro u hu; simp only [List.mem_cons, List.not_mem_nil, or_false] at hu; rcases hu with rfl | rfl | rfl | rfl | rfl | rfl | rfl | rfl <;> rfl
      case c3 => unfold maxLen; omega
      case c4 => omega
      case c5 => simp; omega
      intro v' w2 hown2 hgrow _ hat
      have hb6 : Below w.heap.size w w2 := (hb3.alloc hbase (.cells #[.int .i64 l[k].op, .string l[k].text, .int .i64 l[k].v.k, .bool l[k].v.b, .int .i64 l[k].v.n, .string l[k].v.t, .slice a1 l[k].v.l.length c1, .slice aa1 l[k].args.length ca1] 30)).grown hgrow (by simp; omega) (fun g hg => (ownBlock_lt HOWN.out hg).1)
      have HO2 : Hid (ownE w2 w.heap.size 30 v' (l.take (k + 1))) := by
        have := ownE_push (y := l[k]) (by simp; omega) HL1.out.1 HL1.out.2 HIN.out ((Below.refl w1.heap.size w1).alloc (Nat.le_refl _) _) (innE_mono HR.out (fun _ _ => rfl) (fun b hb => ⟨by have := hb.1; have := hbel.size; omega, hb.2, fun e => by
          have := (ownBlock_lt HOWNR.out e.symm).2
          have := hb.1
          omega⟩)) hown2 hgrow (by simpa using hat)
        rw [List.take_succ_eq_append_getElem hlt]
        exact this
      clear hown2 hgrow hat
      go_wp2_with fail
      go_roundw
      case rel => exact ⟨k + 1, by omega, by go_num, hb6, HO2⟩
      case measure => simp [intOf]; omega
    · go_wp2_with fail
      go_ret
      have hfin := ownE_isE hO.out
      rw [List.take_of_length_le (by omega)] at hfin
      exact ⟨_, rfl, hfin, hbel⟩
theorem copyE_all : ∀ (m : Nat) (x : GE), x.size ≤ m → x.fit → CopyEC x := by
  intro m
  induction m with
  | zero => exact fun x h => by have := size_args x; omega
  | succ m ih =>
    intro x h fx
    have := size_args x
    obtain ⟨_, _, _, h4, h5, h6⟩ := fitE_open fx
    exact copyE_step x h4 (copyEs_step x.args h5 fun y hy => ih y (by have := sizeE_mem hy; omega) (fitE_mem h6 y hy))
theorem copyExpr_any (x : GE) (fx : x.fit) : CopyEC x := copyE_all x.size x (Nat.le_refl _) fx
end Go.Proofs.YtnmolgmchoihmaaDoor
