/-
  What the references' CopyVals and CopyValue make: the same values in memory of their own. Conditions: lists shorter than 2^31.
-/
import Derived.Test.YtndnondneelgjaaDoorOwn
import Derived.Test.YtndnondneelgjaaDoorProg
import Derived.WalkLawsBesides
import Derived.Deep.QuietTactic
import Derived.BigQuiet
import Derived.Outline
namespace Go.Proofs.YtndnondneelgjaaDoor
open Go Go.RowKit
set_option maxRecDepth 100000
set_option linter.unusedVariables false
/-- a list is handed back, in memory of its own -/
def GivesL (w : World) (l : List GV) (e : Ending) (w' : World) : Prop := ∃ a c, e = .returned (.slice a l.length c) ∧ isR w' (since w.heap.size w') (.slice a l.length c) l ∧ Below w.heap.size w w'
/-- a value is handed back, its lists in memory of their own -/
def GivesV (w : World) (x : GV) (e : Ending) (w' : World) : Prop := ∃ a c, e = .returned (x.agg (.slice a x.l.length c)) ∧ isR w' (since w.heap.size w') (.slice a x.l.length c) x.l ∧ Below w.heap.size w w'
def CopyLC (f : Nat) (l : List GV) : Prop := ∀ (s : Value) (w : World) (B : Nat), B ≤ w.heap.size → isL w 0 B s l → Calls Tryd.prog f #[s] w (GivesL w l)
def CopyVC (f : Nat) (x : GV) : Prop := ∀ (s : Value) (w : World) (B : Nat), B ≤ w.heap.size → isL w 0 B s x.l → Calls Tryd.prog f #[x.agg s] w (GivesV w x)

theorem frozen_of {w : World} {b : Nat} {cs : Array Value} {T : TypeId} (h : w.heap[b]? = some (.cells cs T (0, 0))) (o : Nat) : w.frozen? ⟨b, o, none⟩ = false := by
  simp [World.frozen?, h]
theorem cell_of {w : World} {b : Nat} {cs : Array Value} {T : TypeId} (h : w.heap[b]? = some (.cells cs T (0, 0))) (o : Nat) : w.cell? ⟨b, o, none⟩ = cs[o]? := by
  simp [World.cell?, h]
theorem heap_last {w : World} {o : Obj} : (w.alloc o).heap[w.heap.size]? = some o := by
  rw [show (w.alloc o).heap = w.heap.push o from rfl, Array.getElem?_push, if_pos rfl]
theorem heap_two {w : World} {o o2 : Obj} : ((w.alloc o).alloc o2).heap[w.heap.size]? = some o := by
  rw [show ((w.alloc o).alloc o2).heap = (w.heap.push o).push o2 from rfl, Array.getElem?_push, if_neg (by simp), Array.getElem?_push, if_pos rfl]
theorem heap_second {w : World} {o o2 : Obj} : ((w.alloc o).alloc o2).heap[w.heap.size + 1]? = some o2 := by
  have := @heap_last (w.alloc o) o2
  rwa [show (w.alloc o).heap.size = w.heap.size + 1 from by simp] at this

set_option maxHeartbeats 800000 in
theorem zCopyValue_step (x : GV) (h : CopyLC 24 x.l) : CopyVC 10 x := by
  intro s w B hB hs
  have HS := Lib.hid hs
  have HH := Lib.hid h
  clear h hs
  obtain ⟨a, c, e⟩ := isL_form HS.out
  subst e
  simp only [GV.agg]
  go_enter Tryd.func10, Tryd.ntmps10
  go_wp2_with fail
  have hb0 := ((Below.refl w.heap.size w).alloc (Nat.le_refl _) (.cells #[.int .i64 x.k, .bool x.b, .int .i64 x.n, .string x.t, .slice a x.l.length c] 28)).alloc (by simp) (.cells #[.int .i64 0, .bool false, .int .i64 0, .string { data := #[] }, .slice none 0 0] 28)
  refine (HH.out _ _ B (Nat.le_trans hB hb0.size) (isL_below HS.out hb0 hB)).mono ?_
  rintro e w1 hgv
  obtain ⟨a1, c1, rfl, hr, hb⟩ := hgv
  have hb1 : Below (w.heap.size + 2) ((w.alloc (.cells #[.int .i64 x.k, .bool x.b, .int .i64 x.n, .string x.t, .slice a x.l.length c] 28)).alloc (.cells #[.int .i64 0, .bool false, .int .i64 0, .string { data := #[] }, .slice none 0 0] 28)) w1 := hb.mono (by simp)
  have HR := Lib.hid hr
  have hsz : w.heap.size + 2 ≤ w1.heap.size := by have := hb1.size; simpa using this
  have p1 := hb1.block w.heap.size (by omega)
  rw [heap_two] at p1
  have p2 := hb1.block (w.heap.size + 1) (by omega)
  rw [heap_second] at p2
  have q1 := fun o => cell_of p1 o
  have q2 := fun o => cell_of p2 o
  have f1 := fun o => frozen_of p1 o
  have f2 := fun o => frozen_of p2 o
  clear hr p1 p2
  go_wp2_with fail
  have hr := isR_sub HR.out (S' := since (w.heap.size + 2) w1) (fun b hb => ⟨by have := hb.1; simpa using this, hb.2⟩)
  refine bodyPost_ret (v := .agg #[.int .i64 x.k, .bool x.b, .int .i64 x.n, .string x.t, .slice a1 x.l.length c1]) (by simp [results, Tryd.results10, go_sem, q2]) rfl ⟨a1, c1, rfl, ?_, ?_⟩
  · refine isR_sub (isR_setCell (isR_setCell (isR_setCell (isR_setCell (isR_setCell (isR_setCell hr ?_ _) ?_ _) ?_ _) ?_ _) ?_ _) ?_ _) (S' := since w.heap.size _) (fun b hb => ⟨by have := hb.1; omega, by have := hb.2; simpa [World.setCell] using this⟩)
    all_goals (intro hx; have := hx.1; dsimp only at this; omega)
  · have hb2 : Below w.heap.size w w1 := hb0.trans (hb1.mono (by omega))
    refine (((((hb2.setCell ?_ _).setCell ?_ _).setCell ?_ _).setCell ?_ _).setCell ?_ _).setCell ?_ _
    all_goals simp

theorem vinfo : (Tryd.prog.info? 28).map (fun i => (i.zero, i.size, i.bytes)) = some (some (.agg #[.int .i64 0, .bool false, .int .i64 0, .string { data := #[] }, .slice none 0 0]), 5, 64) := by kernel_rfl
set_option maxHeartbeats 1600000 in
theorem zCopyVals_step (l : List GV) (hl : l.length ≤ 2147483647) (h : ∀ x ∈ l, CopyVC 10 x) : CopyLC 24 l := by
  intro s w B hB hs
  obtain ⟨a, c, bb, off, rfl, hc, ha, hA⟩ := isL_open hs
  have HA := Lib.hid hA
  have Ha := Lib.hid ha
  have HH := Lib.hid h
  clear hA hs ha h
  go_enter Tryd.func24, Tryd.ntmps24
  go_wp2_with fail
  go_loopw [3, 4] (fun v i wr => ∃ k : Nat, k ≤ l.length ∧ i = .int .i64 k ∧ Below w.heap.size w wr ∧ Hid (ownL wr w.heap.size 28 v (l.take k))) (fun _ i _ => l.length - (intOf i).toNat)
  case atStart => exact ⟨0, Nat.zero_le _, rfl, Below.refl _ _, ownL_nil _ _ _⟩
  case round =>
    obtain ⟨k, hk, rfl, hbel, hO⟩ := hrel
    by_cases hlt : k < l.length
    · obtain ⟨rfl, hb1, hb2⟩ := Ha.out (by omega)
      obtain ⟨ax, cx, x0, x1, x2, x3, x4, hsx⟩ := cellsV_slice (HA.out k hlt)
      have hg : ∀ o, wr.cell? ⟨bb, o, none⟩ = w.cell? ⟨bb, o, none⟩ := fun o => hbel.cell (p := ⟨bb, o, none⟩) (Nat.lt_of_lt_of_le hb2 hB)
      have hz : bb < wr.heap.size := Nat.lt_of_lt_of_le hb2 (Nat.le_trans hB hbel.size)
      have Hsx := Lib.hid hsx
      clear hsx
      go_wp2_with fail
      refine (HH.out l[k] (List.getElem_mem _) _ _ B (Nat.le_trans hB hbel.size) (isL_below Hsx.out hbel hB)).mono ?_
      rintro e w1 hgv
      obtain ⟨a1, c1, rfl, hr, hb5⟩ := hgv
      have hb3 := below_down hbel hb5 (Nat.le_refl _)
      have HO1 := Lib.hid (ownL_keep hO.out hb5)
      obtain ⟨ssr, _, hownr, _⟩ := hO.out
      have HOWNR := Lib.hid hownr
      clear hownr
      have HR := Lib.hid hr
      have hsz := hb5.size
      clear hr hb5 hg x0 x1 x2 x3 x4 Hsx Ha hO
      obtain ⟨ss, hl1, hown, hin⟩ := HO1.out
      have HL1 := Lib.hid hl1
      have HOWN := Lib.hid hown
      have HIN := Lib.hid hin
      have hk2 : (l.take k).length ≤ 2147483647 := Nat.le_trans (List.length_take_le _ _) (by omega)
      have hbase : w.heap.size ≤ w1.heap.size := hb3.size
      obtain ⟨i0, hi, hz0, hz1, hz2⟩ := info_parts vinfo
      have HI := Lib.hid (And.intro hi (And.intro hz0 (And.intro hz1 hz2)))
      clear hl1 hown hin hi hz0 hz1 hz2 HO1
      simp only [GV.agg]
      go_wp2_with (at_builtin; refine wpList_append_own_at _ rfl _ _ 22 rfl w.heap.size 28 i0 (.agg #[.int .i64 0, .bool false, .int .i64 0, .string { data := #[] }, .slice none 0 0]) 5 64 Tryd.underlying22 HI.out.1 HI.out.2.1 HI.out.2.2.1 HI.out.2.2.2 rfl (by decide) _ _ _ rfl (HOWN.out.alloc _) ⟨w1.heap.size, 0, none⟩ 1 1 [.int .i64 l[k].k, .bool l[k].b, .int .i64 l[k].n, .string l[k].t, .slice a1 l[k].l.length c1] rfl rfl ?c1 ?c2 ?c3 ?c4 ?c5 ?_)
      case c1 => exact fun j u hj => news_last hj
      case c2 => intro u hu; simp only [List.mem_cons, List.not_mem_nil, or_false] at hu; rcases hu with rfl | rfl | rfl | rfl | rfl <;> rfl
      case c3 => unfold maxLen; omega
      case c4 => omega
      case c5 => simp; omega
      intro v' w2 hown2 hgrow _ hat
      have hb6 : Below w.heap.size w w2 := (hb3.alloc hbase (.cells #[.int .i64 l[k].k, .bool l[k].b, .int .i64 l[k].n, .string l[k].t, .slice a1 l[k].l.length c1] 28)).grown hgrow (by simp; omega) (fun g hg => (ownBlock_lt HOWN.out hg).1)
      have HO2 : Hid (ownL w2 w.heap.size 28 v' (l.take (k + 1))) := by
        have := ownL_push (by simp; omega) HL1.out HIN.out rfl (isR_sub HR.out (fun b hb => ⟨⟨Nat.le_trans hbel.size hb.1, hb.2⟩, fun e => by
          have := (ownBlock_lt HOWNR.out e.symm).2
          have := hb.1
          omega⟩)) hown2 hgrow hat
        rw [List.take_succ_eq_append_getElem hlt]
        exact this
      clear hown2 hgrow hat
      go_wp2_with fail
      go_roundw
      case rel => exact ⟨k + 1, by omega, by go_num, hb6, HO2⟩
      case measure => simp [intOf]; omega
    · go_wp2_with fail
      go_ret
      have hfin := ownL_isR hO.out
      rw [List.take_of_length_le (by omega)] at hfin
      obtain ⟨a, c, e⟩ := isS_form hfin
      subst e
      exact ⟨a, c, rfl, hfin, hbel⟩

theorem zCopy_all : ∀ (m : Nat), (∀ x : GV, x.size ≤ m → x.fit → CopyVC 10 x) ∧ (∀ l : List GV, sizeL l ≤ m → l.length ≤ 2147483647 → fitL l → CopyLC 24 l) := by
  intro m
  induction m with
  | zero =>
    have hV : ∀ x : GV, x.size ≤ 0 → x.fit → CopyVC 10 x := fun x h => by have := size_l x; omega
    exact ⟨hV, fun l h1 h2 h3 => zCopyVals_step l h2 fun x hx => hV x (Nat.le_trans (sizeL_mem hx) h1) (fitL_mem h3 x hx)⟩
  | succ m ih =>
    have hV : ∀ x : GV, x.size ≤ m + 1 → x.fit → CopyVC 10 x := fun x h fx => by
      have := size_l x
      obtain ⟨_, _, _, _, _, a, b⟩ := fit_open fx
      exact zCopyValue_step x (ih.2 x.l (by omega) a b)
    exact ⟨hV, fun l h1 h2 h3 => zCopyVals_step l h2 fun x hx => hV x (Nat.le_trans (sizeL_mem hx) h1) (fitL_mem h3 x hx)⟩
theorem zCopyValue_any (x : GV) (fx : x.fit) : CopyVC 10 x := (zCopy_all x.size).1 x (Nat.le_refl _) fx
theorem zCopyVals_any (l : List GV) (hl : l.length ≤ 2147483647) (fl : fitL l) : CopyLC 24 l := (zCopy_all (sizeL l)).2 l (Nat.le_refl _) hl fl
end Go.Proofs.YtndnondneelgjaaDoor
