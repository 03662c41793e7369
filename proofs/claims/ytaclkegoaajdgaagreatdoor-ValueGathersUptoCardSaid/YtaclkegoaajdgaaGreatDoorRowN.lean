/-
  proctorref0.CopyVals tells a row of its own; a row of values in a block, whose lists lie in other blocks; two values of it change places. Conditions: lists and texts shorter than 2^31.
-/
import Derived.Test.YtaclkegoaajdgaaGreatDoorRowS
import Derived.Test.YtaclkegoaajdgaaGreatDoorOrderR
namespace Go.Proofs.YtaclkegoaajdgaaGreatDoor
open Go Go.RowKit
set_option maxRecDepth 100000
set_option linter.unusedVariables false
set_option maxHeartbeats 1600000 in
theorem zCopyVals_own (l : List GV) (hl : l.length ≤ 2147483647) (h : ∀ x ∈ l, CopyVC 26 x) (s : Value) (w : World) (B : Nat) (hB : B ≤ w.heap.size) (hs : isL w 0 B s l) :
    Calls Tryz.prog 7 #[s] w fun e w' => ∃ v, e = .returned v ∧ ownL w' w.heap.size 29 v l ∧ Below w.heap.size w w' := by
  obtain ⟨a, c, bb, off, rfl, hc, ha, hA⟩ := isL_open hs
  have HA := Lib.hid hA
  have Ha := Lib.hid ha
  have HH := Lib.hid h
  clear hA hs ha h
  go_enter Tryz.func7, Tryz.ntmps7
  go_wp2_with fail
  go_loopw [3, 4] (fun v i wr => ∃ k : Nat, k ≤ l.length ∧ i = .int .i64 k ∧ Below w.heap.size w wr ∧ Hid (ownL wr w.heap.size 29 v (l.take k))) (fun _ i _ => l.length - (intOf i).toNat)
  case atStart => exact ⟨0, Nat.zero_le _, rfl, Below.refl _ _, ownL_nil _ _ _⟩
  case round =>
    obtain ⟨k, hk, rfl, hbel, hO⟩ := hrel
    by_cases hlt : k < l.length
    · obtain ⟨rfl, hb1, hb2⟩ := Ha.out (by omega)
      obtain ⟨ax, cx, x0, x1, x2, x3, x4, hsx⟩ := cellsV_slice (HA.out k hlt)
      have hg : ∀ o, wr.cell? ⟨bb, o, none⟩ = w.cell? ⟨bb, o, none⟩ := fun o => hbel.cell (p := ⟨bb, o, none⟩) (Nat.lt_of_lt_of_le hb2 hB)
      have hz : bb < wr.heap.size := Nat.lt_of_lt_of_le hb2 (Nat.le_trans hB hbel.size)
      have Hsx := Lib.hid hsx
      clear hsx
      go_wp2_with fail
      refine (HH.out l[k] (List.getElem_mem _) _ _ B (Nat.le_trans hB hbel.size) (isL_below Hsx.out hbel hB)).mono ?_
      rintro e w1 hgv
      obtain ⟨a1, c1, rfl, hr, hb5⟩ := hgv
      have hb3 := below_down hbel hb5 (Nat.le_refl _)
      have HO1 := Lib.hid (ownL_keep hO.out hb5)
      obtain ⟨ssr, _, hownr, _⟩ := hO.out
      have HOWNR := Lib.hid hownr
      clear hownr
      have HR := Lib.hid hr
      have hsz := hb5.size
      clear hr hb5 hg x0 x1 x2 x3 x4 Hsx Ha hO
      obtain ⟨ss, hl1, hown, hin⟩ := HO1.out
      have HL1 := Lib.hid hl1
      have HOWN := Lib.hid hown
      have HIN := Lib.hid hin
      have hk2 : (l.take k).length ≤ 2147483647 := Nat.le_trans (List.length_take_le _ _) (by omega)
      have hbase : w.heap.size ≤ w1.heap.size := hb3.size
      obtain ⟨i0, hi, hz0, hz1, hz2⟩ := info_parts vinfo
      have HI := Lib.hid (And.intro hi (And.intro hz0 (And.intro hz1 hz2)))
      clear hl1 hown hin hi hz0 hz1 hz2 HO1
      simp only [GV.agg]
      go_wp2_with (at_builtin; refine wpList_append_own_at _ rfl _ _ 22 rfl w.heap.size 29 i0 (.agg #[.int .i64 0, .bool false, .int .i64 0, .string { data := #[] }, .slice none 0 0]) 5 64 Tryz.underlying22 HI.out.1 HI.out.2.1 HI.out.2.2.1 HI.out.2.2.2 rfl (by decide) _ _ _ rfl (HOWN.out.alloc _) ⟨w1.heap.size, 0, none⟩ 1 1 [.int .i64 l[k].k, .bool l[k].b, .int .i64 l[k].n, .string l[k].t, .slice a1 l[k].l.length c1] rfl rfl ?c1 ?c2 ?c3 ?c4 ?c5 ?_)
      case c1 => exact fun j u hj => news_last hj
      case c2 => intro u hu; simp only [List.mem_cons, List.not_mem_nil, or_false] at hu; rcases hu with rfl | rfl | rfl | rfl | rfl <;> rfl
      case c3 => unfold maxLen; omega
      case c4 => omega
      case c5 => simp; omega
      intro v' w2 hown2 hgrow _ hat
      have hb6 : Below w.heap.size w w2 := (hb3.alloc hbase (.cells #[.int .i64 l[k].k, .bool l[k].b, .int .i64 l[k].n, .string l[k].t, .slice a1 l[k].l.length c1] 29)).grown hgrow (by simp; omega) (fun g hg => (ownBlock_lt HOWN.out hg).1)
      have HO2 : Hid (ownL w2 w.heap.size 29 v' (l.take (k + 1))) := by
        have := ownL_push (by simp; omega) HL1.out HIN.out rfl (isR_sub HR.out (fun b hb => ⟨⟨Nat.le_trans hbel.size hb.1, hb.2⟩, fun e => by
          have := (ownBlock_lt HOWNR.out e.symm).2
          have := hb.1
          omega⟩)) hown2 hgrow hat
        rw [List.take_succ_eq_append_getElem hlt]
        exact this
      clear hown2 hgrow hat
      go_wp2_with fail
      go_roundw
      case rel => exact ⟨k + 1, by omega, by go_num, hb6, HO2⟩
      case measure => simp [intOf]; omega
    · go_wp2_with fail
      go_ret
      have hfin := hO.out
      rw [List.take_of_length_le (by omega)] at hfin
      exact ⟨_, rfl, hfin, hbel⟩
/-- a list whose cells lie in other blocks than g -/
def isN (w : World) (lo g : Nat) (s : Value) (l : List GV) : Prop := isS w (fun b => b ≠ g ∧ lo ≤ b ∧ b < w.heap.size) noRoom s l
theorem isN_isL {w : World} {lo g : Nat} {s : Value} {l : List GV} (h : isN w lo g s l) : isL w lo w.heap.size s l := isS_mono h (fun _ _ _ => rfl) (fun b k => k.2) (fun _ _ h => h)
theorem isN_below {w w' : World} {lo g : Nat} {s : Value} {l : List GV} (h : isN w lo g s l) (hb : Below w.heap.size w w') : isN w' lo g s l := isS_mono h (fun b off k => hb.cell (p := ⟨b, off, none⟩) k.2.2) (fun b k => ⟨k.1, k.2.1, Nat.lt_of_lt_of_le k.2.2 hb.size⟩) (fun _ _ h => h)
theorem isN_set5 {w : World} {lo g o0 o1 o2 o3 o4 : Nat} {a0 a1 a2 a3 a4 s : Value} {m : List GV} (hm : isN w lo g s m) : isN (((((w.setCell ⟨g, o0, none⟩ a0).setCell ⟨g, o1, none⟩ a1).setCell ⟨g, o2, none⟩ a2).setCell ⟨g, o3, none⟩ a3).setCell ⟨g, o4, none⟩ a4) lo g s m :=
  isS_mono hm (fun b off k => World.cell?_of_block (a := ⟨b, off, none⟩) (by
      have hne : b ≠ g := k.1
      rw [Below.heap_setCell _ _ _ _ hne, Below.heap_setCell _ _ _ _ hne, Below.heap_setCell _ _ _ _ hne, Below.heap_setCell _ _ _ _ hne, Below.heap_setCell _ _ _ _ hne])) (fun b k => ⟨k.1, by simpa [World.setCell] using k.2⟩) (fun _ _ h => h)
def rowN (w : World) (lo g cap : Nat) (l : List GV) : Prop := ∃ cur : Array Value, w.heap[g]? = some (.cells cur 29 (0, 0)) ∧ cur.size = cap * 5 ∧ l.length ≤ cap ∧
  ∀ i (h : i < l.length), ∃ a c, cur[i * 5]? = some (.int .i64 l[i].k) ∧ cur[i * 5 + 1]? = some (.bool l[i].b) ∧ cur[i * 5 + 2]? = some (.int .i64 l[i].n) ∧ cur[i * 5 + 3]? = some (.string l[i].t) ∧ cur[i * 5 + 4]? = some (.slice a l[i].l.length c) ∧ isN w lo g (.slice a l[i].l.length c) l[i].l
theorem rowN_set {w : World} {lo g cap : Nat} {l : List GV} (h : rowN w lo g cap l) (i : Nat) (hi : i < l.length) (y : GV) (a : Option Addr) (c : Nat) (hy : isN w lo g (.slice a y.l.length c) y.l) :
    rowN (((((w.setCell ⟨g, i * 5, none⟩ (.int .i64 y.k)).setCell ⟨g, i * 5 + 1, none⟩ (.bool y.b)).setCell ⟨g, i * 5 + 2, none⟩ (.int .i64 y.n)).setCell ⟨g, i * 5 + 3, none⟩ (.string y.t)).setCell ⟨g, i * 5 + 4, none⟩ (.slice a y.l.length c)) lo g cap (l.set i y) := by
  obtain ⟨cur, hh, hs, hl, hc⟩ := h
  refine ⟨_, heap_setCell2 (heap_setCell2 (heap_setCell2 (heap_setCell2 (heap_setCell2 hh)))), by simpa using hs, by simpa using hl, fun q hq => ?_⟩
  have hq' : q < l.length := by simpa using hq
  have hp : i * 5 + 5 ≤ cur.size := by omega
  by_cases hqi : q = i
  · subst hqi
    have e : (l.set q y)[q] = y := by simp
    rw [e]
    refine ⟨a, c, ?_, ?_, ?_, ?_, ?_, isN_set5 hy⟩
    · rw [set5_at cur (q * 5) _ _ _ _ _ hp, if_pos rfl]
    · rw [set5_at cur (q * 5) _ _ _ _ _ hp, if_neg (by omega), if_pos rfl]
    · rw [set5_at cur (q * 5) _ _ _ _ _ hp, if_neg (by omega), if_neg (by omega), if_pos rfl]
    · rw [set5_at cur (q * 5) _ _ _ _ _ hp, if_neg (by omega), if_neg (by omega), if_neg (by omega), if_pos rfl]
    · rw [set5_at cur (q * 5) _ _ _ _ _ hp, if_neg (by omega), if_neg (by omega), if_neg (by omega), if_neg (by omega), if_pos rfl]
  · have e : (l.set i y)[q] = l[q] := by rw [List.getElem_set_ne (fun e => hqi e.symm)]
    obtain ⟨a2, c2, b0, b1, b2, b3, b4, b5⟩ := hc q hq'
    have k : ∀ r, r < 5 → (((((cur.setIfInBounds (i * 5) (.int .i64 y.k)).setIfInBounds (i * 5 + 1) (.bool y.b)).setIfInBounds (i * 5 + 2) (.int .i64 y.n)).setIfInBounds (i * 5 + 3) (.string y.t)).setIfInBounds (i * 5 + 4) (.slice a y.l.length c))[q * 5 + r]? = cur[q * 5 + r]? := fun r hr => by
      rw [set5_at cur (i * 5) _ _ _ _ _ hp, if_neg (by omega), if_neg (by omega), if_neg (by omega), if_neg (by omega), if_neg (by omega)]
    rw [e]
    exact ⟨a2, c2, (k 0 (by omega)).trans b0, (k 1 (by omega)).trans b1, (k 2 (by omega)).trans b2, (k 3 (by omega)).trans b3, (k 4 (by omega)).trans b4, isN_set5 b5⟩
theorem rowN_lt {w : World} {lo g cap : Nat} {l : List GV} (h : rowN w lo g cap l) : g < w.heap.size := by
  obtain ⟨cur, hh, _⟩ := h
  exact (Array.getElem?_eq_some_iff.1 hh).1
theorem rowN_frozen {w : World} {lo g cap : Nat} {l : List GV} (h : rowN w lo g cap l) (o : Nat) : w.frozen? ⟨g, o, none⟩ = false := by
  obtain ⟨cur, hh, _⟩ := h
  exact frozen_of hh o
theorem rowN_below {w w' : World} {lo g cap : Nat} {l : List GV} (h : rowN w lo g cap l) (hb : Below w.heap.size w w') : rowN w' lo g cap l := by
  have hlt := rowN_lt h
  obtain ⟨cur, hh, hs, hl, hc⟩ := h
  refine ⟨cur, (hb.block g hlt).trans hh, hs, hl, fun i hi => ?_⟩
  obtain ⟨a, c, b0, b1, b2, b3, b4, b5⟩ := hc i hi
  exact ⟨a, c, b0, b1, b2, b3, b4, isN_below b5 hb⟩
theorem rowN_open {w : World} {lo g cap : Nat} {l : List GV} (h : rowN w lo g cap l) {j : Nat} (hj : j < l.length) : ∃ a c, w.cell? ⟨g, j * 5, none⟩ = some (.int .i64 (vat l j).k) ∧ w.cell? ⟨g, j * 5 + 1, none⟩ = some (.bool (vat l j).b) ∧ w.cell? ⟨g, j * 5 + 2, none⟩ = some (.int .i64 (vat l j).n) ∧ w.cell? ⟨g, j * 5 + 3, none⟩ = some (.string (vat l j).t) ∧ w.cell? ⟨g, j * 5 + 4, none⟩ = some (.slice a (vat l j).l.length c) ∧ isN w lo g (.slice a (vat l j).l.length c) (vat l j).l := by
  obtain ⟨cur, hh, hs, hl, hc⟩ := h
  obtain ⟨a, c, b0, b1, b2, b3, b4, b5⟩ := hc j hj
  rw [vat_get hj]
  exact ⟨a, c, (cell_of hh _).trans b0, (cell_of hh _).trans b1, (cell_of hh _).trans b2, (cell_of hh _).trans b3, (cell_of hh _).trans b4, b5⟩
theorem rowN_order {wr : World} {lo g cap : Nat} {m : List GV} (hrow : rowN wr lo g cap m) (fl : fitL m) {p q : Nat} (hp : p < m.length) (hq : q < m.length) {ax ay : Option Addr} {cx cy : Nat} (hx : isN wr lo g (.slice ax (vat m p).l.length cx) (vat m p).l) (hy : isN wr lo g (.slice ay (vat m q).l.length cy) (vat m q).l) :
    ∀ d os, Calls Tryz.prog 56 #[(vat m p).agg (.slice ax (vat m p).l.length cx), (vat m q).agg (.slice ay (vat m q).l.length cy)] (Go.Sort.grow (redrawn wr d) os) fun e w' => e = .returned (.int .i64 (ordV (vat m p) (vat m q))) ∧ Below (Go.Sort.grow (redrawn wr d) os).heap.size (Go.Sort.grow (redrawn wr d) os) w' := fun d os =>
  have hbg : Below wr.heap.size wr (Go.Sort.grow (redrawn wr d) os) := below_grow (Below.refl wr.heap.size wr) (Nat.le_refl _) d os
  rOrder_any _ _ (vat_fit fl hp) (vat_fit fl hq) _ _ _ wr.heap.size hbg.size (isL_wide (isL_below (isN_isL hx) hbg (Nat.le_refl _)) (Nat.zero_le _) (Nat.le_refl _)) (isL_wide (isL_below (isN_isL hy) hbg (Nat.le_refl _)) (Nat.zero_le _) (Nat.le_refl _))
/-- a row that CopyVals has made -/
theorem rowN_of {w : World} {base : Nat} {v : Value} {l : List GV} (h : ownL w base 29 v l) (h0 : 0 < l.length) : ∃ g cap, v = .slice (some ⟨g, 0, none⟩) l.length cap ∧ base ≤ g ∧ rowN w base g cap l := by
  obtain ⟨ss, hl, hown, hin⟩ := h
  obtain ⟨h1, h2 | ⟨g, cap, cur, e, hg, hh, hn, hcap, hsz, htk⟩⟩ := hown
  · omega
  · refine ⟨g, cap, e, hg, cur, hh, hsz, hn, fun i hi => ?_⟩
    obtain ⟨a0, a1, a2, a3, a4⟩ := flat_get l ss i hi (by omega)
    have k : ∀ j, j < l.length * 5 → cur[j]? = (flat l ss)[j]? := fun j hj => by
      rw [← htk, List.getElem?_take, if_pos hj]; simp
    have hi2 := hin i hi (by omega)
    obtain ⟨a, c, es⟩ := isS_form hi2
    rw [es] at a4 hi2
    have hN : isN w base g (.slice a l[i].l.length c) l[i].l := isS_mono hi2 (fun _ _ _ => rfl) (fun b hb => ⟨fun eb => hb.2 (by subst e; simp [Value.ownBlock, eb]), hb.1⟩) (fun _ _ _ => trivial)
    exact ⟨a, c, (k _ (by omega)).trans a0, (k _ (by omega)).trans a1, (k _ (by omega)).trans a2, (k _ (by omega)).trans a3, (k _ (by omega)).trans a4, hN⟩
/-- the row as a list that can be read -/
theorem rowN_isL {w : World} {lo g cap : Nat} {m : List GV} (h : rowN w lo g cap m) (hlg : lo ≤ g) : isL w lo w.heap.size (.slice (some ⟨g, 0, none⟩) m.length cap) m := by
  have hlt := rowN_lt h
  obtain ⟨cur, hh, hs, hl, hc⟩ := h
  refine isL_mk (b := g) (off := 0) hl (fun _ => ⟨rfl, hlg, hlt⟩) fun i hi => ?_
  obtain ⟨a, c, b0, b1, b2, b3, b4, b5⟩ := hc i hi
  rw [Nat.zero_add]
  exact cellsV_mk ((cell_of hh _).trans b0) ((cell_of hh _).trans b1) ((cell_of hh _).trans b2) ((cell_of hh _).trans b3) ((cell_of hh _).trans b4) (isN_isL b5)
theorem heap_far5 {w : World} {g b o0 o1 o2 o3 o4 : Nat} {a0 a1 a2 a3 a4 : Value} (h : b ≠ g) : (((((w.setCell ⟨g, o0, none⟩ a0).setCell ⟨g, o1, none⟩ a1).setCell ⟨g, o2, none⟩ a2).setCell ⟨g, o3, none⟩ a3).setCell ⟨g, o4, none⟩ a4).heap[b]? = w.heap[b]? := by
  rw [Below.heap_setCell _ _ _ _ h, Below.heap_setCell _ _ _ _ h, Below.heap_setCell _ _ _ _ h, Below.heap_setCell _ _ _ _ h, Below.heap_setCell _ _ _ _ h]
theorem isL_set5lo {w : World} {lo hi b o0 o1 o2 o3 o4 : Nat} {a0 a1 a2 a3 a4 s : Value} {m : List GV} (h : isL w lo hi s m) (hb : b < lo) : isL (((((w.setCell ⟨b, o0, none⟩ a0).setCell ⟨b, o1, none⟩ a1).setCell ⟨b, o2, none⟩ a2).setCell ⟨b, o3, none⟩ a3).setCell ⟨b, o4, none⟩ a4) lo hi s m :=
  isL_mono h (fun c off h1 _ => World.cell?_of_block (a := ⟨c, off, none⟩) (heap_far5 (show c ≠ b from fun e => by omega))) (Nat.le_refl _) (Nat.le_refl _)
end Go.Proofs.YtaclkegoaajdgaaGreatDoor
