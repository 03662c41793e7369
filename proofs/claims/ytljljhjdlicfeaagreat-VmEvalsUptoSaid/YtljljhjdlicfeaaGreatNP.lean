/-
  The machine's do, instruction by instruction: what doP tells. Conditions: fewer than 2^31 values on the stack.
-/
import Derived.Test.YtljljhjdlicfeaaGreatPAK
import Derived.Deep.RegionHeld3
import Derived.StillTailTactics
namespace Go.Proofs.YtljljhjdlicfeaaGreat
open Go Go.RowKit
set_option maxRecDepth 100000
set_option linter.unusedVariables false
def DoneC (E : EP) (ev : Value) (B0 : Nat) (x : GI) : Prop := ∀ (bM base n : Nat) (v : Value) (st : List GV) (s : Value) (w : World) (B : Nat), B ≤ w.heap.size → B0 ≤ bM → st.length ≤ 2147483646 → fitL st → okOf x = true → offOf x ≤ st.length → mach w bM base (.iface 43 ev) v st n → isL w 0 B s x.v.l → EnvOk E ev B0 w →
  Calls Tryz.prog 45 #[.pointer (some ⟨bM, 0, none⟩), x.agg s] w (DoO bM base (.iface 43 ev) (doP E x st) n w)
theorem meth_Var (ev : Value) (w : World) : (method 277 43 ev "Var").run Tryz.prog w = .ok (141, ev) w := by kernel_rfl
theorem meth_Field (ev : Value) (w : World) : (method 277 43 ev "Field").run Tryz.prog w = .ok (139, ev) w := by kernel_rfl
theorem meth_Get (ev : Value) (w : World) : (method 277 43 ev "Get").run Tryz.prog w = .ok (140, ev) w := by kernel_rfl
set_option maxHeartbeats 1600000 in
theorem do_0 (E : EP) (fE : E.fit) (ev : Value) (B0 : Nat) (arg : Int) (sx : ByteArray) (vx : GV) (fx : vx.fit) : DoneC E ev B0 ⟨0, arg, sx, vx⟩ := by
  intro bM base n v st s w B hB hB0 hl fs hok hoff hm hs hE
  dsimp only at hs
  obtain ⟨a, c, rfl⟩ := isL_form hs
  obtain ⟨env, henv⟩ : ∃ u, u = Value.iface 43 ev := ⟨_, rfl⟩
  rw [← henv] at hm ⊢
  have HENV := Lib.hid henv
  have HM := Lib.hid hm
  have HS := Lib.hid hs
  have HE := Lib.hid hE
  have hbs := hm.2.2.2
  have hbm := hm.2.2.1
  clear hm hs hE henv
  simp only [GI.agg]
  go_enter Tryz.func45, Tryz.ntmps45
  go_upto_region 1 with fail
  obtain ⟨w1, hw1⟩ : ∃ u, u = w.alloc (.cells #[.int .i64 0, .int .i64 arg, .string sx, .int .i64 vx.k, .bool vx.b, .int .i64 vx.n, .string vx.t, .slice a vx.l.length c] 86) := ⟨_, rfl⟩
  have hb1 : Below w.heap.size w w1 := by rw [hw1]; exact (Below.refl _ _).alloc (Nat.le_refl _) _
  have hx1 : w1.heap[w.heap.size]? = some (.cells #[.int .i64 0, .int .i64 arg, .string sx, .int .i64 vx.k, .bool vx.b, .int .i64 vx.n, .string vx.t, .slice a vx.l.length c] 86 (0, 0)) := by rw [hw1]; exact heap_last
  rw [← hw1]
  have HX1 := Lib.hid hx1
  have HB1 := Lib.hid hb1
  have HM1 := Lib.hid (mach_below HM.out hb1)
  have q1 := fun o => cell_of hx1 o
  have l1 : w.heap.size < w1.heap.size := (Array.getElem?_eq_some_iff.1 hx1).1
  clear hw1 hb1 hx1
  have HD : Hid (doP E ⟨0, arg, sx, vx⟩ st = .go (st ++ [vx])) := by rw [Hid, doP]; exact if_pos rfl
  rw [HD.out]
  go_wp2_with fail
  refine (mCopied_any vx fx (.slice a vx.l.length c) w1 B (Nat.le_trans hB HB1.out.size) (isL_below HS.out HB1.out hB)).mono ?_
  rintro e w4 ⟨a4, c4, rfl, hr4, hb4⟩
  have HR4 := Lib.hid hr4
  have HB4 := Lib.hid (below_down HB1.out hb4 (Nat.le_refl _))
  clear hr4 hb4 q1
  simp only [GV.agg]
  go_wp2_with fail
  refine (push_any bM base n env v st vx (.slice a4 vx.l.length c4) w4 hl (mach_below HM.out HB4.out) (inR_new HR4.out (by omega) (fun g hg => by have := (mach_own HM.out g hg).2; omega))).mono ?_
  rintro e w5 hP
  have hp1 := hP.1
  subst hp1
  have HP := Lib.hid hP
  clear hP
  go_wp2_with fail
  go_end0
  exact PushO.from HP.out (KB.below HB4.out hbs)
set_option maxHeartbeats 3200000 in
theorem do_1 (E : EP) (fE : E.fit) (ev : Value) (B0 : Nat) (arg : Int) (sx : ByteArray) (vx : GV) (fx : vx.fit) : DoneC E ev B0 ⟨1, arg, sx, vx⟩ := by
  intro bM base n v st s w B hB hB0 hl fs hok hoff hm hs hE
  dsimp only at hs
  obtain ⟨a, c, rfl⟩ := isL_form hs
  obtain ⟨env, henv⟩ : ∃ u, u = Value.iface 43 ev := ⟨_, rfl⟩
  rw [← henv] at hm ⊢
  have HENV := Lib.hid henv
  have HM := Lib.hid hm
  have HS := Lib.hid hs
  have HE := Lib.hid hE
  have hbs := hm.2.2.2
  have hbm := hm.2.2.1
  clear hm hs hE henv
  simp only [GI.agg]
  go_enter Tryz.func45, Tryz.ntmps45
  go_upto_region 1 with fail
  obtain ⟨w1, hw1⟩ : ∃ u, u = w.alloc (.cells #[.int .i64 1, .int .i64 arg, .string sx, .int .i64 vx.k, .bool vx.b, .int .i64 vx.n, .string vx.t, .slice a vx.l.length c] 86) := ⟨_, rfl⟩
  have hb1 : Below w.heap.size w w1 := by rw [hw1]; exact (Below.refl _ _).alloc (Nat.le_refl _) _
  have hx1 : w1.heap[w.heap.size]? = some (.cells #[.int .i64 1, .int .i64 arg, .string sx, .int .i64 vx.k, .bool vx.b, .int .i64 vx.n, .string vx.t, .slice a vx.l.length c] 86 (0, 0)) := by rw [hw1]; exact heap_last
  rw [← hw1]
  have HX1 := Lib.hid hx1
  have HB1 := Lib.hid hb1
  have HM1 := Lib.hid (mach_below HM.out hb1)
  have q1 := fun o => cell_of hx1 o
  have l1 : w.heap.size < w1.heap.size := (Array.getElem?_eq_some_iff.1 hx1).1
  clear hw1 hb1 hx1
  rw [HENV.out] at HM1
  have hM1 := HM1.out.1
  have p1 := fun o => cell_of hM1 o
  have f1 := fun o => frozen_of hM1 o
  have lM : bM < w1.heap.size := (Array.getElem?_eq_some_iff.1 hM1).1
  have hme := fun w => meth_Var ev w
  obtain ⟨X, hX⟩ : ∃ X, X = (E.var sx).1 := ⟨_, rfl⟩
  obtain ⟨Y, hY⟩ : ∃ Y, Y = (E.var sx).2 := ⟨_, rfl⟩
  have HASK : Hid (∀ w' : World, Below w1.heap.size w1 w' → Calls Tryz.prog 141 #[ev, .string sx] w' (TellR X (.bool Y) w')) := fun w' h => by
    rw [hX, hY]
    exact (HE.out w' ((HB1.out.mono (by omega)).trans (h.mono (by omega))) (by have := HB1.out.size; have := h.size; omega)).1 sx
  have HFX : Hid X.fit := by rw [Hid, hX]; exact fE.1 sx
  have HDO : Hid (doP E ⟨1, arg, sx, vx⟩ st = if Y = true then toldP X st else .stop 5) := by rw [Hid, doP, hX, hY, if_neg (show ¬ ((1 : Int) = 0) by decide), if_pos rfl]
  clear hM1 hX hY
  go_upto_region 5 with fail
  go_cut [4, 5] (fun s4 s5 wx => ∃ (p : Nat) (a2 : Option Addr) (c2 : Nat), s4 = .pointer (some ⟨p, 0, none⟩) ∧ s5 = .bool Y ∧ Hid (BoxO w1 wx p X a2 c2))
  case first =>
    go_region_law (first
      | (go_simp
         go_at_call 141
         refine (HASK.out _ ?hb).mono ?_
         case hb => first | exact (Below.refl _ w1).drew | exact ((Below.refl _ w1).alloc (Nat.le_refl _) _).drew | exact Below.refl _ w1 | exact (Below.refl _ w1).alloc (Nat.le_refl _) _
         rintro e w2 ⟨a2, c2, rfl, hr2, hb2⟩
         have HR2 := Lib.hid hr2
         first
           | (have hbw : Below w1.heap.size w1 w2 := (Below.refl _ w1).drew.trans hb2
              have HB2 := Lib.hid hbw
              clear hbw)
           | (have hbw : Below w1.heap.size w1 w2 := ((Below.refl _ w1).alloc (Nat.le_refl _) _).drew.trans (hb2.mono (by simp))
              have HB2 := Lib.hid hbw
              have hz := (hb2.block w1.heap.size (by simp)).trans (heap_last (w := w1) (o := (.cells #[.int .i64 0, .bool false, .int .i64 0, .string { data := #[] }, .slice none 0 0] 36)))
              have HZ := Lib.hid hz
              have qz := fun o => cell_of hz o
              have fz := fun o => frozen_of hz o
              have lz : w1.heap.size < w2.heap.size := (Array.getElem?_eq_some_iff.1 hz).1
              clear hbw hz)
         have hw2 := HB2.out.size
         simp only [GV.agg]
         clear hr2 hb2))
    all_goals
      go_wp2_with fail
      go_meet
      refine ⟨_, a2, c2, rfl, rfl, Lib.hid ?_⟩
      first
        | with_reducible exact boxO_B HR2.out HB2.out
        | (with_reducible refine boxO_A HZ.out ?_ HR2.out ?_ HB2.out
           · rfl
           · simp)
  case rest =>
    obtain ⟨p, a2, c2, rfl, rfl, HBX⟩ := hcut
    have hbx := HBX.out.2.1
    have HBC := Lib.hid (below_down HB1.out HBX.out.2.2.2 (Nat.le_refl _))
    have qx := fun o => cell_of hbx o
    have lx : p < wc.heap.size := (Array.getElem?_eq_some_iff.1 hbx).1
    clear hbx p1 f1 hme q1
    cases Y
    · go_wp2_with fail
      refine (need_no 5 wc).mono ?_
      rintro e w3 ⟨rfl, rfl⟩
      refine ⟨rfl, ?_⟩
      rw [HDO.out, if_neg (by simp)]
      exact ⟨rfl, KB.below HBC.out hbs, v, st, mach_below HM.out HBC.out⟩
    · have HDT : Hid (doP E ⟨1, arg, sx, vx⟩ st = toldP X st) := by rw [Hid, HDO.out]; first | exact if_pos rfl | exact if_pos trivial
      go_wp2_with fail
      refine (need_ok 5 wc).mono ?_
      rintro e w3 ⟨rfl, hw3⟩
      rw [hw3]
      go_wp2_with fail
      refine (told_any bM base n env v st X HFX.out (.slice a2 X.l.length c2) wc wc.heap.size (Nat.le_refl _) hl (mach_below HM.out HBC.out) HBX.out.2.2.1).mono ?_
      rintro e w5 hD
      by_cases hv : vmay X = true
      · rw [toldP, if_pos hv] at hD
        have hp1 := hD.1
        subst hp1
        have HD := Lib.hid hD
        clear hD
        go_wp2_with fail
        go_end0
        rw [HDT.out, toldP, if_pos hv]
        exact PushO.from HD.out (KB.below HBC.out hbs)
      · rw [toldP, if_neg hv] at hD
        have hp1 := hD.1
        subst hp1
        refine ⟨rfl, ?_⟩
        rw [HDT.out, toldP, if_neg hv]
        exact DoO.from (o := .stop 1) hD (KB.below HBC.out hbs)
set_option maxHeartbeats 3200000 in
theorem do_2 (E : EP) (fE : E.fit) (ev : Value) (B0 : Nat) (arg : Int) (sx : ByteArray) (vx : GV) (fx : vx.fit) : DoneC E ev B0 ⟨2, arg, sx, vx⟩ := by
  intro bM base n v st s w B hB hB0 hl fs hok hoff hm hs hE
  dsimp only at hs
  obtain ⟨a, c, rfl⟩ := isL_form hs
  obtain ⟨env, henv⟩ : ∃ u, u = Value.iface 43 ev := ⟨_, rfl⟩
  rw [← henv] at hm ⊢
  have HENV := Lib.hid henv
  have HM := Lib.hid hm
  have HS := Lib.hid hs
  have HE := Lib.hid hE
  have hbs := hm.2.2.2
  have hbm := hm.2.2.1
  clear hm hs hE henv
  simp only [GI.agg]
  go_enter Tryz.func45, Tryz.ntmps45
  go_upto_region 1 with fail
  obtain ⟨w1, hw1⟩ : ∃ u, u = w.alloc (.cells #[.int .i64 2, .int .i64 arg, .string sx, .int .i64 vx.k, .bool vx.b, .int .i64 vx.n, .string vx.t, .slice a vx.l.length c] 86) := ⟨_, rfl⟩
  have hb1 : Below w.heap.size w w1 := by rw [hw1]; exact (Below.refl _ _).alloc (Nat.le_refl _) _
  have hx1 : w1.heap[w.heap.size]? = some (.cells #[.int .i64 2, .int .i64 arg, .string sx, .int .i64 vx.k, .bool vx.b, .int .i64 vx.n, .string vx.t, .slice a vx.l.length c] 86 (0, 0)) := by rw [hw1]; exact heap_last
  rw [← hw1]
  have HX1 := Lib.hid hx1
  have HB1 := Lib.hid hb1
  have HM1 := Lib.hid (mach_below HM.out hb1)
  have q1 := fun o => cell_of hx1 o
  have l1 : w.heap.size < w1.heap.size := (Array.getElem?_eq_some_iff.1 hx1).1
  clear hw1 hb1 hx1
  rw [HENV.out] at HM1
  have hM1 := HM1.out.1
  have p1 := fun o => cell_of hM1 o
  have f1 := fun o => frozen_of hM1 o
  have lM : bM < w1.heap.size := (Array.getElem?_eq_some_iff.1 hM1).1
  have hme := fun w => meth_Field ev w
  obtain ⟨X, hX⟩ : ∃ X, X = (E.field sx).1 := ⟨_, rfl⟩
  obtain ⟨Y, hY⟩ : ∃ Y, Y = (E.field sx).2 := ⟨_, rfl⟩
  have HASK : Hid (∀ w' : World, Below w1.heap.size w1 w' → Calls Tryz.prog 139 #[ev, .string sx] w' (TellR X (.bool Y) w')) := fun w' h => by
    rw [hX, hY]
    exact (HE.out w' ((HB1.out.mono (by omega)).trans (h.mono (by omega))) (by have := HB1.out.size; have := h.size; omega)).2.1 sx
  have HFX : Hid X.fit := by rw [Hid, hX]; exact fE.2.1 sx
  have HDO : Hid (doP E ⟨2, arg, sx, vx⟩ st = if Y = true then toldP X st else .stop 11) := by rw [Hid, doP, hX, hY, if_neg (show ¬ ((2 : Int) = 0) by decide), if_neg (show ¬ ((2 : Int) = 1) by decide), if_pos rfl]
  clear hM1 hX hY
  go_upto_region 9 with fail
  go_cut [6, 7] (fun s4 s5 wx => ∃ (p : Nat) (a2 : Option Addr) (c2 : Nat), s4 = .pointer (some ⟨p, 0, none⟩) ∧ s5 = .bool Y ∧ Hid (BoxO w1 wx p X a2 c2))
  case first =>
    go_region_law (first
      | (go_simp
         go_at_call 139
         refine (HASK.out _ ?hb).mono ?_
         case hb => first | exact (Below.refl _ w1).drew | exact ((Below.refl _ w1).alloc (Nat.le_refl _) _).drew | exact Below.refl _ w1 | exact (Below.refl _ w1).alloc (Nat.le_refl _) _
         rintro e w2 ⟨a2, c2, rfl, hr2, hb2⟩
         have HR2 := Lib.hid hr2
         first
           | (have hbw : Below w1.heap.size w1 w2 := (Below.refl _ w1).drew.trans hb2
              have HB2 := Lib.hid hbw
              clear hbw)
           | (have hbw : Below w1.heap.size w1 w2 := ((Below.refl _ w1).alloc (Nat.le_refl _) _).drew.trans (hb2.mono (by simp))
              have HB2 := Lib.hid hbw
              have hz := (hb2.block w1.heap.size (by simp)).trans (heap_last (w := w1) (o := (.cells #[.int .i64 0, .bool false, .int .i64 0, .string { data := #[] }, .slice none 0 0] 36)))
              have HZ := Lib.hid hz
              have qz := fun o => cell_of hz o
              have fz := fun o => frozen_of hz o
              have lz : w1.heap.size < w2.heap.size := (Array.getElem?_eq_some_iff.1 hz).1
              clear hbw hz)
         have hw2 := HB2.out.size
         simp only [GV.agg]
         clear hr2 hb2))
    all_goals
      go_wp2_with fail
      go_meet
      refine ⟨_, a2, c2, rfl, rfl, Lib.hid ?_⟩
      first
        | with_reducible exact boxO_B HR2.out HB2.out
        | (with_reducible refine boxO_A HZ.out ?_ HR2.out ?_ HB2.out
           · rfl
           · simp)
  case rest =>
    obtain ⟨p, a2, c2, rfl, rfl, HBX⟩ := hcut
    have hbx := HBX.out.2.1
    have HBC := Lib.hid (below_down HB1.out HBX.out.2.2.2 (Nat.le_refl _))
    have qx := fun o => cell_of hbx o
    have lx : p < wc.heap.size := (Array.getElem?_eq_some_iff.1 hbx).1
    clear hbx p1 f1 hme q1
    cases Y
    · go_wp2_with fail
      refine (need_no 11 wc).mono ?_
      rintro e w3 ⟨rfl, rfl⟩
      refine ⟨rfl, ?_⟩
      rw [HDO.out, if_neg (by simp)]
      exact ⟨rfl, KB.below HBC.out hbs, v, st, mach_below HM.out HBC.out⟩
    · have HDT : Hid (doP E ⟨2, arg, sx, vx⟩ st = toldP X st) := by rw [Hid, HDO.out]; first | exact if_pos rfl | exact if_pos trivial
      go_wp2_with fail
      refine (need_ok 11 wc).mono ?_
      rintro e w3 ⟨rfl, hw3⟩
      rw [hw3]
      go_wp2_with fail
      refine (told_any bM base n env v st X HFX.out (.slice a2 X.l.length c2) wc wc.heap.size (Nat.le_refl _) hl (mach_below HM.out HBC.out) HBX.out.2.2.1).mono ?_
      rintro e w5 hD
      by_cases hv : vmay X = true
      · rw [toldP, if_pos hv] at hD
        have hp1 := hD.1
        subst hp1
        have HD := Lib.hid hD
        clear hD
        go_wp2_with fail
        go_end0
        rw [HDT.out, toldP, if_pos hv]
        exact PushO.from HD.out (KB.below HBC.out hbs)
      · rw [toldP, if_neg hv] at hD
        have hp1 := hD.1
        subst hp1
        refine ⟨rfl, ?_⟩
        rw [HDT.out, toldP, if_neg hv]
        exact DoO.from (o := .stop 1) hD (KB.below HBC.out hbs)
end Go.Proofs.YtljljhjdlicfeaaGreat
namespace Go.Proofs.YtljljhjdlicfeaaGreat
open Go Go.RowKit
set_option maxRecDepth 100000
set_option linter.unusedVariables false
theorem KB.kg {base bM : Nat} {w w' : World} (h : Kg bM w w') (hb : base ≤ w.heap.size) : KB base bM w w' := ⟨h.1, h.2.1, h.2.2.1, h.2.2.2.1, fun b k hne => h.2.2.2.2 b (Nat.lt_of_lt_of_le k hb) hne⟩
theorem inR_below {w w' : World} {base : Nat} {v s : Value} {l : List GV} (h : inR w base v s l) (hb : Below w.heap.size w w') : inR w' base v s l :=
  isR_mono h (fun b k => hb.block b k.1.2) (fun b k => ⟨⟨k.1.1, Nat.lt_of_lt_of_le k.1.2 hb.size⟩, k.2⟩)
theorem inR_isL {w : World} {base : Nat} {v s : Value} {l : List GV} (h : inR w base v s l) : isL w 0 w.heap.size s l := isR_isL h (fun b k => ⟨Nat.zero_le _, k.1.2⟩)
theorem mach_top {w : World} {bM base n : Nat} {env v : Value} {st : List GV} (hm : mach w bM base env v st n) (h : 0 < st.length) : ∃ g m cap, st.length = m + 1 ∧ v = .slice (some ⟨g, 0, none⟩) (m + 1) cap ∧ base ≤ g ∧ g < w.heap.size ∧
    w.cell? ⟨g, m * 5, none⟩ = some (.int .i64 (topG st).k) ∧ w.cell? ⟨g, m * 5 + 1, none⟩ = some (.bool (topG st).b) := by
  obtain ⟨_, ⟨ss, hls, hown, _⟩, _, _⟩ := hm
  obtain ⟨m, hm⟩ : ∃ m, st.length = m + 1 := ⟨st.length - 1, by omega⟩
  have hown' := hown
  rw [hm] at hown'
  obtain ⟨g, cap, hv⟩ := owns_some5 hown'
  have hgl := ownBlock_lt hown (g := g) (by rw [hv]; rfl)
  obtain ⟨_, ⟨h2, _⟩ | ⟨g', cap', cur, e, hg, hh, hn, hc, hs', ht⟩⟩ := hown'
  · rw [hv] at h2; cases h2
  · rw [hv] at e
    simp only [Value.slice.injEq, Option.some.injEq, Addr.mk.injEq] at e
    obtain ⟨⟨rfl, _⟩, _, rfl⟩ := e
    have hf := flat_get st ss m (by omega) (by omega)
    have key : ∀ j, j < 5 → w.cell? ⟨g, m * 5 + j, none⟩ = (flat st ss)[m * 5 + j]? := fun j hj => by
      rw [cell_of hh, ← Array.getElem?_toList]
      have := congrArg (fun l => l[m * 5 + j]?) ht
      simp only [List.getElem?_take, if_pos (show m * 5 + j < (m + 1) * 5 by omega)] at this
      exact this
    have e1 : topG st = st[m]'(by omega) := by rw [topG_eq h]; simp [hm]
    exact ⟨g, m, cap, hm, hv, hgl.1, hgl.2, by rw [e1]; exact (key 0 (by omega)).trans hf.1, by rw [e1]; exact (key 1 (by omega)).trans hf.2.1⟩
set_option maxHeartbeats 1600000 in
theorem do_4 (E : EP) (fE : E.fit) (ev : Value) (B0 : Nat) (arg : Int) (sx : ByteArray) (vx : GV) (fx : vx.fit) (kk : Nat) : DoneC E ev B0 ⟨4, (kk : Int), sx, vx⟩ := by
  intro bM base n v st s w B hB hB0 hl fs hok hoff hm hs hE
  dsimp only at hs
  obtain ⟨a, c, rfl⟩ := isL_form hs
  obtain ⟨env, henv⟩ : ∃ u, u = Value.iface 43 ev := ⟨_, rfl⟩
  rw [← henv] at hm ⊢
  have HENV := Lib.hid henv
  have HM := Lib.hid hm
  have HS := Lib.hid hs
  have HE := Lib.hid hE
  have hbs := hm.2.2.2
  have hbm := hm.2.2.1
  clear hm hs hE henv
  simp only [GI.agg]
  go_enter Tryz.func45, Tryz.ntmps45
  go_upto_region 1 with fail
  obtain ⟨w1, hw1⟩ : ∃ u, u = w.alloc (.cells #[.int .i64 4, .int .i64 (kk : Int), .string sx, .int .i64 vx.k, .bool vx.b, .int .i64 vx.n, .string vx.t, .slice a vx.l.length c] 86) := ⟨_, rfl⟩
  have hb1 : Below w.heap.size w w1 := by rw [hw1]; exact (Below.refl _ _).alloc (Nat.le_refl _) _
  have hx1 : w1.heap[w.heap.size]? = some (.cells #[.int .i64 4, .int .i64 (kk : Int), .string sx, .int .i64 vx.k, .bool vx.b, .int .i64 vx.n, .string vx.t, .slice a vx.l.length c] 86 (0, 0)) := by rw [hw1]; exact heap_last
  rw [← hw1]
  have HX1 := Lib.hid hx1
  have HB1 := Lib.hid hb1
  have HM1 := Lib.hid (mach_below HM.out hb1)
  have q1 := fun o => cell_of hx1 o
  have l1 : w.heap.size < w1.heap.size := (Array.getElem?_eq_some_iff.1 hx1).1
  clear hw1 hb1 hx1
  have hkk : kk ≤ st.length := by have := hoff; simp [offOf] at this; omega
  have hl2 := lessN_len hkk
  obtain ⟨L, hL⟩ : ∃ L, L = lastN kk st := ⟨_, rfl⟩
  obtain ⟨V, hV⟩ : ∃ V, V = vmay (listG L) := ⟨_, rfl⟩
  have HV := Lib.hid hV
  have HDO : Hid (doP E ⟨4, (kk : Int), sx, vx⟩ st = if V = true then .go (lessN kk st ++ [listG L]) else .stop 2) := by
    rw [Hid, doP, if_neg (show ¬ ((4 : Int) = 0) by decide), if_neg (show ¬ ((4 : Int) = 1) by decide), if_neg (show ¬ ((4 : Int) = 2) by decide), if_neg (show ¬ ((4 : Int) = 3) by decide), if_pos rfl, hV, hL]
    rfl
  have HLF : Hid (listG L).fit := by rw [Hid, hL]; exact listG_fit (lastN_fit fs) (by rw [lastN_len hkk]; omega)
  clear hV
  go_wp2_with fail
  refine (pop_any bM base n kk env v st w1 hl hkk HM1.out).mono ?_
  rintro e w2 ⟨a2, c2, v2, rfl, _, hm2, hr2, hk2⟩
  rw [← hL] at hr2
  have HM2 := Lib.hid hm2
  have HR2 := Lib.hid hr2
  have HK2 : Hid (KB base bM w w2) := (KB.below HB1.out hbs).trans (KB.kg hk2 (Nat.le_trans hbs HB1.out.size))
  clear hm2 hr2 hk2 q1 l1 hL
  go_upto_region 20 with fail
  obtain ⟨w3, hw3⟩ : ∃ u, u = w2.alloc (.cells #[.int .i64 4, .bool false, .int .i64 0, .string { data := #[] }, .slice a2 kk c2] 36) := ⟨_, rfl⟩
  have hb3 : Below w2.heap.size w2 w3 := by rw [hw3]; exact (Below.refl _ _).alloc (Nat.le_refl _) _
  have hx3 : w3.heap[w2.heap.size]? = some (.cells #[.int .i64 4, .bool false, .int .i64 0, .string { data := #[] }, .slice a2 kk c2] 36 (0, 0)) := by rw [hw3]; exact heap_last
  rw [← hw3]
  have HX3 := Lib.hid hx3
  have HB3 := Lib.hid hb3
  have q3 := fun o => cell_of hx3 o
  have l3 : w2.heap.size < w3.heap.size := (Array.getElem?_eq_some_iff.1 hx3).1
  clear hw3 hb3 hx3
  go_wp2_with fail
  refine (vCheck_any (listG L) HLF.out (.slice a2 kk c2) w3 w3.heap.size (Nat.le_refl _) (inR_isL (inR_below HR2.out HB3.out))).mono ?_
  rintro e w4 ⟨rfl, hb4⟩
  rw [← HV.out]
  have hx4 := (hb4.block _ l3).trans HX3.out
  have HB4 := Lib.hid (below_down HB3.out hb4 (Nat.le_refl _))
  have q4 := fun o => cell_of hx4 o
  have l4 : w2.heap.size < w4.heap.size := (Array.getElem?_eq_some_iff.1 hx4).1
  have hbs2 : base ≤ w2.heap.size := HM2.out.2.2.2
  clear hb4 hx4 q3
  cases V
  · go_wp2_with fail
    refine (need_no 2 w4).mono ?_
    rintro e w5 ⟨rfl, rfl⟩
    refine ⟨rfl, ?_⟩
    rw [HDO.out, if_neg (by simp)]
    exact ⟨rfl, HK2.out.trans (KB.below HB4.out hbs2), v2, _, mach_below HM2.out HB4.out⟩
  · have HDT : Hid (doP E ⟨4, (kk : Int), sx, vx⟩ st = .go (lessN kk st ++ [listG L])) := by rw [Hid, HDO.out]; first | exact if_pos rfl | exact if_pos trivial
    go_wp2_with fail
    refine (need_ok 2 w4).mono ?_
    rintro e w5 ⟨rfl, hw5⟩
    rw [hw5]
    go_wp2_with fail
    refine (push_any bM base n env v2 (lessN kk st) (listG L) (.slice a2 kk c2) w4 (by omega) (mach_below HM2.out HB4.out) (inR_below HR2.out HB4.out)).mono ?_
    rintro e w6 hP
    have hp1 := hP.1
    subst hp1
    have HP := Lib.hid hP
    clear hP
    go_wp2_with fail
    go_end0
    rw [HDT.out]
    exact PushO.from HP.out (HK2.out.trans (KB.below HB4.out hbs2))
set_option maxHeartbeats 1600000 in
theorem do_6 (E : EP) (fE : E.fit) (ev : Value) (B0 : Nat) (arg : Int) (sx : ByteArray) (vx : GV) (fx : vx.fit) : DoneC E ev B0 ⟨6, arg, sx, vx⟩ := by
  intro bM base n v st s w B hB hB0 hl fs hok hoff hm hs hE
  dsimp only at hs
  obtain ⟨a, c, rfl⟩ := isL_form hs
  obtain ⟨env, henv⟩ : ∃ u, u = Value.iface 43 ev := ⟨_, rfl⟩
  rw [← henv] at hm ⊢
  have HENV := Lib.hid henv
  have HM := Lib.hid hm
  have HS := Lib.hid hs
  have HE := Lib.hid hE
  have hbs := hm.2.2.2
  have hbm := hm.2.2.1
  clear hm hs hE henv
  simp only [GI.agg]
  go_enter Tryz.func45, Tryz.ntmps45
  go_upto_region 1 with fail
  obtain ⟨w1, hw1⟩ : ∃ u, u = w.alloc (.cells #[.int .i64 6, .int .i64 arg, .string sx, .int .i64 vx.k, .bool vx.b, .int .i64 vx.n, .string vx.t, .slice a vx.l.length c] 86) := ⟨_, rfl⟩
  have hb1 : Below w.heap.size w w1 := by rw [hw1]; exact (Below.refl _ _).alloc (Nat.le_refl _) _
  have hx1 : w1.heap[w.heap.size]? = some (.cells #[.int .i64 6, .int .i64 arg, .string sx, .int .i64 vx.k, .bool vx.b, .int .i64 vx.n, .string vx.t, .slice a vx.l.length c] 86 (0, 0)) := by rw [hw1]; exact heap_last
  rw [← hw1]
  have HX1 := Lib.hid hx1
  have HB1 := Lib.hid hb1
  have HM1 := Lib.hid (mach_below HM.out hb1)
  have q1 := fun o => cell_of hx1 o
  have l1 : w.heap.size < w1.heap.size := (Array.getElem?_eq_some_iff.1 hx1).1
  clear hw1 hb1 hx1
  have hst : 0 < st.length := by have := hoff; simp [offOf] at this; omega
  obtain ⟨g, m, cap, hm, hv, hgb, hgl, ht0, ht1⟩ := mach_top HM.out hst
  have hM0 := HM.out.1
  rw [hv] at hM0
  have hM1 := (HB1.out.block bM (by omega)).trans hM0
  have p1 := fun o => cell_of hM1 o
  have lM : bM < w1.heap.size := (Array.getElem?_eq_some_iff.1 hM1).1
  have y0 := (HB1.out.cell (p := ⟨g, m * 5, none⟩) hgl).trans ht0
  have lg : g < w1.heap.size := Nat.lt_of_lt_of_le hgl HB1.out.size
  obtain ⟨K, hK⟩ : ∃ K, K = (topG st).k := ⟨_, rfl⟩
  rw [← hK] at y0
  have HDO : Hid (doP E ⟨6, arg, sx, vx⟩ st = if K = 1 then .go st else .stop 4) := by
    rw [Hid, doP, if_neg (show ¬ ((6 : Int) = 0) by decide), if_neg (show ¬ ((6 : Int) = 1) by decide), if_neg (show ¬ ((6 : Int) = 2) by decide), if_neg (show ¬ ((6 : Int) = 3) by decide), if_neg (show ¬ ((6 : Int) = 4) by decide), if_neg (show ¬ ((6 : Int) = 5) by decide), if_pos rfl, hK]
  have hmb : m ≤ 2147483646 := by omega
  clear hM0 ht0 ht1 hK hM1 hm
  have e1 : IntKind.i64.wrap (m : Int) = (m : Int) := IntWalk.i64_in _ (by omega)
  have e2 : m < m + 1 := by omega
  have e3 : (m : Int) < (m : Int) + 1 := by omega
  have e4 : (m : Int) < ((m + 1 : Nat) : Int) := by omega
  go_upto_region 30 with fail
  by_cases hk1 : K = 1
  · subst hk1
    have HDT : Hid (doP E ⟨6, arg, sx, vx⟩ st = .go st) := by rw [Hid, HDO.out]; first | exact if_pos rfl | exact if_pos trivial
    go_region_law (first
      | (go_simp
         go_at_call 43
         refine (need_ok 4 _).mono ?_
         rintro e w5 ⟨rfl, rfl⟩))
    all_goals
      go_wp2_with fail
      go_end0
      rw [HDT.out]
      exact ⟨rfl, KB.below HB1.out.drew hbs, v, mach_below HM.out HB1.out.drew⟩
  · have e5 : (K == 1) = false := by simp; omega
    go_still_tail 14, (by kernel_rfl)
    change wpList _ _ _ _ _ w1.drew
    obtain ⟨w2, hw2⟩ : ∃ u, u = w1.drew := ⟨_, rfl⟩
    have HBD : Hid (Below w.heap.size w w2) := by rw [hw2]; exact HB1.out.drew
    rw [← hw2]
    clear hw2
    go_wp2_with fail
    refine (need_no 4 w2).mono ?_
    rintro e w5 ⟨rfl, rfl⟩
    refine ⟨rfl, ?_⟩
    rw [HDO.out, if_neg hk1]
    exact ⟨rfl, KB.below HBD.out hbs, v, st, mach_below HM.out HBD.out⟩
end Go.Proofs.YtljljhjdlicfeaaGreat
namespace Go.Proofs.YtljljhjdlicfeaaGreat
open Go Go.RowKit
set_option maxRecDepth 100000
set_option linter.unusedVariables false
set_option maxHeartbeats 6400000 in
theorem do_3 (E : EP) (fE : E.fit) (ev : Value) (B0 : Nat) (arg : Int) (sx : ByteArray) (vx : GV) (fx : vx.fit) : DoneC E ev B0 ⟨3, arg, sx, vx⟩ := by
  intro bM base n v st s w B hB hB0 hl fs hok hoff hm hs hE
  dsimp only at hs
  obtain ⟨a, c, rfl⟩ := isL_form hs
  obtain ⟨env, henv⟩ : ∃ u, u = Value.iface 43 ev := ⟨_, rfl⟩
  rw [← henv] at hm ⊢
  have HENV := Lib.hid henv
  have HM := Lib.hid hm
  have HS := Lib.hid hs
  have HE := Lib.hid hE
  have hbs := hm.2.2.2
  have hbm := hm.2.2.1
  clear hm hs hE henv
  simp only [GI.agg]
  go_enter Tryz.func45, Tryz.ntmps45
  go_upto_region 1 with fail
  obtain ⟨w1, hw1⟩ : ∃ u, u = w.alloc (.cells #[.int .i64 3, .int .i64 arg, .string sx, .int .i64 vx.k, .bool vx.b, .int .i64 vx.n, .string vx.t, .slice a vx.l.length c] 86) := ⟨_, rfl⟩
  have hb1 : Below w.heap.size w w1 := by rw [hw1]; exact (Below.refl _ _).alloc (Nat.le_refl _) _
  have hx1 : w1.heap[w.heap.size]? = some (.cells #[.int .i64 3, .int .i64 arg, .string sx, .int .i64 vx.k, .bool vx.b, .int .i64 vx.n, .string vx.t, .slice a vx.l.length c] 86 (0, 0)) := by rw [hw1]; exact heap_last
  rw [← hw1]
  have HX1 := Lib.hid hx1
  have HB1 := Lib.hid hb1
  have HM1 := Lib.hid (mach_below HM.out hb1)
  have q1 := fun o => cell_of hx1 o
  have l1 : w.heap.size < w1.heap.size := (Array.getElem?_eq_some_iff.1 hx1).1
  clear hw1 hb1 hx1
  have hst : 0 < st.length := by have := hoff; simp [offOf] at this; omega
  have hl1 := lessN_len (n := 1) (st := st) (by omega)
  have HX0 := HX1
  go_wp2_with fail
  refine (pop_any bM base n 1 env v st w1 hl (by omega) HM1.out).mono ?_
  rintro e w2 ⟨a2, c2, v2, rfl, _, hm2, hr2, hk2⟩
  have hisl := inR_isL hr2
  rw [last1 hst] at hisl
  obtain ⟨a', c', bb, off, he, hc', ha', hA'⟩ := isL_open hisl
  simp only [List.length_singleton, Value.slice.injEq] at he
  obtain ⟨rfl, _, rfl⟩ := he
  obtain ⟨rfl, _, hbb⟩ := ha' (by simp)
  obtain ⟨at5, ct5, x0, x1, x2, x3, x4, hsx⟩ := cellsV_slice (hA' 0 (by simp))
  simp only [Nat.zero_mul, Nat.add_zero, List.getElem_cons_zero] at x0 x1 x2 x3 x4
  have HM2 := Lib.hid hm2
  have HK2 : Hid (KB base bM w w2) := (KB.below HB1.out hbs).trans (KB.kg hk2 (Nat.le_trans hbs HB1.out.size))
  have HX2 := Lib.hid ((hk2.2.2.2.2 w.heap.size l1 (by omega)).trans HX1.out)
  have hsz2 := hk2.2.2.2.1
  obtain ⟨K, hK⟩ : ∃ K, K = (topG st).k := ⟨_, rfl⟩
  obtain ⟨N, hN⟩ : ∃ N, N = (topG st).n := ⟨_, rfl⟩
  obtain ⟨tb, htb⟩ : ∃ b, b = (topG st).b := ⟨_, rfl⟩
  obtain ⟨tt, htt⟩ : ∃ t, t = (topG st).t := ⟨_, rfl⟩
  obtain ⟨tl, htl⟩ : ∃ t, t = (topG st).l.length := ⟨_, rfl⟩
  rw [← hK] at x0
  rw [← htb] at x1
  rw [← hN] at x2
  rw [← htt] at x3
  rw [← htl] at x4
  obtain ⟨X, hX⟩ : ∃ X, X = (E.get N sx).1 := ⟨_, rfl⟩
  obtain ⟨Y, hY⟩ : ∃ Y, Y = (E.get N sx).2 := ⟨_, rfl⟩
  have HFX : Hid X.fit := by rw [Hid, hX]; exact fE.2.2 N sx
  have HDO : Hid (doP E ⟨3, arg, sx, vx⟩ st = if K = 5 then (if Y = 0 then toldP X (lessN 1 st) else .stop Y) else .stop 4) := by
    rw [Hid, doP, if_neg (show ¬ ((3 : Int) = 0) by decide), if_neg (show ¬ ((3 : Int) = 1) by decide), if_neg (show ¬ ((3 : Int) = 2) by decide), if_pos rfl, hX, hY, hN, hK]
  have HASK0 : Hid (∀ w' : World, Below w.heap.size w1 w' → KB base bM w w' → Calls Tryz.prog 140 #[ev, .int .i64 N, .string sx] w' (TellR X (.int .i64 Y) w')) := fun w' _ h => by
    rw [hX, hY]
    exact (HE.out w' (h.isBelow hB0 hbm) (by have := h.2.2.2.1; omega)).2.2 N sx
  have HASK1 : Hid (∀ w' : World, KB base bM w w' → Calls Tryz.prog 140 #[ev, .int .i64 N, .string sx] w' (TellR X (.int .i64 Y) w')) := fun w' h => by
    rw [hX, hY]
    exact (HE.out w' (h.isBelow hB0 hbm) (by have := h.2.2.2.1; omega)).2.2 N sx
  clear hm2 hr2 hk2 hisl hA' ha' hsx hK hN htb htt htl hX hY q1 HASK0
  go_upto_region 14 with fail
  obtain ⟨w3, hw3⟩ : ∃ u, u = w2.alloc (.cells #[.int .i64 K, .bool tb, .int .i64 N, .string tt, .slice at5 tl ct5] 36) := ⟨_, rfl⟩
  have hb3 : Below w2.heap.size w2 w3 := by rw [hw3]; exact (Below.refl _ _).alloc (Nat.le_refl _) _
  have hx3 : w3.heap[w2.heap.size]? = some (.cells #[.int .i64 K, .bool tb, .int .i64 N, .string tt, .slice at5 tl ct5] 36 (0, 0)) := by rw [hw3]; exact heap_last
  rw [← hw3]
  have HB3 := Lib.hid hb3
  have l3 : w2.heap.size < w3.heap.size := (Array.getElem?_eq_some_iff.1 hx3).1
  have hxi3 := (hb3.block w.heap.size (by omega)).trans HX2.out
  have hM3 := (mach_below HM2.out hb3).1
  rw [HENV.out] at hM3
  have q3 := fun o => cell_of hx3 o
  have qi3 := fun o => cell_of hxi3 o
  have p1 := fun o => cell_of hM3 o
  have f1 := fun o => frozen_of hM3 o
  have li3 : w.heap.size < w3.heap.size := by omega
  have lM : bM < w3.heap.size := (Array.getElem?_eq_some_iff.1 hM3).1
  have hbs2 : base ≤ w2.heap.size := HM2.out.2.2.2
  have hme := fun w => meth_Get ev w
  have HASK : Hid (∀ w' : World, Below w3.heap.size w3 w' → Calls Tryz.prog 140 #[ev, .int .i64 N, .string sx] w' (TellR X (.int .i64 Y) w')) := fun w' h =>
    HASK1.out w' ((HK2.out.trans (KB.below HB3.out hbs2)).trans (KB.below h (by omega)))
  clear hw3 hb3 hx3 hxi3 hM3 x0 x1 x2 x3 x4
  by_cases hk5 : K = 5
  rotate_left
  · have e5 : (K == 5) = false := by simp; omega
    go_wp2_with fail
    refine (need_no 4 w3).mono ?_
    rintro e w5 ⟨rfl, rfl⟩
    refine ⟨rfl, ?_⟩
    rw [HDO.out, if_neg hk5]
    exact ⟨rfl, HK2.out.trans (KB.below HB3.out hbs2), v2, _, mach_below HM2.out HB3.out⟩
  · subst hk5
    go_wp2_with fail
    refine (need_ok 4 w3).mono ?_
    rintro e w5 ⟨rfl, hw5⟩
    rw [hw5]
    go_upto_region 15 with fail
    go_cut [9, 10] (fun s4 s5 wx => ∃ (p : Nat) (a2 : Option Addr) (c2 : Nat), s4 = .pointer (some ⟨p, 0, none⟩) ∧ s5 = .int .i64 Y ∧ Hid (BoxO w3 wx p X a2 c2))
    case first =>
      go_region_law (first
        | (go_simp
           go_at_call 140
           refine (HASK.out _ ?hb).mono ?_
           case hb => first | exact (Below.refl _ w3).drew | exact ((Below.refl _ w3).alloc (Nat.le_refl _) _).drew | exact Below.refl _ w3 | exact (Below.refl _ w3).alloc (Nat.le_refl _) _
           rintro e w2 ⟨a2, c2, rfl, hr2, hb2⟩
           have HR2 := Lib.hid hr2
           first
             | (have hbw : Below w3.heap.size w3 w2 := (Below.refl _ w3).drew.trans hb2
                have HB2 := Lib.hid hbw
                clear hbw)
             | (have hbw : Below w3.heap.size w3 w2 := ((Below.refl _ w3).alloc (Nat.le_refl _) _).drew.trans (hb2.mono (by simp))
                have HB2 := Lib.hid hbw
                have hz := (hb2.block w3.heap.size (by simp)).trans (heap_last (w := w3) (o := (.cells #[.int .i64 0, .bool false, .int .i64 0, .string { data := #[] }, .slice none 0 0] 36)))
                have HZ := Lib.hid hz
                have qz := fun o => cell_of hz o
                have fz := fun o => frozen_of hz o
                have lz : w3.heap.size < w2.heap.size := (Array.getElem?_eq_some_iff.1 hz).1
                clear hbw hz)
           have hw2 := HB2.out.size
           simp only [GV.agg]
           clear hr2 hb2))
      all_goals
        go_wp2_with fail
        go_meet
        refine ⟨_, a2, c2, rfl, rfl, Lib.hid ?_⟩
        first
          | with_reducible exact boxO_B HR2.out HB2.out
          | (with_reducible refine boxO_A HZ.out ?_ HR2.out ?_ HB2.out
             · rfl
             · simp)
    case rest =>
      obtain ⟨p, a2, c2, rfl, rfl, HBX⟩ := hcut
      have hbx := HBX.out.2.1
      have HBC := Lib.hid (below_down HB3.out HBX.out.2.2.2 (Nat.le_refl _))
      have qx := fun o => cell_of hbx o
      have lx : p < wc.heap.size := (Array.getElem?_eq_some_iff.1 hbx).1
      clear hbx p1 f1 hme q3 qi3
      by_cases hy0 : Y = 0
      rotate_left
      · have e0 : (Y == 0) = false := by simp; omega
        go_wp2_with fail
        refine (need_no Y wc).mono ?_
        rintro e w6 ⟨rfl, rfl⟩
        refine ⟨rfl, ?_⟩
        rw [HDO.out]
        first
          | rw [if_pos rfl, if_neg hy0]
          | rw [if_pos trivial, if_neg hy0]
        exact ⟨rfl, HK2.out.trans (KB.below HBC.out hbs2), v2, _, mach_below HM2.out HBC.out⟩
      · subst hy0
        have HDT : Hid (doP E ⟨3, arg, sx, vx⟩ st = toldP X (lessN 1 st)) := by rw [Hid, HDO.out]; simp
        go_wp2_with fail
        refine (need_ok 0 wc).mono ?_
        rintro e w6 ⟨rfl, hw6⟩
        rw [hw6]
        go_wp2_with fail
        refine (told_any bM base n env v2 (lessN 1 st) X HFX.out (.slice a2 X.l.length c2) wc wc.heap.size (Nat.le_refl _) (by omega) (mach_below HM2.out HBC.out) HBX.out.2.2.1).mono ?_
        rintro e w5 hD
        by_cases hv : vmay X = true
        · rw [toldP, if_pos hv] at hD
          have hp1 := hD.1
          subst hp1
          have HD := Lib.hid hD
          clear hD
          go_wp2_with fail
          go_end0
          rw [HDT.out, toldP, if_pos hv]
          exact PushO.from HD.out (HK2.out.trans (KB.below HBC.out hbs2))
        · rw [toldP, if_neg hv] at hD
          have hp1 := hD.1
          subst hp1
          refine ⟨rfl, ?_⟩
          rw [HDT.out, toldP, if_neg hv]
          exact DoO.from (o := .stop 1) hD (HK2.out.trans (KB.below HBC.out hbs2))
end Go.Proofs.YtljljhjdlicfeaaGreat
