/-
  The machine's do: operations of values; any instruction but a jump. Conditions: fewer than 2^31 values on the stack.
-/
import Derived.Test.YtljljhjdlicfeaaGreatNP
namespace Go.Proofs.YtljljhjdlicfeaaGreat
open Go Go.RowKit
set_option maxRecDepth 100000
set_option linter.unusedVariables false
def BoxD (bM : Nat) (env v2 : Value) (n : Nat) (w1 wx : World) (p : Nat) (x : GV) (a : Option Addr) (c : Nat) : Prop := wx.heap[p]? = some (.cells #[.int .i64 x.k, .bool x.b, .int .i64 x.n, .string x.t, .slice a x.l.length c] 36 (0, 0)) ∧ Kg bM w1 wx ∧
  wx.heap[bM]? = some (.cells #[env, v2, .int .i64 n] 78 (0, 0)) ∧ isR wx (since w1.heap.size wx) (.slice a x.l.length c) x.l
theorem boxD_set {bM n p lo : Nat} {env v2 : Value} {w1 w3 : World} {x : GV} {a : Option Addr} {c : Nat} {Z : Array Value} (hz : w3.heap[p]? = some (.cells Z 36 (0, 0))) (hZ : Z.size = 5) (hp : w1.heap.size ≤ p) (hpM : p ≠ bM) (hk : Kg bM w1 w3)
    (hM : w3.heap[bM]? = some (.cells #[env, v2, .int .i64 n] 78 (0, 0))) (hr : isR w3 (since lo w3) (.slice a x.l.length c) x.l) (hlo : p < lo) :
    BoxD bM env v2 n w1 (((((w3.setCell ⟨p, 0, none⟩ (.int .i64 x.k)).setCell ⟨p, 1, none⟩ (.bool x.b)).setCell ⟨p, 2, none⟩ (.int .i64 x.n)).setCell ⟨p, 3, none⟩ (.string x.t)).setCell ⟨p, 4, none⟩ (.slice a x.l.length c)) p x a c := by
  have hpM' : bM ≠ p := fun e => hpM e.symm
  refine ⟨?_, ⟨?_, ?_, ?_, ?_, fun b hb hne => ?_⟩, ?_, ?_⟩
  · rw [five_cells5 hz]
    match Z, hZ with
    | ⟨[z0, z1, z2, z3, z4]⟩, _ => rfl
  · simp only [os1]; exact hk.1
  · simp only [tp1]; exact hk.2.1
  · simp only [ou1]; exact hk.2.2.1
  · simp only [hsz_setCell2]; exact hk.2.2.2.1
  · rw [five_heap (by omega)]; exact hk.2.2.2.2 b hb hne
  · rw [five_heap hpM']; exact hM
  · have h5 := isR_setCell (isR_setCell (isR_setCell (isR_setCell (isR_setCell hr (p := ⟨p, 0, none⟩) (fun h => by have := h.1; dsimp only at this; omega) (.int .i64 x.k)) (p := ⟨p, 1, none⟩) (fun h => by have := h.1; dsimp only at this; omega) (.bool x.b)) (p := ⟨p, 2, none⟩) (fun h => by have := h.1; dsimp only at this; omega) (.int .i64 x.n)) (p := ⟨p, 3, none⟩) (fun h => by have := h.1; dsimp only at this; omega) (.string x.t)) (p := ⟨p, 4, none⟩) (fun h => by have := h.1; dsimp only at this; omega) (.slice a x.l.length c)
    exact isR_sub h5 (fun b hb => ⟨by have := hb.1; omega, by simp only [hsz_setCell2]; exact hb.2⟩)
theorem boxD_new {bM n lo : Nat} {env v2 : Value} {w1 w3 : World} {x : GV} {a : Option Addr} {c : Nat} (hk : Kg bM w1 w3) (hM : w3.heap[bM]? = some (.cells #[env, v2, .int .i64 n] 78 (0, 0))) (hr : isR w3 (since lo w3) (.slice a x.l.length c) x.l) (hlo : w1.heap.size ≤ lo) :
    BoxD bM env v2 n w1 (w3.alloc (.cells #[.int .i64 x.k, .bool x.b, .int .i64 x.n, .string x.t, .slice a x.l.length c] 36)) w3.heap.size x a c := by
  have hb : Below w3.heap.size w3 (w3.alloc (.cells #[.int .i64 x.k, .bool x.b, .int .i64 x.n, .string x.t, .slice a x.l.length c] 36)) := (Below.refl _ _).alloc (Nat.le_refl _) _
  have hbm := (Array.getElem?_eq_some_iff.1 hM).1
  exact ⟨heap_last, hk.below hb, (hb.block bM hbm).trans hM, isR_mono hr (fun b k => hb.block b k.2) (fun b k => ⟨by have := k.1; omega, Nat.lt_of_lt_of_le k.2 hb.size⟩)⟩
set_option maxHeartbeats 6400000 in
theorem do_5a (E : EP) (fE : E.fit) (ev : Value) (B0 : Nat) (arg : Int) (sx : ByteArray) (vx : GV) (fx : vx.fit) : DoneC E ev B0 ⟨5, (6 : Int), sx, vx⟩ := by
  intro bM base n v st s w B hB hB0 hl fs hok hoff hm hs hE
  dsimp only at hs
  obtain ⟨a, c, rfl⟩ := isL_form hs
  obtain ⟨env, henv⟩ : ∃ u, u = Value.iface 43 ev := ⟨_, rfl⟩
  rw [← henv] at hm ⊢
  have HENV := Lib.hid henv
  have HM := Lib.hid hm
  have HS := Lib.hid hs
  have HE := Lib.hid hE
  have hbs := hm.2.2.2
  have hbm := hm.2.2.1
  clear hm hs hE henv
  simp only [GI.agg]
  go_enter Tryz.func45, Tryz.ntmps45
  go_upto_region 1 with fail
  obtain ⟨w1, hw1⟩ : ∃ u, u = w.alloc (.cells #[.int .i64 5, .int .i64 (6 : Int), .string sx, .int .i64 vx.k, .bool vx.b, .int .i64 vx.n, .string vx.t, .slice a vx.l.length c] 86) := ⟨_, rfl⟩
  have hb1 : Below w.heap.size w w1 := by rw [hw1]; exact (Below.refl _ _).alloc (Nat.le_refl _) _
  have hx1 : w1.heap[w.heap.size]? = some (.cells #[.int .i64 5, .int .i64 (6 : Int), .string sx, .int .i64 vx.k, .bool vx.b, .int .i64 vx.n, .string vx.t, .slice a vx.l.length c] 86 (0, 0)) := by rw [hw1]; exact heap_last
  rw [← hw1]
  have HX1 := Lib.hid hx1
  have HB1 := Lib.hid hb1
  have HM1 := Lib.hid (mach_below HM.out hb1)
  have q1 := fun o => cell_of hx1 o
  have l1 : w.heap.size < w1.heap.size := (Array.getElem?_eq_some_iff.1 hx1).1
  clear hw1 hb1 hx1
  have hto : takesOf 6 ≠ 0 := by
    have h := hok
    unfold okOf at h
    simp at h
    exact h.1.2
  have htn : takesN 6 = 1 := by unfold takesN; rw [if_pos (by decide)]
  have hkk : 1 ≤ st.length := by
    have h1 := takesN_of hto
    rw [htn] at h1
    have h2 := hoff
    simp [offOf] at h2
    omega
  have hl1 := lessN_len hkk
  obtain ⟨L, hL⟩ : ∃ L, L = lastN 1 st := ⟨_, rfl⟩
  have HLF : Hid (fitL L ∧ L.length = 1) := by rw [hL]; exact ⟨lastN_fit fs, lastN_len hkk⟩
  obtain ⟨R, hR⟩ : ∃ R, R = applyP 6 L := ⟨_, rfl⟩
  have HRF : Hid R.1.fit := by rw [Hid, hR]; exact applyP_fit _ _ HLF.out.1
  have HDO : Hid (doP E ⟨5, 6, sx, vx⟩ st = if R.2 = 0 then .go (lessN 1 st ++ [R.1]) else .stop R.2) := by
    rw [Hid, doP, if_neg (show ¬ ((5 : Int) = 0) by decide), if_neg (show ¬ ((5 : Int) = 1) by decide), if_neg (show ¬ ((5 : Int) = 2) by decide), if_neg (show ¬ ((5 : Int) = 3) by decide), if_neg (show ¬ ((5 : Int) = 4) by decide), if_pos rfl]
    dsimp only
    rw [htn, ← hL, ← hR]
  have HAPP : Hid (∀ (w' : World) (s' : Value), isL w' 0 w'.heap.size s' L → Calls Tryz.prog 67 #[.int .i64 6, s'] w' (GivesO w' R)) := fun w' s' h => by
    rw [hR]
    exact apply_any 6 L (by rw [HLF.out.2]; omega) HLF.out.1 s' w' w'.heap.size (Nat.le_refl _) h
  have HPOP : Hid (∀ w' : World, Below w1.heap.size w1 w' → Calls Tryz.prog 44 #[.pointer (some ⟨bM, 0, none⟩), .int .i64 1] w' (PopO bM base env v st n 1 w')) := fun w' h =>
    pop_any bM base n 1 env v st w' hl hkk (mach_below HM1.out h)
  have HBM : Hid (bM ≠ w.heap.size ∧ bM ≠ w1.heap.size ∧ bM < w1.heap.size) := ⟨by omega, by omega, by omega⟩
  have HSZ : Hid (w.heap.size < w1.heap.size) := l1
  clear hto htn hR
  go_upto_region 26 with fail
  go_cut [13, 14] (fun s13 s14 wx => ∃ (p : Nat) (a2 : Option Addr) (c2 : Nat), s13 = .pointer (some ⟨p, 0, none⟩) ∧ s14 = .int .i64 R.2 ∧ Hid (BoxD bM env (cutV v (st.length - 1)) n w1 wx p R.1 a2 c2))
  case first =>
    go_region_law (first
      | (have hguard := HI2
         clear hguard
         go_simp
         go_at_call 67
         refine (HAPP.out _ _ (by first | exact HI2.out | exact isL_wide (isL_below HI2.out ((Below.refl _ _).alloc (Nat.le_refl _) _) (Nat.le_refl _)) (Nat.le_refl _) (by simp))).mono ?_
         rintro e w3 ⟨a3, c3, rfl, hr3, hb3⟩
         have HR3 := Lib.hid hr3
         first
           | (with_reducible have hbc : Below w2.heap.size w2 w3 := hb3
              have HB3 := Lib.hid hbc
              clear hbc)
           | (have hbc : Below w2.heap.size w2 w3 := ((Below.refl _ w2).alloc (Nat.le_refl _) _).trans (hb3.mono (by simp))
              have HB3 := Lib.hid hbc
              have hz := (hb3.block w2.heap.size (by simp)).trans (heap_last (w := w2) (o := (.cells #[.int .i64 0, .bool false, .int .i64 0, .string { data := #[] }, .slice none 0 0] 36)))
              have HZB := Lib.hid hz
              have qz := fun o => cell_of hz o
              have fz := fun o => frozen_of hz o
              have lz : w2.heap.size < w3.heap.size := (Array.getElem?_eq_some_iff.1 hz).1
              clear hz hbc)
         try
           (have hz := (HB3.out.block w1.heap.size (Array.getElem?_eq_some_iff.1 HZA.out).1).trans HZA.out
            have HZA3 := Lib.hid hz
            have qz := fun o => cell_of hz o
            have fz := fun o => frozen_of hz o
            have lz : w1.heap.size < w3.heap.size := (Array.getElem?_eq_some_iff.1 hz).1
            clear hz)
         simp only [GV.agg]
         clear hr3 hb3)
      | (go_simp
         go_at_call 44
         refine (HPOP.out _ (by first | exact (Below.refl _ w1).drew | exact ((Below.refl _ w1).alloc (Nat.le_refl _) _).drew | exact Below.refl _ w1 | exact (Below.refl _ w1).alloc (Nat.le_refl _) _)).mono ?_
         rintro e w2 ⟨a2, c2, v2, rfl, hv2, hm2, hr2, hk2⟩
         subst hv2
         first
           | (have hkw : Kg bM w1 w2 := (Kg.refl bM w1).drew.trans hk2
              have HK2 := Lib.hid hkw
              clear hkw)
           | (have hkw : Kg bM w1 w2 := ((Kg.refl bM w1).below ((Below.refl _ w1).alloc (Nat.le_refl _) _)).drew.trans hk2
              have HK2 := Lib.hid hkw
              have hz := (hk2.2.2.2.2 w1.heap.size (by simp) (fun e => HBM.out.2.1 e.symm)).trans (heap_last (w := w1) (o := (.cells #[.int .i64 0, .bool false, .int .i64 0, .string { data := #[] }, .slice none 0 0] 36)))
              have HZA := Lib.hid hz
              have qz2 := fun o => cell_of hz o
              have fz2 := fun o => frozen_of hz o
              have lz2 : w1.heap.size < w2.heap.size := (Array.getElem?_eq_some_iff.1 hz).1
              clear hkw hz)
         have HI2 : Hid (isL w2 0 w2.heap.size (.slice a2 1 c2) L) := by rw [hL]; exact inR_isL hr2
         have HM2 := Lib.hid hm2.1
         have hxi2 := (HK2.out.2.2.2.2 w.heap.size HSZ.out (fun e => HBM.out.1 e.symm)).trans HX1.out
         have qi2 := fun o => cell_of hxi2 o
         have li2 : w.heap.size < w2.heap.size := (Array.getElem?_eq_some_iff.1 hxi2).1
         have ni2 : w.heap.size ≠ w2.heap.size := by omega
         have ls2 := HK2.out.2.2.2.1
         clear hm2 hr2 hk2 hxi2))
    all_goals
      go_wp2_with fail
      go_meet
      refine ⟨_, a3, c3, rfl, rfl, Lib.hid ?_⟩
      have hkf := HK2.out.below HB3.out
      have hMf := (HB3.out.block bM (Nat.lt_of_lt_of_le HBM.out.2.2 HK2.out.2.2.2.1)).trans HM2.out
      have hs3 := HB3.out.size
      have hs2 := HK2.out.2.2.2.1
      have hbm := HBM.out
      first
        | (with_reducible refine boxD_new hkf hMf HR3.out ?_
           first | omega | (simp; done) | (simp; omega))
        | (with_reducible refine boxD_set HZA3.out ?_ ?_ ?_ hkf hMf HR3.out ?_
           · rfl
           · exact Nat.le_refl _
           · omega
           · first | omega | (simp; done) | (simp; omega))
        | (with_reducible refine boxD_set HZB.out ?_ ?_ ?_ hkf hMf HR3.out ?_
           · rfl
           · omega
           · omega
           · first | omega | (simp; done) | (simp; omega))
  case rest =>
    obtain ⟨p, a2, c2, rfl, rfl, HBX⟩ := hcut
    have hbx := HBX.out.1
    have HKC := HBX.out.2.1
    have HMC : Hid (mach wc bM base env (cutV v (st.length - 1)) (lessN 1 st) n) := mach_cut HM1.out hkk HBX.out.2.2.1 HKC.2.2.2.2 HKC.2.2.2.1
    have HKK : Hid (KB base bM w wc) := (KB.below HB1.out hbs).trans (KB.kg HKC (Nat.le_trans hbs HB1.out.size))
    have qx := fun o => cell_of hbx o
    have lx : p < wc.heap.size := (Array.getElem?_eq_some_iff.1 hbx).1
    clear hbx HKC q1
    by_cases hy0 : R.2 = 0
    rotate_left
    · have e0 : (R.2 == 0) = false := by simp; omega
      go_wp2_with fail
      refine (need_no R.2 wc).mono ?_
      rintro e w6 ⟨rfl, rfl⟩
      refine ⟨rfl, ?_⟩
      rw [HDO.out, if_neg hy0]
      exact ⟨rfl, HKK.out, _, _, HMC.out⟩
    · have e0 : (R.2 == 0) = true := by simp [hy0]
      go_wp2_with fail
      refine (need_ok _ wc).mono ?_
      rintro e w6 ⟨rfl, hw6⟩
      rw [hw6]
      go_wp2_with fail
      have hml := mach_own HM1.out
      refine (push_any bM base n env (cutV v (st.length - 1)) (lessN 1 st) R.1 (.slice a2 R.1.l.length c2) wc (by omega) HMC.out (inR_new HBX.out.2.2.2 (by omega) (fun g hg => by rw [cut_own] at hg; exact (hml g hg).2))).mono ?_
      rintro e w7 hP
      have hp1 := hP.1
      subst hp1
      have HP := Lib.hid hP
      clear hP
      go_wp2_with fail
      go_end0
      rw [HDO.out, if_pos hy0]
      exact PushO.from HP.out HKK.out
set_option maxHeartbeats 6400000 in
theorem do_5b (E : EP) (fE : E.fit) (ev : Value) (B0 : Nat) (arg : Int) (sx : ByteArray) (vx : GV) (fx : vx.fit) : DoneC E ev B0 ⟨5, (7 : Int), sx, vx⟩ := by
  intro bM base n v st s w B hB hB0 hl fs hok hoff hm hs hE
  dsimp only at hs
  obtain ⟨a, c, rfl⟩ := isL_form hs
  obtain ⟨env, henv⟩ : ∃ u, u = Value.iface 43 ev := ⟨_, rfl⟩
  rw [← henv] at hm ⊢
  have HENV := Lib.hid henv
  have HM := Lib.hid hm
  have HS := Lib.hid hs
  have HE := Lib.hid hE
  have hbs := hm.2.2.2
  have hbm := hm.2.2.1
  clear hm hs hE henv
  simp only [GI.agg]
  go_enter Tryz.func45, Tryz.ntmps45
  go_upto_region 1 with fail
  obtain ⟨w1, hw1⟩ : ∃ u, u = w.alloc (.cells #[.int .i64 5, .int .i64 (7 : Int), .string sx, .int .i64 vx.k, .bool vx.b, .int .i64 vx.n, .string vx.t, .slice a vx.l.length c] 86) := ⟨_, rfl⟩
  have hb1 : Below w.heap.size w w1 := by rw [hw1]; exact (Below.refl _ _).alloc (Nat.le_refl _) _
  have hx1 : w1.heap[w.heap.size]? = some (.cells #[.int .i64 5, .int .i64 (7 : Int), .string sx, .int .i64 vx.k, .bool vx.b, .int .i64 vx.n, .string vx.t, .slice a vx.l.length c] 86 (0, 0)) := by rw [hw1]; exact heap_last
  rw [← hw1]
  have HX1 := Lib.hid hx1
  have HB1 := Lib.hid hb1
  have HM1 := Lib.hid (mach_below HM.out hb1)
  have q1 := fun o => cell_of hx1 o
  have l1 : w.heap.size < w1.heap.size := (Array.getElem?_eq_some_iff.1 hx1).1
  clear hw1 hb1 hx1
  have hto : takesOf 7 ≠ 0 := by
    have h := hok
    unfold okOf at h
    simp at h
    exact h.1.2
  have htn : takesN 7 = 1 := by unfold takesN; rw [if_pos (by decide)]
  have hkk : 1 ≤ st.length := by
    have h1 := takesN_of hto
    rw [htn] at h1
    have h2 := hoff
    simp [offOf] at h2
    omega
  have hl1 := lessN_len hkk
  obtain ⟨L, hL⟩ : ∃ L, L = lastN 1 st := ⟨_, rfl⟩
  have HLF : Hid (fitL L ∧ L.length = 1) := by rw [hL]; exact ⟨lastN_fit fs, lastN_len hkk⟩
  obtain ⟨R, hR⟩ : ∃ R, R = applyP 7 L := ⟨_, rfl⟩
  have HRF : Hid R.1.fit := by rw [Hid, hR]; exact applyP_fit _ _ HLF.out.1
  have HDO : Hid (doP E ⟨5, 7, sx, vx⟩ st = if R.2 = 0 then .go (lessN 1 st ++ [R.1]) else .stop R.2) := by
    rw [Hid, doP, if_neg (show ¬ ((5 : Int) = 0) by decide), if_neg (show ¬ ((5 : Int) = 1) by decide), if_neg (show ¬ ((5 : Int) = 2) by decide), if_neg (show ¬ ((5 : Int) = 3) by decide), if_neg (show ¬ ((5 : Int) = 4) by decide), if_pos rfl]
    dsimp only
    rw [htn, ← hL, ← hR]
  have HAPP : Hid (∀ (w' : World) (s' : Value), isL w' 0 w'.heap.size s' L → Calls Tryz.prog 67 #[.int .i64 7, s'] w' (GivesO w' R)) := fun w' s' h => by
    rw [hR]
    exact apply_any 7 L (by rw [HLF.out.2]; omega) HLF.out.1 s' w' w'.heap.size (Nat.le_refl _) h
  have HPOP : Hid (∀ w' : World, Below w1.heap.size w1 w' → Calls Tryz.prog 44 #[.pointer (some ⟨bM, 0, none⟩), .int .i64 1] w' (PopO bM base env v st n 1 w')) := fun w' h =>
    pop_any bM base n 1 env v st w' hl hkk (mach_below HM1.out h)
  have HBM : Hid (bM ≠ w.heap.size ∧ bM ≠ w1.heap.size ∧ bM < w1.heap.size) := ⟨by omega, by omega, by omega⟩
  have HSZ : Hid (w.heap.size < w1.heap.size) := l1
  clear hto htn hR
  go_upto_region 26 with fail
  go_cut [13, 14] (fun s13 s14 wx => ∃ (p : Nat) (a2 : Option Addr) (c2 : Nat), s13 = .pointer (some ⟨p, 0, none⟩) ∧ s14 = .int .i64 R.2 ∧ Hid (BoxD bM env (cutV v (st.length - 1)) n w1 wx p R.1 a2 c2))
  case first =>
    go_region_law (first
      | (have hguard := HI2
         clear hguard
         go_simp
         go_at_call 67
         refine (HAPP.out _ _ (by first | exact HI2.out | exact isL_wide (isL_below HI2.out ((Below.refl _ _).alloc (Nat.le_refl _) _) (Nat.le_refl _)) (Nat.le_refl _) (by simp))).mono ?_
         rintro e w3 ⟨a3, c3, rfl, hr3, hb3⟩
         have HR3 := Lib.hid hr3
         first
           | (with_reducible have hbc : Below w2.heap.size w2 w3 := hb3
              have HB3 := Lib.hid hbc
              clear hbc)
           | (have hbc : Below w2.heap.size w2 w3 := ((Below.refl _ w2).alloc (Nat.le_refl _) _).trans (hb3.mono (by simp))
              have HB3 := Lib.hid hbc
              have hz := (hb3.block w2.heap.size (by simp)).trans (heap_last (w := w2) (o := (.cells #[.int .i64 0, .bool false, .int .i64 0, .string { data := #[] }, .slice none 0 0] 36)))
              have HZB := Lib.hid hz
              have qz := fun o => cell_of hz o
              have fz := fun o => frozen_of hz o
              have lz : w2.heap.size < w3.heap.size := (Array.getElem?_eq_some_iff.1 hz).1
              clear hz hbc)
         try
           (have hz := (HB3.out.block w1.heap.size (Array.getElem?_eq_some_iff.1 HZA.out).1).trans HZA.out
            have HZA3 := Lib.hid hz
            have qz := fun o => cell_of hz o
            have fz := fun o => frozen_of hz o
            have lz : w1.heap.size < w3.heap.size := (Array.getElem?_eq_some_iff.1 hz).1
            clear hz)
         simp only [GV.agg]
         clear hr3 hb3)
      | (go_simp
         go_at_call 44
         refine (HPOP.out _ (by first | exact (Below.refl _ w1).drew | exact ((Below.refl _ w1).alloc (Nat.le_refl _) _).drew | exact Below.refl _ w1 | exact (Below.refl _ w1).alloc (Nat.le_refl _) _)).mono ?_
         rintro e w2 ⟨a2, c2, v2, rfl, hv2, hm2, hr2, hk2⟩
         subst hv2
         first
           | (have hkw : Kg bM w1 w2 := (Kg.refl bM w1).drew.trans hk2
              have HK2 := Lib.hid hkw
              clear hkw)
           | (have hkw : Kg bM w1 w2 := ((Kg.refl bM w1).below ((Below.refl _ w1).alloc (Nat.le_refl _) _)).drew.trans hk2
              have HK2 := Lib.hid hkw
              have hz := (hk2.2.2.2.2 w1.heap.size (by simp) (fun e => HBM.out.2.1 e.symm)).trans (heap_last (w := w1) (o := (.cells #[.int .i64 0, .bool false, .int .i64 0, .string { data := #[] }, .slice none 0 0] 36)))
              have HZA := Lib.hid hz
              have qz2 := fun o => cell_of hz o
              have fz2 := fun o => frozen_of hz o
              have lz2 : w1.heap.size < w2.heap.size := (Array.getElem?_eq_some_iff.1 hz).1
              clear hkw hz)
         have HI2 : Hid (isL w2 0 w2.heap.size (.slice a2 1 c2) L) := by rw [hL]; exact inR_isL hr2
         have HM2 := Lib.hid hm2.1
         have hxi2 := (HK2.out.2.2.2.2 w.heap.size HSZ.out (fun e => HBM.out.1 e.symm)).trans HX1.out
         have qi2 := fun o => cell_of hxi2 o
         have li2 : w.heap.size < w2.heap.size := (Array.getElem?_eq_some_iff.1 hxi2).1
         have ni2 : w.heap.size ≠ w2.heap.size := by omega
         have ls2 := HK2.out.2.2.2.1
         clear hm2 hr2 hk2 hxi2))
    all_goals
      go_wp2_with fail
      go_meet
      refine ⟨_, a3, c3, rfl, rfl, Lib.hid ?_⟩
      have hkf := HK2.out.below HB3.out
      have hMf := (HB3.out.block bM (Nat.lt_of_lt_of_le HBM.out.2.2 HK2.out.2.2.2.1)).trans HM2.out
      have hs3 := HB3.out.size
      have hs2 := HK2.out.2.2.2.1
      have hbm := HBM.out
      first
        | (with_reducible refine boxD_new hkf hMf HR3.out ?_
           first | omega | (simp; done) | (simp; omega))
        | (with_reducible refine boxD_set HZA3.out ?_ ?_ ?_ hkf hMf HR3.out ?_
           · rfl
           · exact Nat.le_refl _
           · omega
           · first | omega | (simp; done) | (simp; omega))
        | (with_reducible refine boxD_set HZB.out ?_ ?_ ?_ hkf hMf HR3.out ?_
           · rfl
           · omega
           · omega
           · first | omega | (simp; done) | (simp; omega))
  case rest =>
    obtain ⟨p, a2, c2, rfl, rfl, HBX⟩ := hcut
    have hbx := HBX.out.1
    have HKC := HBX.out.2.1
    have HMC : Hid (mach wc bM base env (cutV v (st.length - 1)) (lessN 1 st) n) := mach_cut HM1.out hkk HBX.out.2.2.1 HKC.2.2.2.2 HKC.2.2.2.1
    have HKK : Hid (KB base bM w wc) := (KB.below HB1.out hbs).trans (KB.kg HKC (Nat.le_trans hbs HB1.out.size))
    have qx := fun o => cell_of hbx o
    have lx : p < wc.heap.size := (Array.getElem?_eq_some_iff.1 hbx).1
    clear hbx HKC q1
    by_cases hy0 : R.2 = 0
    rotate_left
    · have e0 : (R.2 == 0) = false := by simp; omega
      go_wp2_with fail
      refine (need_no R.2 wc).mono ?_
      rintro e w6 ⟨rfl, rfl⟩
      refine ⟨rfl, ?_⟩
      rw [HDO.out, if_neg hy0]
      exact ⟨rfl, HKK.out, _, _, HMC.out⟩
    · have e0 : (R.2 == 0) = true := by simp [hy0]
      go_wp2_with fail
      refine (need_ok _ wc).mono ?_
      rintro e w6 ⟨rfl, hw6⟩
      rw [hw6]
      go_wp2_with fail
      have hml := mach_own HM1.out
      refine (push_any bM base n env (cutV v (st.length - 1)) (lessN 1 st) R.1 (.slice a2 R.1.l.length c2) wc (by omega) HMC.out (inR_new HBX.out.2.2.2 (by omega) (fun g hg => by rw [cut_own] at hg; exact (hml g hg).2))).mono ?_
      rintro e w7 hP
      have hp1 := hP.1
      subst hp1
      have HP := Lib.hid hP
      clear hP
      go_wp2_with fail
      go_end0
      rw [HDO.out, if_pos hy0]
      exact PushO.from HP.out HKK.out
set_option maxHeartbeats 6400000 in
theorem do_5c (E : EP) (fE : E.fit) (ev : Value) (B0 : Nat) (arg : Int) (sx : ByteArray) (vx : GV) (fx : vx.fit) : DoneC E ev B0 ⟨5, (21 : Int), sx, vx⟩ := by
  intro bM base n v st s w B hB hB0 hl fs hok hoff hm hs hE
  dsimp only at hs
  obtain ⟨a, c, rfl⟩ := isL_form hs
  obtain ⟨env, henv⟩ : ∃ u, u = Value.iface 43 ev := ⟨_, rfl⟩
  rw [← henv] at hm ⊢
  have HENV := Lib.hid henv
  have HM := Lib.hid hm
  have HS := Lib.hid hs
  have HE := Lib.hid hE
  have hbs := hm.2.2.2
  have hbm := hm.2.2.1
  clear hm hs hE henv
  simp only [GI.agg]
  go_enter Tryz.func45, Tryz.ntmps45
  go_upto_region 1 with fail
  obtain ⟨w1, hw1⟩ : ∃ u, u = w.alloc (.cells #[.int .i64 5, .int .i64 (21 : Int), .string sx, .int .i64 vx.k, .bool vx.b, .int .i64 vx.n, .string vx.t, .slice a vx.l.length c] 86) := ⟨_, rfl⟩
  have hb1 : Below w.heap.size w w1 := by rw [hw1]; exact (Below.refl _ _).alloc (Nat.le_refl _) _
  have hx1 : w1.heap[w.heap.size]? = some (.cells #[.int .i64 5, .int .i64 (21 : Int), .string sx, .int .i64 vx.k, .bool vx.b, .int .i64 vx.n, .string vx.t, .slice a vx.l.length c] 86 (0, 0)) := by rw [hw1]; exact heap_last
  rw [← hw1]
  have HX1 := Lib.hid hx1
  have HB1 := Lib.hid hb1
  have HM1 := Lib.hid (mach_below HM.out hb1)
  have q1 := fun o => cell_of hx1 o
  have l1 : w.heap.size < w1.heap.size := (Array.getElem?_eq_some_iff.1 hx1).1
  clear hw1 hb1 hx1
  have hto : takesOf 21 ≠ 0 := by
    have h := hok
    unfold okOf at h
    simp at h
    exact h.1.2
  have htn : takesN 21 = 1 := by unfold takesN; rw [if_pos (by decide)]
  have hkk : 1 ≤ st.length := by
    have h1 := takesN_of hto
    rw [htn] at h1
    have h2 := hoff
    simp [offOf] at h2
    omega
  have hl1 := lessN_len hkk
  obtain ⟨L, hL⟩ : ∃ L, L = lastN 1 st := ⟨_, rfl⟩
  have HLF : Hid (fitL L ∧ L.length = 1) := by rw [hL]; exact ⟨lastN_fit fs, lastN_len hkk⟩
  obtain ⟨R, hR⟩ : ∃ R, R = applyP 21 L := ⟨_, rfl⟩
  have HRF : Hid R.1.fit := by rw [Hid, hR]; exact applyP_fit _ _ HLF.out.1
  have HDO : Hid (doP E ⟨5, 21, sx, vx⟩ st = if R.2 = 0 then .go (lessN 1 st ++ [R.1]) else .stop R.2) := by
    rw [Hid, doP, if_neg (show ¬ ((5 : Int) = 0) by decide), if_neg (show ¬ ((5 : Int) = 1) by decide), if_neg (show ¬ ((5 : Int) = 2) by decide), if_neg (show ¬ ((5 : Int) = 3) by decide), if_neg (show ¬ ((5 : Int) = 4) by decide), if_pos rfl]
    dsimp only
    rw [htn, ← hL, ← hR]
  have HAPP : Hid (∀ (w' : World) (s' : Value), isL w' 0 w'.heap.size s' L → Calls Tryz.prog 67 #[.int .i64 21, s'] w' (GivesO w' R)) := fun w' s' h => by
    rw [hR]
    exact apply_any 21 L (by rw [HLF.out.2]; omega) HLF.out.1 s' w' w'.heap.size (Nat.le_refl _) h
  have HPOP : Hid (∀ w' : World, Below w1.heap.size w1 w' → Calls Tryz.prog 44 #[.pointer (some ⟨bM, 0, none⟩), .int .i64 1] w' (PopO bM base env v st n 1 w')) := fun w' h =>
    pop_any bM base n 1 env v st w' hl hkk (mach_below HM1.out h)
  have HBM : Hid (bM ≠ w.heap.size ∧ bM ≠ w1.heap.size ∧ bM < w1.heap.size) := ⟨by omega, by omega, by omega⟩
  have HSZ : Hid (w.heap.size < w1.heap.size) := l1
  clear hto htn hR
  go_upto_region 26 with fail
  go_cut [13, 14] (fun s13 s14 wx => ∃ (p : Nat) (a2 : Option Addr) (c2 : Nat), s13 = .pointer (some ⟨p, 0, none⟩) ∧ s14 = .int .i64 R.2 ∧ Hid (BoxD bM env (cutV v (st.length - 1)) n w1 wx p R.1 a2 c2))
  case first =>
    go_region_law (first
      | (have hguard := HI2
         clear hguard
         go_simp
         go_at_call 67
         refine (HAPP.out _ _ (by first | exact HI2.out | exact isL_wide (isL_below HI2.out ((Below.refl _ _).alloc (Nat.le_refl _) _) (Nat.le_refl _)) (Nat.le_refl _) (by simp))).mono ?_
         rintro e w3 ⟨a3, c3, rfl, hr3, hb3⟩
         have HR3 := Lib.hid hr3
         first
           | (with_reducible have hbc : Below w2.heap.size w2 w3 := hb3
              have HB3 := Lib.hid hbc
              clear hbc)
           | (have hbc : Below w2.heap.size w2 w3 := ((Below.refl _ w2).alloc (Nat.le_refl _) _).trans (hb3.mono (by simp))
              have HB3 := Lib.hid hbc
              have hz := (hb3.block w2.heap.size (by simp)).trans (heap_last (w := w2) (o := (.cells #[.int .i64 0, .bool false, .int .i64 0, .string { data := #[] }, .slice none 0 0] 36)))
              have HZB := Lib.hid hz
              have qz := fun o => cell_of hz o
              have fz := fun o => frozen_of hz o
              have lz : w2.heap.size < w3.heap.size := (Array.getElem?_eq_some_iff.1 hz).1
              clear hz hbc)
         try
           (have hz := (HB3.out.block w1.heap.size (Array.getElem?_eq_some_iff.1 HZA.out).1).trans HZA.out
            have HZA3 := Lib.hid hz
            have qz := fun o => cell_of hz o
            have fz := fun o => frozen_of hz o
            have lz : w1.heap.size < w3.heap.size := (Array.getElem?_eq_some_iff.1 hz).1
            clear hz)
         simp only [GV.agg]
         clear hr3 hb3)
      | (go_simp
         go_at_call 44
         refine (HPOP.out _ (by first | exact (Below.refl _ w1).drew | exact ((Below.refl _ w1).alloc (Nat.le_refl _) _).drew | exact Below.refl _ w1 | exact (Below.refl _ w1).alloc (Nat.le_refl _) _)).mono ?_
         rintro e w2 ⟨a2, c2, v2, rfl, hv2, hm2, hr2, hk2⟩
         subst hv2
         first
           | (have hkw : Kg bM w1 w2 := (Kg.refl bM w1).drew.trans hk2
              have HK2 := Lib.hid hkw
              clear hkw)
           | (have hkw : Kg bM w1 w2 := ((Kg.refl bM w1).below ((Below.refl _ w1).alloc (Nat.le_refl _) _)).drew.trans hk2
              have HK2 := Lib.hid hkw
              have hz := (hk2.2.2.2.2 w1.heap.size (by simp) (fun e => HBM.out.2.1 e.symm)).trans (heap_last (w := w1) (o := (.cells #[.int .i64 0, .bool false, .int .i64 0, .string { data := #[] }, .slice none 0 0] 36)))
              have HZA := Lib.hid hz
              have qz2 := fun o => cell_of hz o
              have fz2 := fun o => frozen_of hz o
              have lz2 : w1.heap.size < w2.heap.size := (Array.getElem?_eq_some_iff.1 hz).1
              clear hkw hz)
         have HI2 : Hid (isL w2 0 w2.heap.size (.slice a2 1 c2) L) := by rw [hL]; exact inR_isL hr2
         have HM2 := Lib.hid hm2.1
         have hxi2 := (HK2.out.2.2.2.2 w.heap.size HSZ.out (fun e => HBM.out.1 e.symm)).trans HX1.out
         have qi2 := fun o => cell_of hxi2 o
         have li2 : w.heap.size < w2.heap.size := (Array.getElem?_eq_some_iff.1 hxi2).1
         have ni2 : w.heap.size ≠ w2.heap.size := by omega
         have ls2 := HK2.out.2.2.2.1
         clear hm2 hr2 hk2 hxi2))
    all_goals
      go_wp2_with fail
      go_meet
      refine ⟨_, a3, c3, rfl, rfl, Lib.hid ?_⟩
      have hkf := HK2.out.below HB3.out
      have hMf := (HB3.out.block bM (Nat.lt_of_lt_of_le HBM.out.2.2 HK2.out.2.2.2.1)).trans HM2.out
      have hs3 := HB3.out.size
      have hs2 := HK2.out.2.2.2.1
      have hbm := HBM.out
      first
        | (with_reducible refine boxD_new hkf hMf HR3.out ?_
           first | omega | (simp; done) | (simp; omega))
        | (with_reducible refine boxD_set HZA3.out ?_ ?_ ?_ hkf hMf HR3.out ?_
           · rfl
           · exact Nat.le_refl _
           · omega
           · first | omega | (simp; done) | (simp; omega))
        | (with_reducible refine boxD_set HZB.out ?_ ?_ ?_ hkf hMf HR3.out ?_
           · rfl
           · omega
           · omega
           · first | omega | (simp; done) | (simp; omega))
  case rest =>
    obtain ⟨p, a2, c2, rfl, rfl, HBX⟩ := hcut
    have hbx := HBX.out.1
    have HKC := HBX.out.2.1
    have HMC : Hid (mach wc bM base env (cutV v (st.length - 1)) (lessN 1 st) n) := mach_cut HM1.out hkk HBX.out.2.2.1 HKC.2.2.2.2 HKC.2.2.2.1
    have HKK : Hid (KB base bM w wc) := (KB.below HB1.out hbs).trans (KB.kg HKC (Nat.le_trans hbs HB1.out.size))
    have qx := fun o => cell_of hbx o
    have lx : p < wc.heap.size := (Array.getElem?_eq_some_iff.1 hbx).1
    clear hbx HKC q1
    by_cases hy0 : R.2 = 0
    rotate_left
    · have e0 : (R.2 == 0) = false := by simp; omega
      go_wp2_with fail
      refine (need_no R.2 wc).mono ?_
      rintro e w6 ⟨rfl, rfl⟩
      refine ⟨rfl, ?_⟩
      rw [HDO.out, if_neg hy0]
      exact ⟨rfl, HKK.out, _, _, HMC.out⟩
    · have e0 : (R.2 == 0) = true := by simp [hy0]
      go_wp2_with fail
      refine (need_ok _ wc).mono ?_
      rintro e w6 ⟨rfl, hw6⟩
      rw [hw6]
      go_wp2_with fail
      have hml := mach_own HM1.out
      refine (push_any bM base n env (cutV v (st.length - 1)) (lessN 1 st) R.1 (.slice a2 R.1.l.length c2) wc (by omega) HMC.out (inR_new HBX.out.2.2.2 (by omega) (fun g hg => by rw [cut_own] at hg; exact (hml g hg).2))).mono ?_
      rintro e w7 hP
      have hp1 := hP.1
      subst hp1
      have HP := Lib.hid hP
      clear hP
      go_wp2_with fail
      go_end0
      rw [HDO.out, if_pos hy0]
      exact PushO.from HP.out HKK.out
set_option maxHeartbeats 6400000 in
theorem do_5d (E : EP) (fE : E.fit) (ev : Value) (B0 : Nat) (arg : Int) (sx : ByteArray) (vx : GV) (fx : vx.fit) (h6 : arg ≠ 6) (h7 : arg ≠ 7) (h21 : arg ≠ 21) : DoneC E ev B0 ⟨5, arg, sx, vx⟩ := by
  intro bM base n v st s w B hB hB0 hl fs hok hoff hm hs hE
  dsimp only at hs
  obtain ⟨a, c, rfl⟩ := isL_form hs
  obtain ⟨env, henv⟩ : ∃ u, u = Value.iface 43 ev := ⟨_, rfl⟩
  rw [← henv] at hm ⊢
  have HENV := Lib.hid henv
  have HM := Lib.hid hm
  have HS := Lib.hid hs
  have HE := Lib.hid hE
  have hbs := hm.2.2.2
  have hbm := hm.2.2.1
  clear hm hs hE henv
  simp only [GI.agg]
  go_enter Tryz.func45, Tryz.ntmps45
  go_upto_region 1 with fail
  obtain ⟨w1, hw1⟩ : ∃ u, u = w.alloc (.cells #[.int .i64 5, .int .i64 arg, .string sx, .int .i64 vx.k, .bool vx.b, .int .i64 vx.n, .string vx.t, .slice a vx.l.length c] 86) := ⟨_, rfl⟩
  have hb1 : Below w.heap.size w w1 := by rw [hw1]; exact (Below.refl _ _).alloc (Nat.le_refl _) _
  have hx1 : w1.heap[w.heap.size]? = some (.cells #[.int .i64 5, .int .i64 arg, .string sx, .int .i64 vx.k, .bool vx.b, .int .i64 vx.n, .string vx.t, .slice a vx.l.length c] 86 (0, 0)) := by rw [hw1]; exact heap_last
  rw [← hw1]
  have HX1 := Lib.hid hx1
  have HB1 := Lib.hid hb1
  have HM1 := Lib.hid (mach_below HM.out hb1)
  have q1 := fun o => cell_of hx1 o
  have l1 : w.heap.size < w1.heap.size := (Array.getElem?_eq_some_iff.1 hx1).1
  clear hw1 hb1 hx1
  have hto : takesOf arg ≠ 0 := by
    have h := hok
    unfold okOf at h
    simp at h
    exact h.1.2
  have htn : takesN arg = 2 := by unfold takesN; rw [if_neg (by omega)]
  have hkk : 2 ≤ st.length := by
    have h1 := takesN_of hto
    rw [htn] at h1
    have h2 := hoff
    simp [offOf] at h2
    omega
  have hl1 := lessN_len hkk
  obtain ⟨L, hL⟩ : ∃ L, L = lastN 2 st := ⟨_, rfl⟩
  have HLF : Hid (fitL L ∧ L.length = 2) := by rw [hL]; exact ⟨lastN_fit fs, lastN_len hkk⟩
  obtain ⟨R, hR⟩ : ∃ R, R = applyP arg L := ⟨_, rfl⟩
  have HRF : Hid R.1.fit := by rw [Hid, hR]; exact applyP_fit _ _ HLF.out.1
  have HDO : Hid (doP E ⟨5, arg, sx, vx⟩ st = if R.2 = 0 then .go (lessN 2 st ++ [R.1]) else .stop R.2) := by
    rw [Hid, doP, if_neg (show ¬ ((5 : Int) = 0) by decide), if_neg (show ¬ ((5 : Int) = 1) by decide), if_neg (show ¬ ((5 : Int) = 2) by decide), if_neg (show ¬ ((5 : Int) = 3) by decide), if_neg (show ¬ ((5 : Int) = 4) by decide), if_pos rfl]
    dsimp only
    rw [htn, ← hL, ← hR]
  have HAPP : Hid (∀ (w' : World) (s' : Value), isL w' 0 w'.heap.size s' L → Calls Tryz.prog 67 #[.int .i64 arg, s'] w' (GivesO w' R)) := fun w' s' h => by
    rw [hR]
    exact apply_any arg L (by rw [HLF.out.2]; omega) HLF.out.1 s' w' w'.heap.size (Nat.le_refl _) h
  have HPOP : Hid (∀ w' : World, Below w1.heap.size w1 w' → Calls Tryz.prog 44 #[.pointer (some ⟨bM, 0, none⟩), .int .i64 2] w' (PopO bM base env v st n 2 w')) := fun w' h =>
    pop_any bM base n 2 env v st w' hl hkk (mach_below HM1.out h)
  have HBM : Hid (bM ≠ w.heap.size ∧ bM ≠ w1.heap.size ∧ bM < w1.heap.size) := ⟨by omega, by omega, by omega⟩
  have HSZ : Hid (w.heap.size < w1.heap.size) := l1
  have e6 : (arg == 6) = false := by simp; omega
  have e7 : (arg == 7) = false := by simp; omega
  have e21 : (arg == 21) = false := by simp; omega
  clear hto htn hR
  go_upto_region 26 with fail
  go_cut [13, 14] (fun s13 s14 wx => ∃ (p : Nat) (a2 : Option Addr) (c2 : Nat), s13 = .pointer (some ⟨p, 0, none⟩) ∧ s14 = .int .i64 R.2 ∧ Hid (BoxD bM env (cutV v (st.length - 2)) n w1 wx p R.1 a2 c2))
  case first =>
    go_region_law (first
      | (have hguard := HI2
         clear hguard
         go_simp
         go_at_call 67
         refine (HAPP.out _ _ (by first | exact HI2.out | exact isL_wide (isL_below HI2.out ((Below.refl _ _).alloc (Nat.le_refl _) _) (Nat.le_refl _)) (Nat.le_refl _) (by simp))).mono ?_
         rintro e w3 ⟨a3, c3, rfl, hr3, hb3⟩
         have HR3 := Lib.hid hr3
         first
           | (with_reducible have hbc : Below w2.heap.size w2 w3 := hb3
              have HB3 := Lib.hid hbc
              clear hbc)
           | (have hbc : Below w2.heap.size w2 w3 := ((Below.refl _ w2).alloc (Nat.le_refl _) _).trans (hb3.mono (by simp))
              have HB3 := Lib.hid hbc
              have hz := (hb3.block w2.heap.size (by simp)).trans (heap_last (w := w2) (o := (.cells #[.int .i64 0, .bool false, .int .i64 0, .string { data := #[] }, .slice none 0 0] 36)))
              have HZB := Lib.hid hz
              have qz := fun o => cell_of hz o
              have fz := fun o => frozen_of hz o
              have lz : w2.heap.size < w3.heap.size := (Array.getElem?_eq_some_iff.1 hz).1
              clear hz hbc)
         try
           (have hz := (HB3.out.block w1.heap.size (Array.getElem?_eq_some_iff.1 HZA.out).1).trans HZA.out
            have HZA3 := Lib.hid hz
            have qz := fun o => cell_of hz o
            have fz := fun o => frozen_of hz o
            have lz : w1.heap.size < w3.heap.size := (Array.getElem?_eq_some_iff.1 hz).1
            clear hz)
         simp only [GV.agg]
         clear hr3 hb3)
      | (go_simp
         go_at_call 44
         refine (HPOP.out _ (by first | exact (Below.refl _ w1).drew | exact ((Below.refl _ w1).alloc (Nat.le_refl _) _).drew | exact Below.refl _ w1 | exact (Below.refl _ w1).alloc (Nat.le_refl _) _)).mono ?_
         rintro e w2 ⟨a2, c2, v2, rfl, hv2, hm2, hr2, hk2⟩
         subst hv2
         first
           | (have hkw : Kg bM w1 w2 := (Kg.refl bM w1).drew.trans hk2
              have HK2 := Lib.hid hkw
              clear hkw)
           | (have hkw : Kg bM w1 w2 := ((Kg.refl bM w1).below ((Below.refl _ w1).alloc (Nat.le_refl _) _)).drew.trans hk2
              have HK2 := Lib.hid hkw
              have hz := (hk2.2.2.2.2 w1.heap.size (by simp) (fun e => HBM.out.2.1 e.symm)).trans (heap_last (w := w1) (o := (.cells #[.int .i64 0, .bool false, .int .i64 0, .string { data := #[] }, .slice none 0 0] 36)))
              have HZA := Lib.hid hz
              have qz2 := fun o => cell_of hz o
              have fz2 := fun o => frozen_of hz o
              have lz2 : w1.heap.size < w2.heap.size := (Array.getElem?_eq_some_iff.1 hz).1
              clear hkw hz)
         have HI2 : Hid (isL w2 0 w2.heap.size (.slice a2 2 c2) L) := by rw [hL]; exact inR_isL hr2
         have HM2 := Lib.hid hm2.1
         have hxi2 := (HK2.out.2.2.2.2 w.heap.size HSZ.out (fun e => HBM.out.1 e.symm)).trans HX1.out
         have qi2 := fun o => cell_of hxi2 o
         have li2 : w.heap.size < w2.heap.size := (Array.getElem?_eq_some_iff.1 hxi2).1
         have ni2 : w.heap.size ≠ w2.heap.size := by omega
         have ls2 := HK2.out.2.2.2.1
         clear hm2 hr2 hk2 hxi2))
    all_goals
      go_wp2_with fail
      go_meet
      refine ⟨_, a3, c3, rfl, rfl, Lib.hid ?_⟩
      have hkf := HK2.out.below HB3.out
      have hMf := (HB3.out.block bM (Nat.lt_of_lt_of_le HBM.out.2.2 HK2.out.2.2.2.1)).trans HM2.out
      have hs3 := HB3.out.size
      have hs2 := HK2.out.2.2.2.1
      have hbm := HBM.out
      first
        | (with_reducible refine boxD_new hkf hMf HR3.out ?_
           first | omega | (simp; done) | (simp; omega))
        | (with_reducible refine boxD_set HZA3.out ?_ ?_ ?_ hkf hMf HR3.out ?_
           · rfl
           · exact Nat.le_refl _
           · omega
           · first | omega | (simp; done) | (simp; omega))
        | (with_reducible refine boxD_set HZB.out ?_ ?_ ?_ hkf hMf HR3.out ?_
           · rfl
           · omega
           · omega
           · first | omega | (simp; done) | (simp; omega))
  case rest =>
    obtain ⟨p, a2, c2, rfl, rfl, HBX⟩ := hcut
    have hbx := HBX.out.1
    have HKC := HBX.out.2.1
    have HMC : Hid (mach wc bM base env (cutV v (st.length - 2)) (lessN 2 st) n) := mach_cut HM1.out hkk HBX.out.2.2.1 HKC.2.2.2.2 HKC.2.2.2.1
    have HKK : Hid (KB base bM w wc) := (KB.below HB1.out hbs).trans (KB.kg HKC (Nat.le_trans hbs HB1.out.size))
    have qx := fun o => cell_of hbx o
    have lx : p < wc.heap.size := (Array.getElem?_eq_some_iff.1 hbx).1
    clear hbx HKC q1
    by_cases hy0 : R.2 = 0
    rotate_left
    · have e0 : (R.2 == 0) = false := by simp; omega
      go_wp2_with fail
      refine (need_no R.2 wc).mono ?_
      rintro e w6 ⟨rfl, rfl⟩
      refine ⟨rfl, ?_⟩
      rw [HDO.out, if_neg hy0]
      exact ⟨rfl, HKK.out, _, _, HMC.out⟩
    · have e0 : (R.2 == 0) = true := by simp [hy0]
      go_wp2_with fail
      refine (need_ok _ wc).mono ?_
      rintro e w6 ⟨rfl, hw6⟩
      rw [hw6]
      go_wp2_with fail
      have hml := mach_own HM1.out
      refine (push_any bM base n env (cutV v (st.length - 2)) (lessN 2 st) R.1 (.slice a2 R.1.l.length c2) wc (by omega) HMC.out (inR_new HBX.out.2.2.2 (by omega) (fun g hg => by rw [cut_own] at hg; exact (hml g hg).2))).mono ?_
      rintro e w7 hP
      have hp1 := hP.1
      subst hp1
      have HP := Lib.hid hP
      clear hP
      go_wp2_with fail
      go_end0
      rw [HDO.out, if_pos hy0]
      exact PushO.from HP.out HKK.out
end Go.Proofs.YtljljhjdlicfeaaGreat
