/-
  Whether a list holds a value: slices.ContainsFunc, slices.IndexFunc over what the operation of has asks; the operation itself. Conditions: lists and texts shorter than 2^31.
-/
import Derived.Test.YtljljhjdlicfeaaGreatPAD
import Derived.Test.YtljljhjdlicfeaaGreatMB
namespace Go.Proofs.YtljljhjdlicfeaaGreat
open Go Go.RowKit
set_option maxRecDepth 100000
set_option linter.unusedVariables false
def yBox (w : World) (b B : Nat) (y : GV) : Prop := ∃ a c, w.heap[b]? = some (.cells #[.int .i64 y.k, .bool y.b, .int .i64 y.n, .string y.t, .slice a y.l.length c] 36 (0, 0)) ∧ isL w 0 B (.slice a y.l.length c) y.l
theorem yBox_below {w w' : World} {b B D : Nat} {y : GV} (h : yBox w b B y) (hb : Below D w w') (h1 : b < D) (h2 : B ≤ D) : yBox w' b B y := by
  obtain ⟨a, c, hh, hl⟩ := h
  exact ⟨a, c, (hb.block b h1).trans hh, isL_below hl hb h2⟩
def hasL (l : List GV) (y : GV) : Bool := l.any fun x => same x y
theorem hasQ_any (x y : GV) (fx : x.fit) (fy : y.fit) (s : Value) (w : World) (b B : Nat) (hB : B ≤ w.heap.size) (hs : isL w 0 B s x.l) (hy : yBox w b B y) :
    Calls Tryz.prog 105 #[x.agg s, .pointer (some ⟨b, 0, none⟩)] w fun e w' => e = .returned (.bool (same x y)) ∧ Below w.heap.size w w' := by
  have HS := Lib.hid hs
  have HF := Lib.hid fx
  have HFY := Lib.hid fy
  obtain ⟨a, c, rfl⟩ := isL_form hs
  obtain ⟨ay, cy, hh, hl⟩ := hy
  have hlt : b < w.heap.size := (Array.getElem?_eq_some_iff.1 hh).1
  have HL := Lib.hid hl
  have q := fun o => cell_of hh o
  clear hs fx fy hh hl
  simp only [GV.agg]
  have hb0 : Hid (∀ cs, Below w.heap.size w (w.alloc (.cells cs 36))) := fun cs => (Below.refl w.heap.size w).alloc (Nat.le_refl _) _
  go_enter Tryz.func105, Tryz.ntmps105
  go_wp2_with fail
  refine (vSame_any x y HF.out HFY.out (.slice a x.l.length c) (.slice ay y.l.length cy) _ B (Nat.le_trans hB (hb0.out _).size) (isL_below HS.out (hb0.out _) hB) (isL_below HL.out (hb0.out _) hB)).mono ?_
  rintro e w1 ⟨rfl, hb1⟩
  go_wp2_with fail
  go_ret
  exact ⟨rfl, below_down (hb0.out _) hb1 (Nat.le_refl _)⟩
set_option maxHeartbeats 800000 in
theorem indexH_any (l : List GV) (y : GV) (hl : l.length ≤ 2147483647) (fl : fitL l) (fy : y.fit) (s : Value) (w : World) (b0 B : Nat) (hB : B ≤ w.heap.size) (hs : isL w 0 B s l) (hy : yBox w b0 B y) :
    Calls Tryz.prog 106 #[s, fn1 105 b0] w fun e w' => (∃ i : Int, e = .returned (.int .i64 i) ∧ (decide (0 ≤ i)) = hasL l y) ∧ Below w.heap.size w w' := by
  have hlt0 : b0 < w.heap.size := by obtain ⟨_, _, hh, _⟩ := hy; exact (Array.getElem?_eq_some_iff.1 hh).1
  obtain ⟨a, c, b, off, rfl, hc, ha, hA⟩ := isL_open hs
  have HA := Lib.hid hA
  have Ha := Lib.hid ha
  have HF := Lib.hid fl
  have HFY := Lib.hid fy
  have HY := Lib.hid hy
  clear hA hs ha fl fy hy
  unfold fn1
  go_enter Tryz.func106, Tryz.ntmps106
  go_wp2_with fail
  go_loopw [8] (fun i wr => ∃ k : Nat, k ≤ l.length ∧ i = .int .i64 k ∧ Below w.heap.size w wr ∧ Hid (hasL l y = hasL (l.drop k) y)) (fun i _ => l.length - (intOf i).toNat)
  case atStart => exact ⟨0, Nat.zero_le _, rfl, Below.refl _ _, rfl⟩
  case round =>
    obtain ⟨k, hk, rfl, hbel, hR⟩ := hrel
    have HB := Lib.hid hbel
    clear hbel
    by_cases hlt : k < l.length
    · obtain ⟨rfl, hb1, hb2⟩ := Ha.out (by omega)
      obtain ⟨ax, cx, x0, x1, x2, x3, x4, hsx⟩ := cellsV_slice (HA.out k hlt)
      have hg : ∀ o, wr.cell? ⟨b, o, none⟩ = w.cell? ⟨b, o, none⟩ := fun o => HB.out.cell (p := ⟨b, o, none⟩) (Nat.lt_of_lt_of_le hb2 hB)
      have hz : b < wr.heap.size := Nat.lt_of_lt_of_le hb2 (Nat.le_trans hB HB.out.size)
      have Hsx := Lib.hid hsx
      have HR : Hid (hasL l y = ((same l[k] y) || hasL (l.drop (k + 1)) y)) := by
        rw [Hid, hR.out, List.drop_eq_getElem_cons hlt]; rfl
      clear hsx hR
      go_wp2_with fail
      refine (hasQ_any l[k] y (fitL_mem HF.out _ (List.getElem_mem hlt)) HFY.out (.slice ax l[k].l.length cx) wr b0 B (Nat.le_trans hB HB.out.size) (isL_below Hsx.out HB.out hB) (yBox_below HY.out HB.out hlt0 hB)).mono ?_
      rintro e w1 ⟨rfl, hb3⟩
      have HB3 := Lib.hid (below_down HB.out hb3 (Nat.le_refl _))
      clear hb3 hg x0 x1 x2 x3 x4 Ha
      cases hv : same l[k] y
      · have HV := Lib.hid hv
        clear hv
        go_wp2_with fail
        go_roundw
        case rel => exact ⟨k + 1, by omega, by go_num, HB3.out, by rw [Hid, HR.out, HV.out]; rfl⟩
        case measure => simp [intOf]; omega
      · have HV := Lib.hid hv
        clear hv
        go_wp2_with fail
        go_ret
        exact ⟨⟨(k : Int), rfl, by rw [HR.out, HV.out]; simp⟩, HB3.out⟩
    · go_wp2_with fail
      go_ret
      exact ⟨⟨-1, rfl, by rw [hR.out, List.drop_of_length_le (by omega)]; rfl⟩, HB.out⟩
theorem containsH_any (l : List GV) (y : GV) (hl : l.length ≤ 2147483647) (fl : fitL l) (fy : y.fit) (s : Value) (w : World) (b0 B : Nat) (hB : B ≤ w.heap.size) (hs : isL w 0 B s l) (hy : yBox w b0 B y) :
    Calls Tryz.prog 80 #[s, fn1 105 b0] w fun e w' => e = .returned (.bool (hasL l y)) ∧ Below w.heap.size w w' := by
  have HI := Lib.hid (indexH_any l y hl fl fy s w b0 B hB hs hy)
  obtain ⟨a, c, rfl⟩ := isL_form hs
  unfold fn1 at HI ⊢
  clear hs fl fy hy
  go_enter Tryz.func80, Tryz.ntmps80
  go_wp2_with fail
  refine HI.out.mono ?_
  rintro e w1 ⟨⟨i, rfl, hi⟩, hb⟩
  go_wp2_with fail
  go_ret
  exact ⟨ret_bool (by rw [← hi]), hb⟩
def hasP (x y : GV) : GV × Int := if x.k = 4 then truthP (hasL x.l y) else noP 4
set_option maxHeartbeats 1600000 in
theorem do_has : DoC 104 #[] (fun _ => True) hasP := by
  intro x y fx fy sx sy w B hB hx hy _
  have ftx := (fit_open fx).2.2.2.2.2
  have HFT := Lib.hid ftx
  clear ftx
  obtain ⟨ax, cx, rfl⟩ := isL_form hx
  obtain ⟨ay, cy, rfl⟩ := isL_form hy
  have HX := Lib.hid hx
  have HY := Lib.hid hy
  have HFX := Lib.hid fx
  have HFY := Lib.hid fy
  obtain ⟨P, hP⟩ : ∃ P, P = hasP x y := ⟨_, rfl⟩
  rw [← hP]
  have HP := Lib.hid hP
  clear hx hy fx fy hP
  obtain ⟨kx, bx, nx, tx, lx⟩ := x
  obtain ⟨ky, by_, ny, ty, ly⟩ := y
  have HYG := HFY
  simp only [GV.agg]
  show Calls Tryz.prog 104 #[.agg #[.int .i64 kx, .bool bx, .int .i64 nx, .string tx, .slice ax lx.length cx], .agg #[.int .i64 ky, .bool by_, .int .i64 ny, .string ty, .slice ay ly.length cy]] w _
  go_enter Tryz.func104, Tryz.ntmps104
  go_upto_region 1 with fail
  obtain ⟨wA, hwA, hb0, h0, h1, h2, hsz⟩ := boxes3 w #[.int .i64 kx, .bool bx, .int .i64 nx, .string tx, .slice ax lx.length cx] #[.int .i64 ky, .bool by_, .int .i64 ny, .string ty, .slice ay ly.length cy] #[.int .i64 0, .bool false, .int .i64 0, .string { data := #[] }, .slice none 0 0] 36
  rw [← hwA]
  have HB0 := Lib.hid hb0
  have HZ := Lib.hid h2
  have HYB := Lib.hid h1
  have q0 := fun o => cell_of h0 o
  have q1 := fun o => cell_of h1 o
  have s0 : w.heap.size < wA.heap.size := by omega
  have s1 : w.heap.size + 1 < wA.heap.size := by omega
  have s2 : w.heap.size + 2 < wA.heap.size := by omega
  clear hwA hb0 h0 h1 h2 hsz
  by_cases hk : kx = 4
  · obtain ⟨E, hE⟩ : ∃ E, E = hasL lx ⟨ky, by_, ny, ty, ly⟩ := ⟨_, rfl⟩
    have HN : Hid (P = truthP E) := by rw [Hid, HP.out, hasP, if_pos hk, hE]
    have HC : Hid (Calls Tryz.prog 80 #[.slice ax lx.length cx, fn1 105 (w.heap.size + 1)] wA fun e w' => e = .returned (.bool E) ∧ Below wA.heap.size wA w') := by
      rw [hE]
      exact containsH_any lx ⟨ky, by_, ny, ty, ly⟩ HFT.out.1 HFT.out.2 HFY.out (.slice ax lx.length cx) wA (w.heap.size + 1) B (Nat.le_trans hB HB0.out.size) (isL_below HX.out HB0.out hB) ⟨ay, cy, HYB.out, isL_below HY.out HB0.out hB⟩
    unfold fn1 at HC
    subst hk
    clear hE
    go_wp2_with fail
    refine HC.out.mono ?_
    rintro e w1 ⟨rfl, hb1⟩
    have HB1 := Lib.hid (below_down HB0.out hb1 (Nat.le_refl _))
    have HZ1 := Lib.hid ((hb1.block (w.heap.size + 2) s2).trans HZ.out)
    have s3 : w.heap.size + 2 < w1.heap.size := by have := hb1.size; omega
    clear hb1 q0 q1 HC
    go_wp2_with fail
    refine (truth_v E _).mono ?_
    rintro e w9 ⟨rfl, hb9⟩
    have HB9 := Lib.hid (below_down HB1.out hb9 (Nat.le_refl _))
    have hz9 := (hb9.block (w.heap.size + 2) s3).trans HZ1.out
    have s9 : w.heap.size + 2 < w9.heap.size := by have := hb9.size; omega
    have q9 := fun o => cell_of hz9 o
    have f9 := fun o => frozen_of hz9 o
    clear hb9 hz9
    go_wp2_with fail
    refine bodyPost_ret (v := .tuple #[.agg #[.int .i64 1, .bool E, .int .i64 0, .string { data := #[] }, .slice none 0 0], .int .i64 0]) (by simp [results, Tryz.results104, go_sem, q9]) rfl (gives_flat (by rw [HN.out]; rfl) (by rw [HN.out]; rfl) (below_set5 HB9.out (by omega) _ _ _ _ _))
  · have HN : Hid (P = noP 4) := by rw [Hid, HP.out, hasP, if_neg hk]
    have hne : (kx != 4) = true := by simp; omega
    have hne2 : (kx == 4) = false := by simp; omega
    clear hk
    go_wp2_with fail
    refine (no_v 4 _).mono ?_
    rintro e w9 ⟨rfl, hb9⟩
    have HB9 := Lib.hid (below_down HB0.out hb9 (Nat.le_refl _))
    have hz9 := (hb9.block (w.heap.size + 2) s2).trans HZ.out
    have s9 : w.heap.size + 2 < w9.heap.size := by have := hb9.size; omega
    have q9 := fun o => cell_of hz9 o
    have f9 := fun o => frozen_of hz9 o
    clear hb9 hz9
    go_wp2_with fail
    refine bodyPost_ret (v := .tuple #[.agg #[.int .i64 0, .bool false, .int .i64 0, .string { data := #[] }, .slice none 0 0], .int .i64 4]) (by simp [results, Tryz.results104, go_sem, q9]) rfl (gives_flat (by rw [HN.out]; rfl) (by rw [HN.out]; rfl) (below_set5 HB9.out (by omega) _ _ _ _ _))
def sizeP (x y : GV) : GV × Int := if x.k = 3 ∨ x.k = 4 then numP ((x.t.size : Int) + x.l.length) else noP 4
set_option maxHeartbeats 1600000 in
theorem do_size : DoC 102 #[] (fun _ => True) sizeP := by
  intro x y fx fy sx sy w B hB hx hy _
  have z1 := (fit_open fx).2.2.2.2.1
  have z2 := (fit_open fx).2.2.2.2.2.1
  obtain ⟨ax, cx, rfl⟩ := isL_form hx
  obtain ⟨ay, cy, rfl⟩ := isL_form hy
  have HX := Lib.hid hx
  have HY := Lib.hid hy
  have HFX := Lib.hid fx
  have HFY := Lib.hid fy
  obtain ⟨P, hP⟩ : ∃ P, P = sizeP x y := ⟨_, rfl⟩
  rw [← hP]
  have HP := Lib.hid hP
  clear hx hy fx fy hP
  obtain ⟨kx, bx, nx, tx, lx⟩ := x
  obtain ⟨ky, by_, ny, ty, ly⟩ := y
  simp only [GV.agg]
  show Calls Tryz.prog 102 #[.agg #[.int .i64 kx, .bool bx, .int .i64 nx, .string tx, .slice ax lx.length cx], .agg #[.int .i64 ky, .bool by_, .int .i64 ny, .string ty, .slice ay ly.length cy]] w _
  go_enter Tryz.func102, Tryz.ntmps102
  go_upto_region 1 with fail
  obtain ⟨wA, hwA, hb0, h0, h1, h2, hsz⟩ := boxes3 w #[.int .i64 kx, .bool bx, .int .i64 nx, .string tx, .slice ax lx.length cx] #[.int .i64 ky, .bool by_, .int .i64 ny, .string ty, .slice ay ly.length cy] #[.int .i64 0, .bool false, .int .i64 0, .string { data := #[] }, .slice none 0 0] 36
  rw [← hwA]
  have HB0 := Lib.hid hb0
  have HZ := Lib.hid h2
  have q0 := fun o => cell_of h0 o
  have q1 := fun o => cell_of h1 o
  have s0 : w.heap.size < wA.heap.size := by omega
  have s1 : w.heap.size + 1 < wA.heap.size := by omega
  have s2 : w.heap.size + 2 < wA.heap.size := by omega
  clear hwA hb0 h0 h1 h2 hsz
  dsimp only at z1 z2
  have i1 : wrap64 ((tx.size : Int) + (lx.length : Int)) = (tx.size : Int) + (lx.length : Int) := by unfold wrap64; omega
  have i2 : IntKind.i64.wrap ((tx.size : Int) + (lx.length : Int)) = (tx.size : Int) + (lx.length : Int) := IntWalk.i64_in _ (by omega)
  by_cases hk : kx = 3
  · have HN : Hid (P = numP ((tx.size : Int) + lx.length)) := by rw [Hid, HP.out, sizeP, if_pos (.inl hk)]
    subst hk
    go_wp2_with fail
    refine (number_v ((tx.size : Int) + lx.length) _).mono ?_
    rintro e w9 ⟨rfl, hb9⟩
    have HB9 := Lib.hid (below_down HB0.out hb9 (Nat.le_refl _))
    have hz9 := (hb9.block (w.heap.size + 2) s2).trans HZ.out
    have s9 : w.heap.size + 2 < w9.heap.size := by have := hb9.size; omega
    have q9 := fun o => cell_of hz9 o
    have f9 := fun o => frozen_of hz9 o
    clear hb9 hz9
    unfold numA
    go_wp2_with fail
    refine bodyPost_ret (v := .tuple #[.agg #[.int .i64 2, .bool false, .int .i64 ((tx.size : Int) + lx.length), .string { data := #[] }, .slice none 0 0], .int .i64 0]) (by simp [results, Tryz.results102, go_sem, q9]) rfl (gives_flat (by rw [HN.out]; rfl) (by rw [HN.out]; rfl) (below_set5 HB9.out (by omega) _ _ _ _ _))
  by_cases hk2 : kx = 4
  · have HN : Hid (P = numP ((tx.size : Int) + lx.length)) := by rw [Hid, HP.out, sizeP, if_pos (.inr hk2)]
    subst hk2
    clear hk
    go_wp2_with fail
    refine (number_v ((tx.size : Int) + lx.length) _).mono ?_
    rintro e w9 ⟨rfl, hb9⟩
    have HB9 := Lib.hid (below_down HB0.out hb9 (Nat.le_refl _))
    have hz9 := (hb9.block (w.heap.size + 2) s2).trans HZ.out
    have s9 : w.heap.size + 2 < w9.heap.size := by have := hb9.size; omega
    have q9 := fun o => cell_of hz9 o
    have f9 := fun o => frozen_of hz9 o
    clear hb9 hz9
    unfold numA
    go_wp2_with fail
    refine bodyPost_ret (v := .tuple #[.agg #[.int .i64 2, .bool false, .int .i64 ((tx.size : Int) + lx.length), .string { data := #[] }, .slice none 0 0], .int .i64 0]) (by simp [results, Tryz.results102, go_sem, q9]) rfl (gives_flat (by rw [HN.out]; rfl) (by rw [HN.out]; rfl) (below_set5 HB9.out (by omega) _ _ _ _ _))
  · have HN : Hid (P = noP 4) := by rw [Hid, HP.out, sizeP, if_neg (fun h => h.elim hk hk2)]
    have hne : (kx != 3) = true := by simp; omega
    have hne2 : (kx != 4) = true := by simp; omega
    have hne3 : (kx == 3) = false := by simp; omega
    have hne4 : (kx == 4) = false := by simp; omega
    clear hk hk2
    go_wp2_with fail
    refine (no_v 4 _).mono ?_
    rintro e w9 ⟨rfl, hb9⟩
    have HB9 := Lib.hid (below_down HB0.out hb9 (Nat.le_refl _))
    have hz9 := (hb9.block (w.heap.size + 2) s2).trans HZ.out
    have s9 : w.heap.size + 2 < w9.heap.size := by have := hb9.size; omega
    have q9 := fun o => cell_of hz9 o
    have f9 := fun o => frozen_of hz9 o
    clear hb9 hz9
    go_wp2_with fail
    refine bodyPost_ret (v := .tuple #[.agg #[.int .i64 0, .bool false, .int .i64 0, .string { data := #[] }, .slice none 0 0], .int .i64 4]) (by simp [results, Tryz.results102, go_sem, q9]) rfl (gives_flat (by rw [HN.out]; rfl) (by rw [HN.out]; rfl) (below_set5 HB9.out (by omega) _ _ _ _ _))
end Go.Proofs.YtljljhjdlicfeaaGreat
