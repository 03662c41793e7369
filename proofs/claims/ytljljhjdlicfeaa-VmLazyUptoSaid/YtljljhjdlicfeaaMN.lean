/-
  What the operations of being the same and of comparison tell: two values are the same or not; the one stands ahead of the other. Conditions: lists and texts shorter than 2^31.
-/
import Derived.Test.YtljljhjdlicfeaaNF
import Derived.Test.YtljljhjdlicfeaaMM
namespace Go.Proofs.Ytljljhjdlicfeaa
open Go Go.RowKit
set_option maxRecDepth 100000
set_option linter.unusedVariables false

set_option maxHeartbeats 1600000 in
theorem do_cmp (f : Nat) (h : Int → Bool) (eg : ∀ (args : Array Value) (w : World), (callFunc f args).run Try.prog w = .ok (.enter f args) w) (hh : ∀ c w, Calls Try.prog f #[.int .i64 c] w fun e w' => e = .returned (.bool (h c)) ∧ w' = w) (b : Nat) : DoC 69 #[.pointer (some ⟨b, 0, none⟩)] (fun w => lies w b (fn0 f) 102) (cmpP h) := by
  intro x y fx fy sx sy w B hB hx hy hl
  by_cases hc : cmpOk x y = true
  · have e : cmpP h x y = truthP (h (ordV x y)) := if_pos hc
    rw [e]
    simp only [cmpOk, Bool.and_eq_true, Bool.or_eq_true, beq_iff_eq] at hc
    obtain ⟨hk, hc⟩ := hc
    rcases hc with (hc | hc) | hc
    · exact cmp_arm2 f h eg hh b x y fx fy hc (hk ▸ hc) sx sy w B hB hx hy hl
    · exact cmp_arm3 f h eg hh b x y fx fy hc (hk ▸ hc) sx sy w B hB hx hy hl
    · exact cmp_arm1 f h eg hh b x y fx fy hc (hk ▸ hc) sx sy w B hB hx hy hl
  clear hh
  obtain ⟨ax, cx, rfl⟩ := isL_form hx
  obtain ⟨ay, cy, rfl⟩ := isL_form hy
  have HX := Lib.hid hx
  have HY := Lib.hid hy
  have HFX := Lib.hid fx
  have HFY := Lib.hid fy
  have HL := Lib.hid hl
  have hlt := lies_lt hl
  have HCC := Lib.hid hc
  clear hc
  obtain ⟨GX, hGX⟩ : ∃ G : GV, G = x := ⟨_, rfl⟩
  obtain ⟨GY, hGY⟩ : ∃ G : GV, G = y := ⟨_, rfl⟩
  rw [← hGX] at HX HFX HCC
  rw [← hGY] at HY HFY HCC
  obtain ⟨P, hP⟩ : ∃ P, P = cmpP h x y := ⟨_, rfl⟩
  rw [← hP]
  have HP := Lib.hid hP
  have HGX := Lib.hid hGX
  have HGY := Lib.hid hGY
  clear hx hy fx fy hl hP hGX hGY
  obtain ⟨kx, bx, nx, tx, lx⟩ := x
  obtain ⟨ky, by_, ny, ty, ly⟩ := y
  simp only [GV.agg]
  show Calls Try.prog 69 #[.agg #[.int .i64 kx, .bool bx, .int .i64 nx, .string tx, .slice ax lx.length cx], .agg #[.int .i64 ky, .bool by_, .int .i64 ny, .string ty, .slice ay ly.length cy], .pointer (some ⟨b, 0, none⟩)] w _
  go_enter Try.func69, Try.ntmps69
  go_upto_region 1 with fail
  obtain ⟨wA, hwA, hb0, h0, h1, h2, hsz⟩ := boxes3 w #[.int .i64 kx, .bool bx, .int .i64 nx, .string tx, .slice ax lx.length cx] #[.int .i64 ky, .bool by_, .int .i64 ny, .string ty, .slice ay ly.length cy] #[.int .i64 0, .bool false, .int .i64 0, .string { data := #[] }, .slice none 0 0] 35
  rw [← hwA]
  have hcz : wA.cell? ⟨b, 0, none⟩ = some (.func (.func f) #[] #[]) := (hb0.cell (p := ⟨b, 0, none⟩) hlt).trans ((cell_of HL.out 0).trans rfl)
  have HB0 := Lib.hid hb0
  have HZ := Lib.hid h2
  have q0 := fun o => cell_of h0 o
  have q1 := fun o => cell_of h1 o
  have s0 : w.heap.size < wA.heap.size := by omega
  have s1 : w.heap.size + 1 < wA.heap.size := by omega
  have s2 : w.heap.size + 2 < wA.heap.size := by omega
  have s5 : b < wA.heap.size := by omega
  clear hwA hb0 h0 h1 h2 hsz
  have hcase : (kx == ky) = false ∨ (kx = ky ∧ (kx == 2) = false ∧ (kx == 3) = false ∧ (kx == 1) = false)  := by
    cases h : (kx == ky)
    · exact .inl rfl
    · have h2 : kx = ky := by simpa using h
      have hcc := HCC.out
      rw [HGX.out, HGY.out] at hcc
      have g2 : ¬ kx = 2 := fun g => hcc (by simp [cmpOk, ← h2, g])
      have g3 : ¬ kx = 3 := fun g => hcc (by simp [cmpOk, ← h2, g])
      have g1 : ¬ kx = 1 := fun g => hcc (by simp [cmpOk, ← h2, g])
      exact .inr ⟨h2, by simpa using g2, by simpa using g3, by simpa using g1⟩
  rcases hcase with hk | hk
  · have HN : Hid (P = noP 4) := by rw [Hid, HP.out, cmpP, if_neg]; simp only [cmpOk, hk]; simp
    have hkn : (kx != ky) = true := by rw [bne, hk]; rfl
    go_wp2_with fail
    refine (no_v 4 _).mono ?_
    rintro e w2 ⟨rfl, hb2⟩
    have HB2 := Lib.hid (below_down HB0.out hb2 (Nat.le_refl _))
    have hz2 := (hb2.block (w.heap.size + 2) s2).trans HZ.out
    have s4 : w.heap.size + 2 < w2.heap.size := by have := hb2.size; omega
    have qz2 := fun o => cell_of hz2 o
    have fz2 := fun o => frozen_of hz2 o
    clear hb2 hz2 q0 q1
    go_wp2_with fail
    refine bodyPost_ret (v := .tuple #[.agg #[.int .i64 0, .bool false, .int .i64 0, .string { data := #[] }, .slice none 0 0], .int .i64 4]) (by simp [results, Try.results69, go_sem, qz2]) rfl (gives_flat (by rw [HN.out]; rfl) (by rw [HN.out]; rfl) (below_set5 HB2.out (by omega) _ _ _ _ _))
  · obtain ⟨rfl, g2, g3, g1⟩ := hk
    have HN : Hid (P = noP 4) := by rw [Hid, HP.out, cmpP, if_neg]; simp only [cmpOk, g1, g2, g3]; simp
    have n2 : (kx != 2) = true := by rw [bne, g2]; rfl
    have n3 : (kx != 3) = true := by rw [bne, g3]; rfl
    have n1 : (kx != 1) = true := by rw [bne, g1]; rfl
    go_wp2_with fail
    refine (no_v 4 _).mono ?_
    rintro e w2 ⟨rfl, hb2⟩
    have HB2 := Lib.hid (below_down HB0.out hb2 (Nat.le_refl _))
    have hz2 := (hb2.block (w.heap.size + 2) s2).trans HZ.out
    have s4 : w.heap.size + 2 < w2.heap.size := by have := hb2.size; omega
    have qz2 := fun o => cell_of hz2 o
    have fz2 := fun o => frozen_of hz2 o
    clear hb2 hz2 q0 q1
    go_wp2_with fail
    refine bodyPost_ret (v := .tuple #[.agg #[.int .i64 0, .bool false, .int .i64 0, .string { data := #[] }, .slice none 0 0], .int .i64 4]) (by simp [results, Try.results69, go_sem, qz2]) rfl (gives_flat (by rw [HN.out]; rfl) (by rw [HN.out]; rfl) (below_set5 HB2.out (by omega) _ _ _ _ _))

end Go.Proofs.Ytljljhjdlicfeaa
/-
  What value.Apply tells of the operations of being the same and of comparison. Conditions: lists and texts shorter than 2^31.
-/
namespace Go.Proofs.Ytljljhjdlicfeaa
open Go Go.RowKit
set_option maxRecDepth 100000
set_option linter.unusedVariables false
def eqP (x y : GV) : GV × Int := truthP (same x y)
def neP (x y : GV) : GV × Int := truthP (!same x y)
def ltP : GV → GV → GV × Int := cmpP fun c => decide (c < 0)
def leP : GV → GV → GV × Int := cmpP fun c => decide (c ≤ 0)
def gtP : GV → GV → GV × Int := cmpP fun c => decide (0 < c)
def geP : GV → GV → GV × Int := cmpP fun c => decide (0 ≤ c)
theorem apply_eq (l : List GV) (hll : l.length ≤ 2147483647) (fl : fitL l) (s : Value) (w : World) (B : Nat) (hB : B ≤ w.heap.size) (hs : isL w 0 B s l) :
    Calls Try.prog 11 #[.int .i64 10, s] w (GivesO w (appP 2 eqP l)) :=
  apply_op 10 2 (by decide) 38 (fun _ => #[]) (fun _ _ => True) eqP l hll fl Try.call38 (fun _ => do_eq) (fun _ _ _ _ _ => trivial) (fun h => ⟨2, rfl⟩) s w B hB hs
theorem apply_ne (l : List GV) (hll : l.length ≤ 2147483647) (fl : fitL l) (s : Value) (w : World) (B : Nat) (hB : B ≤ w.heap.size) (hs : isL w 0 B s l) :
    Calls Try.prog 11 #[.int .i64 11, s] w (GivesO w (appP 2 neP l)) :=
  apply_op 11 2 (by decide) 40 (fun _ => #[]) (fun _ _ => True) neP l hll fl Try.call40 (fun _ => do_ne) (fun _ _ _ _ _ => trivial) (fun h => ⟨3, rfl⟩) s w B hB hs
theorem apply_lt (l : List GV) (hll : l.length ≤ 2147483647) (fl : fitL l) (s : Value) (w : World) (B : Nat) (hB : B ≤ w.heap.size) (hs : isL w 0 B s l) :
    Calls Try.prog 11 #[.int .i64 12, s] w (GivesO w (appP 2 ltP l)) :=
  apply_op 12 2 (by decide) 69 (fun h => #[.pointer (some ⟨h + 7, 0, none⟩)]) (fun h w => lies w (h + 7) (fn0 42) 102) ltP l hll fl Try.call69 (fun h => do_cmp 42 _ Try.call42 holds5 (h + 7))
    (fun w0 w1 w2 T hb => lies_below ((T.lays (7, fn0 42, 102) (by simp [opsL])).2) hb) (fun h => ⟨4, rfl⟩) s w B hB hs
theorem apply_le (l : List GV) (hll : l.length ≤ 2147483647) (fl : fitL l) (s : Value) (w : World) (B : Nat) (hB : B ≤ w.heap.size) (hs : isL w 0 B s l) :
    Calls Try.prog 11 #[.int .i64 13, s] w (GivesO w (appP 2 leP l)) :=
  apply_op 13 2 (by decide) 69 (fun h => #[.pointer (some ⟨h + 9, 0, none⟩)]) (fun h w => lies w (h + 9) (fn0 43) 102) leP l hll fl Try.call69 (fun h => do_cmp 43 _ Try.call43 holds6 (h + 9))
    (fun w0 w1 w2 T hb => lies_below ((T.lays (9, fn0 43, 102) (by simp [opsL])).2) hb) (fun h => ⟨5, rfl⟩) s w B hB hs
theorem apply_gt (l : List GV) (hll : l.length ≤ 2147483647) (fl : fitL l) (s : Value) (w : World) (B : Nat) (hB : B ≤ w.heap.size) (hs : isL w 0 B s l) :
    Calls Try.prog 11 #[.int .i64 14, s] w (GivesO w (appP 2 gtP l)) :=
  apply_op 14 2 (by decide) 69 (fun h => #[.pointer (some ⟨h + 11, 0, none⟩)]) (fun h w => lies w (h + 11) (fn0 44) 102) gtP l hll fl Try.call69 (fun h => do_cmp 44 _ Try.call44 holds7 (h + 11))
    (fun w0 w1 w2 T hb => lies_below ((T.lays (11, fn0 44, 102) (by simp [opsL])).2) hb) (fun h => ⟨6, rfl⟩) s w B hB hs
theorem apply_ge (l : List GV) (hll : l.length ≤ 2147483647) (fl : fitL l) (s : Value) (w : World) (B : Nat) (hB : B ≤ w.heap.size) (hs : isL w 0 B s l) :
    Calls Try.prog 11 #[.int .i64 15, s] w (GivesO w (appP 2 geP l)) :=
  apply_op 15 2 (by decide) 69 (fun h => #[.pointer (some ⟨h + 13, 0, none⟩)]) (fun h w => lies w (h + 13) (fn0 45) 102) geP l hll fl Try.call69 (fun h => do_cmp 45 _ Try.call45 holds8 (h + 13))
    (fun w0 w1 w2 T hb => lies_below ((T.lays (13, fn0 45, 102) (by simp [opsL])).2) hb) (fun h => ⟨7, rfl⟩) s w B hB hs
end Go.Proofs.Ytljljhjdlicfeaa
