/-
  What value.Apply tells: the refusal, or what the operation's function tells. Conditions: lists and texts shorter than 2^31.
-/
import Derived.Test.YtljljhjdlicfeaaGreatPAD
import Derived.Test.YtljljhjdlicfeaaGreatNF
namespace Go.Proofs.YtljljhjdlicfeaaGreat
open Go Go.RowKit
set_option maxRecDepth 100000
set_option linter.unusedVariables false
theorem isR_set5 {w : World} {S : Nat → Prop} {s : Value} {l : List GV} (h : isR w S s l) {b : Nat} (hb : ¬ S b) (a0 a1 a2 a3 a4 : Value) : isR (((((w.setCell ⟨b, 0, none⟩ a0).setCell ⟨b, 1, none⟩ a1).setCell ⟨b, 2, none⟩ a2).setCell ⟨b, 3, none⟩ a3).setCell ⟨b, 4, none⟩ a4) S s l :=
  isR_setCell (p := ⟨b, 4, none⟩) (isR_setCell (p := ⟨b, 3, none⟩) (isR_setCell (p := ⟨b, 2, none⟩) (isR_setCell (p := ⟨b, 1, none⟩) (isR_setCell (p := ⟨b, 0, none⟩) h hb _) hb _) hb _) hb _) hb _
theorem gives_box {w w1 w2 : World} {b : Nat} {r : GV × Int} {a : Option Addr} {c : Nat} (hr : isR w2 (since w1.heap.size w2) (.slice a r.1.l.length c) r.1.l) (hb : Below w.heap.size w w2) (h1 : w.heap.size ≤ w1.heap.size) (hlo : w.heap.size ≤ b) (hlt : b < w1.heap.size) (a0 a1 a2 a3 a4 : Value) :
    GivesO w r (.returned (.tuple #[r.1.agg (.slice a r.1.l.length c), .int .i64 r.2])) (((((w2.setCell ⟨b, 0, none⟩ a0).setCell ⟨b, 1, none⟩ a1).setCell ⟨b, 2, none⟩ a2).setCell ⟨b, 3, none⟩ a3).setCell ⟨b, 4, none⟩ a4) :=
  ⟨a, c, rfl, isR_sub (isR_set5 hr (b := b) (fun h => absurd h.1 (by omega)) a0 a1 a2 a3 a4) (fun x hx => ⟨Nat.le_trans h1 hx.1, by simpa using hx.2⟩), below_set5 hb hlo a0 a1 a2 a3 a4⟩
theorem oinfo : (Tryz.prog.info? 130).map (fun i => (i.zero, i.size, i.bytes)) = some (some (.agg #[.int .i64 0, .nilFunc]), 2, 16) := by kernel_rfl
theorem lookup_none (w : World) (b : Nat) (es : Array MapEntry) (clock : Nat) (hh : w.heap[b]? = some (.map es clock)) (n : Int) (hf : Instr.findNow (.int .i64) (.int .i64 n) es.toList 0 = some none) :
    (Instr.lookup 132 (.map (some b)) (.int .i64 n) true).run Tryz.prog w = .ok (.tuple #[.agg #[.int .i64 0, .nilFunc], .bool false]) w := by
  have hc : ∀ e, (Instr.checkKey e 10000 3 (.int .i64 n)).run Tryz.prog w = .ok () w := fun e => MapKept.run_checkKey (k := .int .i64 n) Tryz.underlying3 (by simp [MapKept.IsKey]) e 9999
  obtain ⟨i0, hi, hz0, _, _⟩ := info_parts oinfo
  have hz : (zeroValue 130).run Tryz.prog w = .ok (.agg #[.int .i64 0, .nilFunc]) w := by simp [zeroValue, typeInfo, hi, hz0]
  simp [Instr.lookup, run_underlying Tryz.underlying132, MapKept.run_getObj_map hh, hc, MapKept.run_findKey Tryz.underlying3 hf, Result.andThen, hz]
set_option maxHeartbeats 1600000 in
theorem apply_go (op : Int) (f : Nat) (caps : Nat → Array Value) (K : Nat → World → Prop) (g : GV → GV → GV × Int) (l : List GV) (m : Nat) (hm : l.length = m + 1) (x y : GV) (hx0 : l[0]? = some x) (hym : l[m]? = some y) (hll : l.length ≤ 2147483647) (fl : fitL l) (hbad : badL l = false) (eg : ∀ (args : Array Value) (w : World), (callFunc f args).run Tryz.prog w = .ok (.enter f args) w) (hdo : ∀ h, DoC f (caps h) (K h) g)
    (hK : ∀ w0 w1 w2 : World, Tbl w0 w1 23 (opsE w0.heap.size) opsL → Below w1.heap.size w1 w2 → K w0.heap.size w2) (hlk : ∀ h, ∃ i, Instr.findNow (.int .i64) (.int .i64 op) (opsE h) 0 = some (some (i, .agg #[.int .i64 l.length, .func (.func f) #[] (caps h)])))
    (s : Value) (w : World) (B : Nat) (hB : B ≤ w.heap.size) (hs : isL w 0 B s l) :
    Calls Tryz.prog 67 #[.int .i64 op, s] w (GivesO w (g x y)) := by
  have hl0 : 0 < l.length := by omega
  have HM := Lib.hid hm
  have HX0 := Lib.hid hx0
  have HYM := Lib.hid hym
  obtain ⟨a, c, bb, off, rfl, hc, ha, hA⟩ := isL_open hs
  have HS := Lib.hid hs
  have HFL := Lib.hid fl
  have HA := Lib.hid hA
  have HBAD := Lib.hid hbad
  have HDO := Lib.hid hdo
  have HKK := Lib.hid hK
  have HLK := Lib.hid hlk
  obtain ⟨rfl, hb1, hb1'⟩ := ha hl0
  clear fl hs hA hbad hdo hK hlk ha hx0 hym
  clear hm
  go_enter Tryz.func67, Tryz.ntmps67
  go_wp2_with fail
  obtain ⟨w0, hw0⟩ : ∃ w0, w0 = w.alloc (.cells #[.int .i64 0, .bool false, .int .i64 0, .string { data := #[] }, .slice none 0 0] 36) := ⟨_, rfl⟩
  have hb0 : Below w.heap.size w w0 := by rw [hw0]; exact (Below.refl _ _).alloc (Nat.le_refl _) _
  have hz0 : w0.heap[w.heap.size]? = some (.cells #[.int .i64 0, .bool false, .int .i64 0, .string { data := #[] }, .slice none 0 0] 36 (0, 0)) := by rw [hw0]; exact heap_last
  have hs0 : w0.heap.size = w.heap.size + 1 := by rw [hw0]; simp
  rw [← hw0]
  have HB0 := Lib.hid hb0
  have HZ0 := Lib.hid hz0
  clear hw0 hb0 hz0
  refine (operations_any w0).mono ?_
  rintro e w1 ⟨rfl, S⟩
  obtain ⟨i, hlk⟩ := HLK.out w0.heap.size
  have hlk := lookup_run w1 w0.heap.size _ _ S.map op i _ hlk
  have HS1 := Lib.hid S
  have HB1 := Lib.hid (below_down HB0.out S.below (Nat.le_refl _))
  have HZ1 := Lib.hid ((S.below.block w.heap.size (by omega)).trans HZ0.out)
  have hs1 := S.size
  obtain ⟨cp, hcp⟩ : ∃ cp, cp = caps w0.heap.size := ⟨_, rfl⟩
  rw [← hcp] at hlk
  rw [hs0] at hlk
  have HCP := Lib.hid hcp
  clear S hcp
  go_wp2_with fail
  obtain ⟨w2, hw2⟩ : ∃ w2, w2 = w1.alloc (.cells #[.int .i64 l.length, .func (.func f) #[] cp] 130) := ⟨_, rfl⟩
  have hb2 : Below w1.heap.size w1 w2 := by rw [hw2]; exact (Below.refl _ _).alloc (Nat.le_refl _) _
  have ho2 : w2.heap[w1.heap.size]? = some (.cells #[.int .i64 l.length, .func (.func f) #[] cp] 130 (0, 0)) := by rw [hw2]; exact heap_last
  have hs2 : w2.heap.size = w1.heap.size + 1 := by rw [hw2]; simp
  rw [← hw2]
  have HB2 := Lib.hid (below_down HB1.out hb2 (Nat.le_refl _))
  have HT2 := Lib.hid hb2
  have HZ2 := Lib.hid ((hb2.block w.heap.size (by omega)).trans HZ1.out)
  have HO2 := Lib.hid ho2
  clear hw2 hb2 ho2 hlk
  refine (contains_any l hll HFL.out (.slice (some ⟨bb, off, none⟩) l.length c) w2 B (Nat.le_trans hB HB2.out.size) (isL_below HS.out HB2.out hB)).mono ?_
  rintro e w3 ⟨rfl, hb3⟩
  rw [HBAD.out]
  have HB3 := Lib.hid (below_down HB2.out hb3 (Nat.le_refl _))
  have HT3 := Lib.hid (below_down HT2.out hb3 (Nat.le_refl _))
  have HZ3 := Lib.hid ((hb3.block w.heap.size (by omega)).trans HZ2.out)
  have ho3 := (hb3.block w1.heap.size (by omega)).trans HO2.out
  rw [show w1.heap.size = w.heap.size + 1 + 23 by omega] at ho3
  have hs3 := hb3.size
  have qo := fun o => cell_of ho3 o
  have HKW := Lib.hid (HKK.out w0 w1 w3 HS1.out HT3.out)
  have hm := HM.out
  have hm0 : m < l.length := by omega
  have hvx := HA.out 0 hl0
  have hvy := HA.out m hm0
  have ex0 : l[0] = x := (List.getElem?_eq_some_iff.1 HX0.out).2
  have eym : l[m] = y := (List.getElem?_eq_some_iff.1 HYM.out).2
  rw [ex0] at hvx
  rw [eym] at hvy
  obtain ⟨ax, cx, x0, x1, x2, x3, x4, hsx⟩ := cellsV_slice hvx
  obtain ⟨ay, cy, y0, y1, y2, y3, y4, hsy⟩ := cellsV_slice hvy
  simp only [Nat.zero_mul, Nat.add_zero] at x0 x1 x2 x3 x4
  have hgr : ∀ o, w3.cell? ⟨bb, o, none⟩ = w.cell? ⟨bb, o, none⟩ := fun o => HB3.out.cell (p := ⟨bb, o, none⟩) (Nat.lt_of_lt_of_le hb1' hB)
  have Hsx := Lib.hid hsx
  have Hsy := Lib.hid hsy
  have HFX : Hid x.fit := by rw [Hid, ← ex0]; exact fitL_mem HFL.out _ (List.getElem_mem hl0)
  have HFY : Hid y.fit := by rw [Hid, ← eym]; exact fitL_mem HFL.out _ (List.getElem_mem hm0)
  have z1 : bb < w3.heap.size := by have := HB3.out.size; omega
  have z2 : w.heap.size + 1 + 23 < w3.heap.size := by omega
  have z3 : w.heap.size < w3.heap.size := by omega
  have i1 : IntKind.i64.wrap (m : Int) = (m : Int) := IntWalk.i64_in _ (by omega)
  have i3 : (l.length : Int) - 1 = (m : Int) := by omega
  have i4 : (m : Int) < (l.length : Int) := by omega
  have i5 : (0 : Int) < (l.length : Int) := by omega
  have i6 : (0 : Int) ≤ (m : Int) := by omega
  have i7 : ((m : Int)).toNat = m := by omega
  have i8 : decide (1 ≤ l.length) = true := by simp; omega
  have i9 : 1 ≤ l.length := by omega
  clear ex0 eym hvx hvy HX0 HYM hsx hsy HA hs1 hs2 hs3 hs0 hm
  have HC : Hid (∀ w4, Below w3.heap.size w3 w4 → Calls Tryz.prog f (#[.agg #[.int .i64 x.k, .bool x.b, .int .i64 x.n, .string x.t, .slice ax x.l.length cx], .agg #[.int .i64 y.k, .bool y.b, .int .i64 y.n, .string y.t, .slice ay y.l.length cy]] ++ cp) w4 (GivesO w4 (g x y))) := by
    intro w4 h4
    have hb4 := below_down HB3.out h4 (Nat.le_refl _)
    rw [HCP.out]
    exact HDO.out _ x y HFX.out HFY.out (.slice ax x.l.length cx) (.slice ay y.l.length cy) w4 B (Nat.le_trans hB hb4.size) (isL_below Hsx.out hb4 hB) (isL_below Hsy.out hb4 hB) (HKK.out w0 w1 w4 HS1.out (below_down HT3.out h4 (Nat.le_refl _)))
  clear HKK HDO HLK HKW HCP HFX HFY HFL HS HBAD HO2 HZ2 HZ1 HZ0
  go_wp2_with fail
  go_region_law (first
    | (go_simp
       refine (HC.out _ (Below.refl _ _).drew).mono ?_
       rintro e w5 hgv
       obtain ⟨ar, cr, rfl, hr, hb5⟩ := hgv
       have hb5' : Below w3.heap.size w3 w5 := (Below.refl w3.heap.size w3).drew.trans hb5
       have hz5 := (hb5'.block w.heap.size (by omega)).trans HZ3.out
       have HB5 := Lib.hid (below_down HB3.out hb5' (Nat.le_refl _))
       have HR5 := Lib.hid hr
       have q5 := fun o => cell_of hz5 o
       have f5 := fun o => frozen_of hz5 o
       have hs5 : w.heap.size < w5.heap.size := by have := hb5'.size; omega
       have hle5 : w.heap.size ≤ w3.heap.size := by omega
       simp only [GV.agg]
       clear hb5 hb5' hz5 hr))
  all_goals
    go_wp2_with fail
    refine bodyPost_ret (v := .tuple #[.agg #[.int .i64 (g x y).1.k, .bool (g x y).1.b, .int .i64 (g x y).1.n, .string (g x y).1.t, .slice ar (g x y).1.l.length cr], .int .i64 (g x y).2]) (by simp [results, Tryz.results67, go_sem, q5]) rfl (gives_box (w1 := w3) HR5.out HB5.out hle5 (Nat.le_refl _) (by omega) _ _ _ _ _)
end Go.Proofs.YtljljhjdlicfeaaGreat
namespace Go.Proofs.YtljljhjdlicfeaaGreat
open Go Go.RowKit
set_option maxRecDepth 100000
set_option linter.unusedVariables false
set_option maxHeartbeats 1600000 in
theorem apply_off (op : Int) (l : List GV) (hlk : ∀ h, Instr.findNow (.int .i64) (.int .i64 op) (opsE h) 0 = some none)
    (s : Value) (w : World) (B : Nat) (hB : B ≤ w.heap.size) (hs : isL w 0 B s l) :
    Calls Tryz.prog 67 #[.int .i64 op, s] w (GivesO w (noP 1)) := by
  obtain ⟨a, c, rfl⟩ := isL_form hs
  have HS := Lib.hid hs
  have HLK := Lib.hid hlk
  clear hs hlk
  go_enter Tryz.func67, Tryz.ntmps67
  go_wp2_with fail
  obtain ⟨w0, hw0⟩ : ∃ w0, w0 = w.alloc (.cells #[.int .i64 0, .bool false, .int .i64 0, .string { data := #[] }, .slice none 0 0] 36) := ⟨_, rfl⟩
  have hb0 : Below w.heap.size w w0 := by rw [hw0]; exact (Below.refl _ _).alloc (Nat.le_refl _) _
  have hz0 : w0.heap[w.heap.size]? = some (.cells #[.int .i64 0, .bool false, .int .i64 0, .string { data := #[] }, .slice none 0 0] 36 (0, 0)) := by rw [hw0]; exact heap_last
  have hs0 : w0.heap.size = w.heap.size + 1 := by rw [hw0]; simp
  rw [← hw0]
  have HB0 := Lib.hid hb0
  have HZ0 := Lib.hid hz0
  clear hw0 hb0 hz0
  refine (operations_any w0).mono ?_
  rintro e w1 ⟨rfl, S⟩
  have hlk := lookup_none w1 w0.heap.size _ _ S.map op (HLK.out w0.heap.size)
  have HB1 := Lib.hid (below_down HB0.out S.below (Nat.le_refl _))
  have HZ1 := Lib.hid ((S.below.block w.heap.size (by omega)).trans HZ0.out)
  have hs1 := S.size
  rw [hs0] at hlk
  clear S HLK
  go_wp2_with fail
  obtain ⟨w2, hw2⟩ : ∃ w2, w2 = w1.alloc (.cells #[.int .i64 0, .nilFunc] 130) := ⟨_, rfl⟩
  have hb2 : Below w1.heap.size w1 w2 := by rw [hw2]; exact (Below.refl _ _).alloc (Nat.le_refl _) _
  have ho2 : w2.heap[w1.heap.size]? = some (.cells #[.int .i64 0, .nilFunc] 130 (0, 0)) := by rw [hw2]; exact heap_last
  have hs2 : w2.heap.size = w1.heap.size + 1 := by rw [hw2]; simp
  have hs2' : w1.heap.size < w2.heap.size := by omega
  rw [← hw2]
  have HB2 := Lib.hid (below_down HB1.out hb2 (Nat.le_refl _))
  have HZ2 := Lib.hid ((hb2.block w.heap.size (by omega)).trans HZ1.out)
  have qo := fun o => cell_of ho2 o
  clear hw2 hb2 ho2 hlk
  have HB3 := HB2
  have HZ3 := HZ2
  refine (no_v 1 _).mono ?_
  rintro e w4 ⟨rfl, hb4⟩
  have HB4 := Lib.hid (below_down HB3.out hb4 (Nat.le_refl _))
  have hz4 := (hb4.block w.heap.size (by omega)).trans HZ3.out
  have s4 : w.heap.size < w4.heap.size := by have := hb4.size; omega
  have qz4 := fun o => cell_of hz4 o
  have fz4 := fun o => frozen_of hz4 o
  clear hb4 hz4
  go_wp2_with fail
  refine bodyPost_ret (v := .tuple #[.agg #[.int .i64 0, .bool false, .int .i64 0, .string { data := #[] }, .slice none 0 0], .int .i64 1]) (by simp [results, Tryz.results67, go_sem, qz4]) rfl (gives_flat rfl rfl (below_set5 HB4.out (Nat.le_refl _) _ _ _ _ _))
set_option maxHeartbeats 1600000 in
theorem apply_len (op : Int) (l : List GV) (t : Int) (f : Nat) (caps : Nat → Array Value) (hlk : ∀ h, ∃ i, Instr.findNow (.int .i64) (.int .i64 op) (opsE h) 0 = some (some (i, .agg #[.int .i64 t, .func (.func f) #[] (caps h)]))) (hne : ((l.length : Int) == t) = false)
    (s : Value) (w : World) (B : Nat) (hB : B ≤ w.heap.size) (hs : isL w 0 B s l) :
    Calls Tryz.prog 67 #[.int .i64 op, s] w (GivesO w (noP 1)) := by
  obtain ⟨a, c, rfl⟩ := isL_form hs
  have HS := Lib.hid hs
  have HLK := Lib.hid hlk
  clear hs hlk
  have hne2 : ((l.length : Int) != t) = true := by rw [bne, hne]; rfl
  go_enter Tryz.func67, Tryz.ntmps67
  go_wp2_with fail
  obtain ⟨w0, hw0⟩ : ∃ w0, w0 = w.alloc (.cells #[.int .i64 0, .bool false, .int .i64 0, .string { data := #[] }, .slice none 0 0] 36) := ⟨_, rfl⟩
  have hb0 : Below w.heap.size w w0 := by rw [hw0]; exact (Below.refl _ _).alloc (Nat.le_refl _) _
  have hz0 : w0.heap[w.heap.size]? = some (.cells #[.int .i64 0, .bool false, .int .i64 0, .string { data := #[] }, .slice none 0 0] 36 (0, 0)) := by rw [hw0]; exact heap_last
  have hs0 : w0.heap.size = w.heap.size + 1 := by rw [hw0]; simp
  rw [← hw0]
  have HB0 := Lib.hid hb0
  have HZ0 := Lib.hid hz0
  clear hw0 hb0 hz0
  refine (operations_any w0).mono ?_
  rintro e w1 ⟨rfl, S⟩
  obtain ⟨i, hlk⟩ := HLK.out w0.heap.size
  have hlk := lookup_run w1 w0.heap.size _ _ S.map op i _ hlk
  obtain ⟨cp, hcp⟩ : ∃ cp, cp = caps w0.heap.size := ⟨_, rfl⟩
  rw [← hcp] at hlk
  clear hcp
  have HB1 := Lib.hid (below_down HB0.out S.below (Nat.le_refl _))
  have HZ1 := Lib.hid ((S.below.block w.heap.size (by omega)).trans HZ0.out)
  have hs1 := S.size
  rw [hs0] at hlk
  clear S HLK
  go_wp2_with fail
  obtain ⟨w2, hw2⟩ : ∃ w2, w2 = w1.alloc (.cells #[.int .i64 t, .func (.func f) #[] cp] 130) := ⟨_, rfl⟩
  have hb2 : Below w1.heap.size w1 w2 := by rw [hw2]; exact (Below.refl _ _).alloc (Nat.le_refl _) _
  have ho2 : w2.heap[w1.heap.size]? = some (.cells #[.int .i64 t, .func (.func f) #[] cp] 130 (0, 0)) := by rw [hw2]; exact heap_last
  have hs2 : w2.heap.size = w1.heap.size + 1 := by rw [hw2]; simp
  have hs2' : w1.heap.size < w2.heap.size := by omega
  rw [← hw2]
  have HB2 := Lib.hid (below_down HB1.out hb2 (Nat.le_refl _))
  have HZ2 := Lib.hid ((hb2.block w.heap.size (by omega)).trans HZ1.out)
  have qo := fun o => cell_of ho2 o
  clear hw2 hb2 ho2 hlk
  have HB3 := HB2
  have HZ3 := HZ2
  refine (no_v 1 _).mono ?_
  rintro e w4 ⟨rfl, hb4⟩
  have HB4 := Lib.hid (below_down HB3.out hb4 (Nat.le_refl _))
  have hz4 := (hb4.block w.heap.size (by omega)).trans HZ3.out
  have s4 : w.heap.size < w4.heap.size := by have := hb4.size; omega
  have qz4 := fun o => cell_of hz4 o
  have fz4 := fun o => frozen_of hz4 o
  clear hb4 hz4
  go_wp2_with fail
  refine bodyPost_ret (v := .tuple #[.agg #[.int .i64 0, .bool false, .int .i64 0, .string { data := #[] }, .slice none 0 0], .int .i64 1]) (by simp [results, Tryz.results67, go_sem, qz4]) rfl (gives_flat rfl rfl (below_set5 HB4.out (Nat.le_refl _) _ _ _ _ _))
set_option maxHeartbeats 1600000 in
theorem apply_bad (op : Int) (l : List GV) (hll : l.length ≤ 2147483647) (fl : fitL l) (hbad : badL l = true) (f : Nat) (caps : Nat → Array Value) (hlk : ∀ h, ∃ i, Instr.findNow (.int .i64) (.int .i64 op) (opsE h) 0 = some (some (i, .agg #[.int .i64 l.length, .func (.func f) #[] (caps h)])))
    (s : Value) (w : World) (B : Nat) (hB : B ≤ w.heap.size) (hs : isL w 0 B s l) :
    Calls Tryz.prog 67 #[.int .i64 op, s] w (GivesO w (noP 1)) := by
  obtain ⟨a, c, rfl⟩ := isL_form hs
  have HS := Lib.hid hs
  have HLK := Lib.hid hlk
  clear hs hlk
  have HFL := Lib.hid fl
  have HBAD := Lib.hid hbad
  clear fl hbad
  go_enter Tryz.func67, Tryz.ntmps67
  go_wp2_with fail
  obtain ⟨w0, hw0⟩ : ∃ w0, w0 = w.alloc (.cells #[.int .i64 0, .bool false, .int .i64 0, .string { data := #[] }, .slice none 0 0] 36) := ⟨_, rfl⟩
  have hb0 : Below w.heap.size w w0 := by rw [hw0]; exact (Below.refl _ _).alloc (Nat.le_refl _) _
  have hz0 : w0.heap[w.heap.size]? = some (.cells #[.int .i64 0, .bool false, .int .i64 0, .string { data := #[] }, .slice none 0 0] 36 (0, 0)) := by rw [hw0]; exact heap_last
  have hs0 : w0.heap.size = w.heap.size + 1 := by rw [hw0]; simp
  rw [← hw0]
  have HB0 := Lib.hid hb0
  have HZ0 := Lib.hid hz0
  clear hw0 hb0 hz0
  refine (operations_any w0).mono ?_
  rintro e w1 ⟨rfl, S⟩
  obtain ⟨i, hlk⟩ := HLK.out w0.heap.size
  have hlk := lookup_run w1 w0.heap.size _ _ S.map op i _ hlk
  obtain ⟨cp, hcp⟩ : ∃ cp, cp = caps w0.heap.size := ⟨_, rfl⟩
  rw [← hcp] at hlk
  clear hcp
  have HB1 := Lib.hid (below_down HB0.out S.below (Nat.le_refl _))
  have HZ1 := Lib.hid ((S.below.block w.heap.size (by omega)).trans HZ0.out)
  have hs1 := S.size
  rw [hs0] at hlk
  clear S HLK
  go_wp2_with fail
  obtain ⟨w2, hw2⟩ : ∃ w2, w2 = w1.alloc (.cells #[.int .i64 l.length, .func (.func f) #[] cp] 130) := ⟨_, rfl⟩
  have hb2 : Below w1.heap.size w1 w2 := by rw [hw2]; exact (Below.refl _ _).alloc (Nat.le_refl _) _
  have ho2 : w2.heap[w1.heap.size]? = some (.cells #[.int .i64 l.length, .func (.func f) #[] cp] 130 (0, 0)) := by rw [hw2]; exact heap_last
  have hs2 : w2.heap.size = w1.heap.size + 1 := by rw [hw2]; simp
  have hs2' : w1.heap.size < w2.heap.size := by omega
  rw [← hw2]
  have HB2 := Lib.hid (below_down HB1.out hb2 (Nat.le_refl _))
  have HZ2 := Lib.hid ((hb2.block w.heap.size (by omega)).trans HZ1.out)
  have qo := fun o => cell_of ho2 o
  clear hw2 hb2 ho2 hlk
  refine (contains_any l hll HFL.out (.slice a l.length c) w2 B (Nat.le_trans hB HB2.out.size) (isL_below HS.out HB2.out hB)).mono ?_
  rintro e w3 ⟨rfl, hb3⟩
  rw [HBAD.out]
  have HB3 := Lib.hid (below_down HB2.out hb3 (Nat.le_refl _))
  have HZ3 := Lib.hid ((hb3.block w.heap.size (by omega)).trans HZ2.out)
  have hs3 := hb3.size
  have hs30 : w.heap.size < w3.heap.size := by omega
  clear qo hb3
  go_wp2_with fail
  refine (no_v 1 _).mono ?_
  rintro e w4 ⟨rfl, hb4⟩
  have HB4 := Lib.hid (below_down HB3.out hb4 (Nat.le_refl _))
  have hz4 := (hb4.block w.heap.size (by omega)).trans HZ3.out
  have s4 : w.heap.size < w4.heap.size := by have := hb4.size; omega
  have qz4 := fun o => cell_of hz4 o
  have fz4 := fun o => frozen_of hz4 o
  clear hb4 hz4
  go_wp2_with fail
  refine bodyPost_ret (v := .tuple #[.agg #[.int .i64 0, .bool false, .int .i64 0, .string { data := #[] }, .slice none 0 0], .int .i64 1]) (by simp [results, Tryz.results67, go_sem, qz4]) rfl (gives_flat rfl rfl (below_set5 HB4.out (Nat.le_refl _) _ _ _ _ _))
def appP (t : Nat) (g : GV → GV → GV × Int) (l : List GV) : GV × Int := if l.length = t ∧ badL l = false then g (l.headD ⟨0, false, 0, ⟨#[]⟩, []⟩) (l.getLastD ⟨0, false, 0, ⟨#[]⟩, []⟩) else noP 1
theorem apply_op (op : Int) (t : Nat) (ht : 0 < t) (f : Nat) (caps : Nat → Array Value) (K : Nat → World → Prop) (g : GV → GV → GV × Int) (l : List GV) (hll : l.length ≤ 2147483647) (fl : fitL l) (eg : ∀ (args : Array Value) (w : World), (callFunc f args).run Tryz.prog w = .ok (.enter f args) w) (hdo : ∀ h, DoC f (caps h) (K h) g)
    (hK : ∀ w0 w1 w2 : World, Tbl w0 w1 23 (opsE w0.heap.size) opsL → Below w1.heap.size w1 w2 → K w0.heap.size w2) (hlk : ∀ h, ∃ i, Instr.findNow (.int .i64) (.int .i64 op) (opsE h) 0 = some (some (i, .agg #[.int .i64 t, .func (.func f) #[] (caps h)])))
    (s : Value) (w : World) (B : Nat) (hB : B ≤ w.heap.size) (hs : isL w 0 B s l) :
    Calls Tryz.prog 67 #[.int .i64 op, s] w (GivesO w (appP t g l)) := by
  unfold appP
  by_cases hlen : l.length = t
  · cases hb : badL l
    · rw [if_pos ⟨hlen, rfl⟩]
      obtain ⟨m, hm⟩ : ∃ m, l.length = m + 1 := ⟨l.length - 1, by omega⟩
      have h0 : 0 < l.length := by omega
      have hm' : m < l.length := by omega
      refine apply_go op f caps K g l m hm _ _ ?_ ?_ hll fl hb eg hdo hK ?_ s w B hB hs
      · cases l with
        | nil => simp at h0
        | cons x r => rfl
      · rw [List.getElem?_eq_getElem hm', List.getLastD_eq_getLast?, List.getLast?_eq_getElem?]
        have e : l.length - 1 = m := by omega
        rw [e, List.getElem?_eq_getElem hm']; rfl
      · intro h; rw [hlen]; exact hlk h
    · rw [if_neg (by simp)]
      refine apply_bad op l hll fl hb f caps ?_ s w B hB hs
      intro h; rw [hlen]; exact hlk h
  · rw [if_neg (fun h => hlen h.1)]
    exact apply_len op l t f caps hlk (by simp; omega) s w B hB hs
end Go.Proofs.YtljljhjdlicfeaaGreat
namespace Go.Proofs.YtljljhjdlicfeaaGreat
open Go Go.RowKit
set_option maxRecDepth 100000
set_option linter.unusedVariables false
theorem alloc_drew_lt {w : World} {o : Obj} : w.heap.size < (w.alloc o).drew.heap.size := by
  show w.heap.size < (w.alloc o).heap.size
  simp
end Go.Proofs.YtljljhjdlicfeaaGreat
namespace Go.Proofs.YtljljhjdlicfeaaGreat
open Go Go.RowKit
set_option maxRecDepth 100000
set_option linter.unusedVariables false
set_option maxHeartbeats 1600000 in
theorem do_cmp (f : Nat) (h : Int → Bool) (eg : ∀ (args : Array Value) (w : World), (callFunc f args).run Tryz.prog w = .ok (.enter f args) w) (hh : ∀ c w, Calls Tryz.prog f #[.int .i64 c] w fun e w' => e = .returned (.bool (h c)) ∧ w' = w) (b : Nat) : DoC 110 #[.pointer (some ⟨b, 0, none⟩)] (fun w => lies w b (fn0 f) 145) (cmpP h) := by
  intro x y fx fy sx sy w B hB hx hy hl
  by_cases hc : cmpOk x y = true
  · have e : cmpP h x y = truthP (h (ordV x y)) := if_pos hc
    rw [e]
    simp only [cmpOk, Bool.and_eq_true, Bool.or_eq_true, beq_iff_eq] at hc
    obtain ⟨hk, hc⟩ := hc
    rcases hc with (hc | hc) | hc
    · exact cmp_arm2 f h eg hh b x y fx fy hc (hk ▸ hc) sx sy w B hB hx hy hl
    · exact cmp_arm3 f h eg hh b x y fx fy hc (hk ▸ hc) sx sy w B hB hx hy hl
    · exact cmp_arm1 f h eg hh b x y fx fy hc (hk ▸ hc) sx sy w B hB hx hy hl
  clear hh
  obtain ⟨ax, cx, rfl⟩ := isL_form hx
  obtain ⟨ay, cy, rfl⟩ := isL_form hy
  have HX := Lib.hid hx
  have HY := Lib.hid hy
  have HFX := Lib.hid fx
  have HFY := Lib.hid fy
  have HL := Lib.hid hl
  have hlt := lies_lt hl
  have HCC := Lib.hid hc
  clear hc
  obtain ⟨GX, hGX⟩ : ∃ G : GV, G = x := ⟨_, rfl⟩
  obtain ⟨GY, hGY⟩ : ∃ G : GV, G = y := ⟨_, rfl⟩
  rw [← hGX] at HX HFX HCC
  rw [← hGY] at HY HFY HCC
  obtain ⟨P, hP⟩ : ∃ P, P = cmpP h x y := ⟨_, rfl⟩
  rw [← hP]
  have HP := Lib.hid hP
  have HGX := Lib.hid hGX
  have HGY := Lib.hid hGY
  clear hx hy fx fy hl hP hGX hGY
  obtain ⟨kx, bx, nx, tx, lx⟩ := x
  obtain ⟨ky, by_, ny, ty, ly⟩ := y
  simp only [GV.agg]
  show Calls Tryz.prog 110 #[.agg #[.int .i64 kx, .bool bx, .int .i64 nx, .string tx, .slice ax lx.length cx], .agg #[.int .i64 ky, .bool by_, .int .i64 ny, .string ty, .slice ay ly.length cy], .pointer (some ⟨b, 0, none⟩)] w _
  go_enter Tryz.func110, Tryz.ntmps110
  go_upto_region 1 with fail
  obtain ⟨wA, hwA, hb0, h0, h1, h2, hsz⟩ := boxes3 w #[.int .i64 kx, .bool bx, .int .i64 nx, .string tx, .slice ax lx.length cx] #[.int .i64 ky, .bool by_, .int .i64 ny, .string ty, .slice ay ly.length cy] #[.int .i64 0, .bool false, .int .i64 0, .string { data := #[] }, .slice none 0 0] 36
  rw [← hwA]
  have hcz : wA.cell? ⟨b, 0, none⟩ = some (.func (.func f) #[] #[]) := (hb0.cell (p := ⟨b, 0, none⟩) hlt).trans ((cell_of HL.out 0).trans rfl)
  have HB0 := Lib.hid hb0
  have HZ := Lib.hid h2
  have q0 := fun o => cell_of h0 o
  have q1 := fun o => cell_of h1 o
  have s0 : w.heap.size < wA.heap.size := by omega
  have s1 : w.heap.size + 1 < wA.heap.size := by omega
  have s2 : w.heap.size + 2 < wA.heap.size := by omega
  have s5 : b < wA.heap.size := by omega
  clear hwA hb0 h0 h1 h2 hsz
  have hcase : (kx == ky) = false ∨ (kx = ky ∧ (kx == 2) = false ∧ (kx == 3) = false ∧ (kx == 1) = false)  := by
    cases h : (kx == ky)
    · exact .inl rfl
    · have h2 : kx = ky := by simpa using h
      have hcc := HCC.out
      rw [HGX.out, HGY.out] at hcc
      have g2 : ¬ kx = 2 := fun g => hcc (by simp [cmpOk, ← h2, g])
      have g3 : ¬ kx = 3 := fun g => hcc (by simp [cmpOk, ← h2, g])
      have g1 : ¬ kx = 1 := fun g => hcc (by simp [cmpOk, ← h2, g])
      exact .inr ⟨h2, by simpa using g2, by simpa using g3, by simpa using g1⟩
  rcases hcase with hk | hk
  · have HN : Hid (P = noP 4) := by rw [Hid, HP.out, cmpP, if_neg]; simp only [cmpOk, hk]; simp
    have hkn : (kx != ky) = true := by rw [bne, hk]; rfl
    go_wp2_with fail
    refine (no_v 4 _).mono ?_
    rintro e w2 ⟨rfl, hb2⟩
    have HB2 := Lib.hid (below_down HB0.out hb2 (Nat.le_refl _))
    have hz2 := (hb2.block (w.heap.size + 2) s2).trans HZ.out
    have s4 : w.heap.size + 2 < w2.heap.size := by have := hb2.size; omega
    have qz2 := fun o => cell_of hz2 o
    have fz2 := fun o => frozen_of hz2 o
    clear hb2 hz2 q0 q1
    go_wp2_with fail
    refine bodyPost_ret (v := .tuple #[.agg #[.int .i64 0, .bool false, .int .i64 0, .string { data := #[] }, .slice none 0 0], .int .i64 4]) (by simp [results, Tryz.results110, go_sem, qz2]) rfl (gives_flat (by rw [HN.out]; rfl) (by rw [HN.out]; rfl) (below_set5 HB2.out (by omega) _ _ _ _ _))
  · obtain ⟨rfl, g2, g3, g1⟩ := hk
    have HN : Hid (P = noP 4) := by rw [Hid, HP.out, cmpP, if_neg]; simp only [cmpOk, g1, g2, g3]; simp
    have n2 : (kx != 2) = true := by rw [bne, g2]; rfl
    have n3 : (kx != 3) = true := by rw [bne, g3]; rfl
    have n1 : (kx != 1) = true := by rw [bne, g1]; rfl
    go_wp2_with fail
    refine (no_v 4 _).mono ?_
    rintro e w2 ⟨rfl, hb2⟩
    have HB2 := Lib.hid (below_down HB0.out hb2 (Nat.le_refl _))
    have hz2 := (hb2.block (w.heap.size + 2) s2).trans HZ.out
    have s4 : w.heap.size + 2 < w2.heap.size := by have := hb2.size; omega
    have qz2 := fun o => cell_of hz2 o
    have fz2 := fun o => frozen_of hz2 o
    clear hb2 hz2 q0 q1
    go_wp2_with fail
    refine bodyPost_ret (v := .tuple #[.agg #[.int .i64 0, .bool false, .int .i64 0, .string { data := #[] }, .slice none 0 0], .int .i64 4]) (by simp [results, Tryz.results110, go_sem, qz2]) rfl (gives_flat (by rw [HN.out]; rfl) (by rw [HN.out]; rfl) (below_set5 HB2.out (by omega) _ _ _ _ _))
end Go.Proofs.YtljljhjdlicfeaaGreat
namespace Go.Proofs.YtljljhjdlicfeaaGreat
open Go Go.RowKit
set_option maxRecDepth 100000
set_option linter.unusedVariables false
def eqP (x y : GV) : GV × Int := truthP (same x y)
def neP (x y : GV) : GV × Int := truthP (!same x y)
def ltP : GV → GV → GV × Int := cmpP fun c => decide (c < 0)
def leP : GV → GV → GV × Int := cmpP fun c => decide (c ≤ 0)
def gtP : GV → GV → GV × Int := cmpP fun c => decide (0 < c)
def geP : GV → GV → GV × Int := cmpP fun c => decide (0 ≤ c)
theorem apply_eq (l : List GV) (hll : l.length ≤ 2147483647) (fl : fitL l) (s : Value) (w : World) (B : Nat) (hB : B ≤ w.heap.size) (hs : isL w 0 B s l) :
    Calls Tryz.prog 67 #[.int .i64 10, s] w (GivesO w (appP 2 eqP l)) :=
  apply_op 10 2 (by decide) 91 (fun _ => #[]) (fun _ _ => True) eqP l hll fl Tryz.call91 (fun _ => do_eq) (fun _ _ _ _ _ => trivial) (fun h => ⟨2, rfl⟩) s w B hB hs
theorem apply_ne (l : List GV) (hll : l.length ≤ 2147483647) (fl : fitL l) (s : Value) (w : World) (B : Nat) (hB : B ≤ w.heap.size) (hs : isL w 0 B s l) :
    Calls Tryz.prog 67 #[.int .i64 11, s] w (GivesO w (appP 2 neP l)) :=
  apply_op 11 2 (by decide) 92 (fun _ => #[]) (fun _ _ => True) neP l hll fl Tryz.call92 (fun _ => do_ne) (fun _ _ _ _ _ => trivial) (fun h => ⟨3, rfl⟩) s w B hB hs
theorem apply_lt (l : List GV) (hll : l.length ≤ 2147483647) (fl : fitL l) (s : Value) (w : World) (B : Nat) (hB : B ≤ w.heap.size) (hs : isL w 0 B s l) :
    Calls Tryz.prog 67 #[.int .i64 12, s] w (GivesO w (appP 2 ltP l)) :=
  apply_op 12 2 (by decide) 110 (fun h => #[.pointer (some ⟨h + 7, 0, none⟩)]) (fun h w => lies w (h + 7) (fn0 94) 145) ltP l hll fl Tryz.call110 (fun h => do_cmp 94 _ Tryz.call94 holds5 (h + 7))
    (fun w0 w1 w2 T hb => lies_below ((T.lays (7, fn0 94, 145) (by simp [opsL])).2) hb) (fun h => ⟨4, rfl⟩) s w B hB hs
theorem apply_le (l : List GV) (hll : l.length ≤ 2147483647) (fl : fitL l) (s : Value) (w : World) (B : Nat) (hB : B ≤ w.heap.size) (hs : isL w 0 B s l) :
    Calls Tryz.prog 67 #[.int .i64 13, s] w (GivesO w (appP 2 leP l)) :=
  apply_op 13 2 (by decide) 110 (fun h => #[.pointer (some ⟨h + 9, 0, none⟩)]) (fun h w => lies w (h + 9) (fn0 95) 145) leP l hll fl Tryz.call110 (fun h => do_cmp 95 _ Tryz.call95 holds6 (h + 9))
    (fun w0 w1 w2 T hb => lies_below ((T.lays (9, fn0 95, 145) (by simp [opsL])).2) hb) (fun h => ⟨5, rfl⟩) s w B hB hs
theorem apply_gt (l : List GV) (hll : l.length ≤ 2147483647) (fl : fitL l) (s : Value) (w : World) (B : Nat) (hB : B ≤ w.heap.size) (hs : isL w 0 B s l) :
    Calls Tryz.prog 67 #[.int .i64 14, s] w (GivesO w (appP 2 gtP l)) :=
  apply_op 14 2 (by decide) 110 (fun h => #[.pointer (some ⟨h + 11, 0, none⟩)]) (fun h w => lies w (h + 11) (fn0 96) 145) gtP l hll fl Tryz.call110 (fun h => do_cmp 96 _ Tryz.call96 holds7 (h + 11))
    (fun w0 w1 w2 T hb => lies_below ((T.lays (11, fn0 96, 145) (by simp [opsL])).2) hb) (fun h => ⟨6, rfl⟩) s w B hB hs
theorem apply_ge (l : List GV) (hll : l.length ≤ 2147483647) (fl : fitL l) (s : Value) (w : World) (B : Nat) (hB : B ≤ w.heap.size) (hs : isL w 0 B s l) :
    Calls Tryz.prog 67 #[.int .i64 15, s] w (GivesO w (appP 2 geP l)) :=
  apply_op 15 2 (by decide) 110 (fun h => #[.pointer (some ⟨h + 13, 0, none⟩)]) (fun h w => lies w (h + 13) (fn0 97) 145) geP l hll fl Tryz.call110 (fun h => do_cmp 97 _ Tryz.call97 holds8 (h + 13))
    (fun w0 w1 w2 T hb => lies_below ((T.lays (13, fn0 97, 145) (by simp [opsL])).2) hb) (fun h => ⟨7, rfl⟩) s w B hB hs
end Go.Proofs.YtljljhjdlicfeaaGreat
