/-
  What value.Apply tells: the refusal, or what the operation's function tells. Conditions: lists and texts shorter than 2^31.
-/
import Derived.Test.YtljljhjdlicfeaaMJ
import Derived.Test.YtljljhjdlicfeaaML
namespace Go.Proofs.Ytljljhjdlicfeaa
open Go Go.RowKit
set_option maxRecDepth 100000
set_option linter.unusedVariables false
theorem isR_set5 {w : World} {S : Nat → Prop} {s : Value} {l : List GV} (h : isR w S s l) {b : Nat} (hb : ¬ S b) (a0 a1 a2 a3 a4 : Value) : isR (((((w.setCell ⟨b, 0, none⟩ a0).setCell ⟨b, 1, none⟩ a1).setCell ⟨b, 2, none⟩ a2).setCell ⟨b, 3, none⟩ a3).setCell ⟨b, 4, none⟩ a4) S s l :=
  isR_setCell (p := ⟨b, 4, none⟩) (isR_setCell (p := ⟨b, 3, none⟩) (isR_setCell (p := ⟨b, 2, none⟩) (isR_setCell (p := ⟨b, 1, none⟩) (isR_setCell (p := ⟨b, 0, none⟩) h hb _) hb _) hb _) hb _) hb _
/-- the answer, laid into a result's box -/
theorem gives_box {w w1 w2 : World} {b : Nat} {r : GV × Int} {a : Option Addr} {c : Nat} (hr : isR w2 (since w1.heap.size w2) (.slice a r.1.l.length c) r.1.l) (hb : Below w.heap.size w w2) (h1 : w.heap.size ≤ w1.heap.size) (hlo : w.heap.size ≤ b) (hlt : b < w1.heap.size) (a0 a1 a2 a3 a4 : Value) :
    GivesO w r (.returned (.tuple #[r.1.agg (.slice a r.1.l.length c), .int .i64 r.2])) (((((w2.setCell ⟨b, 0, none⟩ a0).setCell ⟨b, 1, none⟩ a1).setCell ⟨b, 2, none⟩ a2).setCell ⟨b, 3, none⟩ a3).setCell ⟨b, 4, none⟩ a4) :=
  ⟨a, c, rfl, isR_sub (isR_set5 hr (b := b) (fun h => absurd h.1 (by omega)) a0 a1 a2 a3 a4) (fun x hx => ⟨Nat.le_trans h1 hx.1, by simpa using hx.2⟩), below_set5 hb hlo a0 a1 a2 a3 a4⟩
theorem oinfo : (Try.prog.info? 72).map (fun i => (i.zero, i.size, i.bytes)) = some (some (.agg #[.int .i64 0, .nilFunc]), 2, 16) := by kernel_rfl
theorem lookup_none (w : World) (b : Nat) (es : Array MapEntry) (clock : Nat) (hh : w.heap[b]? = some (.map es clock)) (n : Int) (hf : Instr.findNow (.int .i64) (.int .i64 n) es.toList 0 = some none) :
    (Instr.lookup 74 (.map (some b)) (.int .i64 n) true).run Try.prog w = .ok (.tuple #[.agg #[.int .i64 0, .nilFunc], .bool false]) w := by
  have hc : ∀ e, (Instr.checkKey e 10000 3 (.int .i64 n)).run Try.prog w = .ok () w := fun e => MapKept.run_checkKey (k := .int .i64 n) Try.underlying3 (by simp [MapKept.IsKey]) e 9999
  obtain ⟨i0, hi, hz0, _, _⟩ := info_parts oinfo
  have hz : (zeroValue 72).run Try.prog w = .ok (.agg #[.int .i64 0, .nilFunc]) w := by simp [zeroValue, typeInfo, hi, hz0]
  simp [Instr.lookup, run_underlying Try.underlying74, MapKept.run_getObj_map hh, hc, MapKept.run_findKey Try.underlying3 hf, Result.andThen, hz]
set_option maxHeartbeats 1600000 in
theorem apply_go (op : Int) (f : Nat) (caps : Nat → Array Value) (K : Nat → World → Prop) (g : GV → GV → GV × Int) (l : List GV) (m : Nat) (hm : l.length = m + 1) (x y : GV) (hx0 : l[0]? = some x) (hym : l[m]? = some y) (hll : l.length ≤ 2147483647) (fl : fitL l) (hbad : badL l = false) (eg : ∀ (args : Array Value) (w : World), (callFunc f args).run Try.prog w = .ok (.enter f args) w) (hdo : ∀ h, DoC f (caps h) (K h) g)
    (hK : ∀ w0 w1 w2 : World, Tbl w0 w1 23 (opsE w0.heap.size) opsL → Below w1.heap.size w1 w2 → K w0.heap.size w2) (hlk : ∀ h, ∃ i, Instr.findNow (.int .i64) (.int .i64 op) (opsE h) 0 = some (some (i, .agg #[.int .i64 l.length, .func (.func f) #[] (caps h)])))
    (s : Value) (w : World) (B : Nat) (hB : B ≤ w.heap.size) (hs : isL w 0 B s l) :
    Calls Try.prog 11 #[.int .i64 op, s] w (GivesO w (g x y)) := by
  have hl0 : 0 < l.length := by omega
  have HM := Lib.hid hm
  have HX0 := Lib.hid hx0
  have HYM := Lib.hid hym
  obtain ⟨a, c, bb, off, rfl, hc, ha, hA⟩ := isL_open hs
  have HS := Lib.hid hs
  have HFL := Lib.hid fl
  have HA := Lib.hid hA
  have HBAD := Lib.hid hbad
  have HDO := Lib.hid hdo
  have HKK := Lib.hid hK
  have HLK := Lib.hid hlk
  obtain ⟨rfl, hb1, hb1'⟩ := ha hl0
  clear fl hs hA hbad hdo hK hlk ha hx0 hym
  clear hm
  go_enter Try.func11, Try.ntmps11
  go_wp2_with fail
  obtain ⟨w0, hw0⟩ : ∃ w0, w0 = w.alloc (.cells #[.int .i64 0, .bool false, .int .i64 0, .string { data := #[] }, .slice none 0 0] 35) := ⟨_, rfl⟩
  have hb0 : Below w.heap.size w w0 := by rw [hw0]; exact (Below.refl _ _).alloc (Nat.le_refl _) _
  have hz0 : w0.heap[w.heap.size]? = some (.cells #[.int .i64 0, .bool false, .int .i64 0, .string { data := #[] }, .slice none 0 0] 35 (0, 0)) := by rw [hw0]; exact heap_last
  have hs0 : w0.heap.size = w.heap.size + 1 := by rw [hw0]; simp
  rw [← hw0]
  have HB0 := Lib.hid hb0
  have HZ0 := Lib.hid hz0
  clear hw0 hb0 hz0
  refine (operations_any w0).mono ?_
  rintro e w1 ⟨rfl, S⟩
  obtain ⟨i, hlk⟩ := HLK.out w0.heap.size
  have hlk := lookup_run w1 w0.heap.size _ _ S.map op i _ hlk
  have HS1 := Lib.hid S
  have HB1 := Lib.hid (below_down HB0.out S.below (Nat.le_refl _))
  have HZ1 := Lib.hid ((S.below.block w.heap.size (by omega)).trans HZ0.out)
  have hs1 := S.size
  obtain ⟨cp, hcp⟩ : ∃ cp, cp = caps w0.heap.size := ⟨_, rfl⟩
  rw [← hcp] at hlk
  rw [hs0] at hlk
  have HCP := Lib.hid hcp
  clear S hcp
  go_wp2_with fail
  obtain ⟨w2, hw2⟩ : ∃ w2, w2 = w1.alloc (.cells #[.int .i64 l.length, .func (.func f) #[] cp] 72) := ⟨_, rfl⟩
  have hb2 : Below w1.heap.size w1 w2 := by rw [hw2]; exact (Below.refl _ _).alloc (Nat.le_refl _) _
  have ho2 : w2.heap[w1.heap.size]? = some (.cells #[.int .i64 l.length, .func (.func f) #[] cp] 72 (0, 0)) := by rw [hw2]; exact heap_last
  have hs2 : w2.heap.size = w1.heap.size + 1 := by rw [hw2]; simp
  rw [← hw2]
  have HB2 := Lib.hid (below_down HB1.out hb2 (Nat.le_refl _))
  have HT2 := Lib.hid hb2
  have HZ2 := Lib.hid ((hb2.block w.heap.size (by omega)).trans HZ1.out)
  have HO2 := Lib.hid ho2
  clear hw2 hb2 ho2 hlk
  refine (contains_any l hll HFL.out (.slice (some ⟨bb, off, none⟩) l.length c) w2 B (Nat.le_trans hB HB2.out.size) (isL_below HS.out HB2.out hB)).mono ?_
  rintro e w3 ⟨rfl, hb3⟩
  rw [HBAD.out]
  have HB3 := Lib.hid (below_down HB2.out hb3 (Nat.le_refl _))
  have HT3 := Lib.hid (below_down HT2.out hb3 (Nat.le_refl _))
  have HZ3 := Lib.hid ((hb3.block w.heap.size (by omega)).trans HZ2.out)
  have ho3 := (hb3.block w1.heap.size (by omega)).trans HO2.out
  rw [show w1.heap.size = w.heap.size + 1 + 23 by omega] at ho3
  have hs3 := hb3.size
  have qo := fun o => cell_of ho3 o
  have HKW := Lib.hid (HKK.out w0 w1 w3 HS1.out HT3.out)
  have hm := HM.out
  have hm0 : m < l.length := by omega
  have hvx := HA.out 0 hl0
  have hvy := HA.out m hm0
  have ex0 : l[0] = x := (List.getElem?_eq_some_iff.1 HX0.out).2
  have eym : l[m] = y := (List.getElem?_eq_some_iff.1 HYM.out).2
  rw [ex0] at hvx
  rw [eym] at hvy
  obtain ⟨ax, cx, x0, x1, x2, x3, x4, hsx⟩ := cellsV_slice hvx
  obtain ⟨ay, cy, y0, y1, y2, y3, y4, hsy⟩ := cellsV_slice hvy
  simp only [Nat.zero_mul, Nat.add_zero] at x0 x1 x2 x3 x4
  have hgr : ∀ o, w3.cell? ⟨bb, o, none⟩ = w.cell? ⟨bb, o, none⟩ := fun o => HB3.out.cell (p := ⟨bb, o, none⟩) (Nat.lt_of_lt_of_le hb1' hB)
  have Hsx := Lib.hid hsx
  have Hsy := Lib.hid hsy
  have HFX : Hid x.fit := by rw [Hid, ← ex0]; exact fitL_mem HFL.out _ (List.getElem_mem hl0)
  have HFY : Hid y.fit := by rw [Hid, ← eym]; exact fitL_mem HFL.out _ (List.getElem_mem hm0)
  have z1 : bb < w3.heap.size := by have := HB3.out.size; omega
  have z2 : w.heap.size + 1 + 23 < w3.heap.size := by omega
  have z3 : w.heap.size < w3.heap.size := by omega
  have i1 : IntKind.i64.wrap (m : Int) = (m : Int) := IntWalk.i64_in _ (by omega)
  have i3 : (l.length : Int) - 1 = (m : Int) := by omega
  have i4 : (m : Int) < (l.length : Int) := by omega
  have i5 : (0 : Int) < (l.length : Int) := by omega
  have i6 : (0 : Int) ≤ (m : Int) := by omega
  have i7 : ((m : Int)).toNat = m := by omega
  have i8 : decide (1 ≤ l.length) = true := by simp; omega
  have i9 : 1 ≤ l.length := by omega
  clear ex0 eym hvx hvy HX0 HYM hsx hsy HA hs1 hs2 hs3 hs0 hm
  have HC : Hid (∀ w4, Below w3.heap.size w3 w4 → Calls Try.prog f (#[.agg #[.int .i64 x.k, .bool x.b, .int .i64 x.n, .string x.t, .slice ax x.l.length cx], .agg #[.int .i64 y.k, .bool y.b, .int .i64 y.n, .string y.t, .slice ay y.l.length cy]] ++ cp) w4 (GivesO w4 (g x y))) := by
    intro w4 h4
    have hb4 := below_down HB3.out h4 (Nat.le_refl _)
    rw [HCP.out]
    exact HDO.out _ x y HFX.out HFY.out (.slice ax x.l.length cx) (.slice ay y.l.length cy) w4 B (Nat.le_trans hB hb4.size) (isL_below Hsx.out hb4 hB) (isL_below Hsy.out hb4 hB) (HKK.out w0 w1 w4 HS1.out (below_down HT3.out h4 (Nat.le_refl _)))
  clear HKK HDO HLK HKW HCP HFX HFY HFL HS HBAD HO2 HZ2 HZ1 HZ0
  go_wp2_with fail
  go_region_law (first
    | (go_simp
       refine (HC.out _ (Below.refl _ _).drew).mono ?_
       rintro e w5 hgv
       obtain ⟨ar, cr, rfl, hr, hb5⟩ := hgv
       have hb5' : Below w3.heap.size w3 w5 := (Below.refl w3.heap.size w3).drew.trans hb5
       have hz5 := (hb5'.block w.heap.size (by omega)).trans HZ3.out
       have HB5 := Lib.hid (below_down HB3.out hb5' (Nat.le_refl _))
       have HR5 := Lib.hid hr
       have q5 := fun o => cell_of hz5 o
       have f5 := fun o => frozen_of hz5 o
       have hs5 : w.heap.size < w5.heap.size := by have := hb5'.size; omega
       have hle5 : w.heap.size ≤ w3.heap.size := by omega
       simp only [GV.agg]
       clear hb5 hb5' hz5 hr))
  all_goals
    go_wp2_with fail
    refine bodyPost_ret (v := .tuple #[.agg #[.int .i64 (g x y).1.k, .bool (g x y).1.b, .int .i64 (g x y).1.n, .string (g x y).1.t, .slice ar (g x y).1.l.length cr], .int .i64 (g x y).2]) (by simp [results, Try.results11, go_sem, q5]) rfl (gives_box (w1 := w3) HR5.out HB5.out hle5 (Nat.le_refl _) (by omega) _ _ _ _ _)
end Go.Proofs.Ytljljhjdlicfeaa
