/-
  What the writer's expr writes: compE. Conditions: fewer than 2^31 instructions.
-/
import Derived.Test.YtljljhjdlicfeaaGreatPAB
import Derived.Deep.DeepCutAuto
import Derived.Deep.CutBlock
namespace Go.Proofs.YtljljhjdlicfeaaGreat
open Go Go.RowKit
set_option maxRecDepth 100000
set_option linter.unusedVariables false
def ExprPost (l : List GI) (wb base : Nat) (ob : Option Nat) (w : World) (e : Ending) (w' : World) : Prop := e = .returned (.tuple #[]) ∧ ∃ ob', St w' wb base l ob' ∧ Grow (· = wb) ob ob' w w'
def ExprC (x : GE) : Prop := ∀ (l : List GI) (wb base : Nat) (ob : Option Nat) (s sa : Value) (w : World) (B : Nat), l.length + 3 * x.size ≤ 2147483640 → B ≤ wb → St w wb base l ob →
  isL w 0 B s x.v.l → isX w B sa x.args → Calls Tryz.prog 22 #[.pointer (some ⟨wb, 0, none⟩), x.agg s sa] w (ExprPost (l ++ compE x l.length) wb base ob w)
theorem isL_grow {w w' : World} {B wb base : Nat} {X : List GI} {ob ob' : Option Nat} {s : Value} {l : List GV} (h : isL w 0 B s l) (hB : B ≤ wb) (hst : St w wb base X ob) (hg : Grow (· = wb) ob ob' w w') : isL w' 0 B s l := by
  have hs := hst
  obtain ⟨v, h1, h2, h3, h4, h5⟩ := hst
  exact isL_below h (hg.below (B := wb) (by omega) (fun k hk => by omega) (fun g hg' => by have := (hs.lt hg').1; omega)) hB
theorem isX_grow {w w' : World} {B wb base : Nat} {X : List GI} {ob ob' : Option Nat} {s : Value} {l : List GE} (h : isX w B s l) (hB : B ≤ wb) (hst : St w wb base X ob) (hg : Grow (· = wb) ob ob' w w') : isX w' B s l := by
  have hs := hst
  obtain ⟨v, h1, h2, h3, h4, h5⟩ := hst
  exact isX_below h (hg.below (B := wb) (by omega) (fun k hk => by omega) (fun g hg' => by have := (hs.lt hg').1; omega)) hB
set_option maxHeartbeats 3200000 in
theorem expr_leaf (x : GE) (fx : x.fit) (hop : x.op = 1 ∨ x.op = 2 ∨ x.op = 3) : ExprC x := by
  intro l wb base ob s sa w B hl hB hst hs hsa
  obtain ⟨aa, ca, ea⟩ := isE_form hsa
  obtain ⟨a, c, e⟩ := isL_form hs
  subst e ea
  have HS := Lib.hid hs
  have HST := Lib.hid hst
  have hlen : l.length ≤ 2147483647 := by omega
  have hx := fitE_open fx
  have HX := Lib.hid hx
  have HE := Lib.hid (compE_eq x l.length)
  have hwb : wb < base ∧ base ≤ w.heap.size := by obtain ⟨v, h1, h2, h3, h4, h5⟩ := hst; exact ⟨h4, h5⟩
  have HW := Lib.hid hwb
  have HLT := Lib.hid (fun g (hg : ob = some g) => (hst.lt hg))
  clear hs hsa hst fx hx hwb
  simp only [GE.agg]
  have hb0 : Below w.heap.size w (w.alloc (.cells #[.int .i64 x.op, .string x.text, .int .i64 x.v.k, .bool x.v.b, .int .i64 x.v.n, .string x.v.t, .slice a x.v.l.length c, .slice aa x.args.length ca] 38)) := (Below.refl w.heap.size w).alloc (Nat.le_refl _) _
  have HB0 := Lib.hid hb0
  clear hb0
  rcases hop with h | h | h
  · have e1 : (x.op == 1) = true := by simp [h]
    have H := Lib.hid h
    clear h
    go_enter Tryz.func22, Tryz.ntmps22
    go_wp2_with fail
    refine (cCopied_any x.v HX.out.2.2.2.1 _ _ B (Nat.le_trans hB (by have := HW.out; simp; omega)) (isL_below HS.out HB0.out (by have := HW.out; omega))).mono ?_
    rintro e w1 ⟨a1, c1, rfl, hr, hb⟩
    have hb1 := HB0.out.trans (hb.mono HB0.out.size)
    have HR := Lib.hid hr
    have HB1 := Lib.hid hb1
    clear hr hb hb1
    simp only [GV.agg]
    go_wp2_with fail
    refine (put_any l (gi 0 0 ByteArray.empty x.v) hlen wb base ob _ _ (HST.out.keep HB1.out) (inner_of_isR HR.out fun b hb => ⟨?_, hb.2, ?_⟩)).mono ?_
    · have := hb.1; have := HB0.out.size; have := HW.out; omega
    · intro e; have := HLT.out b e.symm; have := hb.1; have := HB0.out.size; omega
    rintro e w2 ⟨rfl, ob', hst', hgr⟩
    go_wp2_with fail
    go_end0
    refine ⟨rfl, ob', ?_, (Grow.of_below HB1.out).trans hgr⟩
    rw [HE.out, if_pos H.out]
    exact hst'
  · have e1 : (x.op == 1) = false := by simp [h]
    have e2 : (x.op == 2) = true := by simp [h]
    have H := Lib.hid h
    clear h
    go_enter Tryz.func22, Tryz.ntmps22
    go_wp2_with fail
    refine (put_any l (gi 1 0 x.text noV) hlen wb base ob _ _ (HST.out.keep HB0.out) inner_nil).mono ?_
    rintro e w2 ⟨rfl, ob', hst', hgr⟩
    go_wp2_with fail
    go_end0
    refine ⟨rfl, ob', ?_, (Grow.of_below HB0.out).trans hgr⟩
    rw [HE.out, H.out]
    exact hst'
  · have e1 : (x.op == 1) = false := by simp [h]
    have e2 : (x.op == 2) = false := by simp [h]
    have e3 : (x.op == 3) = true := by simp [h]
    have H := Lib.hid h
    clear h
    go_enter Tryz.func22, Tryz.ntmps22
    go_wp2_with fail
    refine (put_any l (gi 2 0 x.text noV) hlen wb base ob _ _ (HST.out.keep HB0.out) inner_nil).mono ?_
    rintro e w2 ⟨rfl, ob', hst', hgr⟩
    go_wp2_with fail
    go_end0
    refine ⟨rfl, ob', ?_, (Grow.of_below HB0.out).trans hgr⟩
    rw [HE.out, H.out]
    exact hst'
theorem box_keep {w w' : World} {o : Obj} {wb base : Nat} {l : List GI} {ob ob' : Option Nat} (hst : St w wb base l ob) (hg : Grow (· = wb) ob ob' (w.alloc o) w') : w'.heap[w.heap.size]? = some o := by
  have hlt := fun g hg => hst.lt (g := g) hg
  obtain ⟨v, h1, h2, h3, h4, h5⟩ := hst
  rw [hg.block w.heap.size (by simp) (by omega) (fun e => by have := (hlt _ e.symm).2; omega), heap_last]
theorem row_keep {w w' : World} {o : Obj} {wb base B b : Nat} {l : List GI} {ob ob' : Option Nat} (hst : St w wb base l ob) (hg : Grow (· = wb) ob ob' (w.alloc o) w') (hB : B ≤ wb) (hb : b < B) (k : Nat) : w'.cell? ⟨b, k, none⟩ = w.cell? ⟨b, k, none⟩ := by
  have hlt := fun g hg => hst.lt (g := g) hg
  obtain ⟨v, h1, h2, h3, h4, h5⟩ := hst
  refine World.cell?_of_block ?_
  show w'.heap[b]? = w.heap[b]?
  rw [hg.block b (by simp; omega) (by omega) (fun e => by have := (hlt _ e.symm).1; omega), Below.heap_alloc _ _ _ (by omega)]
theorem set_mid {α : Type} (A r : List α) (x : α) (k : Nat) (hk : k = A.length) (f : α → α) (h : k < (A ++ x :: r).length) : (A ++ x :: r).set k (f ((A ++ x :: r)[k])) = A ++ f x :: r := by
  subst hk
  simp
theorem two_law (l cy cz : List GI) (t : GI) (op : Int) (k n : Nat) (hk : k = ((l ++ cy) ++ [t]).length) (h : k < (((((l ++ cy) ++ [t]) ++ [jmp op]) ++ cz) ++ [t]).length) :
    (((((l ++ cy) ++ [t]) ++ [jmp op]) ++ cz) ++ [t]).set k { (((((l ++ cy) ++ [t]) ++ [jmp op]) ++ cz) ++ [t])[k] with arg := (n : Int) } = l ++ ((cy ++ [t]) ++ (gi op n ByteArray.empty noV :: (cz ++ [t]))) := by
  have e : (((((l ++ cy) ++ [t]) ++ [jmp op]) ++ cz) ++ [t]) = ((l ++ cy) ++ [t]) ++ (jmp op :: (cz ++ [t])) := by simp
  have := set_mid ((l ++ cy) ++ [t]) (cz ++ [t]) (jmp op) k hk (fun y => { y with arg := (n : Int) }) (by rw [← e]; exact h)
  simp only [e, this]
  simp [jmp, gi, noV]
set_option maxHeartbeats 6400000 in
theorem expr_two (x y z : GE) (fx : x.fit) (hop : x.op = 8 ∨ x.op = 9) (ha2 : x.args = [y, z]) (hy : ExprC y) (hz : ExprC z) : ExprC x := by
  intro l wb base ob s sa w B hl hB hst hs hsa
  have hsz : x.size = y.size + z.size + 1 := by rw [size_args, ha2]; simp [sizeE]
  obtain ⟨aa, ca, bb, off, rfl, hc, ha, hA⟩ := isX_open hsa
  obtain ⟨a, c, rfl⟩ := isL_form hs
  have hA0 := hA 0 (by rw [ha2]; simp)
  have hA1 := hA 1 (by rw [ha2]; simp)
  obtain ⟨rfl, hbB⟩ := ha (by rw [ha2]; simp)
  have g0 : x.args[0]'(by rw [ha2]; simp) = y := by simp [ha2]
  have g1 : x.args[1]'(by rw [ha2]; simp) = z := by simp [ha2]
  have g2 : x.args.length = 2 := by simp [ha2]
  rw [g0] at hA0
  rw [g1] at hA1
  obtain ⟨ay, cy, aay, cay, y0, y1, y2, y3, y4, y5, y6, y7, ys, ysa⟩ := cellsE_open hA0
  obtain ⟨az, cz, aaz, caz, z0, z1, z2, z3, z4, z5, z6, z7, zs, zsa⟩ := cellsE_open hA1
  rw [g2] at hc ⊢
  simp only [Nat.zero_mul, Nat.one_mul, Nat.add_zero] at y0 y1 y2 y3 y4 y5 y6 y7 z0 z1 z2 z3 z4 z5 z6 z7
  have HYS := Lib.hid (And.intro ys ysa)
  have HZS := Lib.hid (And.intro zs zsa)
  have HST := Lib.hid hst
  have HE := Lib.hid (compE_eq x l.length)
  have HA2 := Lib.hid ha2
  have HY := Lib.hid hy
  have HZ := Lib.hid hz
  have HZ0 := Lib.hid (And.intro z0 (And.intro z1 (And.intro z2 (And.intro z3 (And.intro z4 (And.intro z5 (And.intro z6 z7)))))))
  have hwb : wb < base ∧ base ≤ w.heap.size := by obtain ⟨v, h1, h2, h3, h4, h5⟩ := hst; exact ⟨h4, h5⟩
  have HW := Lib.hid hwb
  have hbw : bb < w.heap.size := by omega
  have hBw : B ≤ w.heap.size := by omega
  have hly := compE_len y l.length
  have hlz := compE_len z (l.length + (compE y l.length).length + 1 + 1)
  clear hs hsa hst fx hwb hA hA0 hA1 g0 g1 ys ysa zs zsa ha2 hy hz ha z0 z1 z2 z3 z4 z5 z6 z7
  simp only [GE.agg]
  have hb0 : Below w.heap.size w (w.alloc (.cells #[.int .i64 x.op, .string x.text, .int .i64 x.v.k, .bool x.v.b, .int .i64 x.v.n, .string x.v.t, .slice a x.v.l.length c, .slice (some ⟨bb, off, none⟩) 2 ca] 38)) := (Below.refl w.heap.size w).alloc (Nat.le_refl _) _
  have HB0 := Lib.hid hb0
  clear hb0
  have e1 : (x.op == 1) = false := by rcases hop with h | h <;> simp [h]
  have e2 : (x.op == 2) = false := by rcases hop with h | h <;> simp [h]
  have e3 : (x.op == 3) = false := by rcases hop with h | h <;> simp [h]
  rcases hop with h | h
  · have e8 : (x.op == 8) = true := by simp [h]
    have e9 : (x.op == 9) = false := by simp [h]
    have H := Lib.hid h
    clear h
    go_enter Tryz.func22, Tryz.ntmps22
    go_wp2_with fail
    refine (HY.out l wb base ob _ _ _ B (by omega) hB (HST.out.keep HB0.out) (isL_below HYS.out.1 HB0.out hBw) (isX_below HYS.out.2 HB0.out hBw)).mono ?_
    rintro e w1 ⟨rfl, o1, hst1, hg1⟩
    have HST1 := Lib.hid hst1
    have HG1 := Lib.hid hg1
    clear hst1 hg1
    go_wp2_with fail
    refine (put_any _ (gi 6 0 ByteArray.empty noV) ?_ wb base o1 _ _ HST1.out inner_nil).mono ?_
    · rw [List.length_append]; omega
    rintro e w2 ⟨rfl, o2, hst2, hg2⟩
    have HST2 := Lib.hid hst2
    have HG2 := Lib.hid (HG1.out.trans hg2)
    clear hst2 hg2 HG1 HST1
    go_wp2_with fail
    refine (jump_any _ 7 ?_ wb base o2 _ HST2.out).mono ?_
    · rw [List.length_append, List.length_append]; simp only [List.length_cons, List.length_nil]; omega
    rintro e w3 ⟨o3, c1, c2, rfl, hst3, hg3, k1, k2, k3, k4, k5, k6⟩
    have HST3 := Lib.hid hst3
    have HG3 := Lib.hid (HG2.out.trans hg3)
    have HK := Lib.hid (And.intro k1 (And.intro k2 (And.intro k5 k6)))
    have hw2 : wb < w2.heap.size := by obtain ⟨v, h1, h2, h3, h4, h5⟩ := HST2.out; omega
    have HN := Lib.hid (show c1 ≠ wb ∧ c2 ≠ wb from by omega)
    clear hst3 hg3 HG2 HST2 k1 k2 k3 k4 k5 k6 hw2
    have q3 := fun k => cell_of (box_keep HST.out HG3.out) k
    have r3 := fun k => row_keep HST.out HG3.out hB hbB k
    obtain ⟨z0, z1, z2, z3, z4, z5, z6, z7⟩ := HZ0.out
    go_wp2_with fail
    have hl3 : (((l ++ compE y l.length) ++ [gi 6 0 ByteArray.empty noV]) ++ [jmp 7]).length = l.length + (compE y l.length).length + 1 + 1 := by simp; omega
    refine (HZ.out _ wb base o3 _ _ _ B ?_ hB HST3.out (isL_grow (isL_below HZS.out.1 HB0.out hBw) hB (HST.out.keep HB0.out) HG3.out) (isX_grow (isX_below HZS.out.2 HB0.out hBw) hB (HST.out.keep HB0.out) HG3.out)).mono ?_
    · rw [hl3]; omega
    rw [hl3]
    rintro e w4 ⟨rfl, o4, hst4, hg4⟩
    have HST4 := Lib.hid hst4
    have HG4 := Lib.hid hg4
    clear hst4 hg4 HST3 q3 r3 z0 z1 z2 z3 z4 z5 z6 z7
    go_wp2_with fail
    refine (put_any _ (gi 6 0 ByteArray.empty noV) ?_ wb base o4 _ _ HST4.out inner_nil).mono ?_
    · rw [List.length_append, hl3]; omega
    rintro e w5 ⟨rfl, o5, hst5, hg5⟩
    have hg35 := HG4.out.trans hg5
    have HST5 := Lib.hid hst5
    have HG5 := Lib.hid hg35
    have hc1 : c1 < w3.heap.size := lt_of_block HK.out.1
    have hc2 : c2 < w3.heap.size := lt_of_block HK.out.2.1
    have p1 := hg35.block c1 hc1 HN.out.1 HK.out.2.2.1
    have p2 := hg35.block c2 hc2 HN.out.2 HK.out.2.2.2
    rw [HK.out.1] at p1
    rw [HK.out.2.1] at p2
    have HP := Lib.hid (And.intro p1 p2)
    have hk5 : ((l ++ compE y l.length) ++ [gi 6 0 ByteArray.empty noV]).length < (((((l ++ compE y l.length) ++ [gi 6 0 ByteArray.empty noV]) ++ [jmp 7]) ++ compE z (l.length + (compE y l.length).length + 1 + 1)) ++ [gi 6 0 ByteArray.empty noV]).length := by simp
    have hl5 : (((((l ++ compE y l.length) ++ [gi 6 0 ByteArray.empty noV]) ++ [jmp 7]) ++ compE z (l.length + (compE y l.length).length + 1 + 1)) ++ [gi 6 0 ByteArray.empty noV]).length = l.length + (compE y l.length).length + 1 + 1 + (compE z (l.length + (compE y l.length).length + 1 + 1)).length + 1 := by simp; omega
    clear hst5 hg5 hg35 HST4 HG4 p1 p2
    go_wp2_with fail
    refine (end_any _ _ hk5 (by rw [hl5]; omega) wb base c1 c2 o5 _ HST5.out HP.out.1 HP.out.2).mono ?_
    rintro e w6 ⟨rfl, hst6, hg6⟩
    go_wp2_with fail
    go_end0
    refine ⟨rfl, o5, ?_, (Grow.of_below HB0.out).trans ((HG3.out.trans HG5.out).trans hg6)⟩
    rw [two_law _ _ _ _ _ _ _ rfl, hl5] at hst6
    rw [HE.out, if_neg (by rw [H.out]; decide), if_neg (by rw [H.out]; decide), if_neg (by rw [H.out]; decide), if_pos (by rw [H.out]; decide), HA2.out, compTwo_eq, H.out]
    exact hst6
  · have e8 : (x.op == 8) = false := by simp [h]
    have e9 : (x.op == 9) = true := by simp [h]
    have H := Lib.hid h
    clear h
    go_enter Tryz.func22, Tryz.ntmps22
    go_wp2_with fail
    refine (HY.out l wb base ob _ _ _ B (by omega) hB (HST.out.keep HB0.out) (isL_below HYS.out.1 HB0.out hBw) (isX_below HYS.out.2 HB0.out hBw)).mono ?_
    rintro e w1 ⟨rfl, o1, hst1, hg1⟩
    have HST1 := Lib.hid hst1
    have HG1 := Lib.hid hg1
    clear hst1 hg1
    go_wp2_with fail
    refine (put_any _ (gi 6 0 ByteArray.empty noV) ?_ wb base o1 _ _ HST1.out inner_nil).mono ?_
    · rw [List.length_append]; omega
    rintro e w2 ⟨rfl, o2, hst2, hg2⟩
    have HST2 := Lib.hid hst2
    have HG2 := Lib.hid (HG1.out.trans hg2)
    clear hst2 hg2 HG1 HST1
    go_wp2_with fail
    refine (jump_any _ 8 ?_ wb base o2 _ HST2.out).mono ?_
    · rw [List.length_append, List.length_append]; simp only [List.length_cons, List.length_nil]; omega
    rintro e w3 ⟨o3, c1, c2, rfl, hst3, hg3, k1, k2, k3, k4, k5, k6⟩
    have HST3 := Lib.hid hst3
    have HG3 := Lib.hid (HG2.out.trans hg3)
    have HK := Lib.hid (And.intro k1 (And.intro k2 (And.intro k5 k6)))
    have hw2 : wb < w2.heap.size := by obtain ⟨v, h1, h2, h3, h4, h5⟩ := HST2.out; omega
    have HN := Lib.hid (show c1 ≠ wb ∧ c2 ≠ wb from by omega)
    clear hst3 hg3 HG2 HST2 k1 k2 k3 k4 k5 k6 hw2
    have q3 := fun k => cell_of (box_keep HST.out HG3.out) k
    have r3 := fun k => row_keep HST.out HG3.out hB hbB k
    obtain ⟨z0, z1, z2, z3, z4, z5, z6, z7⟩ := HZ0.out
    go_wp2_with fail
    have hl3 : (((l ++ compE y l.length) ++ [gi 6 0 ByteArray.empty noV]) ++ [jmp 8]).length = l.length + (compE y l.length).length + 1 + 1 := by simp; omega
    refine (HZ.out _ wb base o3 _ _ _ B ?_ hB HST3.out (isL_grow (isL_below HZS.out.1 HB0.out hBw) hB (HST.out.keep HB0.out) HG3.out) (isX_grow (isX_below HZS.out.2 HB0.out hBw) hB (HST.out.keep HB0.out) HG3.out)).mono ?_
    · rw [hl3]; omega
    rw [hl3]
    rintro e w4 ⟨rfl, o4, hst4, hg4⟩
    have HST4 := Lib.hid hst4
    have HG4 := Lib.hid hg4
    clear hst4 hg4 HST3 q3 r3 z0 z1 z2 z3 z4 z5 z6 z7
    go_wp2_with fail
    refine (put_any _ (gi 6 0 ByteArray.empty noV) ?_ wb base o4 _ _ HST4.out inner_nil).mono ?_
    · rw [List.length_append, hl3]; omega
    rintro e w5 ⟨rfl, o5, hst5, hg5⟩
    have hg35 := HG4.out.trans hg5
    have HST5 := Lib.hid hst5
    have HG5 := Lib.hid hg35
    have hc1 : c1 < w3.heap.size := lt_of_block HK.out.1
    have hc2 : c2 < w3.heap.size := lt_of_block HK.out.2.1
    have p1 := hg35.block c1 hc1 HN.out.1 HK.out.2.2.1
    have p2 := hg35.block c2 hc2 HN.out.2 HK.out.2.2.2
    rw [HK.out.1] at p1
    rw [HK.out.2.1] at p2
    have HP := Lib.hid (And.intro p1 p2)
    have hk5 : ((l ++ compE y l.length) ++ [gi 6 0 ByteArray.empty noV]).length < (((((l ++ compE y l.length) ++ [gi 6 0 ByteArray.empty noV]) ++ [jmp 8]) ++ compE z (l.length + (compE y l.length).length + 1 + 1)) ++ [gi 6 0 ByteArray.empty noV]).length := by simp
    have hl5 : (((((l ++ compE y l.length) ++ [gi 6 0 ByteArray.empty noV]) ++ [jmp 8]) ++ compE z (l.length + (compE y l.length).length + 1 + 1)) ++ [gi 6 0 ByteArray.empty noV]).length = l.length + (compE y l.length).length + 1 + 1 + (compE z (l.length + (compE y l.length).length + 1 + 1)).length + 1 := by simp; omega
    clear hst5 hg5 hg35 HST4 HG4 p1 p2
    go_wp2_with fail
    refine (end_any _ _ hk5 (by rw [hl5]; omega) wb base c1 c2 o5 _ HST5.out HP.out.1 HP.out.2).mono ?_
    rintro e w6 ⟨rfl, hst6, hg6⟩
    go_wp2_with fail
    go_end0
    refine ⟨rfl, o5, ?_, (Grow.of_below HB0.out).trans ((HG3.out.trans HG5.out).trans hg6)⟩
    rw [two_law _ _ _ _ _ _ _ rfl, hl5] at hst6
    rw [HE.out, if_neg (by rw [H.out]; decide), if_neg (by rw [H.out]; decide), if_neg (by rw [H.out]; decide), if_pos (by rw [H.out]; decide), HA2.out, compTwo_eq, H.out]
    exact hst6
end Go.Proofs.YtljljhjdlicfeaaGreat
namespace Go.Proofs.YtljljhjdlicfeaaGreat
open Go Go.RowKit
set_option maxRecDepth 100000
set_option linter.unusedVariables false
theorem sizeE_take : ∀ (l : List GE) (k : Nat) (h : k < l.length), sizeE (l.take k) + l[k].size ≤ sizeE l
  | x :: r, 0, _ => by simp [sizeE]
  | x :: r, k + 1, h => by
    have := sizeE_take r k (by simpa using h)
    simp only [List.take_succ_cons, sizeE, List.getElem_cons_succ]
    omega
set_option maxHeartbeats 6400000 in
theorem expr_many (x : GE) (fx : x.fit) (hop : x.op ≠ 1 ∧ x.op ≠ 2 ∧ x.op ≠ 3 ∧ x.op ≠ 8 ∧ x.op ≠ 9) (hy : ∀ y ∈ x.args, ExprC y) : ExprC x := by
  intro l wb base ob s sa w B hl hB hst hs hsa
  have hsz := size_args x
  obtain ⟨aa, ca, bb, off, rfl, hc, ha, hA⟩ := isX_open hsa
  obtain ⟨a, c, rfl⟩ := isL_form hs
  have HST := Lib.hid hst
  have HE := Lib.hid (compE_eq x l.length)
  have HY := Lib.hid hy
  have HA := Lib.hid hA
  have Ha := Lib.hid ha
  have hwb : wb < base ∧ base ≤ w.heap.size := by obtain ⟨v, h1, h2, h3, h4, h5⟩ := hst; exact ⟨h4, h5⟩
  have HW := Lib.hid hwb
  have hBw : B ≤ w.heap.size := by omega
  have hfl := (fitE_open fx).2.2.2.2.1
  clear hs hsa hst fx hwb hA ha hy
  simp only [GE.agg]
  have hb0 : Below w.heap.size w (w.alloc (.cells #[.int .i64 x.op, .string x.text, .int .i64 x.v.k, .bool x.v.b, .int .i64 x.v.n, .string x.v.t, .slice a x.v.l.length c, .slice aa x.args.length ca] 38)) := (Below.refl w.heap.size w).alloc (Nat.le_refl _) _
  have HB0 := Lib.hid hb0
  clear hb0
  have e1 : (x.op == 1) = false := by simpa using hop.1
  have e2 : (x.op == 2) = false := by simpa using hop.2.1
  have e3 : (x.op == 3) = false := by simpa using hop.2.2.1
  have e8 : (x.op == 8) = false := by simpa using hop.2.2.2.1
  have e9 : (x.op == 9) = false := by simpa using hop.2.2.2.2
  have HOP := Lib.hid hop
  clear hop
  go_enter Tryz.func22, Tryz.ntmps22
  go_wp2_with fail
  go_loopw [64] (fun i wr => ∃ (k : Nat) (o' : Option Nat), k ≤ x.args.length ∧ i = .int .i64 k ∧ Hid (St wr wb base (l ++ compEs (x.args.take k) l.length) o') ∧
    Hid (Grow (· = wb) ob o' (w.alloc (.cells #[.int .i64 x.op, .string x.text, .int .i64 x.v.k, .bool x.v.b, .int .i64 x.v.n, .string x.v.t, .slice a x.v.l.length c, .slice aa x.args.length ca] 38)) wr)) (fun i _ => x.args.length - (intOf i).toNat)
  case atStart => exact ⟨0, ob, Nat.zero_le _, rfl, by rw [List.take_zero, show compEs [] l.length = [] from rfl, List.append_nil]; exact HST.out.keep HB0.out, Grow.refl _ _ _⟩
  case round =>
    obtain ⟨k, o', hk, rfl, hO, hG⟩ := hrel
    by_cases hlt : k < x.args.length
    · obtain ⟨rfl, hb2⟩ := Ha.out (by omega)
      obtain ⟨ay, cy, aay, cay, y0, y1, y2, y3, y4, y5, y6, y7, ys, ysa⟩ := cellsE_open (HA.out k hlt)
      have hg := fun o => row_keep HST.out hG.out hB hb2 o
      have hz : bb < wr.heap.size := by have := hG.out.size; have := HB0.out.size; omega
      have HYS := Lib.hid (And.intro (isL_grow (isL_below ys HB0.out hBw) hB (HST.out.keep HB0.out) hG.out) (isX_grow (isX_below ysa HB0.out hBw) hB (HST.out.keep HB0.out) hG.out))
      have hBr : B ≤ wr.heap.size := by have := hG.out.size; have := HB0.out.size; omega
      have hln := compEs_len (x.args.take k) l.length
      have hsm := sizeE_take x.args k hlt
      clear ys ysa
      go_wp2_with fail
      have hb1 : Below wr.heap.size wr (wr.alloc (.cells #[.int .i64 x.args[k].op, .string x.args[k].text, .int .i64 x.args[k].v.k, .bool x.args[k].v.b, .int .i64 x.args[k].v.n, .string x.args[k].v.t, .slice ay x.args[k].v.l.length cy, .slice aay x.args[k].args.length cay] 38)) := (Below.refl wr.heap.size wr).alloc (Nat.le_refl _) _
      refine (HY.out x.args[k] (List.getElem_mem _) _ wb base o' _ _ _ B ?_ hB (hO.out.keep hb1) (isL_below HYS.out.1 hb1 hBr) (isX_below HYS.out.2 hb1 hBr)).mono ?_
      · rw [List.length_append]; omega
      rintro e w2 ⟨rfl, o2, hst2, hg2⟩
      have HST2 := Lib.hid hst2
      have HG2 := Lib.hid ((hG.out.trans (Grow.of_below hb1)).trans hg2)
      clear hst2 hg2 hb1
      go_wp2_with fail
      go_roundw
      case rel =>
        refine ⟨k + 1, o2, by omega, by go_num, ?_, HG2⟩
        have := HST2.out
        rw [List.append_assoc, List.length_append, ← compEs_take_succ _ _ _ hlt] at this
        exact this
      case measure => simp [intOf]; omega
    · have q3 := fun k => cell_of (box_keep HST.out hG.out) k
      have hO2 : Hid (St wr wb base (l ++ compEs x.args l.length) o') := by rw [← List.take_of_length_le (l := x.args) (i := k) (by omega)]; exact hO.out
      have hln : (l ++ compEs x.args l.length).length ≤ 2147483647 := by have := compEs_len x.args l.length; rw [List.length_append]; omega
      have hfin : ∀ i, compE x l.length = compEs x.args l.length ++ [i] → ∀ o2 w2, St w2 wb base ((l ++ compEs x.args l.length) ++ [i]) o2 → St w2 wb base (l ++ compE x l.length) o2 := fun i h o2 w2 h2 => by rw [h, ← List.append_assoc]; exact h2
      have hE : compE x l.length = compEs x.args l.length ++ [if x.op = 4 then gi 3 0 x.text noV else if x.op = 5 then gi 4 x.args.length ByteArray.empty noV else gi 5 x.op ByteArray.empty noV] := by
        rw [HE.out, if_neg HOP.out.1, if_neg HOP.out.2.1, if_neg HOP.out.2.2.1, if_neg (by have := HOP.out; omega)]
      have HF := Lib.hid hfin
      have HE2 := Lib.hid hE
      clear hfin hE
      by_cases h4 : x.op = 4
      · have e4 : (x.op == 4) = true := by simp [h4]
        have H := Lib.hid h4
        clear h4
        go_wp2_with fail
        refine (put_any _ (gi 3 0 x.text noV) hln wb base o' _ _ hO2.out inner_nil).mono ?_
        rintro e w2 ⟨rfl, o2, hst', hgr⟩
        go_wp2_with fail
        go_end0
        exact ⟨rfl, o2, HF.out _ (by rw [HE2.out, if_pos H.out]) _ _ hst', (Grow.of_below HB0.out).trans (hG.out.trans hgr)⟩
      have e4 : (x.op == 4) = false := by simpa using h4
      have H4 := Lib.hid h4
      clear h4
      by_cases h5 : x.op = 5
      · have e5 : (x.op == 5) = true := by simp [h5]
        have H := Lib.hid h5
        clear h5
        go_wp2_with fail
        refine (put_any _ (gi 4 x.args.length ByteArray.empty noV) hln wb base o' _ _ hO2.out inner_nil).mono ?_
        rintro e w2 ⟨rfl, o2, hst', hgr⟩
        go_wp2_with fail
        go_end0
        exact ⟨rfl, o2, HF.out _ (by rw [HE2.out, if_neg H4.out, if_pos H.out]) _ _ hst', (Grow.of_below HB0.out).trans (hG.out.trans hgr)⟩
      have e5 : (x.op == 5) = false := by simpa using h5
      have H5 := Lib.hid h5
      clear h5
      go_wp2_with fail
      refine (put_any _ (gi 5 x.op ByteArray.empty noV) hln wb base o' _ _ hO2.out inner_nil).mono ?_
      rintro e w2 ⟨rfl, o2, hst', hgr⟩
      go_wp2_with fail
      go_end0
      exact ⟨rfl, o2, HF.out _ (by rw [HE2.out, if_neg H4.out, if_neg H5.out]) _ _ hst', (Grow.of_below HB0.out).trans (hG.out.trans hgr)⟩
theorem expr_all : ∀ (m : Nat) (x : GE), x.size ≤ m → x.fit → x.wf → ExprC x := by
  intro m
  induction m with
  | zero => exact fun x h => by have := size_args x; omega
  | succ m ih =>
    intro x h fx wx
    have hs := size_args x
    have hA : ∀ y ∈ x.args, ExprC y := fun y hy => ih y (by have := sizeE_mem hy; omega) (fitE_mem (fitE_open fx).2.2.2.2.2 y hy) (wfE_mem (wf_open wx).2 y hy)
    by_cases h1 : x.op = 1 ∨ x.op = 2 ∨ x.op = 3
    · exact expr_leaf x fx h1
    by_cases h2 : x.op = 8 ∨ x.op = 9
    · have hl := (wf_open wx).1 h2
      obtain ⟨y, z, e⟩ : ∃ y z, x.args = [y, z] := by
        match x.args, hl with
        | [y, z], _ => exact ⟨y, z, rfl⟩
      exact expr_two x y z fx h2 e (hA y (by rw [e]; simp)) (hA z (by rw [e]; simp))
    · exact expr_many x fx (by omega) hA
theorem expr_any (x : GE) (fx : x.fit) (wx : x.wf) : ExprC x := expr_all x.size x (Nat.le_refl _) fx wx
end Go.Proofs.YtljljhjdlicfeaaGreat
