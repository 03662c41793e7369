/-
  What the references' compile appends of an and, an or. Conditions: fewer than 2^31 instructions.
-/
import Derived.Test.YtljljhjdlicfeaaGreatPAI
import Derived.Deep.DrawnRows
import Derived.Deep.RegionHeld3
namespace Go.Proofs.YtljljhjdlicfeaaGreat
open Go Go.RowKit
set_option maxRecDepth 100000
set_option linter.unusedVariables false
attribute [local go_sem ↓] Go.wp_at_zero Go.wp_at_succ
theorem news_at {w : World} {g : Nat} {l : List Value} {T : TypeId} {fz : Nat × Nat} (h : w.heap[g]? = some (.cells l.toArray T fz)) {j : Nat} {u : Value} (hj : l[j]? = some u) : w.cell? ((⟨g, 0, none⟩ : Addr).add j) = some u := by
  rw [Addr.add_lit]
  simp only [World.cell?, Nat.zero_add, h]
  simpa using hj
theorem keep_two {w : World} {o o2 : Obj} {g : Nat} (h : g < w.heap.size) : ((w.alloc o).alloc o2).heap[g]? = w.heap[g]? :=
  (Below.heap_alloc _ _ _ (by simp; omega)).trans (Below.heap_alloc _ _ _ h)
theorem endR {w : World} {base N k : Nat} {v : Value} {L : List GI} (h : ownR w base v N L) (hk : k < N) : ∃ g cap cur u, v = .slice (some ⟨g, 0, none⟩) N cap ∧ w.heap[g]? = some (.cells cur 86 (0, 0)) ∧ cur[k * 8 + 1]? = some u ∧ N ≤ cap ∧
    ∀ m : Int, ownR (w.setCell ⟨g, k * 8 + 1, none⟩ (.int .i64 m)) base v N (L.set k { L[k]'(by rw [h.2]; exact hk) with arg := m }) ∧ Grow NoX v.ownBlock v.ownBlock w (w.setCell ⟨g, k * 8 + 1, none⟩ (.int .i64 m)) := by
  have hI := h.1
  have hl := h.2
  obtain ⟨ss, hls, ⟨hx, ⟨_, e⟩ | ⟨g, cap, cur, e, hb, hh, hn, hc, hsz, htk⟩⟩, hin⟩ := h.1
  · omega
  have hv : v.ownBlock = some g := by rw [e]; rfl
  have hcs : k * 8 + 1 < cur.size := by rw [hsz]; omega
  refine ⟨g, cap, cur, _, by rw [e, hl], hh, Array.getElem?_eq_getElem hcs, by omega, fun m => ⟨⟨litR_set hI hv (by rw [hl]; exact hk) m, by rw [List.length_set]; exact hl⟩, rfl, rfl, rfl, by rw [hsz_setCell2]; exact Nat.le_refl _, fun b hb hx hne => ?_, .inl rfl⟩⟩
  exact Below.heap_setCell _ _ _ _ (fun e => hne (by rw [hv, e]))
set_option maxHeartbeats 12800000 in
theorem rcomp_two8 (x y z : GE) (fx : x.fit) (hop : x.op = 8) (ha2 : x.args = [y, z]) (hy : RCompC y) (hz : RCompC z) : RCompC x := by
  intro l n base v0 s sa w B hl hB hbase hO hs hsa
  have hsz : x.size = y.size + z.size + 1 := by rw [size_args, ha2]; simp [sizeE]
  obtain ⟨aa, ca, bb, off, rfl, hc, ha, hA⟩ := isX_open hsa
  obtain ⟨a, c, rfl⟩ := isL_form hs
  have g2 : x.args.length = 2 := by rw [ha2]; rfl
  have hA0 := hA 0 (by omega)
  have hA1 := hA 1 (by omega)
  have g0 : x.args[0]'(by omega) = y := by simp [ha2]
  have g1 : x.args[1]'(by omega) = z := by simp [ha2]
  rw [g0] at hA0
  rw [g1] at hA1
  obtain ⟨rfl, hbB⟩ := ha (by omega)
  obtain ⟨ay, cy, aay, cay, y0, y1, y2, y3, y4, y5, y6, y7, ys, ysa⟩ := cellsE_open hA0
  obtain ⟨az, cz, aaz, caz, z0, z1, z2, z3, z4, z5, z6, z7, zs, zsa⟩ := cellsE_open hA1
  rw [g2] at hc ⊢
  simp only [Nat.zero_mul, Nat.one_mul, Nat.add_zero] at y0 y1 y2 y3 y4 y5 y6 y7 z0 z1 z2 z3 z4 z5 z6 z7
  have HYS := Lib.hid (And.intro ys ysa)
  have HZS := Lib.hid (And.intro zs zsa)
  have HO := Lib.hid hO
  have HE := Lib.hid (compE_eq x n)
  have HA2 := Lib.hid ha2
  have HY := Lib.hid hy
  have HZ := Lib.hid hz
  have HZ0 := Lib.hid (And.intro z0 (And.intro z1 (And.intro z2 (And.intro z3 (And.intro z4 (And.intro z5 (And.intro z6 z7)))))))
  have HNL := Lib.hid hO.2
  have hbw : bb < w.heap.size := by omega
  have hBw : B ≤ w.heap.size := by omega
  have hly := compE_len y n
  have HLT := Lib.hid (fun g (hg : v0.ownBlock = some g) => ownR_lt hO hg)
  obtain ⟨i0, hi, hi0, hi1, hi2⟩ := info_parts iinfo
  have HI := Lib.hid (And.intro hi (And.intro hi0 (And.intro hi1 hi2)))
  clear hs hsa hO fx hA hA0 hA1 g0 g1 ys ysa zs zsa ha2 hy hz ha z0 z1 z2 z3 z4 z5 z6 z7 hi hi0 hi1 hi2
  simp only [GE.agg]
  have e1 : (x.op == 1) = false := by simp [hop]
  have e2 : (x.op == 2) = false := by simp [hop]
  have e3 : (x.op == 3) = false := by simp [hop]
  have h := hop
  clear hop
  have e8 : (x.op == 8) = true := by simp [h]
  have e9 : (x.op == 9) = false := by simp [h]
  have H := Lib.hid h
  clear h
  go_enter Tryz.func27, Tryz.ntmps27
  go_upto_region 1 with fail
  obtain ⟨wA, hwA⟩ : ∃ wA, wA = w.alloc (.cells #[.int .i64 x.op, .string x.text, .int .i64 x.v.k, .bool x.v.b, .int .i64 x.v.n, .string x.v.t, .slice a x.v.l.length c, .slice (some ⟨bb, off, none⟩) 2 ca] 38) := ⟨_, rfl⟩
  have hbA : Below w.heap.size w wA := by rw [hwA]; exact (Below.refl w.heap.size w).alloc (Nat.le_refl _) _
  have hxA : wA.heap[w.heap.size]? = some (.cells #[.int .i64 x.op, .string x.text, .int .i64 x.v.k, .bool x.v.b, .int .i64 x.v.n, .string x.v.t, .slice a x.v.l.length c, .slice (some ⟨bb, off, none⟩) 2 ca] 38 (0, 0)) := by rw [hwA]; exact heap_last
  have hzA : w.heap.size + 1 ≤ wA.heap.size := by rw [hwA]; simp
  rw [← hwA]
  clear hwA
  have HOA := Lib.hid (ownR_keep HO.out hbA)
  have HBA := Lib.hid hbA
  have HXA := Lib.hid hxA
  have q0 := fun o => cell_of hxA o
  have r0 : ∀ o, wA.cell? ⟨bb, o, none⟩ = w.cell? ⟨bb, o, none⟩ := fun o => hbA.cell (p := ⟨bb, o, none⟩) hbw
  have hzw : w.heap.size < wA.heap.size := by omega
  clear hbA hxA
  go_wp2_with fail
  refine (HY.out l n base v0 _ _ wA B (by omega) hB (by omega) HOA.out (isL_below HYS.out.1 HBA.out hBw) (isX_below HYS.out.2 HBA.out hBw)).mono ?_
  rintro e w1 ⟨v1, n1, rfl, ho1, hg1⟩
  have hn1 : n1 = n + (compE y n).length := by have := ho1.2; rw [List.length_append, HNL.out] at this; exact this.symm
  obtain ⟨va1, cp1, ss1, e, hss1, hown1, hin1⟩ := ownR_open ho1
  subst e
  have HSS1 := Lib.hid (And.intro hss1 hin1)
  have HOWN1 := Lib.hid hown1
  have HN1 := Lib.hid ho1.2
  have HN1E := Lib.hid hn1
  have hn1b : n1 ≤ n + 3 * y.size := by omega
  have HG1 := Lib.hid hg1
  have hz1 : wA.heap.size ≤ w1.heap.size := hg1.size
  clear ho1 hss1 hown1 hin1 hg1 q0 r0 hn1
  go_wp2_with (at_builtin; refine wpList_append_own_at _ rfl _ _ 56 rfl base 86 i0 (.agg #[.int .i64 0, .int .i64 0, .string { data := #[] }, .int .i64 0, .bool false, .int .i64 0, .string { data := #[] }, .slice none 0 0]) 8 96 Tryz.underlying56 HI.out.1 HI.out.2.1 HI.out.2.2.1 HI.out.2.2.2 rfl (by decide) (.slice va1 n1 cp1) n1 (flatI (l ++ compE y n) ss1) rfl (HOWN1.out.alloc _) ⟨w1.heap.size, 0, none⟩ 1 1 [.int .i64 6, .int .i64 0, .string { data := #[] }, .int .i64 0, .bool false, .int .i64 0, .string { data := #[] }, .slice none 0 0] rfl rfl ?c1 ?c2 ?c3 ?c4 ?c5 ?_)
  case c1 => exact fun j u hj => news_last hj
  case c2 => intro u hu; simp only [List.mem_cons, List.not_mem_nil, or_false] at hu; rcases hu with rfl | rfl | rfl | rfl | rfl | rfl | rfl | rfl <;> rfl
  case c3 => unfold maxLen; omega
  case c4 => omega
  case c5 => simp; omega
  intro v2 w2 hown2 hgrow _ hat
  have hP := pushR (y := gi 6 0 ByteArray.empty noV) HN1.out HSS1.out.1 HSS1.out.2 ((Below.refl w1.heap.size w1).alloc (Nat.le_refl _) _) (isL_nil ..) hown2 hgrow (by simpa using hat)
  obtain ⟨va2, cp2, ss2, e, hss2, hown2b, hin2⟩ := ownR_open hP.1
  subst e
  have HSS2 := Lib.hid (And.intro hss2 hin2)
  have HOWN2 := Lib.hid hown2b
  have HN2 := Lib.hid hP.1.2
  have HO2 := Lib.hid hP.1
  have HG2 := Lib.hid (HG1.out.trans hP.2)
  have hz2 : wA.heap.size ≤ w2.heap.size := HG2.out.size
  have hx2 : w2.heap[w.heap.size]? = some (.cells #[.int .i64 x.op, .string x.text, .int .i64 x.v.k, .bool x.v.b, .int .i64 x.v.n, .string x.v.t, .slice a x.v.l.length c, .slice (some ⟨bb, off, none⟩) 2 ca] 38 (0, 0)) := (HG2.out.block w.heap.size (by omega) (fun h => h.elim) (fun e => by have := (HLT.out _ e.symm).2; omega)).trans HXA.out
  have HX2 := Lib.hid hx2
  have hb2A : Below base wA w2 := HG2.out.below (B := base) (by omega) (fun k hk => hk.elim) (fun g hg => (HLT.out g hg).1)
  have HB2A := Lib.hid hb2A
  have q2 := fun o => cell_of hx2 o
  have r2 : ∀ o, w2.cell? ⟨bb, o, none⟩ = w.cell? ⟨bb, o, none⟩ := fun o => (hb2A.cell (p := ⟨bb, o, none⟩) (Nat.lt_of_lt_of_le hbB hB)).trans (HBA.out.cell (p := ⟨bb, o, none⟩) hbw)
  obtain ⟨z0, z1, z2, z3, z4, z5, z6, z7⟩ := HZ0.out
  have hzw2 : w.heap.size < w2.heap.size := by omega
  have hbw2 : bb < w2.heap.size := by omega
  have hnw2 : w.heap.size ≠ w2.heap.size := by omega
  have hnb2 : bb ≠ w2.heap.size := by omega
  clear hP hown2 hgrow hat hown2b hss2 hin2 hx2 hb2A
  go_wp2_with fail
  go_region_held3 (fun w' => w'.cell? ⟨w.heap.size, 7, none⟩ = some (.slice (some ⟨bb, off, none⟩) 2 ca) ∧ w'.cell? ⟨bb, off + 8, none⟩ = some (.int .i64 z.op) ∧ w'.cell? ⟨bb, off + 8 + 1, none⟩ = some (.string z.text) ∧ w'.cell? ⟨bb, off + 8 + 2, none⟩ = some (.int .i64 z.v.k) ∧ w'.cell? ⟨bb, off + 8 + 3, none⟩ = some (.bool z.v.b) ∧ w'.cell? ⟨bb, off + 8 + 4, none⟩ = some (.int .i64 z.v.n) ∧ w'.cell? ⟨bb, off + 8 + 5, none⟩ = some (.string z.v.t) ∧ w'.cell? ⟨bb, off + 8 + 6, none⟩ = some (.slice az z.v.l.length cz) ∧ w'.cell? ⟨bb, off + 8 + 7, none⟩ = some (.slice aaz z.args.length caz))
    (first | go_keep | exact ⟨(q2 _).trans rfl, (r2 _).trans HZ0.out.1, (r2 _).trans HZ0.out.2.1, (r2 _).trans HZ0.out.2.2.1, (r2 _).trans HZ0.out.2.2.2.1, (r2 _).trans HZ0.out.2.2.2.2.1, (r2 _).trans HZ0.out.2.2.2.2.2.1, (r2 _).trans HZ0.out.2.2.2.2.2.2.1, (r2 _).trans HZ0.out.2.2.2.2.2.2.2⟩ | exact ⟨(q3 _).trans rfl, (r3 _).trans HZ0.out.1, (r3 _).trans HZ0.out.2.1, (r3 _).trans HZ0.out.2.2.1, (r3 _).trans HZ0.out.2.2.2.1, (r3 _).trans HZ0.out.2.2.2.2.1, (r3 _).trans HZ0.out.2.2.2.2.2.1, (r3 _).trans HZ0.out.2.2.2.2.2.2.1, (r3 _).trans HZ0.out.2.2.2.2.2.2.2⟩ | exact ⟨(q4 _).trans rfl, (r4 _).trans HZ0.out.1, (r4 _).trans HZ0.out.2.1, (r4 _).trans HZ0.out.2.2.1, (r4 _).trans HZ0.out.2.2.2.1, (r4 _).trans HZ0.out.2.2.2.2.1, (r4 _).trans HZ0.out.2.2.2.2.2.1, (r4 _).trans HZ0.out.2.2.2.2.2.2.1, (r4 _).trans HZ0.out.2.2.2.2.2.2.2⟩ | exact ⟨(p5 _).trans rfl, (r5 _).trans HZ0.out.1, (r5 _).trans HZ0.out.2.1, (r5 _).trans HZ0.out.2.2.1, (r5 _).trans HZ0.out.2.2.2.1, (r5 _).trans HZ0.out.2.2.2.2.1, (r5 _).trans HZ0.out.2.2.2.2.2.1, (r5 _).trans HZ0.out.2.2.2.2.2.2.1, (r5 _).trans HZ0.out.2.2.2.2.2.2.2⟩)
    (first
      | (refine step_append_own_at rfl _ _ 56 rfl base 86 i0 (.agg #[.int .i64 0, .int .i64 0, .string { data := #[] }, .int .i64 0, .bool false, .int .i64 0, .string { data := #[] }, .slice none 0 0]) 8 96 Tryz.underlying56 HI.out.1 HI.out.2.1 HI.out.2.2.1 HI.out.2.2.2 rfl (by decide) (.slice va2 (n1 + 1) cp2) (n1 + 1) (flatI ((l ++ compE y n) ++ [gi 6 0 ByteArray.empty noV]) ss2) rfl ?c0 _ 1 1 [.int .i64 7, .int .i64 0, .string { data := #[] }, .int .i64 0, .bool false, .int .i64 0, .string { data := #[] }, .slice none 0 0] rfl rfl ?c1 ?c2 ?c3 ?c4 ?c5 ?_
         case c0 =>
           first
             | exact ownsRow_keep HOWN2.out fun g hg => Below.heap_alloc _ _ _ (ownBlock_lt HOWN2.out hg).2
             | exact ownsRow_keep HOWN2.out fun g hg => keep_two (ownBlock_lt HOWN2.out hg).2
             | exact HOWN2.out
         case c1 => intro j u hj; first | exact news_at (w := (w2.alloc _)) heap_last hj | exact news_at (w := ((w2.alloc _).alloc _)) heap_two hj | exact news_at (w := ((w2.alloc _).alloc _)) heap_second hj
         case c2 => intro u hu; simp only [List.mem_cons, List.not_mem_nil, or_false] at hu; rcases hu with rfl | rfl | rfl | rfl | rfl | rfl | rfl | rfl <;> rfl
         case c3 => unfold maxLen; omega
         case c4 => omega
         case c5 => first | (show base ≤ (w2.alloc _).heap.size; simp; omega) | (show base ≤ ((w2.alloc _).alloc _).heap.size; simp; omega)
         intro v3 w3 hown3 hgrow3 hat3
         first
           | have hP3 := pushR (y := jmp 7) HN2.out HSS2.out.1 HSS2.out.2 (w1 := w2.alloc (.cells #[.int .i64 7, .int .i64 0, .string { data := #[] }, .int .i64 0, .bool false, .int .i64 0, .string { data := #[] }, .slice none 0 0] 86)) ((Below.refl w2.heap.size w2).alloc (Nat.le_refl _) _) (isL_nil ..) hown3 ⟨hgrow3.os, hgrow3.tape, hgrow3.output, hgrow3.size, hgrow3.block⟩ (by simpa using hat3)
           | have hP3 := pushR (y := jmp 7) HN2.out HSS2.out.1 HSS2.out.2 (w1 := (w2.alloc (.cells #[.int .i64 7, .int .i64 0, .string { data := #[] }, .int .i64 0, .bool false, .int .i64 0, .string { data := #[] }, .slice none 0 0] 86)).alloc (.cells #[.int .i64 6, .int .i64 0, .string { data := #[] }, .int .i64 0, .bool false, .int .i64 0, .string { data := #[] }, .slice none 0 0] 86)) (((Below.refl w2.heap.size w2).alloc (Nat.le_refl _) _).alloc (by simp) _) (isL_nil ..) hown3 ⟨hgrow3.os, hgrow3.tape, hgrow3.output, hgrow3.size, hgrow3.block⟩ (by simpa using hat3)
           | have hP3 := pushR (y := jmp 7) HN2.out HSS2.out.1 HSS2.out.2 (w1 := (w2.alloc (.cells #[.int .i64 6, .int .i64 0, .string { data := #[] }, .int .i64 0, .bool false, .int .i64 0, .string { data := #[] }, .slice none 0 0] 86)).alloc (.cells #[.int .i64 7, .int .i64 0, .string { data := #[] }, .int .i64 0, .bool false, .int .i64 0, .string { data := #[] }, .slice none 0 0] 86)) (((Below.refl w2.heap.size w2).alloc (Nat.le_refl _) _).alloc (by simp) _) (isL_nil ..) hown3 ⟨hgrow3.os, hgrow3.tape, hgrow3.output, hgrow3.size, hgrow3.block⟩ (by simpa using hat3)
         have hlo := HN2.out
         first
           | (have h6 : w3.heap[w2.heap.size + 1]? = some (.cells #[.int .i64 6, .int .i64 0, .string { data := #[] }, .int .i64 0, .bool false, .int .i64 0, .string { data := #[] }, .slice none 0 0] 86 (0, 0)) := (hgrow3.block (w2.heap.size + 1) (by show _ < ((w2.alloc _).alloc _).heap.size; first | (simp; done) | (simp; omega)) (fun e => by have := (ownBlock_lt HOWN2.out e.symm).2; omega)).trans heap_second
              have H6 := Lib.hid (And.intro h6 (show some (w2.heap.size + 1) ≠ v3.ownBlock from (fun e => by
                rcases hat3 with h | h
                · rw [h] at e; have := (ownBlock_lt HOWN2.out e.symm).2; omega
                · rw [h] at e; first | (simp at e; done) | (simp at e; omega))))
              clear h6)
           | (have h6 : w3.heap[w2.heap.size]? = some (.cells #[.int .i64 6, .int .i64 0, .string { data := #[] }, .int .i64 0, .bool false, .int .i64 0, .string { data := #[] }, .slice none 0 0] 86 (0, 0)) := (hgrow3.block w2.heap.size (by show _ < ((w2.alloc _).alloc _).heap.size; first | (simp; done) | (simp; omega)) (fun e => by have := (ownBlock_lt HOWN2.out e.symm).2; omega)).trans heap_two
              have H6 := Lib.hid (And.intro h6 (show some w2.heap.size ≠ v3.ownBlock from (fun e => by
                rcases hat3 with h | h
                · rw [h] at e; have := (ownBlock_lt HOWN2.out e.symm).2; omega
                · rw [h] at e; first | (simp at e; done) | (simp at e; omega))))
              clear h6)
           | skip
         obtain ⟨va3, cp3, ss3, e3, _, _, _⟩ := ownR_open hP3.1
         subst e3
         have HO3 := Lib.hid hP3.1
         have HG3 := Lib.hid (HG2.out.trans hP3.2)
         have hz3 : wA.heap.size ≤ w3.heap.size := HG3.out.size
         have hx3 : w3.heap[w.heap.size]? = some (.cells #[.int .i64 x.op, .string x.text, .int .i64 x.v.k, .bool x.v.b, .int .i64 x.v.n, .string x.v.t, .slice a x.v.l.length c, .slice (some ⟨bb, off, none⟩) 2 ca] 38 (0, 0)) := (HG3.out.block w.heap.size (by omega) (fun h => h.elim) (fun e => by have := (HLT.out _ e.symm).2; omega)).trans HXA.out
         have hb3A : Below base wA w3 := HG3.out.below (B := base) (by omega) (fun k hk => hk.elim) (fun g hg => (HLT.out g hg).1)
         have HB3A := Lib.hid hb3A
         have q3 := fun o => cell_of hx3 o
         have r3 : ∀ o, w3.cell? ⟨bb, o, none⟩ = w.cell? ⟨bb, o, none⟩ := fun o => (hb3A.cell (p := ⟨bb, o, none⟩) (Nat.lt_of_lt_of_le hbB hB)).trans (HBA.out.cell (p := ⟨bb, o, none⟩) hbw)
         have hbase3 : base ≤ w3.heap.size := by omega
         have hzw3 : w.heap.size < w3.heap.size := by omega
         have hbw3 : bb < w3.heap.size := by omega
         have hnw3 : w.heap.size ≠ w3.heap.size := by omega
         have hnb3 : bb ≠ w3.heap.size := by omega
         clear hP3 hown3 hgrow3 hat3 hx3 hb3A)
      | (go_simp
         go_at_call 27
         first
           | (refine (HZ.out _ (n1 + 1 + 1) base (.slice va3 (n1 + 1 + 1) cp3) _ _ w3 B (by omega) hB hbase3 HO3.out (isL_below (isL_below HZS.out.1 HBA.out hBw) HB3A.out hB) (isX_below (isX_below HZS.out.2 HBA.out hBw) HB3A.out hB)).mono ?_
              rintro e w4 ⟨v4, n4, rfl, ho4, hg4⟩
              first
                | (have H64 := Lib.hid ((hg4.block _ (lt_of_block H6.out.1) (fun h => h.elim) H6.out.2).trans H6.out.1))
                | skip)
           | (have hb33 : Below w3.heap.size w3 (w3.alloc (.cells #[.int .i64 6, .int .i64 0, .string { data := #[] }, .int .i64 0, .bool false, .int .i64 0, .string { data := #[] }, .slice none 0 0] 86)) := (Below.refl w3.heap.size w3).alloc (Nat.le_refl _) _
              refine (HZ.out _ (n1 + 1 + 1) base (.slice va3 (n1 + 1 + 1) cp3) _ _ (w3.alloc (.cells #[.int .i64 6, .int .i64 0, .string { data := #[] }, .int .i64 0, .bool false, .int .i64 0, .string { data := #[] }, .slice none 0 0] 86)) B (by omega) hB (Nat.le_trans hbase3 hb33.size) (ownR_keep HO3.out hb33) (isL_below (isL_below (isL_below HZS.out.1 HBA.out hBw) HB3A.out hB) hb33 (by omega)) (isX_below (isX_below (isX_below HZS.out.2 HBA.out hBw) HB3A.out hB) hb33 (by omega))).mono ?_
              rintro e w4 ⟨v4, n4, rfl, ho4, hg4'⟩
              have H64 : Hid (w4.heap[w3.heap.size]? = some (.cells #[.int .i64 6, .int .i64 0, .string { data := #[] }, .int .i64 0, .bool false, .int .i64 0, .string { data := #[] }, .slice none 0 0] 86 (0, 0))) := (hg4'.block w3.heap.size (by simp) (fun h => h.elim) (fun e => by have := (ownR_lt HO3.out e.symm).2; omega)).trans heap_last
              have hg4 := (Grow.of_below hb33).trans hg4'
              clear hg4' hb33)
         have hlz := compE_len z (n1 + 1 + 1)
         have hn4 : n4 ≤ n1 + 1 + 1 + 3 * z.size := by have h1 := ho4.2; have h2 := HO3.out.2; rw [List.length_append, h2] at h1; omega
         obtain ⟨va4, cp4, ss4, e4, hss4, hown4, hin4⟩ := ownR_open ho4
         subst e4
         have HSS4 := Lib.hid (And.intro hss4 hin4)
         have HOWN4 := Lib.hid hown4
         have HO4 := Lib.hid ho4
         have HG4 := Lib.hid (HG3.out.trans hg4)
         have hz4 : wA.heap.size ≤ w4.heap.size := HG4.out.size
         have hx4 : w4.heap[w.heap.size]? = some (.cells #[.int .i64 x.op, .string x.text, .int .i64 x.v.k, .bool x.v.b, .int .i64 x.v.n, .string x.v.t, .slice a x.v.l.length c, .slice (some ⟨bb, off, none⟩) 2 ca] 38 (0, 0)) := (HG4.out.block w.heap.size (by omega) (fun h => h.elim) (fun e => by have := (HLT.out _ e.symm).2; omega)).trans HXA.out
         have hb4A : Below base wA w4 := HG4.out.below (B := base) (by omega) (fun k hk => hk.elim) (fun g hg => (HLT.out g hg).1)
         have q4 := fun o => cell_of hx4 o
         have r4 : ∀ o, w4.cell? ⟨bb, o, none⟩ = w.cell? ⟨bb, o, none⟩ := fun o => (hb4A.cell (p := ⟨bb, o, none⟩) (Nat.lt_of_lt_of_le hbB hB)).trans (HBA.out.cell (p := ⟨bb, o, none⟩) hbw)
         have hzw4 : w.heap.size < w4.heap.size := by omega
         have hbw4 : bb < w4.heap.size := by omega
         have hnw4 : w.heap.size ≠ w4.heap.size := by omega
         have hnb4 : bb ≠ w4.heap.size := by omega
         clear ho4 hg4 hss4 hown4 hin4 hlz hx4 hb4A)
      | (refine step_append_own_at rfl _ _ 56 rfl base 86 i0 (.agg #[.int .i64 0, .int .i64 0, .string { data := #[] }, .int .i64 0, .bool false, .int .i64 0, .string { data := #[] }, .slice none 0 0]) 8 96 Tryz.underlying56 HI.out.1 HI.out.2.1 HI.out.2.2.1 HI.out.2.2.2 rfl (by decide) (.slice va4 n4 cp4) n4 (flatI (((((l ++ compE y n) ++ [gi 6 0 ByteArray.empty noV]) ++ [jmp 7])) ++ compE z (n1 + 1 + 1)) ss4) rfl ?c0 _ 1 1 [.int .i64 6, .int .i64 0, .string { data := #[] }, .int .i64 0, .bool false, .int .i64 0, .string { data := #[] }, .slice none 0 0] rfl rfl ?c1 ?c2 ?c3 ?c4 ?c5 ?_
         case c0 =>
           first
             | exact ownsRow_keep HOWN4.out fun g hg => Below.heap_alloc _ _ _ (ownBlock_lt HOWN4.out hg).2
             | exact ownsRow_keep HOWN4.out fun g hg => keep_two (ownBlock_lt HOWN4.out hg).2
             | exact HOWN4.out
         case c1 => intro j u hj; first | exact news_at H64.out hj | exact news_at (w := (w4.alloc _)) heap_last hj
         case c2 => intro u hu; simp only [List.mem_cons, List.not_mem_nil, or_false] at hu; rcases hu with rfl | rfl | rfl | rfl | rfl | rfl | rfl | rfl <;> rfl
         case c3 => unfold maxLen; omega
         case c4 => omega
         case c5 => first | (show base ≤ w4.heap.size; omega) | (show base ≤ (w4.alloc _).heap.size; simp; omega)
         intro v5 w5 hown5 hgrow5 hat5
         first
           | have hP5 := pushR (y := gi 6 0 ByteArray.empty noV) HO4.out.2 HSS4.out.1 HSS4.out.2 (w1 := w4) (Below.refl w4.heap.size w4) (isL_nil ..) hown5 ⟨hgrow5.os, hgrow5.tape, hgrow5.output, hgrow5.size, hgrow5.block⟩ hat5
           | have hP5 := pushR (y := gi 6 0 ByteArray.empty noV) HO4.out.2 HSS4.out.1 HSS4.out.2 (w1 := w4.alloc (.cells #[.int .i64 6, .int .i64 0, .string { data := #[] }, .int .i64 0, .bool false, .int .i64 0, .string { data := #[] }, .slice none 0 0] 86)) ((Below.refl w4.heap.size w4).alloc (Nat.le_refl _) _) (isL_nil ..) hown5 ⟨hgrow5.os, hgrow5.tape, hgrow5.output, hgrow5.size, hgrow5.block⟩ (by simpa using hat5)
         have HP5 := Lib.hid hP5
         have hlt5 : n1 + 1 < n4 + 1 := by
           have h1 := HO4.out.2
           have h2 := HN2.out
           simp only [List.length_append, List.length_cons, List.length_nil] at h1 h2
           omega
         obtain ⟨g5, cp5, cur5, u5, e5, hh5, hu5, hcp5, hset5⟩ := endR HP5.out.1 hlt5
         subst e5
         have HSET5 := Lib.hid (hset5 ((n4 : Int) + 1))
         have hg5' := HG4.out.trans HP5.out.2
         have hx5 : w5.heap[w.heap.size]? = some (.cells #[.int .i64 x.op, .string x.text, .int .i64 x.v.k, .bool x.v.b, .int .i64 x.v.n, .string x.v.t, .slice a x.v.l.length c, .slice (some ⟨bb, off, none⟩) 2 ca] 38 (0, 0)) := (hg5'.block w.heap.size (by omega) (fun h => h.elim) (fun e => by have := (HLT.out _ e.symm).2; omega)).trans HXA.out
         have hb5A : Below base wA w5 := hg5'.below (B := base) (by omega) (fun k hk => hk.elim) (fun g hg => (HLT.out g hg).1)
         have p5 := fun o => cell_of hx5 o
         have r5 : ∀ o, w5.cell? ⟨bb, o, none⟩ = w.cell? ⟨bb, o, none⟩ := fun o => (hb5A.cell (p := ⟨bb, o, none⟩) (Nat.lt_of_lt_of_le hbB hB)).trans (HBA.out.cell (p := ⟨bb, o, none⟩) hbw)
         have q5 := fun o => cell_of hh5 o
         have f5 := fun o => frozen_of hh5 o
         clear hP5 hown5 hgrow5 hat5 hset5 hh5 hg5' hx5 hb5A))
  all_goals
    go_wp2_with fail
    go_ret
    refine ⟨.slice (some ⟨g5, 0, none⟩) (n4 + 1) cp5, n4 + 1, rfl, ?_, (Grow.of_below HBA.out).trans ((HG4.out.trans HP5.out.2).trans HSET5.out.2)⟩
    have hf := HSET5.out.1
    have hlen4 := HO4.out.2
    rw [show ((n4 : Int) + 1) = ((n4 + 1 : Nat) : Int) from rfl, two_law _ _ _ _ _ _ _ HN2.out.symm] at hf
    rw [HE.out, if_neg (by rw [H.out]; decide), if_neg (by rw [H.out]; decide), if_neg (by rw [H.out]; decide), if_pos (by rw [H.out]; decide), HA2.out, compTwo_eq, H.out]
    rw [HN1E.out] at hf hlen4
    have hlen : n4 + 1 = n + (compE y n).length + 1 + 1 + (compE z (n + (compE y n).length + 1 + 1)).length + 1 := by
      have h2 := HN2.out
      rw [HN1E.out] at h2
      simp only [List.length_append, List.length_cons, List.length_nil] at hlen4 h2
      omega
    rw [HN1E.out, show jop 8 = 7 from rfl, ← hlen]
    exact hf
end Go.Proofs.YtljljhjdlicfeaaGreat
