/-
  What the references' compile appends of an expression: compE. Conditions: fewer than 2^31 instructions.
-/
import Derived.Test.YtljljhjdlicfeaaGreatNC
namespace Go.Proofs.YtljljhjdlicfeaaGreat
open Go Go.RowKit
set_option maxRecDepth 100000
set_option linter.unusedVariables false
def litR (w : World) (base : Nat) (v : Value) (l : List GI) : Prop := ∃ ss : List Value, (ss.length = l.length ∧ base ≤ w.heap.size ∧ ∀ g, v.ownBlock = some g → base ≤ g) ∧ w.ownsRow base 86 8 v l.length (flatI l ss) ∧ ∀ i (h : i < l.length) (h' : i < ss.length), isL w 0 base ss[i] l[i].v.l
def ownR (w : World) (base : Nat) (v : Value) (n : Nat) (l : List GI) : Prop := litR w base v l ∧ l.length = n
theorem ownR_nil {w : World} {base : Nat} (h : base ≤ w.heap.size) : ownR w base (.slice none 0 0) 0 [] :=
  ⟨⟨[], ⟨rfl, h, fun g hg => by simp [Value.ownBlock] at hg⟩, ⟨by simp [flatI], .inl ⟨rfl, rfl⟩⟩, fun i h => by simp at h⟩, rfl⟩
theorem ownR_open {w : World} {base n : Nat} {v : Value} {l : List GI} (h : ownR w base v n l) : ∃ a c ss, v = .slice a n c ∧ (ss.length = l.length ∧ base ≤ w.heap.size ∧ ∀ g, (Value.slice a n c).ownBlock = some g → base ≤ g) ∧ w.ownsRow base 86 8 (.slice a n c) n (flatI l ss) ∧
    ∀ i (h : i < l.length) (h' : i < ss.length), isL w 0 base ss[i] l[i].v.l := by
  obtain ⟨⟨ss, hl, hown, hin⟩, rfl⟩ := h
  obtain ⟨a, c, rfl⟩ := owns_form hown
  exact ⟨a, c, ss, rfl, hl, hown, hin⟩
theorem ownR_keep {w w' : World} {base n : Nat} {v : Value} {l : List GI} (h : ownR w base v n l) (hb : Below w.heap.size w w') : ownR w' base v n l := by
  obtain ⟨⟨ss, ⟨hl, h1, h2⟩, hown, hin⟩, rfl⟩ := h
  exact ⟨⟨ss, ⟨hl, Nat.le_trans h1 hb.size, h2⟩, ownsRow_keep hown (fun g hg => hb.block g (ownBlock_lt hown hg).2), fun i h h' => isL_below (hin i h h') hb h1⟩, rfl⟩
theorem ownR_lt {w : World} {base n : Nat} {v : Value} {l : List GI} (h : ownR w base v n l) {g : Nat} (hg : v.ownBlock = some g) : base ≤ g ∧ g < w.heap.size := by
  obtain ⟨⟨ss, _, hown, _⟩, _⟩ := h
  exact ownBlock_lt hown hg
abbrev NoX : Nat → Prop := fun _ => False
theorem pushR {w w1 w2 : World} {base n : Nat} {v v' s : Value} {l : List GI} {y : GI} {ss : List Value} (hn : l.length = n) (hl : ss.length = l.length ∧ base ≤ w.heap.size ∧ ∀ g, v.ownBlock = some g → base ≤ g)
    (hin : ∀ i (h : i < l.length) (h2 : i < ss.length), isL w 0 base ss[i] l[i].v.l) (hw1 : Below w.heap.size w w1) (hs : isL w 0 base s y.v.l)
    (h' : w2.ownsRow base 86 8 v' (n + 1) (flatI l ss ++ [.int .i64 y.op, .int .i64 y.arg, .string y.s, .int .i64 y.v.k, .bool y.v.b, .int .i64 y.v.n, .string y.v.t, s])) (hg : w1.grownBy w2 v.ownBlock)
    (hat : v'.ownBlock = v.ownBlock ∨ v'.ownBlock = some w1.heap.size) : ownR w2 base v' (n + 1) (l ++ [y]) ∧ Grow NoX v.ownBlock v'.ownBlock w w2 := by
  obtain ⟨hl, h1, h2⟩ := hl
  subst hn
  have hm : moved w v.ownBlock v'.ownBlock := by
    rcases hat with e | e
    · exact .inl e
    · exact .inr ⟨_, e, hw1.size⟩
  have hG : Grow NoX v.ownBlock v'.ownBlock w w2 := ⟨hg.os.trans hw1.os, hg.tape.trans hw1.tape, hg.output.trans hw1.output, Nat.le_trans hw1.size hg.size, fun b hb _ hne => by rw [hg.block b (Nat.lt_of_lt_of_le hb hw1.size) hne, hw1.block b hb], hm⟩
  have hB : Below base w w2 := hG.below h1 (fun k hk => hk.elim) h2
  refine ⟨⟨⟨ss ++ [s], ⟨by simp [hl], Nat.le_trans h1 hB.size, fun g hg => (ownBlock_lt h' hg).1⟩, ?_, fun i h h2 => ?_⟩, by simp⟩, hG⟩
  · rw [flatI_append l ss y s hl]; simpa using h'
  · by_cases hi : i < l.length
    · rw [List.getElem_append_left (by omega), List.getElem_append_left hi]
      exact isL_below (hin i hi (by omega)) hB (Nat.le_refl _)
    · have e : i = l.length := by simp at h; omega
      subst e
      rw [List.getElem_append_right (by omega), List.getElem_append_right (by omega)]
      simpa [hl] using isL_below hs hB (Nat.le_refl _)
theorem litR_set {w : World} {base g : Nat} {v : Value} {l : List GI} (h : litR w base v l) (hg : v.ownBlock = some g) {k : Nat} (hk : k < l.length) (n : Int) :
    litR (w.setCell ⟨g, k * 8 + 1, none⟩ (.int .i64 n)) base v (l.set k { l[k] with arg := n }) := by
  obtain ⟨ss, ⟨hl, h1, h2⟩, hown, hin⟩ := h
  have hB : Below base w (w.setCell ⟨g, k * 8 + 1, none⟩ (.int .i64 n)) := Below.setCell (p := ⟨g, k * 8 + 1, none⟩) (Below.refl _ _) (h2 g hg) _
  refine ⟨ss, ⟨by simpa using hl, Nat.le_trans h1 hB.size, h2⟩, ?_, fun i h h' => ?_⟩
  · obtain ⟨h1, h2 | ⟨g', cap, cur, e, hb, hh, hn, hc, hsz, htk⟩⟩ := hown
    · rw [h2.1] at hg; simp [Value.ownBlock] at hg
    · have eg : g' = g := by rw [e] at hg; simpa [Value.ownBlock] using hg
      subst eg
      refine ⟨by rw [flatI_length _ _ (by simpa using hl)], .inr ⟨g', cap, cur.setIfInBounds (k * 8 + 1) (.int .i64 n), by simpa using e, hb, ?_, by simpa using hn, hc, by simpa using hsz, ?_⟩⟩
      · simp [World.setCell, Array.getElem?_modify, hh]
      · rw [← flatI_set l ss k hk n hl, ← htk, Array.toList_setIfInBounds, List.take_set, List.length_set]
  · have := isL_below (hin i (by simpa using h) h') hB (Nat.le_refl _)
    by_cases e : i = k
    · subst e; simpa using this
    · rw [List.getElem_set_ne (fun h => e h.symm)]; exact this
def RPost (base n : Nat) (v : Value) (l : List GI) (x : GE) (w : World) (e : Ending) (w' : World) : Prop := ∃ v' n', e = .returned v' ∧ ownR w' base v' n' (l ++ compE x n) ∧ Grow NoX v.ownBlock v'.ownBlock w w'
def RCompC (x : GE) : Prop := ∀ (l : List GI) (n base : Nat) (v s sa : Value) (w : World) (B : Nat), n + 3 * x.size ≤ 2147483640 → B ≤ base → base ≤ w.heap.size → ownR w base v n l →
  isL w 0 B s x.v.l → isX w B sa x.args → Calls Tryz.prog 27 #[v, x.agg s sa] w (RPost base n v l x w)
set_option maxHeartbeats 3200000 in
theorem rcomp_leaf (x : GE) (fx : x.fit) (hop : x.op = 1 ∨ x.op = 2 ∨ x.op = 3) : RCompC x := by
  intro l n base v s sa w B hl hB hbase hO hs hsa
  obtain ⟨aa, ca, rfl⟩ := isE_form hsa
  obtain ⟨a, c, rfl⟩ := isL_form hs
  obtain ⟨va, cp, ss, rfl, hss, hown, hin⟩ := ownR_open hO
  have HS := Lib.hid hs
  have HO := Lib.hid hO
  have HE := Lib.hid (compE_eq x n)
  have hsz := size_args x
  obtain ⟨i0, hi, hz0, hz1, hz2⟩ := info_parts iinfo
  have HI := Lib.hid (And.intro hi (And.intro hz0 (And.intro hz1 hz2)))
  clear hs hsa fx hss hown hin hO hi hz0 hz1 hz2
  simp only [GE.agg]
  go_enter Tryz.func27, Tryz.ntmps27
  go_upto_region 1 with fail
  obtain ⟨wA, hwA⟩ : ∃ wA, wA = w.alloc (.cells #[.int .i64 x.op, .string x.text, .int .i64 x.v.k, .bool x.v.b, .int .i64 x.v.n, .string x.v.t, .slice a x.v.l.length c, .slice aa x.args.length ca] 38) := ⟨_, rfl⟩
  have hbA : Below w.heap.size w wA := by rw [hwA]; exact (Below.refl w.heap.size w).alloc (Nat.le_refl _) _
  have hxA : wA.heap[w.heap.size]? = some (.cells #[.int .i64 x.op, .string x.text, .int .i64 x.v.k, .bool x.v.b, .int .i64 x.v.n, .string x.v.t, .slice a x.v.l.length c, .slice aa x.args.length ca] 38 (0, 0)) := by rw [hwA]; exact heap_last
  have hzA : w.heap.size + 1 ≤ wA.heap.size := by rw [hwA]; simp
  rw [← hwA]
  clear hwA
  have hOA := ownR_keep HO.out hbA
  have HOA := Lib.hid hOA
  have HLT := Lib.hid (fun g (hg : (Value.slice va n cp).ownBlock = some g) => ownR_lt HO.out hg)
  obtain ⟨_, _, ss, e, hss, hown, hin⟩ := ownR_open hOA
  simp only [Value.slice.injEq] at e
  obtain ⟨rfl, _, rfl⟩ := e
  have HSS := Lib.hid (And.intro hss hin)
  have HOWN := Lib.hid hown
  have HBA := Lib.hid hbA
  have hn := hOA.2
  have HNL := Lib.hid hn
  have HX : Hid (isL wA 0 base (.slice a x.v.l.length c) x.v.l) := isL_wide (isL_below HS.out hbA (by omega)) (Nat.le_refl _) hB
  have q1 := fun o => cell_of hxA o
  clear hbA hxA hOA hss hown hin hn
  have hzh : w.heap.size < wA.heap.size := by omega
  rcases hop with h | h | h
  · have e1 : (x.op == 1) = true := by simp [h]
    have e2 : (x.op == 2) = false := by simp [h]
    have e3 : (x.op == 3) = false := by simp [h]
    have H := Lib.hid h
    clear h
    go_wp2_with (at_builtin; refine wpList_append_own_at _ rfl _ _ 56 rfl base 86 i0 (.agg #[.int .i64 0, .int .i64 0, .string { data := #[] }, .int .i64 0, .bool false, .int .i64 0, .string { data := #[] }, .slice none 0 0]) 8 96 Tryz.underlying56 HI.out.1 HI.out.2.1 HI.out.2.2.1 HI.out.2.2.2 rfl (by decide) (.slice va n cp) n (flatI l ss) rfl (HOWN.out.alloc _) ⟨wA.heap.size, 0, none⟩ 1 1 [.int .i64 0, .int .i64 0, .string { data := #[] }, .int .i64 x.v.k, .bool x.v.b, .int .i64 x.v.n, .string x.v.t, .slice a x.v.l.length c] rfl rfl ?c1 ?c2 ?c3 ?c4 ?c5 ?_)
    case c1 => exact fun j u hj => news_last hj
    case c2 => intro u hu; simp only [List.mem_cons, List.not_mem_nil, or_false] at hu; rcases hu with rfl | rfl | rfl | rfl | rfl | rfl | rfl | rfl <;> rfl
    case c3 => unfold maxLen; omega
    case c4 => omega
    case c5 => simp; omega
    intro v' w2 hown2 hgrow _ hat
    have hP := pushR (y := gi 0 0 ByteArray.empty x.v) HNL.out HSS.out.1 HSS.out.2 ((Below.refl wA.heap.size wA).alloc (Nat.le_refl _) _) HX.out hown2 hgrow (by simpa using hat)
    have HP := Lib.hid hP
    clear hP hown2 hgrow hat
    go_wp2_with fail
    go_ret
    refine ⟨v', n + 1, rfl, ?_, (Grow.of_below HBA.out).trans HP.out.2⟩
    rw [HE.out, if_pos H.out]
    exact HP.out.1
  · have e1 : (x.op == 1) = false := by simp [h]
    have e2 : (x.op == 2) = true := by simp [h]
    have e3 : (x.op == 3) = false := by simp [h]
    have H := Lib.hid h
    clear h
    go_wp2_with (at_builtin; refine wpList_append_own_at _ rfl _ _ 56 rfl base 86 i0 (.agg #[.int .i64 0, .int .i64 0, .string { data := #[] }, .int .i64 0, .bool false, .int .i64 0, .string { data := #[] }, .slice none 0 0]) 8 96 Tryz.underlying56 HI.out.1 HI.out.2.1 HI.out.2.2.1 HI.out.2.2.2 rfl (by decide) (.slice va n cp) n (flatI l ss) rfl (HOWN.out.alloc _) ⟨wA.heap.size, 0, none⟩ 1 1 [.int .i64 1, .int .i64 0, .string x.text, .int .i64 0, .bool false, .int .i64 0, .string { data := #[] }, .slice none 0 0] rfl rfl ?c1 ?c2 ?c3 ?c4 ?c5 ?_)
    case c1 => exact fun j u hj => news_last hj
    case c2 => intro u hu; simp only [List.mem_cons, List.not_mem_nil, or_false] at hu; rcases hu with rfl | rfl | rfl | rfl | rfl | rfl | rfl | rfl <;> rfl
    case c3 => unfold maxLen; omega
    case c4 => omega
    case c5 => simp; omega
    intro v' w2 hown2 hgrow _ hat
    have hP := pushR (y := gi 1 0 x.text noV) HNL.out HSS.out.1 HSS.out.2 ((Below.refl wA.heap.size wA).alloc (Nat.le_refl _) _) (isL_nil ..) hown2 hgrow (by simpa using hat)
    have HP := Lib.hid hP
    clear hP hown2 hgrow hat
    go_wp2_with fail
    go_ret
    refine ⟨v', n + 1, rfl, ?_, (Grow.of_below HBA.out).trans HP.out.2⟩
    rw [HE.out, if_neg (by rw [H.out]; decide), if_pos H.out]
    exact HP.out.1
  · have e1 : (x.op == 1) = false := by simp [h]
    have e2 : (x.op == 2) = false := by simp [h]
    have e3 : (x.op == 3) = true := by simp [h]
    have H := Lib.hid h
    clear h
    go_wp2_with (at_builtin; refine wpList_append_own_at _ rfl _ _ 56 rfl base 86 i0 (.agg #[.int .i64 0, .int .i64 0, .string { data := #[] }, .int .i64 0, .bool false, .int .i64 0, .string { data := #[] }, .slice none 0 0]) 8 96 Tryz.underlying56 HI.out.1 HI.out.2.1 HI.out.2.2.1 HI.out.2.2.2 rfl (by decide) (.slice va n cp) n (flatI l ss) rfl (HOWN.out.alloc _) ⟨wA.heap.size, 0, none⟩ 1 1 [.int .i64 2, .int .i64 0, .string x.text, .int .i64 0, .bool false, .int .i64 0, .string { data := #[] }, .slice none 0 0] rfl rfl ?c1 ?c2 ?c3 ?c4 ?c5 ?_)
    case c1 => exact fun j u hj => news_last hj
    case c2 => intro u hu; simp only [List.mem_cons, List.not_mem_nil, or_false] at hu; rcases hu with rfl | rfl | rfl | rfl | rfl | rfl | rfl | rfl <;> rfl
    case c3 => unfold maxLen; omega
    case c4 => omega
    case c5 => simp; omega
    intro v' w2 hown2 hgrow _ hat
    have hP := pushR (y := gi 2 0 x.text noV) HNL.out HSS.out.1 HSS.out.2 ((Below.refl wA.heap.size wA).alloc (Nat.le_refl _) _) (isL_nil ..) hown2 hgrow (by simpa using hat)
    have HP := Lib.hid hP
    clear hP hown2 hgrow hat
    go_wp2_with fail
    go_ret
    refine ⟨v', n + 1, rfl, ?_, (Grow.of_below HBA.out).trans HP.out.2⟩
    rw [HE.out, if_neg (by rw [H.out]; decide), if_neg (by rw [H.out]; decide), if_pos H.out]
    exact HP.out.1
end Go.Proofs.YtljljhjdlicfeaaGreat
namespace Go.Proofs.YtljljhjdlicfeaaGreat
open Go Go.RowKit
set_option maxRecDepth 100000
set_option linter.unusedVariables false
set_option maxHeartbeats 6400000 in
theorem rcomp_many (x : GE) (fx : x.fit) (hop : x.op ≠ 1 ∧ x.op ≠ 2 ∧ x.op ≠ 3 ∧ x.op ≠ 8 ∧ x.op ≠ 9) (hy : ∀ y ∈ x.args, RCompC y) : RCompC x := by
  intro l n base v0 s sa w B hl hB hbase hO hs hsa
  have hsz := size_args x
  obtain ⟨aa, ca, bb, off, rfl, hc, ha, hA⟩ := isX_open hsa
  obtain ⟨a, c, rfl⟩ := isL_form hs
  have HO := Lib.hid hO
  have HE := Lib.hid (compE_eq x n)
  have HY := Lib.hid hy
  have HA := Lib.hid hA
  have Ha := Lib.hid ha
  have HNL := Lib.hid hO.2
  have hBw : B ≤ w.heap.size := by omega
  have hfl := (fitE_open fx).2.2.2.2.1
  clear hs hsa hO fx hA ha hy
  simp only [GE.agg]
  have e1 : (x.op == 1) = false := by simpa using hop.1
  have e2 : (x.op == 2) = false := by simpa using hop.2.1
  have e3 : (x.op == 3) = false := by simpa using hop.2.2.1
  have e8 : (x.op == 8) = false := by simpa using hop.2.2.2.1
  have e9 : (x.op == 9) = false := by simpa using hop.2.2.2.2
  have HOP := Lib.hid hop
  clear hop
  obtain ⟨i0, hi, hz0, hz1, hz2⟩ := info_parts iinfo
  have HI := Lib.hid (And.intro hi (And.intro hz0 (And.intro hz1 hz2)))
  have HLT := Lib.hid (fun g (hg : v0.ownBlock = some g) => ownR_lt HO.out hg)
  clear hi hz0 hz1 hz2
  go_enter Tryz.func27, Tryz.ntmps27
  go_upto_region 1 with fail
  obtain ⟨wA, hwA⟩ : ∃ wA, wA = w.alloc (.cells #[.int .i64 x.op, .string x.text, .int .i64 x.v.k, .bool x.v.b, .int .i64 x.v.n, .string x.v.t, .slice a x.v.l.length c, .slice aa x.args.length ca] 38) := ⟨_, rfl⟩
  have hbA : Below w.heap.size w wA := by rw [hwA]; exact (Below.refl w.heap.size w).alloc (Nat.le_refl _) _
  have hxA : wA.heap[w.heap.size]? = some (.cells #[.int .i64 x.op, .string x.text, .int .i64 x.v.k, .bool x.v.b, .int .i64 x.v.n, .string x.v.t, .slice a x.v.l.length c, .slice aa x.args.length ca] 38 (0, 0)) := by rw [hwA]; exact heap_last
  have hzA : w.heap.size + 1 ≤ wA.heap.size := by rw [hwA]; simp
  rw [← hwA]
  clear hwA
  have HOA := Lib.hid (ownR_keep HO.out hbA)
  have HBA := Lib.hid hbA
  have HXA := Lib.hid hxA
  have q0 := fun o => cell_of hxA o
  clear hbA hxA
  go_wp2_with fail
  go_loopw [0, 7] (fun v i wr => ∃ (k n2 : Nat), k ≤ x.args.length ∧ i = .int .i64 k ∧ n2 = n + (compEs (x.args.take k) n).length ∧ Hid (ownR wr base v n2 (l ++ compEs (x.args.take k) n)) ∧ Hid (Grow NoX v0.ownBlock v.ownBlock wA wr)) (fun _ i _ => x.args.length - (intOf i).toNat)
  case atStart => exact ⟨0, n, Nat.zero_le _, rfl, by simp [compEs], by rw [List.take_zero, show compEs [] n = [] from rfl, List.append_nil]; exact HOA.out, Grow.refl _ _ _⟩
  case round =>
    obtain ⟨k, n2, hk, rfl, hn2, hO2, hG⟩ := hrel
    have hzr : w.heap.size + 1 ≤ wr.heap.size := Nat.le_trans hzA hG.out.size
    have hbx : wr.heap[w.heap.size]? = some (.cells #[.int .i64 x.op, .string x.text, .int .i64 x.v.k, .bool x.v.b, .int .i64 x.v.n, .string x.v.t, .slice a x.v.l.length c, .slice aa x.args.length ca] 38 (0, 0)) :=
      (hG.out.block w.heap.size (by omega) (fun h => h.elim) (fun e => by have := (HLT.out _ e.symm).2; omega)).trans HXA.out
    have q1 := fun o => cell_of hbx o
    have hln := compEs_len (x.args.take k) n
    by_cases hlt : k < x.args.length
    · obtain ⟨rfl, hb2⟩ := Ha.out (by omega)
      obtain ⟨ay, cy, aay, cay, y0, y1, y2, y3, y4, y5, y6, y7, ys, ysa⟩ := cellsE_open (HA.out k hlt)
      have hbw : Below base wA wr := hG.out.below (B := base) (by omega) (fun k hk => hk.elim) (fun g hg => (HLT.out g hg).1)
      have hg : ∀ o, wr.cell? ⟨bb, o, none⟩ = w.cell? ⟨bb, o, none⟩ := fun o => (hbw.cell (p := ⟨bb, o, none⟩) (Nat.lt_of_lt_of_le hb2 hB)).trans (HBA.out.cell (p := ⟨bb, o, none⟩) (Nat.lt_of_lt_of_le hb2 hBw))
      have HYS := Lib.hid (And.intro (isL_below (isL_below ys HBA.out hBw) hbw hB) (isX_below (isX_below ysa HBA.out hBw) hbw hB))
      have hsm := sizeE_take x.args k hlt
      have hbr : base ≤ wr.heap.size := by omega
      have HC := Lib.hid (HY.out x.args[k] (List.getElem_mem _) (l ++ compEs (x.args.take k) n) n2 base)
      clear ys ysa hbw Ha q0
      go_wp2_with fail
      refine (HC.out _ _ _ wr B (by omega) hB hbr hO2.out HYS.out.1 HYS.out.2).mono ?_
      rintro e w2 ⟨v2, n3, rfl, ho3, hg3⟩
      have HO3 := Lib.hid ho3
      have HG3 := Lib.hid (hG.out.trans hg3)
      clear ho3 hg3
      go_wp2_with fail
      go_roundw
      case rel =>
        have ho := HO3.out
        rw [hn2, List.append_assoc, ← compEs_take_succ _ _ _ hlt] at ho
        have hn := ho.2
        rw [List.length_append, HNL.out] at hn
        exact ⟨k + 1, n3, by omega, by go_num, hn.symm, ho, HG3⟩
      case measure => simp [intOf]; omega
    · have hL : l ++ compEs (x.args.take k) n = l ++ compEs x.args n := by rw [List.take_of_length_le (by omega)]
      have hO3 := hO2.out
      rw [hL] at hO3
      obtain ⟨va, cp, ss, e, hss, hown, hin⟩ := ownR_open hO3
      subst e
      have HSS := Lib.hid (And.intro hss hin)
      have HOWN := Lib.hid hown
      have HN3 := Lib.hid hO3.2
      have hE : compE x n = compEs x.args n ++ [if x.op = 4 then gi 3 0 x.text noV else if x.op = 5 then gi 4 x.args.length ByteArray.empty noV else gi 5 x.op ByteArray.empty noV] := by
        rw [HE.out, if_neg HOP.out.1, if_neg HOP.out.2.1, if_neg HOP.out.2.2.1, if_neg (by have := HOP.out; omega)]
      have hfin : ∀ i, compE x n = compEs x.args n ++ [i] → ∀ w2 v2, ownR w2 base v2 (n2 + 1) ((l ++ compEs x.args n) ++ [i]) → ownR w2 base v2 (n2 + 1) (l ++ compE x n) := fun i h w2 v2 h2 => by rw [h, ← List.append_assoc]; exact h2
      have HF := Lib.hid hfin
      have HE2 := Lib.hid hE
      have hzh : w.heap.size < wr.heap.size := by omega
      have hn2' : n2 = n + (compEs x.args n).length := by rw [hn2, List.take_of_length_le (by omega)]
      have hln2 := compEs_len x.args n
      have hn2b : n2 + 1 ≤ 2147483640 := by omega
      clear hn2' hln2
      clear hfin hE hO3 hss hown hin hL hn2 q0
      by_cases h4 : x.op = 4
      · have e4 : (x.op == 4) = true := by simp [h4]
        have H := Lib.hid h4
        clear h4
        go_wp2_with (at_builtin; refine wpList_append_own_at _ rfl _ _ 56 rfl base 86 i0 (.agg #[.int .i64 0, .int .i64 0, .string { data := #[] }, .int .i64 0, .bool false, .int .i64 0, .string { data := #[] }, .slice none 0 0]) 8 96 Tryz.underlying56 HI.out.1 HI.out.2.1 HI.out.2.2.1 HI.out.2.2.2 rfl (by decide) (.slice va n2 cp) n2 (flatI (l ++ compEs x.args n) ss) rfl (HOWN.out.alloc _) ⟨wr.heap.size, 0, none⟩ 1 1 [.int .i64 3, .int .i64 0, .string x.text, .int .i64 0, .bool false, .int .i64 0, .string { data := #[] }, .slice none 0 0] rfl rfl ?c1 ?c2 ?c3 ?c4 ?c5 ?_)
        case c1 => exact fun j u hj => news_last hj
        case c2 => intro u hu; simp only [List.mem_cons, List.not_mem_nil, or_false] at hu; rcases hu with rfl | rfl | rfl | rfl | rfl | rfl | rfl | rfl <;> rfl
        case c3 => unfold maxLen; omega
        case c4 => omega
        case c5 => simp; omega
        intro v' w2 hown2 hgrow _ hat
        have hP := pushR (y := gi 3 0 x.text noV) HN3.out HSS.out.1 HSS.out.2 ((Below.refl wr.heap.size wr).alloc (Nat.le_refl _) _) (isL_nil ..) hown2 hgrow (by simpa using hat)
        have HP := Lib.hid hP
        clear hP hown2 hgrow hat
        go_wp2_with fail
        go_ret
        exact ⟨v', n2 + 1, rfl, HF.out _ (by rw [HE2.out, if_pos H.out]) _ _ HP.out.1, (Grow.of_below HBA.out).trans (hG.out.trans HP.out.2)⟩
      have e4 : (x.op == 4) = false := by simpa using h4
      have H4 := Lib.hid h4
      clear h4
      by_cases h5 : x.op = 5
      · have e5 : (x.op == 5) = true := by simp [h5]
        have H := Lib.hid h5
        clear h5
        go_wp2_with (at_builtin; refine wpList_append_own_at _ rfl _ _ 56 rfl base 86 i0 (.agg #[.int .i64 0, .int .i64 0, .string { data := #[] }, .int .i64 0, .bool false, .int .i64 0, .string { data := #[] }, .slice none 0 0]) 8 96 Tryz.underlying56 HI.out.1 HI.out.2.1 HI.out.2.2.1 HI.out.2.2.2 rfl (by decide) (.slice va n2 cp) n2 (flatI (l ++ compEs x.args n) ss) rfl (HOWN.out.alloc _) ⟨wr.heap.size, 0, none⟩ 1 1 [.int .i64 4, .int .i64 (x.args.length : Nat), .string { data := #[] }, .int .i64 0, .bool false, .int .i64 0, .string { data := #[] }, .slice none 0 0] rfl rfl ?c1 ?c2 ?c3 ?c4 ?c5 ?_)
        case c1 => exact fun j u hj => news_last hj
        case c2 => intro u hu; simp only [List.mem_cons, List.not_mem_nil, or_false] at hu; rcases hu with rfl | rfl | rfl | rfl | rfl | rfl | rfl | rfl <;> rfl
        case c3 => unfold maxLen; omega
        case c4 => omega
        case c5 => simp; omega
        intro v' w2 hown2 hgrow _ hat
        have hP := pushR (y := gi 4 x.args.length ByteArray.empty noV) HN3.out HSS.out.1 HSS.out.2 ((Below.refl wr.heap.size wr).alloc (Nat.le_refl _) _) (isL_nil ..) hown2 hgrow (by simpa using hat)
        have HP := Lib.hid hP
        clear hP hown2 hgrow hat
        go_wp2_with fail
        go_ret
        exact ⟨v', n2 + 1, rfl, HF.out _ (by rw [HE2.out, if_neg H4.out, if_pos H.out]) _ _ HP.out.1, (Grow.of_below HBA.out).trans (hG.out.trans HP.out.2)⟩
      have e5 : (x.op == 5) = false := by simpa using h5
      have H5 := Lib.hid h5
      clear h5
      go_wp2_with (at_builtin; refine wpList_append_own_at _ rfl _ _ 56 rfl base 86 i0 (.agg #[.int .i64 0, .int .i64 0, .string { data := #[] }, .int .i64 0, .bool false, .int .i64 0, .string { data := #[] }, .slice none 0 0]) 8 96 Tryz.underlying56 HI.out.1 HI.out.2.1 HI.out.2.2.1 HI.out.2.2.2 rfl (by decide) (.slice va n2 cp) n2 (flatI (l ++ compEs x.args n) ss) rfl (HOWN.out.alloc _) ⟨wr.heap.size, 0, none⟩ 1 1 [.int .i64 5, .int .i64 x.op, .string { data := #[] }, .int .i64 0, .bool false, .int .i64 0, .string { data := #[] }, .slice none 0 0] rfl rfl ?c1 ?c2 ?c3 ?c4 ?c5 ?_)
      case c1 => exact fun j u hj => news_last hj
      case c2 => intro u hu; simp only [List.mem_cons, List.not_mem_nil, or_false] at hu; rcases hu with rfl | rfl | rfl | rfl | rfl | rfl | rfl | rfl <;> rfl
      case c3 => unfold maxLen; omega
      case c4 => omega
      case c5 => simp; omega
      intro v' w2 hown2 hgrow _ hat
      have hP := pushR (y := gi 5 x.op ByteArray.empty noV) HN3.out HSS.out.1 HSS.out.2 ((Below.refl wr.heap.size wr).alloc (Nat.le_refl _) _) (isL_nil ..) hown2 hgrow (by simpa using hat)
      have HP := Lib.hid hP
      clear hP hown2 hgrow hat
      go_wp2_with fail
      go_ret
      exact ⟨v', n2 + 1, rfl, HF.out _ (by rw [HE2.out, if_neg H4.out, if_neg H5.out]) _ _ HP.out.1, (Grow.of_below HBA.out).trans (hG.out.trans HP.out.2)⟩
end Go.Proofs.YtljljhjdlicfeaaGreat
