/-
  What the references' compile appends of an expression: compE. Conditions: fewer than 2^31 instructions.
-/
import Derived.Test.YtnmolgmchoihmaaDoorExprL
namespace Go.Proofs.YtnmolgmchoihmaaDoor
open Go Go.RowKit
set_option maxRecDepth 100000
set_option linter.unusedVariables false
/-- v is a slice of n instructions that the call has made, from block base on; their values lie anywhere else -/
def ownR (w : World) (base : Nat) (v : Value) (n : Nat) (l : List GI) : Prop := ownI false w 0 base 40 v l ∧ l.length = n
theorem ownR_open {w : World} {base n : Nat} {v : Value} {l : List GI} (h : ownR w base v n l) : ∃ a c ss, v = .slice a n c ∧ ss.length = l.length ∧ w.ownsRow base 40 8 (.slice a n c) n (flatI l ss) ∧
    ∀ i (h : i < l.length) (h' : i < ss.length), inner false w 0 (Value.slice a n c).ownBlock ss[i] l[i].v.l := by
  obtain ⟨⟨ss, hl, hown, hin⟩, rfl⟩ := h
  obtain ⟨a, c, rfl⟩ := owns_form hown
  exact ⟨a, c, ss, rfl, hl, hown, hin⟩
theorem ownR_keep {w w' : World} {base n : Nat} {v : Value} {l : List GI} (h : ownR w base v n l) (hb : Below w.heap.size w w') : ownR w' base v n l :=
  ⟨ownI_keep h.1 (fun b hlt _ => hb.block b hlt) hb.size, h.2⟩
theorem ownR_lt {w : World} {base n : Nat} {v : Value} {l : List GI} (h : ownR w base v n l) {g : Nat} (hg : v.ownBlock = some g) : base ≤ g ∧ g < w.heap.size := ownI_lt h.1 hg
abbrev NoX : Nat → Prop := fun _ => False
theorem pushR {w w1 w2 : World} {base n : Nat} {v v' s : Value} {l : List GI} {y : GI} {ss : List Value} (hn : l.length = n) (hl : ss.length = l.length)
    (hin : ∀ i (h : i < l.length) (h2 : i < ss.length), inner false w 0 v.ownBlock ss[i] l[i].v.l) (hw1 : Below w.heap.size w w1) (hs : inner false w 0 v.ownBlock s y.v.l)
    (h' : w2.ownsRow base 40 8 v' (n + 1) (flatI l ss ++ [.int .i64 y.op, .int .i64 y.arg, .string y.s, .int .i64 y.v.k, .bool y.v.b, .int .i64 y.v.n, .string y.v.t, s])) (hg : w1.grownBy w2 v.ownBlock)
    (hat : v'.ownBlock = v.ownBlock ∨ v'.ownBlock = some w1.heap.size) : ownR w2 base v' (n + 1) (l ++ [y]) ∧ Grow NoX v.ownBlock v'.ownBlock w w2 := by
  have hP := ownI_push (full := false) (by rw [hn]) hl hin hw1 hs h' hg hat
  refine ⟨⟨hP.1, by simp [hn]⟩, hg.os.trans hw1.os, hg.tape.trans hw1.tape, hg.output.trans hw1.output, Nat.le_trans hw1.size hg.size, fun b hb _ hne => ?_, hP.2⟩
  rw [hg.block b (Nat.lt_of_lt_of_le hb hw1.size) hne, hw1.block b hb]
theorem isL_growR {w w' : World} {B base n : Nat} {L : List GI} {v v' : Value} {s : Value} {l : List GV} (h : isL w 0 B s l) (hB : B ≤ base) (hb : base ≤ w.heap.size) (ho : ownR w base v n L) (hg : Grow NoX v.ownBlock v'.ownBlock w w') : isL w' 0 B s l :=
  isL_below h (hg.below (B := base) hb (fun k hk => hk.elim) (fun g hg' => (ownR_lt ho hg').1)) hB
theorem isX_growR {w w' : World} {B base n : Nat} {L : List GI} {v v' : Value} {s : Value} {l : List GE} (h : isX w B s l) (hB : B ≤ base) (hb : base ≤ w.heap.size) (ho : ownR w base v n L) (hg : Grow NoX v.ownBlock v'.ownBlock w w') : isX w' B s l :=
  isX_below h (hg.below (B := base) hb (fun k hk => hk.elim) (fun g hg' => (ownR_lt ho hg').1)) hB
def RPost (base n : Nat) (v : Value) (l : List GI) (x : GE) (w : World) (e : Ending) (w' : World) : Prop := ∃ v' n', e = .returned v' ∧ ownR w' base v' n' (l ++ compE x n) ∧ Grow NoX v.ownBlock v'.ownBlock w w'
def RCompC (x : GE) : Prop := ∀ (l : List GI) (n base : Nat) (v s sa : Value) (w : World) (B : Nat), n + 3 * x.size ≤ 2147483640 → B ≤ base → base ≤ w.heap.size → ownR w base v n l →
  isL w 0 B s x.v.l → isX w B sa x.args → Calls Tryd.prog 25 #[v, x.agg s sa] w (RPost base n v l x w)
set_option maxHeartbeats 3200000 in
theorem rcomp_leaf (x : GE) (fx : x.fit) (hop : x.op = 1 ∨ x.op = 2 ∨ x.op = 3) : RCompC x := by
  intro l n base v s sa w B hl hB hbase hO hs hsa
  obtain ⟨aa, ca, rfl⟩ := isE_form hsa
  obtain ⟨a, c, rfl⟩ := isL_form hs
  obtain ⟨va, cp, ss, rfl, hss, hown, hin⟩ := ownR_open hO
  have HS := Lib.hid hs
  have HO := Lib.hid hO
  have HE := Lib.hid (compE_eq x n)
  have hsz := size_args x
  obtain ⟨i0, hi, hz0, hz1, hz2⟩ := info_parts iinfo
  have HI := Lib.hid (And.intro hi (And.intro hz0 (And.intro hz1 hz2)))
  clear hs hsa fx hss hown hin hO hi hz0 hz1 hz2
  simp only [GE.agg]
  go_enter Tryd.func25, Tryd.ntmps25
  go_upto_region 1 with fail
  obtain ⟨wA, hwA⟩ : ∃ wA, wA = w.alloc (.cells #[.int .i64 x.op, .string x.text, .int .i64 x.v.k, .bool x.v.b, .int .i64 x.v.n, .string x.v.t, .slice a x.v.l.length c, .slice aa x.args.length ca] 30) := ⟨_, rfl⟩
  have hbA : Below w.heap.size w wA := by rw [hwA]; exact (Below.refl w.heap.size w).alloc (Nat.le_refl _) _
  have hxA : wA.heap[w.heap.size]? = some (.cells #[.int .i64 x.op, .string x.text, .int .i64 x.v.k, .bool x.v.b, .int .i64 x.v.n, .string x.v.t, .slice a x.v.l.length c, .slice aa x.args.length ca] 30 (0, 0)) := by rw [hwA]; exact heap_last
  have hzA : w.heap.size + 1 ≤ wA.heap.size := by rw [hwA]; simp
  rw [← hwA]
  clear hwA
  have hOA := ownR_keep HO.out hbA
  have HOA := Lib.hid hOA
  have HLT := Lib.hid (fun g (hg : (Value.slice va n cp).ownBlock = some g) => ownR_lt HO.out hg)
  obtain ⟨_, _, ss, e, hss, hown, hin⟩ := ownR_open hOA
  simp only [Value.slice.injEq] at e
  obtain ⟨rfl, _, rfl⟩ := e
  have HSS := Lib.hid (And.intro hss hin)
  have HOWN := Lib.hid hown
  have HBA := Lib.hid hbA
  have hn := hOA.2
  have HNL := Lib.hid hn
  have HX : Hid (inner false wA 0 (Value.slice va n cp).ownBlock (.slice a x.v.l.length c) x.v.l) := inner_of_isL (lo := 0) (isL_below HS.out hbA (by omega)) (fun b hb => ⟨by omega, fun e => by have := (HLT.out b e.symm).1; omega⟩)
  have q1 := fun o => cell_of hxA o
  clear hbA hxA hOA hss hown hin hn
  have hzh : w.heap.size < wA.heap.size := by omega
  rcases hop with h | h | h
  · have e1 : (x.op == 1) = true := by simp [h]
    have e2 : (x.op == 2) = false := by simp [h]
    have e3 : (x.op == 3) = false := by simp [h]
    have H := Lib.hid h
    clear h
    go_wp2_with (at_builtin; refine wpList_append_own_at _ rfl _ _ 32 rfl base 40 i0 (.agg #[.int .i64 0, .int .i64 0, .string { data := #[] }, .int .i64 0, .bool false, .int .i64 0, .string { data := #[] }, .slice none 0 0]) 8 96 Tryd.underlying32 HI.out.1 HI.out.2.1 HI.out.2.2.1 HI.out.2.2.2 rfl (by decide) (.slice va n cp) n (flatI l ss) rfl (HOWN.out.alloc _) ⟨wA.heap.size, 0, none⟩ 1 1 [.int .i64 0, .int .i64 0, .string { data := #[] }, .int .i64 x.v.k, .bool x.v.b, .int .i64 x.v.n, .string x.v.t, .slice a x.v.l.length c] rfl rfl ?c1 ?c2 ?c3 ?c4 ?c5 ?_)
    case c1 => exact fun j u hj => news_last hj
    case c2 => intro u hu; simp only [List.mem_cons, List.not_mem_nil, or_false] at hu; rcases hu with rfl | rfl | rfl | rfl | rfl | rfl | rfl | rfl <;> rfl
    case c3 => unfold maxLen; omega
    case c4 => omega
    case c5 => simp; omega
    intro v' w2 hown2 hgrow _ hat
    have hP := pushR (y := gi 0 0 ByteArray.empty x.v) HNL.out HSS.out.1 HSS.out.2 ((Below.refl wA.heap.size wA).alloc (Nat.le_refl _) _) HX.out hown2 hgrow (by simpa using hat)
    have HP := Lib.hid hP
    clear hP hown2 hgrow hat
    go_wp2_with fail
    go_ret
    refine ⟨v', n + 1, rfl, ?_, (Grow.of_below HBA.out).trans HP.out.2⟩
    rw [HE.out, if_pos H.out]
    exact HP.out.1
  · have e1 : (x.op == 1) = false := by simp [h]
    have e2 : (x.op == 2) = true := by simp [h]
    have e3 : (x.op == 3) = false := by simp [h]
    have H := Lib.hid h
    clear h
    go_wp2_with (at_builtin; refine wpList_append_own_at _ rfl _ _ 32 rfl base 40 i0 (.agg #[.int .i64 0, .int .i64 0, .string { data := #[] }, .int .i64 0, .bool false, .int .i64 0, .string { data := #[] }, .slice none 0 0]) 8 96 Tryd.underlying32 HI.out.1 HI.out.2.1 HI.out.2.2.1 HI.out.2.2.2 rfl (by decide) (.slice va n cp) n (flatI l ss) rfl (HOWN.out.alloc _) ⟨wA.heap.size, 0, none⟩ 1 1 [.int .i64 1, .int .i64 0, .string x.text, .int .i64 0, .bool false, .int .i64 0, .string { data := #[] }, .slice none 0 0] rfl rfl ?c1 ?c2 ?c3 ?c4 ?c5 ?_)
    case c1 => exact fun j u hj => news_last hj
    case c2 => intro u hu; simp only [List.mem_cons, List.not_mem_nil, or_false] at hu; rcases hu with rfl | rfl | rfl | rfl | rfl | rfl | rfl | rfl <;> rfl
    case c3 => unfold maxLen; omega
    case c4 => omega
    case c5 => simp; omega
    intro v' w2 hown2 hgrow _ hat
    have hP := pushR (y := gi 1 0 x.text noV) HNL.out HSS.out.1 HSS.out.2 ((Below.refl wA.heap.size wA).alloc (Nat.le_refl _) _) inner_nil hown2 hgrow (by simpa using hat)
    have HP := Lib.hid hP
    clear hP hown2 hgrow hat
    go_wp2_with fail
    go_ret
    refine ⟨v', n + 1, rfl, ?_, (Grow.of_below HBA.out).trans HP.out.2⟩
    rw [HE.out, if_neg (by rw [H.out]; decide), if_pos H.out]
    exact HP.out.1
  · have e1 : (x.op == 1) = false := by simp [h]
    have e2 : (x.op == 2) = false := by simp [h]
    have e3 : (x.op == 3) = true := by simp [h]
    have H := Lib.hid h
    clear h
    go_wp2_with (at_builtin; refine wpList_append_own_at _ rfl _ _ 32 rfl base 40 i0 (.agg #[.int .i64 0, .int .i64 0, .string { data := #[] }, .int .i64 0, .bool false, .int .i64 0, .string { data := #[] }, .slice none 0 0]) 8 96 Tryd.underlying32 HI.out.1 HI.out.2.1 HI.out.2.2.1 HI.out.2.2.2 rfl (by decide) (.slice va n cp) n (flatI l ss) rfl (HOWN.out.alloc _) ⟨wA.heap.size, 0, none⟩ 1 1 [.int .i64 2, .int .i64 0, .string x.text, .int .i64 0, .bool false, .int .i64 0, .string { data := #[] }, .slice none 0 0] rfl rfl ?c1 ?c2 ?c3 ?c4 ?c5 ?_)
    case c1 => exact fun j u hj => news_last hj
    case c2 => intro u hu; simp only [List.mem_cons, List.not_mem_nil, or_false] at hu; rcases hu with rfl | rfl | rfl | rfl | rfl | rfl | rfl | rfl <;> rfl
    case c3 => unfold maxLen; omega
    case c4 => omega
    case c5 => simp; omega
    intro v' w2 hown2 hgrow _ hat
    have hP := pushR (y := gi 2 0 x.text noV) HNL.out HSS.out.1 HSS.out.2 ((Below.refl wA.heap.size wA).alloc (Nat.le_refl _) _) inner_nil hown2 hgrow (by simpa using hat)
    have HP := Lib.hid hP
    clear hP hown2 hgrow hat
    go_wp2_with fail
    go_ret
    refine ⟨v', n + 1, rfl, ?_, (Grow.of_below HBA.out).trans HP.out.2⟩
    rw [HE.out, if_neg (by rw [H.out]; decide), if_neg (by rw [H.out]; decide), if_pos H.out]
    exact HP.out.1
end Go.Proofs.YtnmolgmchoihmaaDoor
