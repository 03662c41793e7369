/-
  What the writer of code does: one instruction more; a jump; a jump's end. Conditions: fewer than 2^31 instructions.
-/
import Derived.Test.YtljljhjdlicfeaaND
import Derived.Test.YtljljhjdlicfeaaMO
import Derived.Test.YtljljhjdlicfeaaNG
import Derived.Deep.DeepCutAuto
namespace Go.Proofs.Ytljljhjdlicfeaa
open Go Go.RowKit
set_option maxRecDepth 100000
set_option linter.unusedVariables false
theorem iinfo : (Try.prog.info? 110).map (fun i => (i.zero, i.size, i.bytes)) = some (some (.agg #[.int .i64 0, .int .i64 0, .string { data := #[] }, .int .i64 0, .bool false, .int .i64 0, .string { data := #[] }, .slice none 0 0]), 8, 96) := by kernel_rfl
/-- the writer in block wb has written l, from block base on -/
def St (w : World) (wb base : Nat) (l : List GI) (ob : Option Nat) : Prop :=
  ∃ v, w.heap[wb]? = some (.cells #[v] 86 (0, 0)) ∧ v.ownBlock = ob ∧ ownI true w base base 110 v l ∧ wb < base ∧ base ≤ w.heap.size
theorem St.keep {w w' : World} {wb base : Nat} {l : List GI} {ob : Option Nat} (h : St w wb base l ob) (hb : Below w.heap.size w w') : St w' wb base l ob := by
  obtain ⟨v, h1, h2, h3, h4, h5⟩ := h
  exact ⟨v, by rw [hb.block wb (by omega)]; exact h1, h2, ownI_keep h3 (fun b hlt _ => hb.block b hlt) hb.size, h4, Nat.le_trans h5 hb.size⟩
theorem St.lt {w : World} {wb base g : Nat} {l : List GI} {ob : Option Nat} (h : St w wb base l ob) (hg : ob = some g) : base ≤ g ∧ g < w.heap.size := by
  obtain ⟨v, h1, h2, h3, h4, h5⟩ := h
  exact ownI_lt h3 (h2.trans hg)

theorem drew_heap (w : World) : w.drew.heap = w.heap := rfl
theorem owns_form {w : World} {base : Nat} {T : TypeId} {sz n : Nat} {v : Value} {xs : List Value} (h : w.ownsRow base T sz v n xs) : ∃ a c, v = .slice a n c := by
  obtain ⟨_, ⟨e, rfl⟩ | ⟨g, cap, _, e, _⟩⟩ := h
  · exact ⟨_, _, e⟩
  · exact ⟨_, _, e⟩
theorem put_law {w w1 w2 : World} {wb base n : Nat} {l : List GI} {i : GI} {v v' s : Value} {ss : List Value}
    (hwb : w.heap[wb]? = some (.cells #[v] 86 (0, 0))) (hlt : wb < base) (hbase : base ≤ w.heap.size) (hob : ∀ g, v.ownBlock = some g → base ≤ g ∧ g < w.heap.size) (hn : n = l.length + 1) (hls : ss.length = l.length)
    (hin : ∀ j (h : j < l.length) (h2 : j < ss.length), inner true w base v.ownBlock ss[j] l[j].v.l) (hs : inner true w base v.ownBlock s i.v.l) (hw1 : Below w.heap.size w w1)
    (hown : w2.ownsRow base 110 8 v' n (flatI l ss ++ [.int .i64 i.op, .int .i64 i.arg, .string i.s, .int .i64 i.v.k, .bool i.v.b, .int .i64 i.v.n, .string i.v.t, s]))
    (hg : w1.grownBy w2 v.ownBlock) (hat : v'.ownBlock = v.ownBlock ∨ v'.ownBlock = some w1.heap.size) :
    w2.heap[wb]? = some (.cells #[v] 86 (0, 0)) ∧ St (w2.setCell ⟨wb, 0, none⟩ v') wb base (l ++ [i]) v'.ownBlock ∧ Grow (· = wb) v.ownBlock v'.ownBlock w (w2.setCell ⟨wb, 0, none⟩ v') := by
  have hwk : ∀ b, b < w.heap.size → some b ≠ v.ownBlock → w2.heap[b]? = w.heap[b]? := fun b hb hne => by
    rw [hg.block b (Nat.lt_of_lt_of_le hb hw1.size) hne, hw1.block b hb]
  have hne : some wb ≠ v.ownBlock := fun e => by have := (hob wb e.symm).1; omega
  have h1 : w2.heap[wb]? = some (.cells #[v] 86 (0, 0)) := by rw [hwk wb (by omega) hne]; exact hwb
  have hsz2 : w.heap.size ≤ w2.heap.size := Nat.le_trans hw1.size hg.size
  have hP := ownI_push (full := true) hn hls hin hw1 hs hown hg hat
  have hne' : ∀ g, v'.ownBlock = some g → base ≤ g := fun g hg' => (ownI_lt hP.1 hg').1
  refine ⟨h1, ⟨v', ?_, rfl, ?_, hlt, by rw [hsz_setCell2]; omega⟩, ?_⟩
  · rw [heap_setCell2 h1]; rfl
  · refine ownI_keep hP.1 (fun b hb hor => Below.heap_setCell _ _ _ _ ?_) (by rw [hsz_setCell2]; exact Nat.le_refl _)
    rintro rfl
    rcases hor with h | h
    · omega
    · have := hne' _ h.symm; omega
  · refine ⟨?_, ?_, ?_, by rw [hsz_setCell2]; omega, fun b hb hx hn' => ?_, hP.2⟩
    · exact hg.os.trans hw1.os
    · exact hg.tape.trans hw1.tape
    · exact hg.output.trans hw1.output
    · rw [Below.heap_setCell _ _ _ _ (fun e => hx e), hwk b hb hn']

set_option maxHeartbeats 1600000 in
theorem put_any (l : List GI) (i : GI) (hl : l.length ≤ 2147483647) (wb base : Nat) (ob : Option Nat) (s : Value) (w : World) (h : St w wb base l ob) (hs : inner true w base ob s i.v.l) :
    Calls Try.prog 57 #[.pointer (some ⟨wb, 0, none⟩), i.agg s] w (fun e w' => e = .returned (.tuple #[]) ∧ ∃ ob', St w' wb base (l ++ [i]) ob' ∧ Grow (· = wb) ob ob' w w') := by
  obtain ⟨v, h1, rfl, h3, h4, h5⟩ := h
  have hlt := fun g hg => ownI_lt h3 (g := g) hg
  obtain ⟨ss, hls, hown, hin⟩ := h3
  obtain ⟨va, cp, rfl⟩ := owns_form hown
  obtain ⟨a1, c1, rfl⟩ := isS_form hs
  obtain ⟨i0, hi, hz0, hz1, hz2⟩ := info_parts iinfo
  have HI := Lib.hid (And.intro hi (And.intro hz0 (And.intro hz1 hz2)))
  have HSL := Lib.hid Try.underlying60
  have q1 := fun o => cell_of h1 o
  have f1 := fun o => frozen_of h1 o
  have H1 := Lib.hid h1
  have HS := Lib.hid hs
  have HLT := Lib.hid hlt
  have HLS := Lib.hid hls
  have HOWN := Lib.hid hown
  have HIN := Lib.hid hin
  have hwz : wb < w.heap.size := by omega
  clear h1 hs hlt hls hown hin hi hz0 hz1 hz2
  simp only [GI.agg]
  go_enter Try.func57, Try.ntmps57
  go_wp2_with fail
  have hzh : wb ≠ w.heap.size := by omega
  have hzl : wb < w.heap.size + 1 := by omega
  go_region_law
    (refine step_append_own_at rfl _ _ 60 rfl base 110 i0 (.agg #[.int .i64 0, .int .i64 0, .string { data := #[] }, .int .i64 0, .bool false, .int .i64 0, .string { data := #[] }, .slice none 0 0]) 8 96 HSL.out HI.out.1 HI.out.2.1 HI.out.2.2.1 HI.out.2.2.2 rfl (by decide) (.slice va l.length cp) l.length (flatI l ss) rfl ?c0 ⟨w.heap.size + 1, 0, none⟩ 1 1 [.int .i64 i.op, .int .i64 i.arg, .string i.s, .int .i64 i.v.k, .bool i.v.b, .int .i64 i.v.n, .string i.v.t, .slice a1 i.v.l.length c1] ?c6 rfl ?c1 ?c2 ?c3 ?c4 ?c5 ?_
     case c0 =>
       refine ownsRow_keep HOWN.out fun g hg => ?_
       have := (HLT.out g hg).2
       rw [drew_heap, Below.heap_alloc _ _ _ (by simp; omega), Below.heap_alloc _ _ _ this]
     case c6 => rfl
     case c1 =>
       intro j u hj
       have := @news_last (w.alloc (.cells #[.int .i64 i.op, .int .i64 i.arg, .string i.s, .int .i64 i.v.k, .bool i.v.b, .int .i64 i.v.n, .string i.v.t, .slice a1 i.v.l.length c1] 110)) _ 110 j u hj
       rw [show (w.alloc (.cells #[.int .i64 i.op, .int .i64 i.arg, .string i.s, .int .i64 i.v.k, .bool i.v.b, .int .i64 i.v.n, .string i.v.t, .slice a1 i.v.l.length c1] 110)).heap.size = w.heap.size + 1 from by simp] at this
       exact this
     case c2 => intro u hu; simp only [List.mem_cons, List.not_mem_nil, or_false] at hu; rcases hu with rfl | rfl | rfl | rfl | rfl | rfl | rfl | rfl <;> rfl
     case c3 => unfold maxLen; omega
     case c4 => omega
     case c5 => simp [World.drew]; omega
     intro v' w2 hown2 hgrow hat
     have hP := put_law (l := l) (i := i) H1.out h4 h5 HLT.out (n := l.length + 1) rfl HLS.out HIN.out HS.out (((Below.refl w.heap.size w).alloc (Nat.le_refl _) _).alloc (by simp) _).drew hown2 hgrow hat
     obtain ⟨a2, c2, hv⟩ := owns_form hown2
     subst hv
     have HP := Lib.hid hP
     have q3 := fun o => cell_of hP.1 o
     have f3 := fun o => frozen_of hP.1 o
     clear hP hown2 hgrow hat)
  all_goals
    go_wp2_with fail
    go_end0
    exact ⟨rfl, _, HP.out.2.1, HP.out.2.2⟩

/-- the instruction of a jump, its end yet to come -/
def jmp (op : Int) : GI := ⟨op, 0, ByteArray.empty, ⟨0, false, 0, ByteArray.empty, []⟩⟩
set_option maxHeartbeats 1600000 in
theorem jump_any (l : List GI) (op : Int) (hl : l.length ≤ 2147483647) (wb base : Nat) (ob : Option Nat) (w : World) (h : St w wb base l ob) :
    Calls Try.prog 59 #[.pointer (some ⟨wb, 0, none⟩), .int .i64 op] w (fun e w' => ∃ ob' c1 c2, e = .returned (.func (.func 74) #[] #[.pointer (some ⟨c1, 0, none⟩), .pointer (some ⟨c2, 0, none⟩)]) ∧ St w' wb base (l ++ [jmp op]) ob' ∧ Grow (· = wb) ob ob' w w' ∧
      w'.heap[c1]? = some (.cells #[.pointer (some ⟨wb, 0, none⟩)] 84 (0, 0)) ∧ w'.heap[c2]? = some (.cells #[.int .i64 (l.length : Nat)] 3 (0, 0)) ∧ w.heap.size ≤ c1 ∧ w.heap.size ≤ c2 ∧ some c1 ≠ ob' ∧ some c2 ≠ ob') := by
  have h0 := h
  obtain ⟨v, h1, rfl, h3, h4, h5⟩ := h
  obtain ⟨ss, hls, hown, hin⟩ := h3
  obtain ⟨va, cp, rfl⟩ := owns_form hown
  have q1 := fun o => cell_of h1 o
  have f1 := fun o => frozen_of h1 o
  have H0 := Lib.hid h0
  have hwz : wb < w.heap.size := by omega
  clear h1 hls hown hin h0
  go_enter Try.func59, Try.ntmps59
  go_wp2_with fail
  have hb0 : Below w.heap.size w ((w.alloc (.cells #[.pointer (some ⟨wb, 0, none⟩)] 84)).alloc (.cells #[.int .i64 (l.length : Nat)] 3)) := ((Below.refl w.heap.size w).alloc (Nat.le_refl _) _).alloc (by simp) _
  refine (put_any l (jmp op) hl wb base _ _ _ (St.keep H0.out hb0) inner_nil).mono ?_
  rintro e w1 ⟨rfl, ob', hst, hgr⟩
  go_wp2_with fail
  go_ret
  have hsz : w.heap.size + 2 ≤ w1.heap.size := by have := hgr.size; simpa using this
  have hol : ∀ g, (Value.slice va l.length cp).ownBlock = some g → g < w.heap.size := fun g hg => (H0.out.lt hg).2
  have hob : ∀ c, w.heap.size ≤ c → c < w.heap.size + 2 → some c ≠ ob' := fun c h1 h2 e => by
    rcases hgr.own with e2 | ⟨g, e2, hg⟩
    · rw [e2] at e; have := hol c e.symm; omega
    · rw [e2] at e; simp at e hg; omega
  have hkeep : ∀ c, w.heap.size ≤ c → c < w.heap.size + 2 → w1.heap[c]? = ((w.alloc (.cells #[.pointer (some ⟨wb, 0, none⟩)] 84)).alloc (.cells #[.int .i64 (l.length : Nat)] 3)).heap[c]? := fun c h1 h2 =>
    hgr.block c (by simpa using h2) (by omega) (fun e => by have := hol c e.symm; omega)
  refine ⟨ob', w.heap.size, w.heap.size + 1, rfl, hst, (Grow.of_below hb0).trans hgr, ?_, ?_, Nat.le_refl _, by omega, hob _ (by omega) (by omega), hob _ (by omega) (by omega)⟩
  · rw [hkeep _ (by omega) (by omega), heap_two]
  · rw [hkeep _ (by omega) (by omega), heap_second]

set_option maxHeartbeats 1600000 in
theorem end_any (l : List GI) (k : Nat) (hk : k < l.length) (hl : l.length ≤ 2147483647) (wb base c1 c2 : Nat) (ob : Option Nat) (w : World) (h : St w wb base l ob)
    (h1 : w.heap[c1]? = some (.cells #[.pointer (some ⟨wb, 0, none⟩)] 84 (0, 0))) (h2 : w.heap[c2]? = some (.cells #[.int .i64 (k : Nat)] 3 (0, 0))) :
    Calls Try.prog 74 #[.pointer (some ⟨c1, 0, none⟩), .pointer (some ⟨c2, 0, none⟩)] w (fun e w' => e = .returned (.tuple #[]) ∧ St w' wb base (l.set k { l[k] with arg := (l.length : Nat) }) ob ∧ Grow (· = wb) ob ob w w') := by
  obtain ⟨v, h1', rfl, h3, h4, h5⟩ := h
  obtain ⟨g, hg⟩ : ∃ g, v.ownBlock = some g := by
    obtain ⟨ss, _, ⟨_, ⟨_, e⟩ | ⟨g, _, _, e, _⟩⟩, _⟩ := h3
    · omega
    · exact ⟨g, by rw [e]; rfl⟩
  have hlt := ownI_lt h3 hg
  have hset := ownI_set h3 hg hk (l.length : Nat)
  have h3' := h3
  obtain ⟨ss, hls, hown, hin⟩ := h3
  obtain ⟨va, cp, rfl⟩ := owns_form hown
  obtain ⟨hx1, ⟨_, e⟩ | ⟨g', cap, cur, e, hb, hh, hn, hc, hsz, htk⟩⟩ := hown
  · omega
  simp only [Value.slice.injEq] at e
  obtain ⟨rfl, _, rfl⟩ := e
  obtain rfl : g' = g := by simpa [Value.ownBlock] using hg
  have hcs : k * 8 + 1 < cur.size := by rw [hsz]; omega
  have q0 := fun o => cell_of h1' o
  have q1 := fun o => cell_of h1 o
  have q2 := fun o => cell_of h2 o
  have q3 := fun o => cell_of hh o
  have f3 := fun o => frozen_of hh o
  have HSET := Lib.hid hset
  have HH := Lib.hid hh
  have H1' := Lib.hid h1'
  have HLT := Lib.hid hlt
  obtain ⟨u, hu⟩ : ∃ u, cur[k * 8 + 1]? = some u := ⟨_, Array.getElem?_eq_getElem hcs⟩
  clear hset h3' hls hin hx1 htk hh h1' h1 h2 hlt hg
  go_enter Try.func74, Try.ntmps74
  go_wp2_with fail
  go_region
  all_goals
    go_wp2_with fail
    go_end0
    refine ⟨rfl, ⟨_, ?_, rfl, ownI_keep HSET.out ?_ ?_, h4, ?_⟩, ?_⟩
    · rw [drew_heap, Below.heap_setCell _ _ _ _ (by dsimp only; omega)]; exact H1'.out
    · exact fun b _ _ => rfl
    · exact Nat.le_refl _
    · rw [drew_heap, hsz_setCell2]; exact h5
    · have e1 : (w.setCell ⟨g', k * 8 + 1, none⟩ (.int .i64 (l.length : Nat))).heap.size = w.heap.size := hsz_setCell2 _ _ _
      refine ⟨rfl, rfl, rfl, by rw [drew_heap, e1]; exact Nat.le_refl _, fun b hb hx hn => ?_, .inl rfl⟩
      rw [drew_heap]
      exact Below.heap_setCell _ _ _ _ (fun e => hn (by rw [e]; rfl))
end Go.Proofs.Ytljljhjdlicfeaa
