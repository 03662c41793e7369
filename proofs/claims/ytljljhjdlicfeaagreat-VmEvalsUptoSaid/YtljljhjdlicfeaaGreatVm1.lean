/-
  Small functions of the machine: push, pop, told. Conditions: fewer than 2^31 values on the stack.
-/
import Derived.Test.YtljljhjdlicfeaaGreatNO
import Derived.Test.YtljljhjdlicfeaaGreatPAC
import Derived.Test.YtljljhjdlicfeaaGreatNG
import Derived.Deep.RegionLaw
namespace Go.Proofs.YtljljhjdlicfeaaGreat
open Go Go.RowKit
set_option maxRecDepth 100000
set_option linter.unusedVariables false
def mach (w : World) (bM base : Nat) (env v : Value) (st : List GV) (n : Nat) : Prop :=
  w.heap[bM]? = some (.cells #[env, v, .int .i64 n] 78 (0, 0)) ∧ ownL w base 36 v st ∧ bM < base ∧ base ≤ w.heap.size
def KB (base bM : Nat) (w w' : World) : Prop := w'.os = w.os ∧ w'.tape = w.tape ∧ w'.output = w.output ∧ w.heap.size ≤ w'.heap.size ∧ ∀ b, b < base → b ≠ bM → w'.heap[b]? = w.heap[b]?
theorem KB.refl (base bM : Nat) (w : World) : KB base bM w w := ⟨rfl, rfl, rfl, Nat.le_refl _, fun _ _ _ => rfl⟩
theorem KB.trans {base bM : Nat} {w w1 w2 : World} (h : KB base bM w w1) (k : KB base bM w1 w2) : KB base bM w w2 :=
  ⟨k.1.trans h.1, k.2.1.trans h.2.1, k.2.2.1.trans h.2.2.1, Nat.le_trans h.2.2.2.1 k.2.2.2.1, fun b hb hne => (k.2.2.2.2 b hb hne).trans (h.2.2.2.2 b hb hne)⟩
theorem KB.below {base bM : Nat} {w w' : World} (h : Below w.heap.size w w') (hb : base ≤ w.heap.size) : KB base bM w w' := ⟨h.os, h.tape, h.output, h.size, fun b k _ => h.block b (Nat.lt_of_lt_of_le k hb)⟩
theorem KB.isBelow {base bM B : Nat} {w w' : World} (h : KB base bM w w') (hB : B ≤ bM) (hb : bM < base) : Below B w w' := ⟨h.1, h.2.1, h.2.2.1, h.2.2.2.1, fun b k => h.2.2.2.2 b (by omega) (by omega)⟩
theorem mach_below {w w' : World} {bM base n : Nat} {env v : Value} {st : List GV} (h : mach w bM base env v st n) (hb : Below w.heap.size w w') : mach w' bM base env v st n := by
  obtain ⟨h1, h2, h3, h4⟩ := h
  exact ⟨(hb.block bM (by omega)).trans h1, ownL_keep h2 hb, h3, Nat.le_trans h4 hb.size⟩
def inR (w : World) (base : Nat) (v s : Value) (l : List GV) : Prop := isR w (fun b => since base w b ∧ some b ≠ v.ownBlock) s l
theorem own_last {w : World} {base g cap n : Nat} {T : TypeId} {xs : List Value} {z0 z1 z2 z3 z4 : Value} (h : w.ownsRow base T 5 (.slice (some ⟨g, 0, none⟩) (n + 1) cap) (n + 1) (xs ++ [z0, z1, z2, z3, z4])) (hx : xs.length = n * 5) :
    base ≤ g ∧ ∃ cur, w.heap[g]? = some (.cells cur T (0, 0)) ∧ cur[n * 5]? = some z0 ∧ cur[n * 5 + 1]? = some z1 ∧ cur[n * 5 + 2]? = some z2 ∧ cur[n * 5 + 3]? = some z3 ∧ cur[n * 5 + 4]? = some z4 := by
  obtain ⟨h1, ⟨h2, _⟩ | ⟨g', cap', cur, e, hg, hh, hn, hc, hs, ht⟩⟩ := h
  · cases h2
  · simp only [Value.slice.injEq, Option.some.injEq, Addr.mk.injEq] at e
    obtain ⟨⟨rfl, _⟩, _, rfl⟩ := e
    have key : ∀ j, j < 5 → cur[n * 5 + j]? = ([z0, z1, z2, z3, z4] : List Value)[j]? := fun j hj => by
      have h3 := congrArg (fun l => l[n * 5 + j]?) ht
      simp only [List.getElem?_take] at h3
      rw [if_pos (by omega), List.getElem?_append_right (by omega), hx, Nat.add_sub_cancel_left] at h3
      rw [← h3, Array.getElem?_toList]
    exact ⟨hg, cur, hh, key 0 (by omega), key 1 (by omega), key 2 (by omega), key 3 (by omega), key 4 (by omega)⟩
theorem own_set5 {w : World} {base g cap n : Nat} {T : TypeId} {xs : List Value} {z0 z1 z2 z3 z4 : Value} (h : w.ownsRow base T 5 (.slice (some ⟨g, 0, none⟩) (n + 1) cap) (n + 1) (xs ++ [z0, z1, z2, z3, z4])) (hx : xs.length = n * 5) (y0 y1 y2 y3 y4 : Value) :
    (((((w.setCell ⟨g, n * 5, none⟩ y0).setCell ⟨g, n * 5 + 1, none⟩ y1).setCell ⟨g, n * 5 + 2, none⟩ y2).setCell ⟨g, n * 5 + 3, none⟩ y3).setCell ⟨g, n * 5 + 4, none⟩ y4).ownsRow base T 5 (.slice (some ⟨g, 0, none⟩) (n + 1) cap) (n + 1) (xs ++ [y0, y1, y2, y3, y4]) := by
  obtain ⟨h1, ⟨h2, _⟩ | ⟨g', cap', cur, e, hg, hh, hn, hc, hs, ht⟩⟩ := h
  · cases h2
  · simp only [Value.slice.injEq, Option.some.injEq, Addr.mk.injEq] at e
    obtain ⟨⟨rfl, _⟩, _, rfl⟩ := e
    refine ⟨by simpa using h1, .inr ⟨g, cap, _, rfl, hg, heap_setCell2 (heap_setCell2 (heap_setCell2 (heap_setCell2 (heap_setCell2 hh)))), hn, hc, by simpa using hs, ?_⟩⟩
    apply List.ext_getElem?
    intro j
    have h3 := congrArg (fun l => l[j]?) ht
    simp only [List.getElem?_take, Array.getElem?_toList] at h3 ⊢
    by_cases hj : j < (n + 1) * 5
    · rw [if_pos hj] at h3 ⊢
      have hsz : n * 5 + 5 ≤ cur.size := by rw [hs]; omega
      rw [Array.getElem?_setIfInBounds, Array.getElem?_setIfInBounds, Array.getElem?_setIfInBounds, Array.getElem?_setIfInBounds, Array.getElem?_setIfInBounds]
      simp only [Array.size_setIfInBounds]
      by_cases hj2 : j < n * 5
      · rw [if_neg (by omega), if_neg (by omega), if_neg (by omega), if_neg (by omega), if_neg (by omega), h3, List.getElem?_append_left (by omega), List.getElem?_append_left (by omega)]
      · obtain ⟨k, rfl⟩ : ∃ k, j = n * 5 + k := ⟨j - n * 5, by omega⟩
        rw [List.getElem?_append_right (by omega), hx, Nat.add_sub_cancel_left]
        have hk : k = 0 ∨ k = 1 ∨ k = 2 ∨ k = 3 ∨ k = 4 := by omega
        rcases hk with rfl | rfl | rfl | rfl | rfl
        · rw [if_neg (by omega), if_neg (by omega), if_neg (by omega), if_neg (by omega), if_pos (by omega), if_pos (by omega)]; rfl
        · rw [if_neg (by omega), if_neg (by omega), if_neg (by omega), if_pos (by omega), if_pos (by omega)]; rfl
        · rw [if_neg (by omega), if_neg (by omega), if_pos (by omega), if_pos (by omega)]; rfl
        · rw [if_neg (by omega), if_pos (by omega), if_pos (by omega)]; rfl
        · rw [if_pos (by omega), if_pos (by omega)]; rfl
    · rw [if_neg hj]
      symm
      apply List.getElem?_eq_none
      simp [hx]; omega
theorem owns_form5 {w : World} {base : Nat} {T : TypeId} {n : Nat} {v : Value} {xs : List Value} (h : w.ownsRow base T 5 v n xs) : ∃ a c, v = .slice a n c := by
  obtain ⟨_, ⟨e, rfl⟩ | ⟨g, cap, _, e, _⟩⟩ := h
  · exact ⟨_, _, e⟩
  · exact ⟨_, _, e⟩
theorem owns_some5 {w : World} {base : Nat} {T : TypeId} {n : Nat} {v : Value} {xs : List Value} (h : w.ownsRow base T 5 v (n + 1) xs) : ∃ g cap, v = .slice (some ⟨g, 0, none⟩) (n + 1) cap := by
  obtain ⟨h1, h2 | ⟨g, cap, cur, e, _⟩⟩ := h
  · omega
  · exact ⟨g, cap, e⟩
theorem drew_heap5 (w : World) : w.drew.heap = w.heap := rfl
theorem ownsRow_keep5 {w w' : World} {base : Nat} {T : TypeId} {sz n : Nat} {v : Value} {xs : List Value} (h : w.ownsRow base T sz v n xs) (hw : ∀ g, v.ownBlock = some g → w'.heap[g]? = w.heap[g]?) : w'.ownsRow base T sz v n xs := by
  obtain ⟨h1, h2⟩ := h
  refine ⟨h1, ?_⟩
  rcases h2 with h2 | ⟨g, cap, cur, e, hg, hh, r⟩
  · exact .inl h2
  · subst e
    exact .inr ⟨g, cap, cur, rfl, hg, (hw g rfl).trans hh, r⟩
def PushO (bM base : Nat) (env : Value) (st : List GV) (n : Nat) (w : World) (e : Ending) (w' : World) : Prop := e = .returned (.tuple #[]) ∧ KB base bM w w' ∧ ∃ v', mach w' bM base env v' st n
theorem set1_heap {w : World} {p : Addr} {u : Value} {b : Nat} (h : b ≠ p.block) : (w.setCell p u).heap[b]? = w.heap[b]? := Below.heap_setCell _ _ _ _ h
theorem os1 (w : World) (p : Addr) (u : Value) : (w.setCell p u).os = w.os := rfl
theorem tp1 (w : World) (p : Addr) (u : Value) : (w.setCell p u).tape = w.tape := rfl
theorem ou1 (w : World) (p : Addr) (u : Value) : (w.setCell p u).output = w.output := rfl
theorem five_heap {w : World} {g b : Nat} (h : b ≠ g) (o0 o1 o2 o3 o4 : Nat) (a0 a1 a2 a3 a4 : Value) : (((((w.setCell ⟨g, o0, none⟩ a0).setCell ⟨g, o1, none⟩ a1).setCell ⟨g, o2, none⟩ a2).setCell ⟨g, o3, none⟩ a3).setCell ⟨g, o4, none⟩ a4).heap[b]? = w.heap[b]? := by
  rw [set1_heap h, set1_heap h, set1_heap h, set1_heap h, set1_heap h]
theorem five_cells5 {w : World} {g : Nat} {cs : Array Value} {T : TypeId} {fz : Nat × Nat} (h : w.heap[g]? = some (.cells cs T fz)) {o0 o1 o2 o3 o4 : Nat} {a0 a1 a2 a3 a4 : Value} : (((((w.setCell ⟨g, o0, none⟩ a0).setCell ⟨g, o1, none⟩ a1).setCell ⟨g, o2, none⟩ a2).setCell ⟨g, o3, none⟩ a3).setCell ⟨g, o4, none⟩ a4).heap[g]? = some (.cells (((((cs.setIfInBounds o0 a0).setIfInBounds o1 a1).setIfInBounds o2 a2).setIfInBounds o3 a3).setIfInBounds o4 a4) T fz) :=
  heap_setCell2 (heap_setCell2 (heap_setCell2 (heap_setCell2 (heap_setCell2 h))))
theorem push_law {w w2 W : World} {bM base g cap cp n : Nat} {env : Value} {va : Option Addr} {st : List GV} {x : GV} {ss : List Value} {a1 : Option Addr} {c1 : Nat} {B Z : Obj}
    (h1 : w.heap[bM]? = some (.cells #[env, .slice va st.length cp, .int .i64 n] 78 (0, 0))) (h3 : bM < base) (h4 : base ≤ w.heap.size) (hls : ss.length = st.length)
    (hlt : ∀ g, (Value.slice va st.length cp).ownBlock = some g → base ≤ g ∧ g < w.heap.size)
    (hin : ∀ i (h : i < st.length) (h' : i < ss.length), isR w (fun b => since base w b ∧ some b ≠ (Value.slice va st.length cp).ownBlock) ss[i] st[i].l) (hs : inR w base (.slice va st.length cp) (.slice a1 x.l.length c1) x.l)
    (hown : w2.ownsRow base 36 5 (.slice (some ⟨g, 0, none⟩) (st.length + 1) cap) (st.length + 1) (flat st ss ++ [.int .i64 0, .bool false, .int .i64 0, .string { data := #[] }, .slice none 0 0]))
    (hgr : ((w.alloc B).alloc Z).drew.grownBy w2 (Value.slice va st.length cp).ownBlock) (hat : (Value.slice (some ⟨g, 0, none⟩) (st.length + 1) cap).ownBlock = (Value.slice va st.length cp).ownBlock ∨ (Value.slice (some ⟨g, 0, none⟩) (st.length + 1) cap).ownBlock = some ((w.alloc B).alloc Z).drew.heap.size)
    (hW : W.os = w2.os ∧ W.tape = w2.tape ∧ W.output = w2.output ∧ W.heap.size = w2.heap.size)
    (hg : W.heap[g]? = (((((w2.setCell ⟨g, st.length * 5, none⟩ (.int .i64 x.k)).setCell ⟨g, st.length * 5 + 1, none⟩ (.bool x.b)).setCell ⟨g, st.length * 5 + 2, none⟩ (.int .i64 x.n)).setCell ⟨g, st.length * 5 + 3, none⟩ (.string x.t)).setCell ⟨g, st.length * 5 + 4, none⟩ (.slice a1 x.l.length c1)).heap[g]?)
    (hM : W.heap[bM]? = some (.cells #[env, .slice (some ⟨g, 0, none⟩) (st.length + 1) cap, .int .i64 n] 78 (0, 0))) (ho : ∀ b, b ≠ g → b ≠ bM → W.heap[b]? = w2.heap[b]?) :
    PushO bM base env (st ++ [x]) n w (.returned (.tuple #[])) W := by
  have hsz : w.heap.size + 2 ≤ w2.heap.size := by have := hgr.size; simpa [World.drew] using this
  have hfl := flat_length st ss hls
  have hgb : base ≤ g := (own_last hown hfl).1
  have hg2 : some g = (Value.slice va st.length cp).ownBlock ∨ w.heap.size ≤ g := by
    rcases hat with h | h
    · exact .inl h
    · refine .inr ?_
      simp [Value.ownBlock, World.drew] at h
      omega
  have hold : ∀ b, b < w.heap.size → some b ≠ (Value.slice va st.length cp).ownBlock → b ≠ bM → W.heap[b]? = w.heap[b]? := fun b hb hne hbm => by
    have hbg : b ≠ g := fun e => by
      rcases hg2 with h | h
      · exact hne (e ▸ h)
      · omega
    rw [ho b hbg hbm, hgr.block b (by simp [World.drew]; omega) hne, drew_heap5, Below.heap_alloc _ _ _ (by simp; omega), Below.heap_alloc _ _ _ hb]
  refine ⟨rfl, ⟨hW.1.trans hgr.os, hW.2.1.trans hgr.tape, hW.2.2.1.trans hgr.output, by rw [hW.2.2.2]; omega, fun b hb hne => hold b (by omega) (fun e => by have := (hlt b e.symm).1; omega) hne⟩, _, hM, ?_, h3, by rw [hW.2.2.2]; omega⟩
  have sub : ∀ b, (since base w b ∧ some b ≠ (Value.slice va st.length cp).ownBlock) → (since base W b ∧ some b ≠ (Value.slice (some ⟨g, 0, none⟩) (st.length + 1) cap).ownBlock) := fun b hb => by
    refine ⟨⟨hb.1.1, by rw [hW.2.2.2]; have := hb.1.2; omega⟩, fun e => ?_⟩
    simp only [Value.ownBlock, Option.some.injEq] at e
    rcases hg2 with h | h
    · exact hb.2 (by rw [e]; exact h)
    · have := hb.1.2; omega
  have key : ∀ b, (since base w b ∧ some b ≠ (Value.slice va st.length cp).ownBlock) → W.heap[b]? = w.heap[b]? := fun b hb => hold b hb.1.2 hb.2 (by have := hb.1.1; omega)
  have e1 : (st ++ [x]).length = st.length + 1 := by simp
  refine ⟨ss ++ [.slice a1 x.l.length c1], by simp [hls], ?_, fun i h h2 => ?_⟩
  · rw [e1, flat_append st ss x _ hls]
    exact ownsRow_keep5 (own_set5 hown hfl _ _ _ _ _) (fun g' e => by simp only [Value.ownBlock, Option.some.injEq] at e; subst e; exact hg)
  · by_cases hi : i < st.length
    · have := isR_mono (hin i hi (by omega)) key sub
      rw [List.getElem_append_left (by omega), List.getElem_append_left hi]
      exact this
    · have e : i = st.length := by simp at h; omega
      have := isR_mono hs key sub
      subst e
      rw [List.getElem_append_right (by omega), List.getElem_append_right (by omega)]
      simpa [hls] using this
theorem push_law2 {w w2 : World} {bM base g cap cp n : Nat} {env : Value} {va : Option Addr} {st : List GV} {x : GV} {ss : List Value} {a1 : Option Addr} {c1 : Nat} {B Z : Obj} {cur : Array Value}
    (h1 : w.heap[bM]? = some (.cells #[env, .slice va st.length cp, .int .i64 n] 78 (0, 0))) (h3 : bM < base) (h4 : base ≤ w.heap.size) (hls : ss.length = st.length)
    (hlt : ∀ g, (Value.slice va st.length cp).ownBlock = some g → base ≤ g ∧ g < w.heap.size)
    (hin : ∀ i (h : i < st.length) (h' : i < ss.length), isR w (fun b => since base w b ∧ some b ≠ (Value.slice va st.length cp).ownBlock) ss[i] st[i].l) (hs : inR w base (.slice va st.length cp) (.slice a1 x.l.length c1) x.l)
    (hown : w2.ownsRow base 36 5 (.slice (some ⟨g, 0, none⟩) (st.length + 1) cap) (st.length + 1) (flat st ss ++ [.int .i64 0, .bool false, .int .i64 0, .string { data := #[] }, .slice none 0 0]))
    (hgr : ((w.alloc B).alloc Z).drew.grownBy w2 (Value.slice va st.length cp).ownBlock) (hat : (Value.slice (some ⟨g, 0, none⟩) (st.length + 1) cap).ownBlock = (Value.slice va st.length cp).ownBlock ∨ (Value.slice (some ⟨g, 0, none⟩) (st.length + 1) cap).ownBlock = some ((w.alloc B).alloc Z).drew.heap.size)
    (hh : w2.heap[g]? = some (.cells cur 36 (0, 0))) (hbm : w2.heap[bM]? = some (.cells #[env, .slice va st.length cp, .int .i64 n] 78 (0, 0))) (n1 : bM ≠ g) :
    PushO bM base env (st ++ [x]) n w (.returned (.tuple #[])) ((((((w2.setCell ⟨g, st.length * 5, none⟩ (.int .i64 x.k)).setCell ⟨g, st.length * 5 + 1, none⟩ (.bool x.b)).setCell ⟨g, st.length * 5 + 2, none⟩ (.int .i64 x.n)).setCell ⟨g, st.length * 5 + 3, none⟩ (.string x.t)).setCell ⟨g, st.length * 5 + 4, none⟩ (.slice a1 x.l.length c1)).setCell ⟨bM, 1, none⟩ (.slice (some ⟨g, 0, none⟩) (st.length + 1) cap)) ∧ PushO bM base env (st ++ [x]) n w (.returned (.tuple #[])) ((((((w2.setCell ⟨bM, 1, none⟩ (.slice (some ⟨g, 0, none⟩) (st.length + 1) cap)).setCell ⟨g, st.length * 5, none⟩ (.int .i64 x.k)).setCell ⟨g, st.length * 5 + 1, none⟩ (.bool x.b)).setCell ⟨g, st.length * 5 + 2, none⟩ (.int .i64 x.n)).setCell ⟨g, st.length * 5 + 3, none⟩ (.string x.t)).setCell ⟨g, st.length * 5 + 4, none⟩ (.slice a1 x.l.length c1)) := by
  have n2 : g ≠ bM := fun e => n1 e.symm
  constructor
  · refine push_law h1 h3 h4 hls hlt hin hs hown hgr hat ?_ ?_ ?_ ?_
    · exact ⟨by simp only [os1], by simp only [tp1], by simp only [ou1], by simp only [hsz_setCell2]⟩
    · rw [set1_heap n2]
    · rw [heap_setCell2 ((five_heap n1 _ _ _ _ _ _ _ _ _ _).trans hbm)]; rfl
    · intro b hb hm
      rw [set1_heap hm, five_heap hb]
  · refine push_law h1 h3 h4 hls hlt hin hs hown hgr hat ?_ ?_ ?_ ?_
    · exact ⟨by simp only [os1], by simp only [tp1], by simp only [ou1], by simp only [hsz_setCell2]⟩
    · rw [five_cells5 ((set1_heap n2).trans hh), five_cells5 hh]
    · rw [five_heap n1, heap_setCell2 hbm]; rfl
    · intro b hb hm
      rw [five_heap hb, set1_heap hm]
set_option maxHeartbeats 1600000 in
theorem push_any (bM base n : Nat) (env v : Value) (st : List GV) (x : GV) (s : Value) (w : World) (hl : st.length ≤ 2147483646) (hm : mach w bM base env v st n) (hs : inR w base v s x.l) :
    Calls Tryz.prog 64 #[.pointer (some ⟨bM, 0, none⟩), x.agg s] w (PushO bM base env (st ++ [x]) n w) := by
  obtain ⟨h1, ⟨ss, hls, hown, hin⟩, h3, h4⟩ := hm
  have hlt := fun g hg => ownBlock_lt hown (g := g) hg
  obtain ⟨va, cp, rfl⟩ := owns_form5 hown
  obtain ⟨a1, c1, rfl⟩ := isS_form hs
  obtain ⟨i0, hi, hz0, hz1, hz2⟩ := info_parts vinfo
  have HI := Lib.hid (And.intro hi (And.intro hz0 (And.intro hz1 hz2)))
  have HSL := Lib.hid Tryz.underlying34
  have q1 := fun o => cell_of h1 o
  have f1 := fun o => frozen_of h1 o
  have H1 := Lib.hid h1
  have HS := Lib.hid hs
  have HLT := Lib.hid hlt
  have HLS := Lib.hid hls
  have HOWN := Lib.hid hown
  have HIN := Lib.hid hin
  have hwz : bM < w.heap.size := by omega
  clear h1 hs hlt hls hown hin hi hz0 hz1 hz2
  simp only [GV.agg]
  go_enter Tryz.func64, Tryz.ntmps64
  go_wp2_with fail
  have hzh : bM ≠ w.heap.size := by omega
  have hzl : bM < w.heap.size + 1 := by omega
  obtain ⟨wz, hwz⟩ : ∃ v, v = ((w.alloc (.cells #[.int .i64 x.k, .bool x.b, .int .i64 x.n, .string x.t, .slice a1 x.l.length c1] 36)).alloc (.cells #[.int .i64 0, .bool false, .int .i64 0, .string { data := #[] }, .slice none 0 0] 36)).drew := ⟨_, rfl⟩
  have HZ0 : Hid (wz.ownsRow base 36 5 (.slice va st.length cp) st.length (flat st ss)) := by
    rw [hwz]
    refine ownsRow_keep5 HOWN.out fun g hg => ?_
    have := (HLT.out g hg).2
    rw [drew_heap5, Below.heap_alloc _ _ _ (by simp; omega), Below.heap_alloc _ _ _ this]
  have HZ1 : Hid (∀ j u, ([.int .i64 0, .bool false, .int .i64 0, .string { data := #[] }, .slice none 0 0] : List Value)[j]? = some u → wz.cell? ((⟨w.heap.size + 1, 0, none⟩ : Addr).add j) = some u) := by
    intro j u hj
    rw [hwz]
    have := @news_last (w.alloc (.cells #[.int .i64 x.k, .bool x.b, .int .i64 x.n, .string x.t, .slice a1 x.l.length c1] 36)) _ 36 j u hj
    rw [show (w.alloc (.cells #[.int .i64 x.k, .bool x.b, .int .i64 x.n, .string x.t, .slice a1 x.l.length c1] 36)).heap.size = w.heap.size + 1 from by simp] at this
    exact this
  have HZ2 : Hid (base ≤ wz.heap.size) := by rw [Hid, hwz]; simp [World.drew]; omega
  subst hwz
  go_region_law
    (refine step_append_own_at rfl _ _ 34 rfl base 36 i0 (.agg #[.int .i64 0, .bool false, .int .i64 0, .string { data := #[] }, .slice none 0 0]) 5 64 HSL.out HI.out.1 HI.out.2.1 HI.out.2.2.1 HI.out.2.2.2 rfl (by decide) (.slice va st.length cp) st.length (flat st ss) rfl HZ0.out ⟨w.heap.size + 1, 0, none⟩ 1 1 [.int .i64 0, .bool false, .int .i64 0, .string { data := #[] }, .slice none 0 0] rfl rfl HZ1.out ?c2 ?c3 ?c4 HZ2.out ?_
     case c2 => intro u hu; simp only [List.mem_cons, List.not_mem_nil, or_false] at hu; rcases hu with rfl | rfl | rfl | rfl | rfl <;> rfl
     case c3 => unfold maxLen; omega
     case c4 => omega
     intro v' w2 hown2 hgrow hat
     obtain ⟨g, cap, hv⟩ := owns_some5 (n := st.length) hown2
     subst hv
     have hfl := flat_length st ss HLS.out
     obtain ⟨hg, cur, hh, c0, c1', c2', c3', c4'⟩ := own_last hown2 hfl
     have y0 := (cell_of hh (st.length * 5)).trans c0
     have y1 := (cell_of hh (st.length * 5 + 1)).trans c1'
     have y2 := (cell_of hh (st.length * 5 + 2)).trans c2'
     have y3 := (cell_of hh (st.length * 5 + 3)).trans c3'
     have y4 := (cell_of hh (st.length * 5 + 4)).trans c4'
     have fy := fun o => frozen_of hh o
     have hbm : w2.heap[bM]? = w.heap[bM]? := by
       rw [hgrow.block bM (by simp [World.drew]; omega) (fun e => by have := (HLT.out bM e.symm).1; omega), drew_heap5, Below.heap_alloc _ _ _ (by simp; omega), Below.heap_alloc _ _ _ hwz]
     have q3 := fun o => cell_of (hbm.trans H1.out) o
     have f3 := fun o => frozen_of (hbm.trans H1.out) o
     have n1 : bM ≠ g := by omega
     have n2 : g ≠ bM := by omega
     have n3 : st.length < st.length + 1 := by omega
     have n4 : (st.length : Int) < (st.length : Int) + 1 := by omega
     have HPL := Lib.hid (push_law2 H1.out h3 h4 HLS.out HLT.out HIN.out HS.out hown2 hgrow hat hh (hbm.trans H1.out) n1)
     clear hown2 hgrow hat hh c0 c1' c2' c3' c4' hbm hfl hg)
  all_goals
    go_wp2_with fail
    go_end0
    first
      | with_reducible exact HPL.out.1
      | with_reducible exact HPL.out.2
end Go.Proofs.YtljljhjdlicfeaaGreat
