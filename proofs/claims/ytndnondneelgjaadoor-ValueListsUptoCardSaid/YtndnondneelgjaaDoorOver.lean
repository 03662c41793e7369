/-
  Memory that is written over, value by value: what stays readable. Conditions: none.
-/
import Derived.Test.YtndnondneelgjaaDoorOwn
namespace Go.Proofs.YtndnondneelgjaaDoor
open Go Go.RowKit
set_option linter.unusedVariables false
/-- five cells that hold a value, whose list satisfies P -/
def elemO (w : World) (P : Value → Prop) (b o : Nat) : Prop := ∃ k bb nn t a n c, w.cell? ⟨b, o, none⟩ = some (.int .i64 k) ∧ w.cell? ⟨b, o + 1, none⟩ = some (.bool bb) ∧ w.cell? ⟨b, o + 2, none⟩ = some (.int .i64 nn) ∧
  w.cell? ⟨b, o + 3, none⟩ = some (.string t) ∧ w.cell? ⟨b, o + 4, none⟩ = some (.slice a n c) ∧ P (.slice a n c)
/-- a slice of values, so deep, in blocks of S, that may be written over -/
def ovr (w : World) (S : Nat → Prop) : Nat → Value → Prop
  | 0, s => ∃ a c, s = .slice a 0 c ∧ room w S a c
  | m + 1, s => ∃ a n c, s = .slice a n c ∧ n ≤ c ∧ n ≤ 2147483647 ∧ room w S a c ∧ ∀ b off, a = some ⟨b, off, none⟩ → ∀ i, i < n → elemO w (ovr w S m) b (off + i * 5)

theorem room_none {w : World} {S : Nat → Prop} {a : Option Addr} : room w S a 0 := fun h => by simp at h
theorem ovr_nil {w : World} {S : Nat → Prop} : ∀ (m : Nat) (a : Option Addr), ovr w S m (.slice a 0 0)
  | 0, a => ⟨a, 0, rfl, room_none⟩
  | m + 1, a => ⟨a, 0, 0, rfl, Nat.le_refl _, by omega, room_none, fun b off _ i h => by omega⟩

/-- what a list that the call has made satisfies -/
theorem ovr_of : ∀ (m : Nat) {w : World} {S S' : Nat → Prop} {s : Value} {l : List GV}, sizeL l ≤ m → l.length ≤ 2147483647 → fitL l → isR w S s l → (∀ b, S b → S' b) → ovr w S' m s
  | 0, w, S, S', s, l, hm, hl, hf, h, hS => by
    have : l = [] := by
      cases l with
      | nil => rfl
      | cons x r => have := size_l x; simp only [sizeL] at hm; omega
    subst this
    obtain ⟨a, c, b, off, e, hc, hr, _, _⟩ := isS_open h
    refine ⟨a, c, e, fun h0 => ?_⟩
    obtain ⟨b, off, cs, T, ea, hb, r⟩ := hr h0
    exact ⟨b, off, cs, T, ea, hS b hb, r⟩
  | m + 1, w, S, S', s, l, hm, hl, hf, h, hS => by
    obtain ⟨a, c, b, off, e, hc, hr, ha, hA⟩ := isS_open h
    refine ⟨a, l.length, c, e, hc, hl, fun h0 => ?_, fun b' off' ea i hi => ?_⟩
    · obtain ⟨b, off, cs, T, ea, hb, r⟩ := hr h0
      exact ⟨b, off, cs, T, ea, hS b hb, r⟩
    · have e2 := (ha (by omega)).1
      rw [e2] at ea
      simp only [Option.some.injEq, Addr.mk.injEq, and_true] at ea
      obtain ⟨rfl, rfl⟩ := ea
      obtain ⟨a1, c1, x0, x1, x2, x3, x4, hs⟩ := cellsS_open (hA i hi)
      have hx := List.getElem_mem (h := hi)
      obtain ⟨_, _, _, _, _, h6, h7⟩ := fit_open (fitL_mem hf _ hx)
      have := sizeL_mem hx
      have := size_l l[i]
      exact ⟨_, _, _, _, a1, _, c1, x0, x1, x2, x3, x4, ovr_of m (by omega) h6 h7 hs hS⟩

/-- nothing below hi has turned -/
theorem ovr_keep {w w' : World} {S : Nat → Prop} (hw : ∀ b, S b → w'.heap[b]? = w.heap[b]?) : ∀ (m : Nat) (s : Value), ovr w S m s → ovr w' S m s := by
  have hr : ∀ a c, room w S a c → room w' S a c := fun a c h h0 => by
    obtain ⟨b, off, cs, T, ea, hb, hh, r⟩ := h h0
    exact ⟨b, off, cs, T, ea, hb, by rw [hw b hb, hh], r⟩
  intro m
  induction m with
  | zero => rintro s ⟨a, c, e, h⟩; exact ⟨a, c, e, hr a c h⟩
  | succ m ih =>
    rintro s ⟨a, n, c, e, h1, h2, h3, h4⟩
    refine ⟨a, n, c, e, h1, h2, hr a c h3, fun b off ea i hi => ?_⟩
    obtain ⟨b', off', cs, T, ea', hb', _⟩ := h3 (by omega)
    rw [ea] at ea'
    simp only [Option.some.injEq, Addr.mk.injEq, and_true] at ea'
    obtain ⟨rfl, rfl⟩ := ea'
    have hc : ∀ o, w'.cell? ⟨b, o, none⟩ = w.cell? ⟨b, o, none⟩ := fun o => World.cell?_of_block (w := w) (a := ⟨b, o, none⟩) (hw b hb')
    obtain ⟨k, bb, nn, t, a1, n1, c1, x0, x1, x2, x3, x4, x5⟩ := h4 b off ea i hi
    exact ⟨k, bb, nn, t, a1, n1, c1, by rw [hc, x0], by rw [hc, x1], by rw [hc, x2], by rw [hc, x3], by rw [hc, x4], ih _ x5⟩

/-- the value at place q of block g has been written over by one without a list -/
structure Over (w w' : World) (g q : Nat) : Prop where
  os : w'.os = w.os
  tape : w'.tape = w.tape
  output : w'.output = w.output
  size : w'.heap.size = w.heap.size
  block : ∀ b, b ≠ g → w'.heap[b]? = w.heap[b]?
  shape : ∀ cs T, w.heap[g]? = some (.cells cs T (0, 0)) → q + 5 ≤ cs.size → ∃ cs', w'.heap[g]? = some (.cells cs' T (0, 0)) ∧ cs'.size = cs.size ∧ (∀ o, (o < q ∨ q + 5 ≤ o) → cs'[o]? = cs[o]?) ∧
    ∃ k, cs'[q]? = some (.int .i64 k) ∧ cs'[q + 1]? = some (.bool false) ∧ cs'[q + 2]? = some (.int .i64 0) ∧ cs'[q + 3]? = some (.string { data := #[] }) ∧ cs'[q + 4]? = some (.slice none 0 0)

theorem heap_setCell {w : World} {g o : Nat} {v : Value} {cs : Array Value} {T : TypeId} {fz : Nat × Nat} (h : w.heap[g]? = some (.cells cs T fz)) : (w.setCell ⟨g, o, none⟩ v).heap[g]? = some (.cells (cs.setIfInBounds o v) T fz) := by
  simp [World.setCell, Array.getElem?_modify, h]

theorem hsz_setCell (w : World) (p : Addr) (v : Value) : (w.setCell p v).heap.size = w.heap.size := by simp [World.setCell]
/-- one cell of the place g, q has been written -/
theorem over_cells {w w' : World} {g : Nat} (h : w'.os = w.os ∧ w'.tape = w.tape ∧ w'.output = w.output ∧ w'.heap.size = w.heap.size ∧ (∀ b, b ≠ g → w'.heap[b]? = w.heap[b]?)) (o : Nat) (v : Value) :
    (w'.setCell ⟨g, o, none⟩ v).os = w.os ∧ (w'.setCell ⟨g, o, none⟩ v).tape = w.tape ∧ (w'.setCell ⟨g, o, none⟩ v).output = w.output ∧ (w'.setCell ⟨g, o, none⟩ v).heap.size = w.heap.size ∧ (∀ b, b ≠ g → (w'.setCell ⟨g, o, none⟩ v).heap[b]? = w.heap[b]?) :=
  ⟨h.1, h.2.1, h.2.2.1, by rw [hsz_setCell, h.2.2.2.1], fun b hb => by rw [Below.heap_setCell _ _ _ _ hb, h.2.2.2.2 b hb]⟩
theorem shape5 (cs : Array Value) (q : Nat) (v0 v1 v2 v3 v4 : Value) (hq : q + 5 ≤ cs.size) :
    ((((((cs.setIfInBounds q v0).setIfInBounds (q + 1) v1).setIfInBounds (q + 2) v2).setIfInBounds (q + 3) v3).setIfInBounds (q + 4) v4).size = cs.size ∧
    (∀ o, (o < q ∨ q + 5 ≤ o) → (((((cs.setIfInBounds q v0).setIfInBounds (q + 1) v1).setIfInBounds (q + 2) v2).setIfInBounds (q + 3) v3).setIfInBounds (q + 4) v4)[o]? = cs[o]?) ∧
    (((((cs.setIfInBounds q v0).setIfInBounds (q + 1) v1).setIfInBounds (q + 2) v2).setIfInBounds (q + 3) v3).setIfInBounds (q + 4) v4)[q]? = some v0 ∧
    (((((cs.setIfInBounds q v0).setIfInBounds (q + 1) v1).setIfInBounds (q + 2) v2).setIfInBounds (q + 3) v3).setIfInBounds (q + 4) v4)[q + 1]? = some v1 ∧
    (((((cs.setIfInBounds q v0).setIfInBounds (q + 1) v1).setIfInBounds (q + 2) v2).setIfInBounds (q + 3) v3).setIfInBounds (q + 4) v4)[q + 2]? = some v2 ∧
    (((((cs.setIfInBounds q v0).setIfInBounds (q + 1) v1).setIfInBounds (q + 2) v2).setIfInBounds (q + 3) v3).setIfInBounds (q + 4) v4)[q + 3]? = some v3 ∧
    (((((cs.setIfInBounds q v0).setIfInBounds (q + 1) v1).setIfInBounds (q + 2) v2).setIfInBounds (q + 3) v3).setIfInBounds (q + 4) v4)[q + 4]? = some v4) := by
  refine ⟨by simp only [Array.size_setIfInBounds], fun o ho => ?_, ?_, ?_, ?_, ?_, ?_⟩
  · rw [Array.getElem?_setIfInBounds_ne (by omega), Array.getElem?_setIfInBounds_ne (by omega), Array.getElem?_setIfInBounds_ne (by omega), Array.getElem?_setIfInBounds_ne (by omega), Array.getElem?_setIfInBounds_ne (by omega)]
  · rw [Array.getElem?_setIfInBounds_ne (by omega), Array.getElem?_setIfInBounds_ne (by omega), Array.getElem?_setIfInBounds_ne (by omega), Array.getElem?_setIfInBounds_ne (by omega), Array.getElem?_setIfInBounds_self_of_lt (by omega)]
  · rw [Array.getElem?_setIfInBounds_ne (by omega), Array.getElem?_setIfInBounds_ne (by omega), Array.getElem?_setIfInBounds_ne (by omega), Array.getElem?_setIfInBounds_self_of_lt (by simp only [Array.size_setIfInBounds]; omega)]
  · rw [Array.getElem?_setIfInBounds_ne (by omega), Array.getElem?_setIfInBounds_ne (by omega), Array.getElem?_setIfInBounds_self_of_lt (by simp only [Array.size_setIfInBounds]; omega)]
  · rw [Array.getElem?_setIfInBounds_ne (by omega), Array.getElem?_setIfInBounds_self_of_lt (by simp only [Array.size_setIfInBounds]; omega)]
  · rw [Array.getElem?_setIfInBounds_self_of_lt (by simp only [Array.size_setIfInBounds]; omega)]
theorem over_mk5 (w : World) (g q : Nat) (k : Int) : Over w (((((w.setCell ⟨g, q, none⟩ (.int .i64 k)).setCell ⟨g, q + 1, none⟩ (.bool false)).setCell ⟨g, q + 2, none⟩ (.int .i64 0)).setCell ⟨g, q + 3, none⟩ (.string { data := #[] })).setCell ⟨g, q + 4, none⟩ (.slice none 0 0)) g q := by
  have h := over_cells (over_cells (over_cells (over_cells (over_cells (w := w) (w' := w) (g := g) ⟨rfl, rfl, rfl, rfl, fun _ _ => rfl⟩ q (.int .i64 k)) (q + 1) (.bool false)) (q + 2) (.int .i64 0)) (q + 3) (.string { data := #[] })) (q + 4) (.slice none 0 0)
  refine ⟨h.1, h.2.1, h.2.2.1, h.2.2.2.1, h.2.2.2.2, fun cs T hh hq => ?_⟩
  obtain ⟨s1, s2, s3⟩ := shape5 cs q (.int .i64 k) (.bool false) (.int .i64 0) (.string { data := #[] }) (.slice none 0 0) hq
  exact ⟨_, heap_setCell (heap_setCell (heap_setCell (heap_setCell (heap_setCell hh)))), s1, s2, k, s3⟩

theorem over_cells5 (w : World) (g q : Nat) (k : Int) : Over w (w.setCells g q [.int .i64 k, .bool false, .int .i64 0, .string { data := #[] }, .slice none 0 0]) g q := over_mk5 w g q k
/-- the first value of a block of the call's own -/
theorem owns_slice {w : World} {base : Nat} {T : TypeId} {n : Nat} {v : Value} {xs : List Value} (h : w.ownsRow base T 5 v (n + 1) xs) :
    ∃ g cap cur, v = .slice (some ⟨g, 0, none⟩) (n + 1) cap ∧ base ≤ g ∧ w.heap[g]? = some (.cells cur T (0, 0)) ∧ (n + 1) * 5 ≤ cur.size := by
  obtain ⟨h1, h2 | ⟨g, cap, cur, e, hg, hh, hn, hcap, hsz, htk⟩⟩ := h
  · omega
  · exact ⟨g, cap, cur, e, hg, hh, by rw [hsz]; omega⟩

theorem five_cells {w : World} {g p : Nat} {cs : Array Value} {T : TypeId} (h : w.heap[g]? = some (.cells cs T (0, 0))) (hp : p + 5 ≤ cs.size) :
    ∃ u0 u1 u2 u3 u4, w.cell? ⟨g, p, none⟩ = some u0 ∧ w.cell? ⟨g, p + 1, none⟩ = some u1 ∧ w.cell? ⟨g, p + 2, none⟩ = some u2 ∧ w.cell? ⟨g, p + 3, none⟩ = some u3 ∧ w.cell? ⟨g, p + 4, none⟩ = some u4 := by
  have hc : ∀ o, w.cell? ⟨g, o, none⟩ = cs[o]? := fun o => by simp [World.cell?, h]
  refine ⟨cs[p], cs[p + 1], cs[p + 2], cs[p + 3], cs[p + 4], ?_, ?_, ?_, ?_, ?_⟩ <;> rw [hc, Array.getElem?_eq_getElem]

theorem ovr_over {w w' : World} {S : Nat → Prop} {g q : Nat} (h : Over w w' g q) (hq : q % 5 = 0) (hfit : ∀ cs T, w.heap[g]? = some (.cells cs T (0, 0)) → q + 5 ≤ cs.size) : ∀ (m : Nat) (s : Value), ovr w S m s → ovr w' S m s := by
  have hr : ∀ a c, room w S a c → room w' S a c := fun a c hh h0 => by
    obtain ⟨b, off, cs, T, ea, hb, hh, r1, r2⟩ := hh h0
    by_cases e : b = g
    · subst e
      obtain ⟨cs', h1, h2, _⟩ := h.shape cs T hh (hfit cs T hh)
      exact ⟨b, off, cs', T, ea, hb, h1, r1, by omega⟩
    · exact ⟨b, off, cs, T, ea, hb, by rw [h.block b e, hh], r1, r2⟩
  intro m
  induction m with
  | zero => rintro s ⟨a, c, e, h⟩; exact ⟨a, c, e, hr a c h⟩
  | succ m ih =>
    rintro s ⟨a, n, c, e, h1, h2, h3, h4⟩
    refine ⟨a, n, c, e, h1, h2, hr a c h3, fun b off ea i hi => ?_⟩
    obtain ⟨b', off', cs, T, ea', hb', hh, r1, r2⟩ := h3 (by omega)
    rw [ea] at ea'
    simp only [Option.some.injEq, Addr.mk.injEq, and_true] at ea'
    obtain ⟨rfl, rfl⟩ := ea'
    obtain ⟨k, bb, nn, t, a1, n1, c1, x0, x1, x2, x3, x4, x5⟩ := h4 b off ea i hi
    by_cases eb : b = g
    · subst eb
      obtain ⟨cs', e1, e2, e3, k', y0, y1, y2, y3, y4⟩ := h.shape cs T hh (hfit cs T hh)
      have hc : ∀ o, w.cell? ⟨b, o, none⟩ = cs[o]? := fun o => by simp [World.cell?, hh]
      have hc' : ∀ o, w'.cell? ⟨b, o, none⟩ = cs'[o]? := fun o => by simp [World.cell?, e1]
      by_cases eq : off + i * 5 = q
      · rw [eq]
        exact ⟨k', false, 0, { data := #[] }, none, 0, 0, by rw [hc', y0], by rw [hc', y1], by rw [hc', y2], by rw [hc', y3], by rw [hc', y4], ovr_nil m none⟩
      · rw [hc] at x0 x1 x2 x3 x4
        exact ⟨k, bb, nn, t, a1, n1, c1, by rw [hc', e3 _ (by omega), x0], by rw [hc', e3 _ (by omega), x1], by rw [hc', e3 _ (by omega), x2], by rw [hc', e3 _ (by omega), x3], by rw [hc', e3 _ (by omega), x4], ih _ x5⟩
    · have hc : ∀ o, w'.cell? ⟨b, o, none⟩ = w.cell? ⟨b, o, none⟩ := fun o => World.cell?_of_block (w := w) (a := ⟨b, o, none⟩) (h.block b eb)
      exact ⟨k, bb, nn, t, a1, n1, c1, by rw [hc, x0], by rw [hc, x1], by rw [hc, x2], by rw [hc, x3], by rw [hc, x4], ih _ x5⟩

/-- the call has written in blocks from lo on below hi alone, and in new ones -/
structure Kept (lo hi : Nat) (w w' : World) : Prop where
  os : w'.os = w.os
  tape : w'.tape = w.tape
  output : w'.output = w.output
  size : w.heap.size ≤ w'.heap.size
  block : ∀ b, (b < lo ∨ hi ≤ b) → b < w.heap.size → w'.heap[b]? = w.heap[b]?
theorem Kept.refl (lo hi : Nat) (w : World) : Kept lo hi w w := ⟨rfl, rfl, rfl, Nat.le_refl _, fun _ _ _ => rfl⟩
theorem Kept.trans {lo hi : Nat} {a b c : World} (h : Kept lo hi a b) (k : Kept lo hi b c) : Kept lo hi a c :=
  ⟨k.os.trans h.os, k.tape.trans h.tape, k.output.trans h.output, Nat.le_trans h.size k.size, fun i hi hs => (k.block i hi (Nat.lt_of_lt_of_le hs h.size)).trans (h.block i hi hs)⟩
theorem Kept.alloc {lo hi : Nat} {a w : World} (h : Kept lo hi a w) (o : Obj) : Kept lo hi a (w.alloc o) :=
  h.trans ⟨rfl, rfl, rfl, by simp, fun b _ hs => Below.heap_alloc _ _ _ hs⟩
theorem Kept.over {lo hi g q : Nat} {a w w' : World} (h : Kept lo hi a w) (ho : Over w w' g q) (hg : lo ≤ g ∧ g < hi) : Kept lo hi a w' :=
  h.trans ⟨ho.os, ho.tape, ho.output, Nat.le_of_eq ho.size.symm, fun b hb _ => ho.block b (by omega)⟩
theorem Kept.grown {lo hi : Nat} {a w w' : World} (h : Kept lo hi a w) (hg : w.grownBy w' none) : Kept lo hi a w' :=
  h.trans ⟨hg.os, hg.tape, hg.output, hg.size, fun b _ hs => hg.block b hs (by simp)⟩
theorem Kept.fresh {lo hi g q : Nat} {a w w' : World} (h : Kept lo hi a w) (ho : Over w w' g q) (hg : a.heap.size ≤ g) : Kept lo hi a w' :=
  ⟨ho.os.trans h.os, ho.tape.trans h.tape, ho.output.trans h.output, by rw [ho.size]; exact h.size, fun b hb hs => by rw [ho.block b (by omega)]; exact h.block b hb hs⟩
theorem Kept.setIn {lo hi : Nat} {a w : World} (h : Kept lo hi a w) {g : Nat} (h1 : lo ≤ g) (h2 : g < hi) (o : Nat) (v : Value) : Kept lo hi a (w.setCell ⟨g, o, none⟩ v) :=
  h.trans ⟨rfl, rfl, rfl, Nat.le_of_eq (hsz_setCell _ _ _).symm, fun b hb _ => Below.heap_setCell _ _ _ _ (by dsimp only; omega)⟩
theorem Kept.below {lo hi : Nat} {w w' : World} (h : Kept lo hi w w') (hlo : lo ≤ w.heap.size) : Below lo w w' :=
  ⟨h.os, h.tape, h.output, h.size, fun b hb => h.block b (.inl hb) (by omega)⟩
/-- the call has written in blocks of S alone, and in new ones -/
structure KeptS (S : Nat → Prop) (w w' : World) : Prop where
  os : w'.os = w.os
  tape : w'.tape = w.tape
  output : w'.output = w.output
  size : w.heap.size ≤ w'.heap.size
  block : ∀ b, ¬ S b → b < w.heap.size → w'.heap[b]? = w.heap[b]?
theorem KeptS.refl (S : Nat → Prop) (w : World) : KeptS S w w := ⟨rfl, rfl, rfl, Nat.le_refl _, fun _ _ _ => rfl⟩
theorem KeptS.trans {S : Nat → Prop} {a b c : World} (h : KeptS S a b) (k : KeptS S b c) : KeptS S a c :=
  ⟨k.os.trans h.os, k.tape.trans h.tape, k.output.trans h.output, Nat.le_trans h.size k.size, fun i hi hs => (k.block i hi (Nat.lt_of_lt_of_le hs h.size)).trans (h.block i hi hs)⟩
theorem KeptS.alloc {S : Nat → Prop} {a w : World} (h : KeptS S a w) (o : Obj) : KeptS S a (w.alloc o) :=
  h.trans ⟨rfl, rfl, rfl, by simp, fun b _ hs => Below.heap_alloc _ _ _ hs⟩
theorem KeptS.over {S : Nat → Prop} {g q : Nat} {a w w' : World} (h : KeptS S a w) (ho : Over w w' g q) (hg : S g) : KeptS S a w' :=
  h.trans ⟨ho.os, ho.tape, ho.output, Nat.le_of_eq ho.size.symm, fun b hb _ => ho.block b (fun e => hb (e ▸ hg))⟩
theorem KeptS.grown {S : Nat → Prop} {a w w' : World} (h : KeptS S a w) (hg : w.grownBy w' none) : KeptS S a w' :=
  h.trans ⟨hg.os, hg.tape, hg.output, hg.size, fun b _ hs => hg.block b hs (by simp)⟩
theorem KeptS.fresh {S : Nat → Prop} {g q : Nat} {a w w' : World} (h : KeptS S a w) (ho : Over w w' g q) (hg : a.heap.size ≤ g) : KeptS S a w' :=
  ⟨ho.os.trans h.os, ho.tape.trans h.tape, ho.output.trans h.output, by rw [ho.size]; exact h.size, fun b hb hs => by rw [ho.block b (by omega)]; exact h.block b hb hs⟩
theorem KeptS.below {S : Nat → Prop} {w w' : World} {lo : Nat} (h : KeptS S w w') (hS : ∀ b, S b → lo ≤ b) (hlo : lo ≤ w.heap.size) : Below lo w w' :=
  ⟨h.os, h.tape, h.output, h.size, fun b hb => h.block b (fun hs => by have := hS b hs; omega) (by omega)⟩
theorem KeptS.mono {S S' : Nat → Prop} {w w' : World} (h : KeptS S w w') (hS : ∀ b, S b → S' b) : KeptS S' w w' :=
  ⟨h.os, h.tape, h.output, h.size, fun b hb => h.block b (fun hs => hb (hS b hs))⟩
theorem KeptS.set {S : Nat → Prop} {a w : World} (h : KeptS S a w) {p : Addr} (hg : S p.block) (v : Value) : KeptS S a (w.setCell p v) :=
  h.trans ⟨rfl, rfl, rfl, Nat.le_of_eq (hsz_setCell _ _ _).symm, fun b hb _ => Below.heap_setCell _ _ _ _ (fun e => hb (e ▸ hg))⟩
end Go.Proofs.YtndnondneelgjaaDoor
