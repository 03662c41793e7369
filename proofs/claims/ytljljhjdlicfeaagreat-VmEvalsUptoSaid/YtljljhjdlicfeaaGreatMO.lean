/-
  An append onto a slice that the call has made, as one step of a region that draws its order. Conditions: none.
-/
import Derived.Maps.AppendAt
import Derived.Deep.RegionLaw
import Derived.Test.YtljljhjdlicfeaaGreatMD
import Derived.Deep.DeepCutAuto
namespace Go.Proofs.YtljljhjdlicfeaaGreat
open Go
theorem step_append_own_at {P : Program} {ops : Array Oper} {o : Oper} {a : Act} {w : World} {K : Act → World → Prop} {Q : Exit → Act → World → Prop} {E : Prop}
    (hg : o.guard = none) (s x : Operand) (t : TypeId) (hop : o.op = Op.call { callee := Callee.builtin Builtin.append, args := #[s, x], argTypes := #[t, t] })
    (base : Nat) (e : TypeId) (i : TypeInfo) (z : Value) (size bytes : Nat) (ht : P.underlying t = some (.slice e)) (hi : P.info? e = some i) (hz : i.zero = some z) (hsize : i.size = size) (hby : i.bytes = bytes) (hzs : z.cells.size = size) (hsz : 0 < size)
    (v : Value) (n : Nat) (xs : List Value) (hs : a.eval s = v) (hown : w.ownsRow base e size v n xs)
    (ad : Addr) (m c : Nat) (news : List Value) (hx : a.eval x = .slice (some ad) m c) (hl : news.length = m * size) (hnews : ∀ j u, news[j]? = some u → w.cell? (ad.add j) = some u) (h1 : ∀ u ∈ news, u.oneCell' = true)
    (h63 : n + m ≤ maxLen) (hbytes : (n + m) * bytes ≤ 140737488355328) (hbase : base ≤ w.heap.size)
    (h : ∀ v' w', w'.ownsRow base e size v' (n + m) (xs ++ news) → w.grownBy w' v.ownBlock → (v'.ownBlock = v.ownBlock ∨ v'.ownBlock = some w.heap.size) → K (a.put o.dst v') w') :
    if Region.wanted o (yielded ops a.tmps) = true then Oper.wp P o a w K Q else E := by
  have hw : Region.wanted o (yielded ops a.tmps) = true := by simp [Region.wanted, hg]
  rw [if_pos hw]
  obtain ⟨v', w', hr, h2, h3, _, h5⟩ := run_append_own_at (P := P) w base t o.type e i z size bytes ht hi hz hsize hby hzs hsz v n xs hown ad m c news hl hnews h1 h63 hbytes hbase
  unfold Oper.wp execOp
  simp only [hop, resolve, invoke, builtin, Sem.run_bind, Sem.run_pure, Result.andThen_ok, List.map_toArray, List.map_cons, List.map_nil, hs, hx, hr]
  exact h v' w' h2 h3 h5
end Go.Proofs.YtljljhjdlicfeaaGreat
namespace Go.Proofs.YtljljhjdlicfeaaGreat
open Go Go.RowKit
set_option linter.unusedVariables false
def elemO (w : World) (P : Value → Prop) (b o : Nat) : Prop := ∃ k bb nn t a n c, w.cell? ⟨b, o, none⟩ = some (.int .i64 k) ∧ w.cell? ⟨b, o + 1, none⟩ = some (.bool bb) ∧ w.cell? ⟨b, o + 2, none⟩ = some (.int .i64 nn) ∧
  w.cell? ⟨b, o + 3, none⟩ = some (.string t) ∧ w.cell? ⟨b, o + 4, none⟩ = some (.slice a n c) ∧ P (.slice a n c)
def ovr (w : World) (S : Nat → Prop) : Nat → Value → Prop
  | 0, s => ∃ a c, s = .slice a 0 c ∧ room w S a c
  | m + 1, s => ∃ a n c, s = .slice a n c ∧ n ≤ c ∧ n ≤ 2147483647 ∧ room w S a c ∧ ∀ b off, a = some ⟨b, off, none⟩ → ∀ i, i < n → elemO w (ovr w S m) b (off + i * 5)
theorem room_none {w : World} {S : Nat → Prop} {a : Option Addr} : room w S a 0 := fun h => by simp at h
theorem ovr_nil {w : World} {S : Nat → Prop} : ∀ (m : Nat) (a : Option Addr), ovr w S m (.slice a 0 0)
  | 0, a => ⟨a, 0, rfl, room_none⟩
  | m + 1, a => ⟨a, 0, 0, rfl, Nat.le_refl _, by omega, room_none, fun b off _ i h => by omega⟩
theorem ovr_of : ∀ (m : Nat) {w : World} {S S' : Nat → Prop} {s : Value} {l : List GV}, sizeL l ≤ m → l.length ≤ 2147483647 → fitL l → isR w S s l → (∀ b, S b → S' b) → ovr w S' m s
  | 0, w, S, S', s, l, hm, hl, hf, h, hS => by
    have : l = [] := by
      cases l with
      | nil => rfl
      | cons x r => have := size_l x; simp only [sizeL] at hm; omega
    subst this
    obtain ⟨a, c, b, off, e, hc, hr, _, _⟩ := isS_open h
    refine ⟨a, c, e, fun h0 => ?_⟩
    obtain ⟨b, off, cs, T, ea, hb, r⟩ := hr h0
    exact ⟨b, off, cs, T, ea, hS b hb, r⟩
  | m + 1, w, S, S', s, l, hm, hl, hf, h, hS => by
    obtain ⟨a, c, b, off, e, hc, hr, ha, hA⟩ := isS_open h
    refine ⟨a, l.length, c, e, hc, hl, fun h0 => ?_, fun b' off' ea i hi => ?_⟩
    · obtain ⟨b, off, cs, T, ea, hb, r⟩ := hr h0
      exact ⟨b, off, cs, T, ea, hS b hb, r⟩
    · have e2 := (ha (by omega)).1
      rw [e2] at ea
      simp only [Option.some.injEq, Addr.mk.injEq, and_true] at ea
      obtain ⟨rfl, rfl⟩ := ea
      obtain ⟨a1, c1, x0, x1, x2, x3, x4, hs⟩ := cellsS_open (hA i hi)
      have hx := List.getElem_mem (h := hi)
      obtain ⟨_, _, _, _, _, h6, h7⟩ := fit_open (fitL_mem hf _ hx)
      have := sizeL_mem hx
      have := size_l l[i]
      exact ⟨_, _, _, _, a1, _, c1, x0, x1, x2, x3, x4, ovr_of m (by omega) h6 h7 hs hS⟩
theorem ovr_keep {w w' : World} {S : Nat → Prop} (hw : ∀ b, S b → w'.heap[b]? = w.heap[b]?) : ∀ (m : Nat) (s : Value), ovr w S m s → ovr w' S m s := by
  have hr : ∀ a c, room w S a c → room w' S a c := fun a c h h0 => by
    obtain ⟨b, off, cs, T, ea, hb, hh, r⟩ := h h0
    exact ⟨b, off, cs, T, ea, hb, by rw [hw b hb, hh], r⟩
  intro m
  induction m with
  | zero => rintro s ⟨a, c, e, h⟩; exact ⟨a, c, e, hr a c h⟩
  | succ m ih =>
    rintro s ⟨a, n, c, e, h1, h2, h3, h4⟩
    refine ⟨a, n, c, e, h1, h2, hr a c h3, fun b off ea i hi => ?_⟩
    obtain ⟨b', off', cs, T, ea', hb', _⟩ := h3 (by omega)
    rw [ea] at ea'
    simp only [Option.some.injEq, Addr.mk.injEq, and_true] at ea'
    obtain ⟨rfl, rfl⟩ := ea'
    have hc : ∀ o, w'.cell? ⟨b, o, none⟩ = w.cell? ⟨b, o, none⟩ := fun o => World.cell?_of_block (w := w) (a := ⟨b, o, none⟩) (hw b hb')
    obtain ⟨k, bb, nn, t, a1, n1, c1, x0, x1, x2, x3, x4, x5⟩ := h4 b off ea i hi
    exact ⟨k, bb, nn, t, a1, n1, c1, by rw [hc, x0], by rw [hc, x1], by rw [hc, x2], by rw [hc, x3], by rw [hc, x4], ih _ x5⟩
structure Over (w w' : World) (g q : Nat) : Prop where
  os : w'.os = w.os
  tape : w'.tape = w.tape
  output : w'.output = w.output
  size : w'.heap.size = w.heap.size
  block : ∀ b, b ≠ g → w'.heap[b]? = w.heap[b]?
  shape : ∀ cs T, w.heap[g]? = some (.cells cs T (0, 0)) → q + 5 ≤ cs.size → ∃ cs', w'.heap[g]? = some (.cells cs' T (0, 0)) ∧ cs'.size = cs.size ∧ (∀ o, (o < q ∨ q + 5 ≤ o) → cs'[o]? = cs[o]?) ∧
    ∃ k, cs'[q]? = some (.int .i64 k) ∧ cs'[q + 1]? = some (.bool false) ∧ cs'[q + 2]? = some (.int .i64 0) ∧ cs'[q + 3]? = some (.string { data := #[] }) ∧ cs'[q + 4]? = some (.slice none 0 0)
theorem heap_setCell {w : World} {g o : Nat} {v : Value} {cs : Array Value} {T : TypeId} {fz : Nat × Nat} (h : w.heap[g]? = some (.cells cs T fz)) : (w.setCell ⟨g, o, none⟩ v).heap[g]? = some (.cells (cs.setIfInBounds o v) T fz) := by
  simp [World.setCell, Array.getElem?_modify, h]
theorem hsz_setCell (w : World) (p : Addr) (v : Value) : (w.setCell p v).heap.size = w.heap.size := by simp [World.setCell]
theorem over_cells {w w' : World} {g : Nat} (h : w'.os = w.os ∧ w'.tape = w.tape ∧ w'.output = w.output ∧ w'.heap.size = w.heap.size ∧ (∀ b, b ≠ g → w'.heap[b]? = w.heap[b]?)) (o : Nat) (v : Value) :
    (w'.setCell ⟨g, o, none⟩ v).os = w.os ∧ (w'.setCell ⟨g, o, none⟩ v).tape = w.tape ∧ (w'.setCell ⟨g, o, none⟩ v).output = w.output ∧ (w'.setCell ⟨g, o, none⟩ v).heap.size = w.heap.size ∧ (∀ b, b ≠ g → (w'.setCell ⟨g, o, none⟩ v).heap[b]? = w.heap[b]?) :=
  ⟨h.1, h.2.1, h.2.2.1, by rw [hsz_setCell, h.2.2.2.1], fun b hb => by rw [Below.heap_setCell _ _ _ _ hb, h.2.2.2.2 b hb]⟩
theorem shape5 (cs : Array Value) (q : Nat) (v0 v1 v2 v3 v4 : Value) (hq : q + 5 ≤ cs.size) :
    ((((((cs.setIfInBounds q v0).setIfInBounds (q + 1) v1).setIfInBounds (q + 2) v2).setIfInBounds (q + 3) v3).setIfInBounds (q + 4) v4).size = cs.size ∧
    (∀ o, (o < q ∨ q + 5 ≤ o) → (((((cs.setIfInBounds q v0).setIfInBounds (q + 1) v1).setIfInBounds (q + 2) v2).setIfInBounds (q + 3) v3).setIfInBounds (q + 4) v4)[o]? = cs[o]?) ∧
    (((((cs.setIfInBounds q v0).setIfInBounds (q + 1) v1).setIfInBounds (q + 2) v2).setIfInBounds (q + 3) v3).setIfInBounds (q + 4) v4)[q]? = some v0 ∧
    (((((cs.setIfInBounds q v0).setIfInBounds (q + 1) v1).setIfInBounds (q + 2) v2).setIfInBounds (q + 3) v3).setIfInBounds (q + 4) v4)[q + 1]? = some v1 ∧
    (((((cs.setIfInBounds q v0).setIfInBounds (q + 1) v1).setIfInBounds (q + 2) v2).setIfInBounds (q + 3) v3).setIfInBounds (q + 4) v4)[q + 2]? = some v2 ∧
    (((((cs.setIfInBounds q v0).setIfInBounds (q + 1) v1).setIfInBounds (q + 2) v2).setIfInBounds (q + 3) v3).setIfInBounds (q + 4) v4)[q + 3]? = some v3 ∧
    (((((cs.setIfInBounds q v0).setIfInBounds (q + 1) v1).setIfInBounds (q + 2) v2).setIfInBounds (q + 3) v3).setIfInBounds (q + 4) v4)[q + 4]? = some v4) := by
  refine ⟨by simp only [Array.size_setIfInBounds], fun o ho => ?_, ?_, ?_, ?_, ?_, ?_⟩
  · rw [Array.getElem?_setIfInBounds_ne (by omega), Array.getElem?_setIfInBounds_ne (by omega), Array.getElem?_setIfInBounds_ne (by omega), Array.getElem?_setIfInBounds_ne (by omega), Array.getElem?_setIfInBounds_ne (by omega)]
  · rw [Array.getElem?_setIfInBounds_ne (by omega), Array.getElem?_setIfInBounds_ne (by omega), Array.getElem?_setIfInBounds_ne (by omega), Array.getElem?_setIfInBounds_ne (by omega), Array.getElem?_setIfInBounds_self_of_lt (by omega)]
  · rw [Array.getElem?_setIfInBounds_ne (by omega), Array.getElem?_setIfInBounds_ne (by omega), Array.getElem?_setIfInBounds_ne (by omega), Array.getElem?_setIfInBounds_self_of_lt (by simp only [Array.size_setIfInBounds]; omega)]
  · rw [Array.getElem?_setIfInBounds_ne (by omega), Array.getElem?_setIfInBounds_ne (by omega), Array.getElem?_setIfInBounds_self_of_lt (by simp only [Array.size_setIfInBounds]; omega)]
  · rw [Array.getElem?_setIfInBounds_ne (by omega), Array.getElem?_setIfInBounds_self_of_lt (by simp only [Array.size_setIfInBounds]; omega)]
  · rw [Array.getElem?_setIfInBounds_self_of_lt (by simp only [Array.size_setIfInBounds]; omega)]
theorem over_mk5 (w : World) (g q : Nat) (k : Int) : Over w (((((w.setCell ⟨g, q, none⟩ (.int .i64 k)).setCell ⟨g, q + 1, none⟩ (.bool false)).setCell ⟨g, q + 2, none⟩ (.int .i64 0)).setCell ⟨g, q + 3, none⟩ (.string { data := #[] })).setCell ⟨g, q + 4, none⟩ (.slice none 0 0)) g q := by
  have h := over_cells (over_cells (over_cells (over_cells (over_cells (w := w) (w' := w) (g := g) ⟨rfl, rfl, rfl, rfl, fun _ _ => rfl⟩ q (.int .i64 k)) (q + 1) (.bool false)) (q + 2) (.int .i64 0)) (q + 3) (.string { data := #[] })) (q + 4) (.slice none 0 0)
  refine ⟨h.1, h.2.1, h.2.2.1, h.2.2.2.1, h.2.2.2.2, fun cs T hh hq => ?_⟩
  obtain ⟨s1, s2, s3⟩ := shape5 cs q (.int .i64 k) (.bool false) (.int .i64 0) (.string { data := #[] }) (.slice none 0 0) hq
  exact ⟨_, heap_setCell (heap_setCell (heap_setCell (heap_setCell (heap_setCell hh)))), s1, s2, k, s3⟩
theorem over_cells5 (w : World) (g q : Nat) (k : Int) : Over w (w.setCells g q [.int .i64 k, .bool false, .int .i64 0, .string { data := #[] }, .slice none 0 0]) g q := over_mk5 w g q k
theorem owns_slice {w : World} {base : Nat} {T : TypeId} {n : Nat} {v : Value} {xs : List Value} (h : w.ownsRow base T 5 v (n + 1) xs) :
    ∃ g cap cur, v = .slice (some ⟨g, 0, none⟩) (n + 1) cap ∧ base ≤ g ∧ w.heap[g]? = some (.cells cur T (0, 0)) ∧ (n + 1) * 5 ≤ cur.size := by
  obtain ⟨h1, h2 | ⟨g, cap, cur, e, hg, hh, hn, hcap, hsz, htk⟩⟩ := h
  · omega
  · exact ⟨g, cap, cur, e, hg, hh, by rw [hsz]; omega⟩
theorem five_cells {w : World} {g p : Nat} {cs : Array Value} {T : TypeId} (h : w.heap[g]? = some (.cells cs T (0, 0))) (hp : p + 5 ≤ cs.size) :
    ∃ u0 u1 u2 u3 u4, w.cell? ⟨g, p, none⟩ = some u0 ∧ w.cell? ⟨g, p + 1, none⟩ = some u1 ∧ w.cell? ⟨g, p + 2, none⟩ = some u2 ∧ w.cell? ⟨g, p + 3, none⟩ = some u3 ∧ w.cell? ⟨g, p + 4, none⟩ = some u4 := by
  have hc : ∀ o, w.cell? ⟨g, o, none⟩ = cs[o]? := fun o => by simp [World.cell?, h]
  refine ⟨cs[p], cs[p + 1], cs[p + 2], cs[p + 3], cs[p + 4], ?_, ?_, ?_, ?_, ?_⟩ <;> rw [hc, Array.getElem?_eq_getElem]
theorem ovr_over {w w' : World} {S : Nat → Prop} {g q : Nat} (h : Over w w' g q) (hq : q % 5 = 0) (hfit : ∀ cs T, w.heap[g]? = some (.cells cs T (0, 0)) → q + 5 ≤ cs.size) : ∀ (m : Nat) (s : Value), ovr w S m s → ovr w' S m s := by
  have hr : ∀ a c, room w S a c → room w' S a c := fun a c hh h0 => by
    obtain ⟨b, off, cs, T, ea, hb, hh, r1, r2⟩ := hh h0
    by_cases e : b = g
    · subst e
      obtain ⟨cs', h1, h2, _⟩ := h.shape cs T hh (hfit cs T hh)
      exact ⟨b, off, cs', T, ea, hb, h1, r1, by omega⟩
    · exact ⟨b, off, cs, T, ea, hb, by rw [h.block b e, hh], r1, r2⟩
  intro m
  induction m with
  | zero => rintro s ⟨a, c, e, h⟩; exact ⟨a, c, e, hr a c h⟩
  | succ m ih =>
    rintro s ⟨a, n, c, e, h1, h2, h3, h4⟩
    refine ⟨a, n, c, e, h1, h2, hr a c h3, fun b off ea i hi => ?_⟩
    obtain ⟨b', off', cs, T, ea', hb', hh, r1, r2⟩ := h3 (by omega)
    rw [ea] at ea'
    simp only [Option.some.injEq, Addr.mk.injEq, and_true] at ea'
    obtain ⟨rfl, rfl⟩ := ea'
    obtain ⟨k, bb, nn, t, a1, n1, c1, x0, x1, x2, x3, x4, x5⟩ := h4 b off ea i hi
    by_cases eb : b = g
    · subst eb
      obtain ⟨cs', e1, e2, e3, k', y0, y1, y2, y3, y4⟩ := h.shape cs T hh (hfit cs T hh)
      have hc : ∀ o, w.cell? ⟨b, o, none⟩ = cs[o]? := fun o => by simp [World.cell?, hh]
      have hc' : ∀ o, w'.cell? ⟨b, o, none⟩ = cs'[o]? := fun o => by simp [World.cell?, e1]
      by_cases eq : off + i * 5 = q
      · rw [eq]
        exact ⟨k', false, 0, { data := #[] }, none, 0, 0, by rw [hc', y0], by rw [hc', y1], by rw [hc', y2], by rw [hc', y3], by rw [hc', y4], ovr_nil m none⟩
      · rw [hc] at x0 x1 x2 x3 x4
        exact ⟨k, bb, nn, t, a1, n1, c1, by rw [hc', e3 _ (by omega), x0], by rw [hc', e3 _ (by omega), x1], by rw [hc', e3 _ (by omega), x2], by rw [hc', e3 _ (by omega), x3], by rw [hc', e3 _ (by omega), x4], ih _ x5⟩
    · have hc : ∀ o, w'.cell? ⟨b, o, none⟩ = w.cell? ⟨b, o, none⟩ := fun o => World.cell?_of_block (w := w) (a := ⟨b, o, none⟩) (h.block b eb)
      exact ⟨k, bb, nn, t, a1, n1, c1, by rw [hc, x0], by rw [hc, x1], by rw [hc, x2], by rw [hc, x3], by rw [hc, x4], ih _ x5⟩
structure Kept (lo hi : Nat) (w w' : World) : Prop where
  os : w'.os = w.os
  tape : w'.tape = w.tape
  output : w'.output = w.output
  size : w.heap.size ≤ w'.heap.size
  block : ∀ b, (b < lo ∨ hi ≤ b) → b < w.heap.size → w'.heap[b]? = w.heap[b]?
theorem Kept.refl (lo hi : Nat) (w : World) : Kept lo hi w w := ⟨rfl, rfl, rfl, Nat.le_refl _, fun _ _ _ => rfl⟩
theorem Kept.trans {lo hi : Nat} {a b c : World} (h : Kept lo hi a b) (k : Kept lo hi b c) : Kept lo hi a c :=
  ⟨k.os.trans h.os, k.tape.trans h.tape, k.output.trans h.output, Nat.le_trans h.size k.size, fun i hi hs => (k.block i hi (Nat.lt_of_lt_of_le hs h.size)).trans (h.block i hi hs)⟩
theorem Kept.alloc {lo hi : Nat} {a w : World} (h : Kept lo hi a w) (o : Obj) : Kept lo hi a (w.alloc o) :=
  h.trans ⟨rfl, rfl, rfl, by simp, fun b _ hs => Below.heap_alloc _ _ _ hs⟩
theorem Kept.over {lo hi g q : Nat} {a w w' : World} (h : Kept lo hi a w) (ho : Over w w' g q) (hg : lo ≤ g ∧ g < hi) : Kept lo hi a w' :=
  h.trans ⟨ho.os, ho.tape, ho.output, Nat.le_of_eq ho.size.symm, fun b hb _ => ho.block b (by omega)⟩
theorem Kept.grown {lo hi : Nat} {a w w' : World} (h : Kept lo hi a w) (hg : w.grownBy w' none) : Kept lo hi a w' :=
  h.trans ⟨hg.os, hg.tape, hg.output, hg.size, fun b _ hs => hg.block b hs (by simp)⟩
theorem Kept.fresh {lo hi g q : Nat} {a w w' : World} (h : Kept lo hi a w) (ho : Over w w' g q) (hg : a.heap.size ≤ g) : Kept lo hi a w' :=
  ⟨ho.os.trans h.os, ho.tape.trans h.tape, ho.output.trans h.output, by rw [ho.size]; exact h.size, fun b hb hs => by rw [ho.block b (by omega)]; exact h.block b hb hs⟩
theorem Kept.setIn {lo hi : Nat} {a w : World} (h : Kept lo hi a w) {g : Nat} (h1 : lo ≤ g) (h2 : g < hi) (o : Nat) (v : Value) : Kept lo hi a (w.setCell ⟨g, o, none⟩ v) :=
  h.trans ⟨rfl, rfl, rfl, Nat.le_of_eq (hsz_setCell _ _ _).symm, fun b hb _ => Below.heap_setCell _ _ _ _ (by dsimp only; omega)⟩
theorem Kept.below {lo hi : Nat} {w w' : World} (h : Kept lo hi w w') (hlo : lo ≤ w.heap.size) : Below lo w w' :=
  ⟨h.os, h.tape, h.output, h.size, fun b hb => h.block b (.inl hb) (by omega)⟩
structure KeptS (S : Nat → Prop) (w w' : World) : Prop where
  os : w'.os = w.os
  tape : w'.tape = w.tape
  output : w'.output = w.output
  size : w.heap.size ≤ w'.heap.size
  block : ∀ b, ¬ S b → b < w.heap.size → w'.heap[b]? = w.heap[b]?
theorem KeptS.refl (S : Nat → Prop) (w : World) : KeptS S w w := ⟨rfl, rfl, rfl, Nat.le_refl _, fun _ _ _ => rfl⟩
theorem KeptS.trans {S : Nat → Prop} {a b c : World} (h : KeptS S a b) (k : KeptS S b c) : KeptS S a c :=
  ⟨k.os.trans h.os, k.tape.trans h.tape, k.output.trans h.output, Nat.le_trans h.size k.size, fun i hi hs => (k.block i hi (Nat.lt_of_lt_of_le hs h.size)).trans (h.block i hi hs)⟩
theorem KeptS.alloc {S : Nat → Prop} {a w : World} (h : KeptS S a w) (o : Obj) : KeptS S a (w.alloc o) :=
  h.trans ⟨rfl, rfl, rfl, by simp, fun b _ hs => Below.heap_alloc _ _ _ hs⟩
theorem KeptS.over {S : Nat → Prop} {g q : Nat} {a w w' : World} (h : KeptS S a w) (ho : Over w w' g q) (hg : S g) : KeptS S a w' :=
  h.trans ⟨ho.os, ho.tape, ho.output, Nat.le_of_eq ho.size.symm, fun b hb _ => ho.block b (fun e => hb (e ▸ hg))⟩
theorem KeptS.grown {S : Nat → Prop} {a w w' : World} (h : KeptS S a w) (hg : w.grownBy w' none) : KeptS S a w' :=
  h.trans ⟨hg.os, hg.tape, hg.output, hg.size, fun b _ hs => hg.block b hs (by simp)⟩
theorem KeptS.fresh {S : Nat → Prop} {g q : Nat} {a w w' : World} (h : KeptS S a w) (ho : Over w w' g q) (hg : a.heap.size ≤ g) : KeptS S a w' :=
  ⟨ho.os.trans h.os, ho.tape.trans h.tape, ho.output.trans h.output, by rw [ho.size]; exact h.size, fun b hb hs => by rw [ho.block b (by omega)]; exact h.block b hb hs⟩
theorem KeptS.below {S : Nat → Prop} {w w' : World} {lo : Nat} (h : KeptS S w w') (hS : ∀ b, S b → lo ≤ b) (hlo : lo ≤ w.heap.size) : Below lo w w' :=
  ⟨h.os, h.tape, h.output, h.size, fun b hb => h.block b (fun hs => by have := hS b hs; omega) (by omega)⟩
theorem KeptS.mono {S S' : Nat → Prop} {w w' : World} (h : KeptS S w w') (hS : ∀ b, S b → S' b) : KeptS S' w w' :=
  ⟨h.os, h.tape, h.output, h.size, fun b hb => h.block b (fun hs => hb (hS b hs))⟩
theorem KeptS.set {S : Nat → Prop} {a w : World} (h : KeptS S a w) {p : Addr} (hg : S p.block) (v : Value) : KeptS S a (w.setCell p v) :=
  h.trans ⟨rfl, rfl, rfl, Nat.le_of_eq (hsz_setCell _ _ _).symm, fun b hb _ => Below.heap_setCell _ _ _ _ (fun e => hb (e ▸ hg))⟩
end Go.Proofs.YtljljhjdlicfeaaGreat
namespace Go.Proofs.YtljljhjdlicfeaaGreat
open Go Go.RowKit
set_option maxRecDepth 100000
set_option linter.unusedVariables false
def OvrKeep (S : Nat → Prop) (w w' : World) : Prop := ∀ m s, ovr w S m s → ovr w' S m s
def OverPost (S : Nat → Prop) (w : World) (e : Ending) (w' : World) : Prop := e = .returned (.tuple #[]) ∧ KeptS S w w' ∧ OvrKeep S w w'
def OverC (S : Nat → Prop) (m : Nat) : Prop := ∀ (k : Int) (b : Bool) (n : Int) (t : ByteArray) (s : Value) (w : World), (∀ b, S b → b < w.heap.size) → ovr w S m s →
  Calls Tryz.prog 11 #[.agg #[.int .i64 k, .bool b, .int .i64 n, .string t, s]] w (OverPost S w)
theorem ovr_form {w : World} {S : Nat → Prop} : ∀ {m : Nat} {s : Value}, ovr w S m s → ∃ a n c, s = .slice a n c ∧ n ≤ c ∧ n ≤ 2147483647 ∧ room w S a c
  | 0, s, ⟨a, c, e, h⟩ => ⟨a, 0, c, e, Nat.zero_le _, by omega, h⟩
  | m + 1, s, ⟨a, n, c, e, h1, h2, h3, _⟩ => ⟨a, n, c, e, h1, h2, h3⟩
theorem ovr_elem {w : World} {S : Nat → Prop} {m : Nat} {a : Option Addr} {n c : Nat} (h : ovr w S m (.slice a n c)) (hn : 0 < n) : ∃ m' b off cs T, m = m' + 1 ∧ a = some ⟨b, off, none⟩ ∧ S b ∧ w.heap[b]? = some (.cells cs T (0, 0)) ∧ off % 5 = 0 ∧ off + 5 * c ≤ cs.size ∧ ∀ i, i < n → elemO w (ovr w S m') b (off + i * 5) := by
  cases m with
  | zero =>
    obtain ⟨a', c', e, _⟩ := h
    simp only [Value.slice.injEq] at e
    omega
  | succ m =>
    obtain ⟨a', n', c', e, h1, h2, h3, h4⟩ := h
    simp only [Value.slice.injEq] at e
    obtain ⟨rfl, rfl, rfl⟩ := e
    obtain ⟨b, off, cs, T, ea, hb, hh, r1, r2⟩ := h3 (by omega)
    exact ⟨m, b, off, cs, T, rfl, ea, hb, hh, r1, r2, h4 b off ea⟩
set_option maxHeartbeats 1600000 in
theorem over_step (S : Nat → Prop) (m : Nat) (ih : ∀ m', m = m' + 1 → OverC S m') : OverC S m := by
  intro k b n t s w hS hs
  obtain ⟨a, len, c, rfl, hc1, hc2, hroom⟩ := ovr_form hs
  have HS := Lib.hid hs
  have HSS := Lib.hid hS
  have hself : ¬ S w.heap.size := fun h => by have := hS _ h; omega
  have IH := Lib.hid ih
  clear hs hroom ih hS
  go_enter Tryz.func11, Tryz.ntmps11
  go_wp2_with fail
  go_loopw [2] (fun i wr => ∃ q : Nat, q ≤ len ∧ i = .int .i64 q ∧ KeptS S (w.alloc (.cells #[.int .i64 k, .bool b, .int .i64 n, .string t, .slice a len c] 36)) wr ∧ Hid (OvrKeep S w wr)) (fun i _ => len - (intOf i).toNat)
  case atStart => exact ⟨0, Nat.zero_le _, rfl, KeptS.refl _ _, fun m s h => ovr_keep (fun b hb => Below.heap_alloc _ _ _ (HSS.out b hb)) m s h⟩
  case round =>
    obtain ⟨q, hq, rfl, hkp, hO⟩ := hrel
    have hsz : w.heap.size + 1 ≤ wr.heap.size := by have := hkp.size; simpa using this
    have p1 := hkp.block w.heap.size hself (by simp)
    rw [heap_last] at p1
    have q1 := fun o => cell_of p1 o
    have P1 := Lib.hid p1
    clear p1
    by_cases hlt : q < len
    · obtain ⟨m', bb, off, cs, T, hm, rfl, hb1, hh, r1, r2, hel⟩ := ovr_elem (hO.out _ _ HS.out) (by omega)
      have hb2 : bb < w.heap.size := HSS.out _ hb1
      have HM := Lib.hid hm
      obtain ⟨k1, b1, n1, t1, a1, l1, c1, x0, x1, x2, x3, x4, x5⟩ := hel q hlt
      have X5 := Lib.hid x5
      clear hh hel hm x5
      go_wp2_with fail
      refine (IH.out m' HM.out k1 b1 n1 t1 _ _ (fun b hb => by have := HSS.out b hb; omega) X5.out).mono ?_
      rintro e w1 hpost
      obtain ⟨rfl, hkp2, hO2⟩ := hpost
      have HO2 := Lib.hid hO2
      have hsz2 := hkp2.size
      clear x0 x1 x2 x3 x4 X5 q1 hO2
      obtain ⟨m2, bb2, off2, cs2, T2, hm2, ea2, _, hh2, r12, r22, hel2⟩ := ovr_elem (HO2.out _ _ (hO.out _ _ HS.out)) (by omega)
      simp only [Option.some.injEq, Addr.mk.injEq, and_true] at ea2
      obtain ⟨rfl, rfl⟩ := ea2
      obtain ⟨k2, b2, n2, t2, a2, l2, c2, x0, x1, x2, x3, x4, x5⟩ := hel2 q hlt
      have p2 := hkp2.block w.heap.size hself (by omega)
      rw [P1.out] at p2
      have q2 := fun o => cell_of p2 o
      have f1 := fun o => frozen_of hh2 o
      have HH2 := Lib.hid hh2
      have HM2 := Lib.hid hm2
      clear p2 hh2 hel2 x5 hm2
      go_wp2_with fail
      have hfit : ∀ cs T, w1.heap[bb]? = some (.cells cs T (0, 0)) → off + q * 5 + 5 ≤ cs.size := fun cs T h => by
        rw [HH2.out] at h
        simp only [Option.some.injEq, Obj.cells.injEq] at h
        rw [← h.1]
        omega
      go_roundw
      case rel => exact ⟨q + 1, by omega, by go_num, (hkp.trans hkp2).over (over_mk5 w1 bb (off + q * 5) 98) hb1, fun m s h => ovr_over (over_mk5 w1 bb (off + q * 5) 98) (by omega) hfit m s (HO2.out _ _ (hO.out _ _ h))⟩
      case measure => simp [intOf]; omega
    · obtain rfl : q = len := by omega
      obtain ⟨i0, hi0, hz0, hz1, hz2⟩ := info_parts vinfo
      have HSL := Lib.hid Tryz.underlying34
      have HI := Lib.hid (And.intro hi0 (And.intro hz0 (And.intro hz1 hz2)))
      clear hi0 hz0 hz1 hz2
      by_cases hc0 : c = 0
      · subst hc0
        obtain rfl : q = 0 := by omega
        go_wp2_with (at_builtin; refine wpList_append_grows _ rfl _ _ 34 rfl 36 i0 (.agg #[.int .i64 0, .bool false, .int .i64 0, .string { data := #[] }, .slice none 0 0]) 5 64 Tryz.underlying34 HI.out.1 HI.out.2.1 HI.out.2.2.1 HI.out.2.2.2 rfl (by decide) _ _ _ [] rfl (fun _ => ⟨rfl, rfl⟩) rfl ?c6 ⟨wr.heap.size, 0, none⟩ 1 1 [.int .i64 0, .bool false, .int .i64 0, .string { data := #[] }, .slice none 0 0] rfl rfl ?c1 ?c2 ?c3 ?c4 ?c5 ?_)
        case c6 => intro b _ j u hj; simp at hj
        case c1 => exact fun j u hj => news_last hj
        case c2 => intro u hu; simp only [List.mem_cons, List.not_mem_nil, or_false] at hu; rcases hu with rfl | rfl | rfl | rfl | rfl <;> rfl
        case c3 => omega
        case c4 => unfold maxLen; omega
        case c5 => omega
        intro v' w2 hown hgrow
        obtain ⟨g, cap, cur, hv, hg, hh, hcur⟩ := owns_slice (n := 0) hown
        obtain ⟨u0, u1, u2, u3, u4, y0, y1, y2, y3, y4⟩ := five_cells (p := 0) hh (by omega)
        have f1 := fun o => frozen_of hh o
        have p2 := hgrow.block w.heap.size (by simp; omega) (by simp)
        rw [Below.heap_alloc _ _ _ (by omega), P1.out] at p2
        have q2 := fun o => cell_of p2 o
        have HH2 := Lib.hid hh
        have HG := Lib.hid hgrow
        have HGG := Lib.hid hg
        clear hown hgrow p2 hh hcur hg q1
        rw [hv]
        clear hv
        go_wp2_with fail
        go_end0
        have hgw : wr.heap.size + 1 ≤ g := by have := HGG.out; simpa using this
        refine ⟨rfl, ((((KeptS.refl S w).alloc _).trans hkp).alloc _ |>.grown HG.out).fresh (over_mk5 w2 g 0 97) (by omega), fun m s h => ?_⟩
        refine ovr_keep (fun b h1 => ?_) m s (hO.out m s h)
        have h2 := HSS.out b h1
        rw [(over_mk5 w2 g 0 97).block b (by omega), HG.out.block b (by simp; omega) (by simp), Below.heap_alloc _ _ _ (by omega)]
      · obtain ⟨a2, n2, c2, e2, _, _, hr2⟩ := ovr_form (hO.out _ _ HS.out)
        simp only [Value.slice.injEq] at e2
        obtain ⟨rfl, rfl, rfl⟩ := e2
        obtain ⟨bb, off, cs, T, rfl, hb1, hh, r1, r2⟩ := hr2 (by omega)
        have hb2 : bb < w.heap.size := HSS.out _ hb1
        have HH := Lib.hid hh
        have hzz : bb < wr.heap.size := by omega
        have hcc : ∀ o, wr.cell? ⟨bb, o, none⟩ = cs[o]? := fun o => cell_of hh o
        have HCC := Lib.hid hcc
        clear hh hcc
        go_wp2_with (at_builtin; refine wpList_append_arg _ rfl _ _ 34 rfl 36 i0 (.agg #[.int .i64 0, .bool false, .int .i64 0, .string { data := #[] }, .slice none 0 0]) 5 64 HSL.out HI.out.1 HI.out.2.1 HI.out.2.2.1 HI.out.2.2.2 rfl (by decide) bb off q c ((cs.toList.drop off).take (q * 5)) rfl ?c0 ?c6 ⟨wr.heap.size, 0, none⟩ 1 1 [.int .i64 0, .bool false, .int .i64 0, .string { data := #[] }, .slice none 0 0] rfl rfl ?c1 ?c2 ?c3 ?c4 ?c5 ?cr ?cg)
        case c0 => simp; omega
        case c6 =>
          intro j u hj
          rw [List.getElem?_take] at hj
          split at hj
          · rw [List.getElem?_drop] at hj
            rw [World.cell?_alloc_lt _ _ _ hzz, HCC.out]
            simpa using hj
          · cases hj
        case c1 => exact fun j u hj => news_last hj
        case c2 => intro u hu; simp only [List.mem_cons, List.not_mem_nil, or_false] at hu; rcases hu with rfl | rfl | rfl | rfl | rfl <;> rfl
        case c3 =>
          intro hr j hj
          simp only [List.length_cons, List.length_nil] at hj
          refine ⟨?_, ?_⟩
          · rw [World.cell?_alloc_lt _ _ _ hzz, HCC.out, Array.getElem?_eq_getElem (by omega)]
            rfl
          · exact frozen_of (by rw [Below.heap_alloc _ _ _ hzz]; exact HH.out) _
        case c4 => unfold maxLen; omega
        case c5 => omega
        case cr =>
          intro hroom
          have hov := over_cells5 (wr.alloc (.cells #[.int .i64 0, .bool false, .int .i64 0, .string { data := #[] }, .slice none 0 0] 36)) bb (off + q * 5) 0
          generalize (wr.alloc (.cells #[.int .i64 0, .bool false, .int .i64 0, .string { data := #[] }, .slice none 0 0] 36)).setCells bb (off + q * 5) [.int .i64 0, .bool false, .int .i64 0, .string { data := #[] }, .slice none 0 0] = w2 at *
          have HOV := Lib.hid hov
          obtain ⟨cs', e1, e2, e3, _⟩ := hov.shape cs T (by rw [Below.heap_alloc _ _ _ hzz]; exact HH.out) (by omega)
          obtain ⟨u0, u1, u2, u3, u4, y0, y1, y2, y3, y4⟩ := five_cells (p := off + q * 5) e1 (by omega)
          have f1 := fun o => frozen_of e1 o
          have p2 := hov.block w.heap.size (by omega)
          rw [Below.heap_alloc _ _ _ (by omega), P1.out] at p2
          have q2 := fun o => cell_of p2 o
          have HE1 := Lib.hid e1
          have HE2 := Lib.hid e2
          clear hov p2 e1 e2 e3 q1
          go_wp2_with fail
          go_end0
          have hf1 : ∀ cs0 T0, (wr.alloc (.cells #[.int .i64 0, .bool false, .int .i64 0, .string { data := #[] }, .slice none 0 0] 36)).heap[bb]? = some (.cells cs0 T0 (0, 0)) → off + q * 5 + 5 ≤ cs0.size := fun cs0 T0 h => by
            rw [Below.heap_alloc _ _ _ hzz, HH.out] at h
            simp only [Option.some.injEq, Obj.cells.injEq] at h
            rw [← h.1]
            omega
          have hf2 : ∀ cs0 T0, w2.heap[bb]? = some (.cells cs0 T0 (0, 0)) → off + q * 5 + 5 ≤ cs0.size := fun cs0 T0 h => by
            rw [HE1.out] at h
            simp only [Option.some.injEq, Obj.cells.injEq] at h
            have := HE2.out
            rw [← h.1]
            omega
          refine ⟨rfl, (((((KeptS.refl S w).alloc _).trans hkp).alloc _).over HOV.out hb1).over (over_mk5 w2 bb (off + q * 5) 97) hb1, fun m s h => ?_⟩
          refine ovr_over (over_mk5 w2 bb (off + q * 5) 97) (by omega) hf2 m s (ovr_over HOV.out (by omega) hf1 m s (ovr_keep (fun b h1 => ?_) m s (hO.out m s h)))
          have h2 := HSS.out b h1
          exact Below.heap_alloc _ _ _ (by omega)
        case cg =>
          intro hfull v' w2 hown hgrow
          obtain ⟨g, cap, cur, hv, hg, hh, hcur⟩ := owns_slice (n := q) hown
          obtain ⟨u0, u1, u2, u3, u4, y0, y1, y2, y3, y4⟩ := five_cells (p := q * 5) hh (by omega)
          have f1 := fun o => frozen_of hh o
          have p2 := hgrow.block w.heap.size (by simp; omega) (by simp)
          rw [Below.heap_alloc _ _ _ (by omega), P1.out] at p2
          have q2 := fun o => cell_of p2 o
          have HH2 := Lib.hid hh
          have HG := Lib.hid hgrow
          have HGG := Lib.hid hg
          clear hown hgrow p2 hh hcur hg q1
          rw [hv]
          clear hv
          go_wp2_with fail
          go_end0
          have hgw : wr.heap.size + 1 ≤ g := by have := HGG.out; simpa using this
          refine ⟨rfl, ((((KeptS.refl S w).alloc _).trans hkp).alloc _ |>.grown HG.out).fresh (over_mk5 w2 g (q * 5) 97) (by omega), fun m s h => ?_⟩
          refine ovr_keep (fun b h1 => ?_) m s (hO.out m s h)
          have h2 := HSS.out b h1
          rw [(over_mk5 w2 g (q * 5) 97).block b (by omega), HG.out.block b (by simp; omega) (by simp), Below.heap_alloc _ _ _ (by omega)]
theorem over_all (S : Nat → Prop) : ∀ m, OverC S m
  | 0 => over_step S 0 (fun m' h => by omega)
  | m + 1 => over_step S (m + 1) (fun m' h => by
    obtain rfl : m = m' := by omega
    exact over_all S m)
theorem over_any (x : GV) (fx : x.fit) (lo : Nat) (s : Value) (w : World) (hlo : lo ≤ w.heap.size) (h : isR w (since lo w) s x.l) :
    Calls Tryz.prog 11 #[x.agg s] w fun e w' => e = .returned (.tuple #[]) ∧ Below lo w w' := by
  obtain ⟨_, _, _, _, _, h6, h7⟩ := fit_open fx
  have ho := ovr_of (sizeL x.l) (S' := since lo w) (Nat.le_refl _) h6 h7 h (fun b hb => hb)
  exact (over_all (since lo w) (sizeL x.l) x.k x.b x.n x.t s w (fun b hb => hb.2) ho).mono fun e w' hp => ⟨hp.1, hp.2.1.below (fun b hb => hb.1) hlo⟩
end Go.Proofs.YtljljhjdlicfeaaGreat
namespace Go.Proofs.YtljljhjdlicfeaaGreat
open Go Go.RowKit
set_option maxRecDepth 100000
set_option linter.unusedVariables false
theorem hsz_setCell2 (w : World) (p : Addr) (v : Value) : (w.setCell p v).heap.size = w.heap.size := by simp [World.setCell]
theorem heap_setCell2 {w : World} {g o : Nat} {v : Value} {cs : Array Value} {T : TypeId} {fz : Nat × Nat} (h : w.heap[g]? = some (.cells cs T fz)) : (w.setCell ⟨g, o, none⟩ v).heap[g]? = some (.cells (cs.setIfInBounds o v) T fz) := by
  simp [World.setCell, Array.getElem?_modify, h]
theorem ownL_setCell {w : World} {base : Nat} {T : TypeId} {v : Value} {l : List GV} (h : ownL w base T v l) {p : Addr} (hp : p.block < base) (u : Value) : ownL (w.setCell p u) base T v l := by
  obtain ⟨ss, hl, hown, hin⟩ := h
  refine ⟨ss, hl, ownsRow_setCell_below hown hp u, fun i h h' => ?_⟩
  refine isR_sub (isR_setCell (hin i h h') (fun hx => by have := hx.1.1; omega) u) (fun b hb => ⟨⟨hb.1.1, by have := hb.1.2; simpa [World.setCell] using this⟩, hb.2⟩)
theorem copied_push {w wr w0 w1 w2 : World} {x y : GV} {k cp : Nat} {va a1 : Option Addr} {c1 n : Nat} {v' : Value} {ss : List Value} {o2 : Obj} {l : List GV} {cx : Array Value}
    (hbel : Below w.heap.size w wr) (hsz : w.heap.size + 2 ≤ wr.heap.size)
    (hx1 : wr.heap[w.heap.size]? = some (.cells #[.int .i64 x.k, .bool x.b, .int .i64 x.n, .string x.t, .slice va k cp] 36 (0, 0)))
    (hx2 : wr.heap[w.heap.size + 1]? = some (.cells cx 36 (0, 0)))
    (h0 : Below wr.heap.size wr w0) (h0s : wr.heap.size ≤ w0.heap.size) (h1 : Below w0.heap.size w0 w1) (hr : isR w1 (since w0.heap.size w1) (.slice a1 y.l.length c1) y.l)
    (hn : n = l.length + 1) (hls : ss.length = l.length) (hin : ∀ i (h : i < l.length) (h2 : i < ss.length), isR w1 (fun b => since (w.heap.size + 2) w1 b ∧ some b ≠ (Value.slice va k cp).ownBlock) ss[i] l[i].l)
    (hov : ∀ g, (Value.slice va k cp).ownBlock = some g → w.heap.size + 2 ≤ g ∧ g < wr.heap.size)
    (hown : w2.ownsRow (w.heap.size + 2) 36 5 v' n (flat l ss ++ [.int .i64 y.k, .bool y.b, .int .i64 y.n, .string y.t, .slice a1 y.l.length c1]))
    (hg : (w1.alloc o2).grownBy w2 (Value.slice va k cp).ownBlock) (hat : v'.ownBlock = (Value.slice va k cp).ownBlock ∨ v'.ownBlock = some (w1.heap.size + 1)) :
    w2.heap[w.heap.size]? = some (.cells #[.int .i64 x.k, .bool x.b, .int .i64 x.n, .string x.t, .slice va k cp] 36 (0, 0)) ∧
    Below w.heap.size w (w2.setCell ⟨w.heap.size, 4, none⟩ v') ∧ w.heap.size + 2 ≤ (w2.setCell ⟨w.heap.size, 4, none⟩ v').heap.size ∧
    (w2.setCell ⟨w.heap.size, 4, none⟩ v').heap[w.heap.size]? = some (.cells #[.int .i64 x.k, .bool x.b, .int .i64 x.n, .string x.t, v'] 36 (0, 0)) ∧
    (w2.setCell ⟨w.heap.size, 4, none⟩ v').heap[w.heap.size + 1]? = some (.cells cx 36 (0, 0)) ∧
    ownL (w2.setCell ⟨w.heap.size, 4, none⟩ v') (w.heap.size + 2) 36 v' (l ++ [y]) := by
  have s1 : w0.heap.size ≤ w1.heap.size := h1.size
  have old : ∀ b, b < wr.heap.size → some b ≠ (Value.slice va k cp).ownBlock → w2.heap[b]? = wr.heap[b]? := fun b hb hne => by
    rw [hg.block b (by simp; omega) hne, Below.heap_alloc _ _ _ (by omega), h1.block b (by omega), h0.block b hb]
  have ne1 : ∀ b, b < w.heap.size + 2 → some b ≠ (Value.slice va k cp).ownBlock := fun b hb e => by have := (hov b e.symm).1; omega
  have e1 : w2.heap[w.heap.size]? = some (.cells #[.int .i64 x.k, .bool x.b, .int .i64 x.n, .string x.t, .slice va k cp] 36 (0, 0)) := by
    rw [old _ (by omega) (ne1 _ (by omega))]; exact hx1
  have sz2 : w1.heap.size + 1 ≤ w2.heap.size := by have := hg.size; simpa using this
  refine ⟨e1, ?_, by rw [hsz_setCell2]; omega, ?_, ?_, ?_⟩
  · refine Below.setCell ?_ (by dsimp only; omega) _
    refine ⟨?_, ?_, ?_, by omega, fun b hb => ?_⟩
    · rw [hg.os]; exact (h1.os.trans h0.os).trans hbel.os
    · rw [hg.tape]; exact (h1.tape.trans h0.tape).trans hbel.tape
    · rw [hg.output]; exact (h1.output.trans h0.output).trans hbel.output
    · rw [old b (by omega) (ne1 b (by omega))]; exact hbel.block b hb
  · rw [heap_setCell2 e1]; rfl
  · rw [Below.heap_setCell _ _ _ _ (by dsimp only; omega), old _ (by omega) (ne1 _ (by omega))]; exact hx2
  · refine ownL_setCell (ownL_push hn hls hin rfl (isR_sub hr (fun b hb => ⟨⟨by have := hb.1; omega, hb.2⟩, fun e => by have := (hov b e.symm).2; have := hb.1; omega⟩)) hown hg hat) (by dsimp only; omega) _
set_option maxHeartbeats 3200000 in
theorem vCopied_step (x : GV) (hl : x.l.length ≤ 2147483647) (h : ∀ y ∈ x.l, CopyVC 113 y) : CopyVC 113 x := by
  intro s w B hB hs
  obtain ⟨a, c, bb, off, rfl, hc, ha, hA⟩ := isL_open hs
  have HA := Lib.hid hA
  have Ha := Lib.hid ha
  have HH := Lib.hid h
  clear hA hs ha h
  simp only [GV.agg]
  go_enter Tryz.func113, Tryz.ntmps113
  go_wp2_with fail
  go_loopw [11] (fun i wr => ∃ (k cp : Nat) (va : Option Addr), k ≤ x.l.length ∧ i = .int .i64 k ∧ Below w.heap.size w wr ∧ w.heap.size + 2 ≤ wr.heap.size ∧
    Hid (wr.heap[w.heap.size]? = some (.cells #[.int .i64 x.k, .bool x.b, .int .i64 x.n, .string x.t, .slice va k cp] 36 (0, 0))) ∧
    Hid (wr.heap[w.heap.size + 1]? = some (.cells #[.int .i64 0, .bool false, .int .i64 0, .string { data := #[] }, .slice none 0 0] 36 (0, 0))) ∧ Hid (ownL wr (w.heap.size + 2) 36 (.slice va k cp) (x.l.take k))) (fun i _ => x.l.length - (intOf i).toNat)
  case atStart => exact ⟨0, 0, none, Nat.zero_le _, rfl, ((Below.refl w.heap.size w).alloc (Nat.le_refl _) _).alloc (by simp) _, by simp, heap_two, heap_second, ownL_nil _ _ _⟩
  case round =>
    obtain ⟨k, cp, va, hk, rfl, hbel, hsz, hx1, hx2, hO⟩ := hrel
    have q1 := fun o => cell_of hx1.out o
    have f1 := fun o => frozen_of hx1.out o
    by_cases hlt : k < x.l.length
    · obtain ⟨rfl, hb1, hb2⟩ := Ha.out (by omega)
      obtain ⟨ax, cx, x0, x1, x2, x3, x4, hsx⟩ := cellsV_slice (HA.out k hlt)
      have hg : ∀ o, wr.cell? ⟨bb, o, none⟩ = w.cell? ⟨bb, o, none⟩ := fun o => hbel.cell (p := ⟨bb, o, none⟩) (Nat.lt_of_lt_of_le hb2 hB)
      have hz : bb < wr.heap.size := Nat.lt_of_lt_of_le hb2 (Nat.le_trans hB hbel.size)
      have Hsx := Lib.hid hsx
      clear hsx
      obtain ⟨ss0, hls0, hown0, hin0⟩ := hO.out
      have hov0 : ∀ g, (Value.slice va k cp).ownBlock = some g → w.heap.size + 2 ≤ g ∧ g < wr.heap.size := fun g hg => ownBlock_lt hown0 hg
      have HOV := Lib.hid hov0
      obtain ⟨i0, hi, hz0, hz1, hz2⟩ := info_parts vinfo
      have HI := Lib.hid (And.intro hi (And.intro hz0 (And.intro hz1 hz2)))
      have HSL := Lib.hid Tryz.underlying34
      clear hls0 hown0 hin0 hov0 hi hz0 hz1 hz2 Ha
      go_wp2_with fail
      have hb0 : Below wr.heap.size wr (wr.alloc (.cells #[.int .i64 x.l[k].k, .bool x.l[k].b, .int .i64 x.l[k].n, .string x.l[k].t, .slice ax x.l[k].l.length cx] 36)).drew := ((Below.refl wr.heap.size wr).alloc (Nat.le_refl _) _).drew
      have HB0 := Lib.hid hb0
      have hbw := hbel.trans (hb0.mono hbel.size)
      have HBW := Lib.hid hbw
      clear hb0 hbw
      have hzh : w.heap.size < wr.heap.size := by omega
      have hne : w.heap.size ≠ wr.heap.size := by omega
      go_region_law (first
        | (refine step_append_own_at rfl _ _ 34 rfl (w.heap.size + 2) 36 i0 (.agg #[.int .i64 0, .bool false, .int .i64 0, .string { data := #[] }, .slice none 0 0]) 5 64 HSL.out HI.out.1 HI.out.2.1 HI.out.2.2.1 HI.out.2.2.2 rfl (by decide) (.slice va k cp) (x.l.take k).length (flat (x.l.take k) ss) rfl (HOWN.out.alloc _) ⟨w1.heap.size, 0, none⟩ 1 1 [.int .i64 x.l[k].k, .bool x.l[k].b, .int .i64 x.l[k].n, .string x.l[k].t, .slice a1 x.l[k].l.length c1] rfl rfl ?c1 ?c2 ?c3 ?c4 ?c5 ?_
           case c1 => exact fun j u hj => news_last hj
           case c2 => intro u hu; simp only [List.mem_cons, List.not_mem_nil, or_false] at hu; rcases hu with rfl | rfl | rfl | rfl | rfl <;> rfl
           case c3 => unfold maxLen; simp; omega
           case c4 => simp; omega
           case c5 => simp; omega
           intro v' w2 hown2 hgrow hat
           have hP := copied_push (l := x.l.take k) (y := x.l[k]) hbel hsz hx1.out hx2.out HB0.out HB0.out.size HB1.out HR.out (n := (x.l.take k).length + 1) rfl HLS.out HIN.out HOV.out hown2 hgrow (by simpa using hat)
           obtain ⟨g, cap, cur, hv, hg, hh, hcur⟩ := owns_slice (n := (x.l.take k).length) hown2
           have HP := Lib.hid hP
           have q3 := fun o => cell_of hP.1 o
           have f3 := fun o => frozen_of hP.1 o
           rw [show (x.l.take k).length = k from by simp; omega] at hv
           have HV := Lib.hid hv
           clear hP hown2 hgrow hat hg hh hcur
           rw [hv]
           clear hv)
        | (go_simp
           go_at_call 113
           refine (HH.out x.l[k] (List.getElem_mem _) _ _ B (Nat.le_trans hB HBW.out.size) (isL_below Hsx.out HBW.out hB)).mono ?_
           rintro e w1 hgv
           obtain ⟨a1, c1, rfl, hr, hb1⟩ := hgv
           have hb01 := HB0.out.trans (hb1.mono HB0.out.size)
           obtain ⟨ss, hls, hown, hin⟩ := ownL_keep hO.out hb01
           have q4 : ∀ o, w1.cell? ⟨w.heap.size, o, none⟩ = (#[.int .i64 x.k, .bool x.b, .int .i64 x.n, .string x.t, .slice va k cp] : Array Value)[o]? := fun o => by
             rw [hb01.cell (p := ⟨w.heap.size, o, none⟩) hzh, q1]
           have hz1 : wr.heap.size ≤ w1.heap.size := hb01.size
           have hzh1 : w.heap.size < w1.heap.size := by omega
           have hne1 : w.heap.size ≠ w1.heap.size := by omega
           have HR := Lib.hid hr
           have HB1 := Lib.hid hb1
           have HLS := Lib.hid hls
           have HOWN := Lib.hid hown
           have HIN := Lib.hid hin
           clear hr hb1 hb01 hls hown hin
           simp only [GV.agg]))
      all_goals
        go_wp2_with fail
        go_roundw
        case rel =>
          obtain ⟨_, p1, p2, p3, p4, p5⟩ := HP.out
          rw [HV.out] at p1 p2 p3 p4 p5
          rw [← List.take_succ_eq_append_getElem hlt] at p5
          exact ⟨k + 1, cap, some ⟨g, 0, none⟩, by omega, by go_num, p1, p2, p3, p4, p5⟩
        case measure => simp [intOf]; omega
    · have q2 := fun o => cell_of hx2.out o
      have f2 := fun o => frozen_of hx2.out o
      go_wp2_with fail
      have hfin := ownL_isR hO.out
      rw [List.take_of_length_le (by omega)] at hfin
      obtain ⟨a1, c1, e1⟩ := isS_form hfin
      simp only [Value.slice.injEq] at e1
      obtain ⟨_, ek, _⟩ := e1
      subst ek
      refine bodyPost_ret (v := .agg #[.int .i64 x.k, .bool x.b, .int .i64 x.n, .string x.t, .slice va x.l.length cp]) (by simp [results, Tryz.results113, go_sem, q2]) rfl ⟨va, cp, rfl, ?_, ?_⟩
      · refine isR_sub (isR_setCell (isR_setCell (isR_setCell (isR_setCell (isR_setCell hfin ?_ _) ?_ _) ?_ _) ?_ _) ?_ _) (S' := since w.heap.size _) (fun b hb => ⟨by have := hb.1; omega, by have := hb.2; simpa [World.setCell] using this⟩)
        all_goals (intro hx; have := hx.1; dsimp only at this; omega)
      · refine ((((hbel.setCell ?_ _).setCell ?_ _).setCell ?_ _).setCell ?_ _).setCell ?_ _
        all_goals simp
theorem vCopied_all : ∀ (m : Nat) (x : GV), x.size ≤ m → x.fit → CopyVC 113 x := by
  intro m
  induction m with
  | zero => exact fun x h => by have := size_l x; omega
  | succ m ih =>
    intro x h fx
    have := size_l x
    obtain ⟨_, _, _, _, _, a, b⟩ := fit_open fx
    exact vCopied_step x a fun y hy => ih y (by have := sizeL_mem hy; omega) (fitL_mem b y hy)
theorem vCopied_any (x : GV) (fx : x.fit) : CopyVC 113 x := vCopied_all x.size x (Nat.le_refl _) fx
end Go.Proofs.YtljljhjdlicfeaaGreat
