/-
  The stack of the reference's machine: a list in memory of its own, whose values' lists lie elsewhere. Conditions: none.
-/
import Derived.Test.YtljljhjdlicfeaaGreatPAK
import Derived.Test.YtljljhjdlicfeaaGreatMD
import Derived.Test.YtljljhjdlicfeaaGreatPAE
namespace Go.Proofs.YtljljhjdlicfeaaGreat
open Go Go.RowKit Go.Lib
set_option maxRecDepth 100000
set_option linter.unusedVariables false
abbrev Hole := Nat × Nat
def outH (z : Hole) (b : Nat) : Prop := b < z.1 ∨ z.2 < b
theorem outH_lt {lo hi b : Nat} (h : b < lo) : outH (lo, hi) b := .inl h
theorem outH_gt {lo hi b : Nat} (h : hi < b) : outH (lo, hi) b := .inr h
theorem outH_ne {lo hi b : Nat} (h : outH (lo, hi) b) (h2 : lo ≤ hi) : b ≠ hi := by rcases h with h | h <;> dsimp only at h <;> omega
def isO (w : World) (z : Hole) (v s : Value) (l : List GV) : Prop := isS w (fun b => b < w.heap.size ∧ some b ≠ v.ownBlock ∧ outH z b) noRoom s l
def isZ (w : World) (z : Hole) (hi : Nat) (s : Value) (l : List GV) : Prop := isS w (fun b => b < hi ∧ outH z b) noRoom s l
theorem isZ_keep {w w' : World} {z : Hole} {hi : Nat} {s : Value} {l : List GV} (h : isZ w z hi s l) (hb : ∀ b, b < hi → outH z b → w'.heap[b]? = w.heap[b]?) : isZ w' z hi s l :=
  isS_mono h (fun b off hS => World.cell?_of_block (w := w) (a := ⟨b, off, none⟩) (hb b hS.1 hS.2)) (fun _ h => h) (fun _ _ h => h)
theorem isZ_nil {w : World} {z : Hole} {hi : Nat} (a : Option Addr) (c : Nat) : isZ w z hi (.slice a 0 c) [] := ⟨a, c, rfl, Nat.zero_le _, trivial, fun g => by simp at g⟩
theorem isZ_wide {w : World} {z : Hole} {hi hi' : Nat} {s : Value} {l : List GV} (h : isZ w z hi s l) (h1 : hi ≤ hi') : isZ w z hi' s l := isS_mono h (fun _ _ _ => rfl) (fun b hb => ⟨Nat.lt_of_lt_of_le hb.1 h1, hb.2⟩) (fun _ _ h => h)
theorem isZ_L {w : World} {z : Hole} {hi : Nat} {s : Value} {l : List GV} (h : isZ w z hi s l) : isL w 0 hi s l := isS_mono h (fun _ _ _ => rfl) (fun b hb => ⟨Nat.zero_le _, hb.1⟩) (fun _ _ h => h)
def StkR (w : World) (b0 : Nat) (z : Hole) (v : Value) (st : List GV) : Prop := ∃ ss : List Value, ss.length = st.length ∧ w.ownsRow b0 36 5 v st.length (flat st ss) ∧ ∀ i (h : i < st.length) (h' : i < ss.length), isO w z v ss[i] st[i].l
theorem stk_nil (w : World) (b0 : Nat) (z : Hole) : StkR w b0 z (.slice none 0 0) [] := ⟨[], rfl, ⟨by simp [flat], .inl ⟨rfl, rfl⟩⟩, fun i h => by simp at h⟩
theorem stk_form {w : World} {b0 : Nat} {z : Hole} {v : Value} {st : List GV} (h : StkR w b0 z v st) : (v = .slice none 0 0 ∧ st = []) ∨ ∃ g cap, v = .slice (some ⟨g, 0, none⟩) st.length cap ∧ b0 ≤ g ∧ g < w.heap.size ∧ st.length ≤ cap := by
  obtain ⟨ss, hl, hown, _⟩ := h
  have hlt := fun g hg => ownBlock_lt hown (g := g) hg
  obtain ⟨_, ⟨e, h0⟩ | ⟨g, cap, cur, rfl, hg, hh, hn, _⟩⟩ := hown
  · exact .inl ⟨e, List.eq_nil_of_length_eq_zero h0⟩
  · exact .inr ⟨g, cap, rfl, hg, (hlt g rfl).2, hn⟩
theorem isO_L {w : World} {z : Hole} {v s : Value} {l : List GV} (h : isO w z v s l) : isL w 0 w.heap.size s l := isS_mono h (fun _ _ _ => rfl) (fun b hb => ⟨Nat.zero_le _, hb.1⟩) (fun _ _ h => h)
theorem stk_cells {w : World} {b0 : Nat} {z : Hole} {g cap : Nat} {st : List GV} (h : StkR w b0 z (.slice (some ⟨g, 0, none⟩) st.length cap) st) : ∀ i (hi : i < st.length), cellsV w 0 w.heap.size st[i] g (0 + i * 5) := by
  obtain ⟨ss, hl, hown, hin⟩ := h
  obtain ⟨h1, h2 | ⟨g', cap', cur, e, hg, hh, hn, hcap, hsz, htk⟩⟩ := hown
  · intro i hi; rw [h2.2] at hi; omega
  · simp only [Value.slice.injEq, Option.some.injEq, Addr.mk.injEq] at e
    obtain ⟨⟨rfl, _⟩, _, rfl⟩ := e
    have hcell : ∀ j, j < st.length * 5 → w.cell? ⟨g, 0 + j, none⟩ = (flat st ss)[j]? := fun j hj => by
      rw [← htk, List.getElem?_take, if_pos hj]
      simp [World.cell?, hh]
    intro i hi
    obtain ⟨a0, a1, a2, a3, a4⟩ := flat_get st ss i hi (by omega)
    exact cellsV_mk (s := ss[i]) (by rw [hcell _ (by omega), a0]) (by rw [show 0 + i * 5 + 1 = 0 + (i * 5 + 1) from by omega, hcell _ (by omega), a1]) (by rw [show 0 + i * 5 + 2 = 0 + (i * 5 + 2) from by omega, hcell _ (by omega), a2])
      (by rw [show 0 + i * 5 + 3 = 0 + (i * 5 + 3) from by omega, hcell _ (by omega), a3]) (by rw [show 0 + i * 5 + 4 = 0 + (i * 5 + 4) from by omega, hcell _ (by omega), a4]) (isO_L (hin i hi (by omega)))
theorem stk_isL {w : World} {b0 : Nat} {z : Hole} {v : Value} {st : List GV} (h : StkR w b0 z v st) : isL w 0 w.heap.size v st := by
  rcases stk_form h with ⟨rfl, rfl⟩ | ⟨g, cap, rfl, hg, hlt, hc⟩
  · exact isL_nil _ _
  · exact isL_mk hc (fun _ => ⟨rfl, Nat.zero_le _, hlt⟩) (stk_cells h)
theorem stk_last {w : World} {b0 : Nat} {z : Hole} {g cap t m : Nat} {st : List GV} (h : StkR w b0 z (.slice (some ⟨g, 0, none⟩) st.length cap) st) (ht : m + t = st.length) (hlt : g < w.heap.size) (hc : st.length ≤ cap) : isL w 0 w.heap.size (.slice (some ⟨g, m * 5, none⟩) t (cap - m)) (lastN t st) := by
  have e : (lastN t st).length = t := lastN_len (by omega)
  have key := isL_mk (w := w) (lo := 0) (hi := w.heap.size) (l := lastN t st) (a := some ⟨g, m * 5, none⟩) (cap := cap - m) (b := g) (off := m * 5) (by omega) (fun _ => ⟨rfl, Nat.zero_le _, hlt⟩) (fun i hi => by
    have hi' : m + i < st.length := by omega
    have := stk_cells h (m + i) hi'
    rw [show 0 + (m + i) * 5 = m * 5 + i * 5 from by omega] at this
    have e2 : (lastN t st)[i] = st[m + i] := by
      simp only [lastN, List.getElem_drop]
      congr 1
      omega
    rw [e2]
    exact this)
  rwa [e] at key
theorem isO_keep {w w' : World} {z : Hole} {v s : Value} {l : List GV} (h : isO w z v s l) (hb : ∀ b, b < w.heap.size → some b ≠ v.ownBlock → w'.heap[b]? = w.heap[b]?) (hz : w.heap.size ≤ w'.heap.size) : isO w' z v s l :=
  isS_mono h (fun b off hS => World.cell?_of_block (w := w) (a := ⟨b, off, none⟩) (hb b hS.1 hS.2.1)) (fun b hS => ⟨Nat.lt_of_lt_of_le hS.1 hz, hS.2⟩) (fun _ _ h => h)
theorem stk_keep {w w' : World} {b0 : Nat} {z : Hole} {v : Value} {st : List GV} (h : StkR w b0 z v st) (hb : Below w.heap.size w w') : StkR w' b0 z v st := by
  obtain ⟨ss, hl, hown, hin⟩ := h
  exact ⟨ss, hl, ownsRow_keep5 hown (fun g hg => hb.block g (ownBlock_lt hown hg).2), fun i h1 h2 => isO_keep (hin i h1 h2) (fun b hb2 _ => hb.block b hb2) hb.size⟩
theorem stk_cut {w : World} {b0 : Nat} {z : Hole} {k : Nat} {v : Value} {st : List GV} (h : StkR w b0 z v st) (hk : k ≤ st.length) : StkR w b0 z (cutV v (st.length - k)) (lessN k st) := by
  obtain ⟨ss, hls, hown, hin⟩ := h
  obtain ⟨at', hat⟩ : ∃ a, a = st.length - k := ⟨_, rfl⟩
  rw [← hat]
  have hl1 : (lessN k st).length = at' := by rw [lessN_len hk, hat]
  refine ⟨ss.take at', by rw [List.length_take, hl1]; omega, ?_, fun i h h' => ?_⟩
  · rw [hl1]
    have e : lessN k st = st.take at' := by unfold lessN; rw [hat]
    rw [e, flat_take st ss at' hls]
    have hown' := hown
    obtain ⟨hlen, ⟨rfl, h0⟩ | ⟨g, cap, cur, rfl, hg, hh, hn, hcap, hsz, htk⟩⟩ := hown'
    · have : at' = 0 := by omega
      subst this
      exact ⟨by simp, .inl ⟨rfl, rfl⟩⟩
    · exact own_trunc hown (m := at') (by omega)
  · have hi : i < st.length := by omega
    have := hin i hi (by omega)
    unfold isO at this ⊢
    rw [cut_own]
    simp only [lessN, List.getElem_take]
    exact this
theorem below_grown {w w' : World} {b0 : Nat} {v : Value} (hg : w.grownBy w' v.ownBlock) (hb : b0 ≤ w.heap.size) (hv : ∀ g, v.ownBlock = some g → b0 ≤ g) : Below b0 w w' := (Below.refl b0 w).grown hg hb hv
theorem app_one {w : World} {base n gB ca : Nat} (ty : TypeId) {v : Value} {xs : List Value} (hown : w.ownsRow base 36 5 v n xs) {x : GV} {a : Option Addr} {T' : TypeId} (hg : w.heap[gB]? = some (.cells #[.int .i64 x.k, .bool x.b, .int .i64 x.n, .string x.t, .slice a x.l.length ca] T' (0, 0))) (hn : n + 1 ≤ 4294967296) (hb : base ≤ w.heap.size) :
    ∃ v' w', (Builtin.append_ #[34, 34] ty #[v, .slice (some ⟨gB, 0, none⟩) 1 1]).run Tryz.prog w = .ok v' w' ∧ w'.ownsRow base 36 5 v' (n + 1) (xs ++ [.int .i64 x.k, .bool x.b, .int .i64 x.n, .string x.t, .slice a x.l.length ca]) ∧ w.grownBy w' v.ownBlock ∧ (v'.ownBlock = v.ownBlock ∨ v'.ownBlock = some w.heap.size) := by
  obtain ⟨i0, hi, hz0, hz1, hz2⟩ := info_parts vinfo
  have q := fun o => cell_of hg o
  obtain ⟨v', w', hr, h2, h3, _, h5⟩ := run_append_own_at (P := Tryz.prog) w base 34 ty 36 i0 _ 5 64 Tryz.underlying34 hi hz0 hz1 hz2 rfl (by decide) v n xs hown ⟨gB, 0, none⟩ 1 1 [.int .i64 x.k, .bool x.b, .int .i64 x.n, .string x.t, .slice a x.l.length ca] rfl (fun j u hj => by
    rw [addr_add]
    rw [show (0 : Nat) + j = j from by omega, q j]
    match j, hj with
    | 0, hj => exact hj
    | 1, hj => exact hj
    | 2, hj => exact hj
    | 3, hj => exact hj
    | 4, hj => exact hj
    | j + 5, hj => simp at hj) (by intro u hu; simp only [List.mem_cons, List.not_mem_nil, or_false] at hu; rcases hu with rfl | rfl | rfl | rfl | rfl <;> rfl) (by unfold maxLen; omega) (by omega) hb
  exact ⟨v', w', hr, h2, h3, h5⟩
theorem isO_nil {w : World} {z : Hole} {v : Value} {a : Option Addr} {c : Nat} : isO w z v (.slice a 0 c) [] := ⟨a, c, rfl, Nat.zero_le _, trivial, fun g => by simp at g⟩
def NewR (wA w : World) (z : Hole) (v : Value) (st : List GV) : Prop := Below wA.heap.size wA w ∧ ∃ ss : List Value, ss.length = st.length ∧ w.ownsRow wA.heap.size 36 5 v st.length (flat st ss) ∧ ∀ i (h : i < st.length) (h' : i < ss.length), isZ w z wA.heap.size ss[i] st[i].l
theorem isZ_below {w w' : World} {z : Hole} {hi B : Nat} {s : Value} {l : List GV} (h : isZ w z hi s l) (hb : Below B w w') (hB : hi ≤ B) : isZ w' z hi s l := isZ_keep h fun b h1 _ => hb.block b (Nat.lt_of_lt_of_le h1 hB)
theorem newR_of {wA w : World} {b0 : Nat} {z : Hole} (ty : TypeId) {v : Value} {st : List GV} (h : StkR wA b0 z v st) (hA : Below wA.heap.size wA w) (hst : st.length ≤ 2147483646) : ∃ v1 w1, (Builtin.append_ #[34, 34] ty #[.slice none 0 0, v]).run Tryz.prog w = .ok v1 w1 ∧ NewR wA w1 z v1 st ∧ Below w.heap.size w w1 := by
  have hno : ∀ B g, (Value.slice none 0 0).ownBlock = some g → B ≤ g := fun B g hg => by simp [Value.ownBlock] at hg
  rcases stk_form h with ⟨rfl, rfl⟩ | ⟨g, cap, rfl, hg, hlt, hc⟩
  · obtain ⟨v1, w1, ss, hl, hr, hown, hgr, hin⟩ := append_valsL (w := w) (base := wA.heap.size) ty (.slice none 0 0) 0 [] ⟨rfl, .inl ⟨rfl, rfl⟩⟩ (.slice none 0 0) [] (isL_nil (w := w) (lo := 0) (hi := w.heap.size) _ _) (by simp) hA.size
    have hb : Below w.heap.size w w1 := below_grown (v := .slice none 0 0) hgr (Nat.le_refl _) (hno _)
    rw [Nat.zero_add, List.nil_append] at hown
    exact ⟨v1, w1, hr, ⟨below_down hA hb (Nat.le_refl _), ss, hl, hown, fun i h1 h2 => by simp at h1⟩, hb⟩
  · obtain ⟨ss, hl, hown, hin⟩ := h
    obtain ⟨h1, h2 | ⟨g', cap', cur, e, hg', hh, hn, hcap, hsz, htk⟩⟩ := hown
    · cases h2.1
    · simp only [Value.slice.injEq, Option.some.injEq, Addr.mk.injEq] at e
      obtain ⟨⟨rfl, _⟩, _, rfl⟩ := e
      have hfl := flat_length st ss hl
      have hh2 := (hA.block g hlt).trans hh
      have hcell : ∀ j u, (flat st ss)[j]? = some u → w.cell? ((⟨g, 0, none⟩ : Addr).add j) = some u := fun j u hj => by
        have hj2 : j < st.length * 5 := by have := (List.getElem?_eq_some_iff.1 hj).1; omega
        rw [addr_add, show (0 : Nat) + j = j from by omega, cell_of hh2 j]
        rw [← htk, List.getElem?_take, if_pos hj2, Array.getElem?_toList] at hj
        exact hj
      have hone := flat_one st ss (fun s hs => by
        obtain ⟨i, hi, rfl⟩ := List.mem_iff_getElem.1 hs
        obtain ⟨a, c, e⟩ := isS_form (hin i (by omega) hi)
        exact ⟨_, _, _, e⟩)
      obtain ⟨i0, hi, hz0, hz1, hz2⟩ := info_parts vinfo
      obtain ⟨v1, w1, hr, hown', hgr, _, _⟩ := run_append_own_at (P := Tryz.prog) w wA.heap.size 34 ty 36 i0 _ 5 64 Tryz.underlying34 hi hz0 hz1 hz2 rfl (by decide) (.slice none 0 0) 0 [] ⟨rfl, .inl ⟨rfl, rfl⟩⟩ ⟨g, 0, none⟩ st.length cap (flat st ss) hfl hcell hone (by unfold maxLen; omega) (by omega) hA.size
      have hb : Below w.heap.size w w1 := below_grown (v := .slice none 0 0) hgr (Nat.le_refl _) (hno _)
      have hbA := below_down hA hb (Nat.le_refl _)
      rw [Nat.zero_add, List.nil_append] at hown'
      exact ⟨v1, w1, hr, ⟨hbA, ss, hl, hown', fun i h1 h2 => isZ_below (hi := wA.heap.size) (isS_mono (hin i h1 h2) (fun _ _ _ => rfl) (fun b hS => ⟨hS.1, hS.2.2⟩) (fun _ _ h => h)) hbA (Nat.le_refl _)⟩, hb⟩
theorem newR_keep {wA w w' : World} {z : Hole} {v : Value} {st : List GV} (h : NewR wA w z v st) (hb : Below w.heap.size w w') : NewR wA w' z v st := by
  obtain ⟨h1, ss, hl, hown, hin⟩ := h
  exact ⟨below_down h1 hb (Nat.le_refl _), ss, hl, ownsRow_keep5 hown (fun g hg => hb.block g (ownBlock_lt hown hg).2), fun i h2 h3 => isZ_below (hin i h2 h3) hb h1.size⟩
theorem newR_push {wA w : World} {z : Hole} {gB ca : Nat} (ty : TypeId) {v : Value} {st : List GV} (h : NewR wA w z v st) (hst : st.length ≤ 2147483646) {x : GV} {a : Option Addr} {T' : TypeId} (hx : isZ w z wA.heap.size (.slice a x.l.length ca) x.l) (hg : w.heap[gB]? = some (.cells #[.int .i64 x.k, .bool x.b, .int .i64 x.n, .string x.t, .slice a x.l.length ca] T' (0, 0))) :
    ∃ v' w', (Builtin.append_ #[34, 34] ty #[v, .slice (some ⟨gB, 0, none⟩) 1 1]).run Tryz.prog w = .ok v' w' ∧ StkR w' wA.heap.size z v' (st ++ [x]) ∧ Below wA.heap.size wA w' := by
  obtain ⟨hbA, ss, hl, hown, hin⟩ := h
  obtain ⟨v', w', hr, hown', hgr, hat⟩ := app_one ty hown hg (by omega) hbA.size
  have hb' : Below wA.heap.size w w' := below_grown hgr hbA.size (fun g hg => (ownBlock_lt hown hg).1)
  have hbB : Below wA.heap.size wA w' := hbA.trans hb'
  have hv' : ∀ g, v'.ownBlock = some g → wA.heap.size ≤ g := fun g hg => (ownBlock_lt hown' hg).1
  have up : ∀ {s : Value} {l : List GV}, isZ w z wA.heap.size s l → isO w' z v' s l := fun h => isS_mono h (fun b off hS => hb'.cell (p := ⟨b, off, none⟩) hS.1) (fun b hS => ⟨Nat.lt_of_lt_of_le hS.1 hbB.size, fun e => by have := hv' b e.symm; have := hS.1; omega, hS.2⟩) (fun _ _ h => h)
  refine ⟨v', w', hr, ⟨ss ++ [.slice a x.l.length ca], by simp [hl], ?_, fun i h1 h2 => ?_⟩, hbB⟩
  · rw [flat_append st ss x _ hl, List.length_append, List.length_singleton]; exact hown'
  · by_cases hi : i < st.length
    · rw [List.getElem_append_left (by omega), List.getElem_append_left hi]
      exact up (hin i hi (by omega))
    · have e : i = st.length := by simp at h1; omega
      subst e
      rw [List.getElem_append_right (by omega), List.getElem_append_right (by omega)]
      simp only [hl, Nat.sub_self, List.getElem_cons_zero]
      exact up hx
theorem stk_base {w : World} {b0 b1 : Nat} {z : Hole} {v : Value} {st : List GV} (h : StkR w b1 z v st) (hb : b0 ≤ b1) : StkR w b0 z v st := by
  obtain ⟨ss, hl, ⟨h1, h2⟩, hin⟩ := h
  refine ⟨ss, hl, ⟨h1, ?_⟩, hin⟩
  rcases h2 with h2 | ⟨g, cap, cur, e, hg, r⟩
  · exact .inl h2
  · exact .inr ⟨g, cap, cur, e, Nat.le_trans hb hg, r⟩
theorem stk_one {w : World} {b0 : Nat} {z : Hole} {g cap : Nat} {y : GV} (h : StkR w b0 z (.slice (some ⟨g, 0, none⟩) 1 cap) [y]) : ∃ a c, w.cell? ⟨g, 0, none⟩ = some (.int .i64 y.k) ∧ w.cell? ⟨g, 1, none⟩ = some (.bool y.b) ∧ w.cell? ⟨g, 2, none⟩ = some (.int .i64 y.n) ∧ w.cell? ⟨g, 3, none⟩ = some (.string y.t) ∧ w.cell? ⟨g, 4, none⟩ = some (.slice a y.l.length c) ∧ isZ w z w.heap.size (.slice a y.l.length c) y.l := by
  obtain ⟨ss, hl, hown, hin⟩ := h
  obtain ⟨h1, h2 | ⟨g', cap', cur, e, hg, hh, hn, hcap, hsz, htk⟩⟩ := hown
  · cases h2.1
  · simp only [Value.slice.injEq, Option.some.injEq, Addr.mk.injEq] at e
    obtain ⟨⟨rfl, _⟩, _, rfl⟩ := e
    match ss, hl, htk, hin with
    | [s0], _, htk, hin =>
      have h0 := hin 0 (by simp) (by simp)
      simp only [List.getElem_cons_zero] at h0
      obtain ⟨a, c, rfl⟩ := isS_form h0
      have hcell : ∀ j, j < 5 → w.cell? ⟨g, j, none⟩ = ([.int .i64 y.k, .bool y.b, .int .i64 y.n, .string y.t, .slice a y.l.length c] : List Value)[j]? := fun j hj => by
        have h3 := congrArg (fun l => l[j]?) htk
        simp only [List.getElem?_take, Array.getElem?_toList] at h3
        rw [if_pos (by simp; omega)] at h3
        rw [cell_of hh j, h3]
        rfl
      exact ⟨a, c, hcell 0 (by omega), hcell 1 (by omega), hcell 2 (by omega), hcell 3 (by omega), hcell 4 (by omega), isS_mono h0 (fun _ _ _ => rfl) (fun b hS => ⟨hS.1, hS.2.2⟩) (fun _ _ h => h)⟩
end Go.Proofs.YtljljhjdlicfeaaGreat
