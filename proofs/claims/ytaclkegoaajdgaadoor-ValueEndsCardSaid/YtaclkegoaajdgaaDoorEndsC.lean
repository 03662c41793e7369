/-
  What ValueEnds calls, at the values that it hands: the ends of numbers, lists, texts, depth. Conditions: none.
-/
import Derived.Test.YtaclkegoaajdgaaDoorEndsP
import Derived.Test.YtaclkegoaajdgaaDoorAggL
import Derived.Test.YtaclkegoaajdgaaDoorMJ
namespace Go.Proofs.YtaclkegoaajdgaaDoor
open Go Go.RowKit
set_option maxRecDepth 100000
set_option linter.unusedVariables false
theorem blk_lt {w : World} {b : Nat} {o : Obj} (h : w.heap[b]? = some o) : b < w.heap.size := (Array.getElem?_eq_some_iff.1 h).1
theorem blk_below {w w' : World} {b : Nat} {o : Obj} (h : w.heap[b]? = some o) (hb : Below w.heap.size w w') : w'.heap[b]? = some o := (hb.block b (blk_lt h)).trans h
theorem le_allocE {n : Nat} {w : World} {o : Obj} (h : n ≤ w.heap.size) : n ≤ (w.alloc o).heap.size := by simp; omega
theorem lt2E {n : Nat} {w : World} {o : Obj} (h : n < w.heap.size) : n < (w.alloc o).heap.size := by simp; omega
theorem lt3E {n : Nat} {w : World} {o o2 : Obj} (h : n < w.heap.size) : n < ((w.alloc o).alloc o2).heap.size := by simp; omega
theorem far2E {b : Nat} {w : World} {o : Obj} (h : b < w.heap.size) : (w.alloc o).heap[b]? = w.heap[b]? := by
  simp only [World.alloc]
  rw [Array.getElem?_push_lt h, Array.getElem?_eq_getElem h]
theorem heap_3a {w : World} {o o2 o3 : Obj} : (((w.alloc o).alloc o2).alloc o3).heap[w.heap.size]? = some o := heap_three
theorem heap_3b {w : World} {o o2 o3 : Obj} : (((w.alloc o).alloc o2).alloc o3).heap[w.heap.size + 1]? = some o2 := heap_three2
theorem heap_3c {w : World} {o o2 o3 : Obj} : (((w.alloc o).alloc o2).alloc o3).heap[w.heap.size + 2]? = some o3 := by
  have := @heap_last ((w.alloc o).alloc o2) o3
  rwa [show ((w.alloc o).alloc o2).heap.size = w.heap.size + 2 from by simp] at this
theorem setE {w : World} {b : Nat} {c : Array Value} {T : TypeId} (h : w.heap[b]? = some (.cells c T (0, 0))) (o : Nat) (v : Value) : (w.setCell ⟨b, o, none⟩ v).heap[b]? = some (.cells (c.setIfInBounds o v) T (0, 0)) := by
  simp [World.setCell, Array.getElem?_modify, h]
theorem set5E {w : World} {b : Nat} {a0 a1 a2 a3 a4 : Value} {T : TypeId} (h : w.heap[b]? = some (.cells #[a0, a1, a2, a3, a4] T (0, 0))) (c0 c1 c2 c3 c4 : Value) : (((((w.setCell ⟨b, 0, none⟩ c0).setCell ⟨b, 1, none⟩ c1).setCell ⟨b, 2, none⟩ c2).setCell ⟨b, 3, none⟩ c3).setCell ⟨b, 4, none⟩ c4).heap[b]? = some (.cells #[c0, c1, c2, c3, c4] T (0, 0)) := by
  exact setE (setE (setE (setE (setE h 0 c0) 1 c1) 2 c2) 3 c3) 4 c4
/-- the parts of an answer whose value has no list of its own -/
theorem gives_ans {w w' : World} {r : GV × Int} {e : Ending} (h : GivesO w r e w') (K N E : Int) (hr : r = (⟨K, false, N, ⟨#[]⟩, []⟩, E)) : ∃ s c, e = .returned (.tuple #[.agg #[.int .i64 K, .bool false, .int .i64 N, .string { data := #[] }, .slice s 0 c], .int .i64 E]) ∧ Below w.heap.size w w' := by
  subst hr
  obtain ⟨a, c, he, _, hb⟩ := h
  exact ⟨a, c, he, hb⟩
theorem gives_told {w w' : World} {r : GV × Int} {e : Ending} (h : GivesO w r e w') (E : Int) (hr : r.2 = E) (hb : r.1.b = false) : ∃ K N t s n c, e = .returned (.tuple #[.agg #[.int .i64 K, .bool false, .int .i64 N, .string t, .slice s n c], .int .i64 E]) ∧ Below w.heap.size w w' := by
  obtain ⟨a, c, he, _, hw⟩ := h
  refine ⟨r.1.k, r.1.n, r.1.t, a, r.1.l.length, c, ?_, hw⟩
  rw [he, GV.agg, hb, hr]
theorem plus_bit (x y : GV) : (plusP x y).1.b = false := by
  unfold plusP reckP numP noP
  repeat (split <;> try rfl)
theorem app_bit (l : List GV) : (appP 2 plusP l).1.b = false := by
  unfold appP
  split
  · exact plus_bit _ _
  · rfl
theorem isL_pair {w : World} {hi g : Nat} {x y : GV} {ax ay : Option Addr} {cx cy : Nat} {T : TypeId} (h : w.heap[g]? = some (.cells (twoC x y ax ay cx cy) T (0, 0))) (hg : g < hi) (hx : isL w 0 hi (.slice ax x.l.length cx) x.l) (hy : isL w 0 hi (.slice ay y.l.length cy) y.l) :
    isL w 0 hi (.slice (some ⟨g, 0, none⟩) 2 2) [x, y] := by
  have q := fun o => cell_of h o
  refine isL_mk (l := [x, y]) (cap := 2) (b := g) (off := 0) (by simp) (fun _ => ⟨rfl, Nat.zero_le _, hg⟩) ?_
  intro i hi
  have hi' : i = 0 ∨ i = 1 := by simp at hi; omega
  rcases hi' with rfl | rfl
  · exact cellsV_mk (s := .slice ax x.l.length cx) ((q _).trans rfl) ((q _).trans rfl) ((q _).trans rfl) ((q _).trans rfl) ((q _).trans rfl) hx
  · exact cellsV_mk (s := .slice ay y.l.length cy) ((q _).trans rfl) ((q _).trans rfl) ((q _).trans rfl) ((q _).trans rfl) ((q _).trans rfl) hy
theorem isL_three {w : World} {g : Nat} {a b c : Int} {T : TypeId} (h : w.heap[g]? = some (.cells #[.int .i64 2, .bool false, .int .i64 a, .string { data := #[] }, .slice none 0 0, .int .i64 2, .bool false, .int .i64 b, .string { data := #[] }, .slice none 0 0, .int .i64 2, .bool false, .int .i64 c, .string { data := #[] }, .slice none 0 0] T (0, 0))) :
    isL w 0 w.heap.size (.slice (some ⟨g, 0, none⟩) 3 3) [numG a, numG b, numG c] := by
  have q := fun o => cell_of h o
  refine isL_mk (l := [numG a, numG b, numG c]) (cap := 3) (b := g) (off := 0) (by simp) (fun _ => ⟨rfl, Nat.zero_le _, blk_lt h⟩) ?_
  intro i hi
  have hi' : i = 0 ∨ i = 1 ∨ i = 2 := by simp at hi; omega
  rcases hi' with rfl | rfl | rfl
  · exact cellsV_mk (s := .slice none 0 0) ((q _).trans rfl) ((q _).trans rfl) ((q _).trans rfl) ((q _).trans rfl) ((q _).trans rfl) (isL_nil _ _)
  · exact cellsV_mk (s := .slice none 0 0) ((q _).trans rfl) ((q _).trans rfl) ((q _).trans rfl) ((q _).trans rfl) ((q _).trans rfl) (isL_nil _ _)
  · exact cellsV_mk (s := .slice none 0 0) ((q _).trans rfl) ((q _).trans rfl) ((q _).trans rfl) ((q _).trans rfl) ((q _).trans rfl) (isL_nil _ _)
theorem numE_fit (n : Int) (h : inI n) : (numG n).fit := numG_fit n h.1 h.2
theorem neg_end (g : Nat) (w : World) (h : w.heap[g]? = some (.cells #[.int .i64 2, .bool false, .int .i64 (-9223372036854775808), .string { data := #[] }, .slice none 0 0] 24 (0, 0))) : Calls Tryd.prog 5 #[.int .i64 6, .slice (some ⟨g, 0, none⟩) 1 1] w fun e w' => ∃ s c, e = .returned (.tuple #[.agg #[.int .i64 0, .bool false, .int .i64 0, .string { data := #[] }, .slice s 0 c], .int .i64 2]) ∧ Below w.heap.size w w' := by
  refine (apply_neg [numG (-9223372036854775808)] (by simp) ⟨numE_fit _ (by decide), trivial⟩ _ w w.heap.size (Nat.le_refl _) (isL_one (x := numG (-9223372036854775808)) (a := none) (c := 0) h (blk_lt h) (isL_nil _ _))).mono fun e w' hg => gives_ans hg _ _ _ ?_
  rw [app1 (numG_may _)]
  rfl
theorem two_end (op : Int) (f : Int → Int → Int × Int) (K N E : Int) (hap : ∀ (l : List GV) (hll : l.length ≤ 2147483647) (fl : fitL l) (s : Value) (w : World) (B : Nat) (hB : B ≤ w.heap.size) (hs : isL w 0 B s l), Calls Tryd.prog 5 #[.int .i64 op, s] w (GivesO w (appP 2 (reckP f) l))) (hr : appP 2 (reckP f) [numG (-9223372036854775808), numG (-1)] = (⟨K, false, N, ⟨#[]⟩, []⟩, E))
    (g : Nat) (w : World) (h : w.heap[g]? = some (.cells #[.int .i64 2, .bool false, .int .i64 (-9223372036854775808), .string { data := #[] }, .slice none 0 0, .int .i64 2, .bool false, .int .i64 (-1), .string { data := #[] }, .slice none 0 0] 24 (0, 0))) : Calls Tryd.prog 5 #[.int .i64 op, .slice (some ⟨g, 0, none⟩) 2 2] w fun e w' => ∃ s c, e = .returned (.tuple #[.agg #[.int .i64 K, .bool false, .int .i64 N, .string { data := #[] }, .slice s 0 c], .int .i64 E]) ∧ Below w.heap.size w w' :=
  (hap [numG (-9223372036854775808), numG (-1)] (by simp) ⟨numE_fit _ (by decide), numE_fit _ (by decide), trivial⟩ _ w w.heap.size (Nat.le_refl _) (isL_pair (x := numG (-9223372036854775808)) (y := numG (-1)) (ax := none) (ay := none) (cx := 0) (cy := 0) h (blk_lt h) (isL_nil _ _) (isL_nil _ _))).mono fun e w' hg => gives_ans hg _ _ _ hr
theorem div_end : appP 2 divP [numG (-9223372036854775808), numG (-1)] = (⟨0, false, 0, ⟨#[]⟩, []⟩, 2) := by
  rw [app2 (numG_may _) (numG_may _)]; rfl
theorem mod_end : appP 2 modP [numG (-9223372036854775808), numG (-1)] = (⟨2, false, 0, ⟨#[]⟩, []⟩, 0) := by
  rw [app2 (numG_may _) (numG_may _)]; rfl
theorem mul_end : appP 2 mulP [numG (-9223372036854775808), numG (-1)] = (⟨0, false, 0, ⟨#[]⟩, []⟩, 2) := by
  rw [app2 (numG_may _) (numG_may _)]; rfl
theorem agg_sum_end (g : Nat) (w : World) (h : w.heap[g]? = some (.cells #[.int .i64 2, .bool false, .int .i64 9223372036854775807, .string { data := #[] }, .slice none 0 0, .int .i64 2, .bool false, .int .i64 1, .string { data := #[] }, .slice none 0 0, .int .i64 2, .bool false, .int .i64 (-1), .string { data := #[] }, .slice none 0 0] 24 (0, 0))) : Calls Tryd.prog 6 #[.string { data := #[115, 117, 109] }, .slice (some ⟨g, 0, none⟩) 3 3] w fun e w' => ∃ s c, e = .returned (.tuple #[.agg #[.int .i64 2, .bool false, .int .i64 9223372036854775807, .string { data := #[] }, .slice s 0 c], .int .i64 0]) ∧ Below w.heap.size w w' :=
  (aggSum_any [numG 9223372036854775807, numG 1, numG (-1)] (by simp) ⟨numE_fit _ (by decide), numE_fit _ (by decide), numE_fit _ (by decide), trivial⟩ (by simp [badL, numG_may]) _ w w.heap.size (Nat.le_refl _) (isL_three h) (fun n c h => by cases h)).mono fun e w' hg => gives_ans hg _ _ _ rfl
theorem list_end (m : Nat) (hm : m ≤ 4096) (g gL gM cM : Nat) (aM : Option Addr) (E : Int) (w : World) (h : w.heap[g]? = some (.cells #[.int .i64 4, .bool false, .int .i64 0, .string { data := #[] }, .slice (some ⟨gL, 0, none⟩) 4096 4096, .int .i64 4, .bool false, .int .i64 0, .string { data := #[] }, .slice aM m cM] 24 (0, 0)))
    (hL : w.heap[gL]? = some (.cells (madeCells (Value.agg #[.int .i64 0, .bool false, .int .i64 0, .string { data := #[] }, .slice none 0 0]).cells (4096 * 5)) 24 (0, 0))) (hM : isL w 0 w.heap.size (.slice aM m cM) (List.replicate m nullG)) (hE : E = if 4096 + m ≤ 4096 then 0 else 2) :
    Calls Tryd.prog 5 #[.int .i64 16, .slice (some ⟨g, 0, none⟩) 2 2] w fun e w' => ∃ K N t s n c, e = .returned (.tuple #[.agg #[.int .i64 K, .bool false, .int .i64 N, .string t, .slice s n c], .int .i64 E]) ∧ Below w.heap.size w w' := by
  have e1 : (rowG (List.replicate 4096 nullG)).l.length = 4096 := List.length_replicate
  have e2 : (rowG (List.replicate m nullG)).l.length = m := List.length_replicate
  have hl := isL_wide (made_isL 4096 w gL hL) (Nat.le_refl _) (blk_lt hL)
  refine (apply_add' [rowG (List.replicate 4096 nullG), rowG (List.replicate m nullG)] (by simp) ⟨row_fit (by simp) (nulls_fit _), row_fit (by rw [List.length_replicate]; omega) (nulls_fit _), trivial⟩ _ w w.heap.size (Nat.le_refl _) (isL_pair (x := rowG (List.replicate 4096 nullG)) (y := rowG (List.replicate m nullG)) (ax := some ⟨gL, 0, none⟩) (ay := aM) (cx := 4096) (cy := cM) (T := 24) ?_ (blk_lt h) ?_ ?_)).mono fun e w' hg => gives_told hg E ?_ (app_bit _)
  · rw [h, twoC, e1, e2]; rfl
  · rw [e1]; exact hl
  · rw [e2]; exact hM
  · rw [plus_rows 4096 m (Nat.le_refl _) hm, hE]
theorem text_end (g : Nat) (t : ByteArray) (ht : t.size ≤ 65536) (E : Int) (w : World) (h : w.heap[g]? = some (.cells #[.int .i64 3, .bool false, .int .i64 0, .string zerosT, .slice none 0 0, .int .i64 3, .bool false, .int .i64 0, .string t, .slice none 0 0] 24 (0, 0))) (hE : E = if 65536 + t.size ≤ 65536 then 0 else 2) :
    Calls Tryd.prog 5 #[.int .i64 16, .slice (some ⟨g, 0, none⟩) 2 2] w fun e w' => ∃ K N t s n c, e = .returned (.tuple #[.agg #[.int .i64 K, .bool false, .int .i64 N, .string t, .slice s n c], .int .i64 E]) ∧ Below w.heap.size w w' := by
  refine (apply_add' [textG zerosT, textG t] (by simp) ⟨text_fit (by rw [zerosT_size]; omega), text_fit (by omega), trivial⟩ _ w w.heap.size (Nat.le_refl _) (isL_pair (x := textG zerosT) (y := textG t) (ax := none) (ay := none) (cx := 0) (cy := 0) h (blk_lt h) (isL_nil _ _) (isL_nil _ _))).mono fun e w' hg => gives_told hg E ?_ (app_bit _)
  rw [plus_texts _ _ (by rw [zerosT_size]; exact Nat.le_refl _) ht, hE, zerosT_size]
/-- make of one value -/
theorem cells_one : madeCells (Value.agg #[.int .i64 0, .bool false, .int .i64 0, .string { data := #[] }, .slice none 0 0]).cells (1 * 5) = #[.int .i64 0, .bool false, .int .i64 0, .string { data := #[] }, .slice none 0 0] := by
  apply Array.ext
  · simp [madeCells]
  · intro i h1 h2
    have h : i < 5 := h2
    simp only [madeCells, Value.cells, Array.getElem_map, Array.getElem_range]
    match i, h with
    | 0, _ => rfl
    | 1, _ => rfl
    | 2, _ => rfl
    | 3, _ => rfl
    | 4, _ => rfl
theorem made_one (w : World) : (Instr.makeSlice 22 (.int .i64 1) (.int .i64 1)).run Tryd.prog w = .ok (.slice (some ⟨w.heap.size, 0, none⟩) 1 1) (w.alloc (.cells #[.int .i64 0, .bool false, .int .i64 0, .string { data := #[] }, .slice none 0 0] 24)) := by
  have := made_vals 1 w (by omega)
  rw [cells_one] at this
  exact this
theorem made_long (w : World) : (Instr.makeSlice 22 (.int .i64 4096) (.int .i64 4096)).run Tryd.prog w = .ok (.slice (some ⟨w.heap.size, 0, none⟩) 4096 4096) (w.alloc (.cells (madeCells (Value.agg #[.int .i64 0, .bool false, .int .i64 0, .string { data := #[] }, .slice none 0 0]).cells (4096 * 5)) 24)) := made_vals 4096 w (Nat.le_refl _)
theorem one_isL (w : World) (g : Nat) (hg : w.heap[g]? = some (.cells #[.int .i64 0, .bool false, .int .i64 0, .string { data := #[] }, .slice none 0 0] 24 (0, 0))) : isL w 0 w.heap.size (.slice (some ⟨g, 0, none⟩) 1 1) (List.replicate 1 nullG) := isL_wide (made_isL 1 w g (by rw [cells_one]; exact hg)) (Nat.le_refl _) (blk_lt hg)
theorem agg_end (g n ca : Nat) (aa : Option Addr) (hn : n = (nestG 29).l.length) (w : World) (h : w.heap[g]? = some (.cells #[.int .i64 4, .bool false, .int .i64 0, .string { data := #[] }, .slice aa n ca] 24 (0, 0))) (hx : isL w 0 w.heap.size (.slice aa n ca) (nestG 29).l) :
    Calls Tryd.prog 6 #[.string { data := #[108, 105, 115, 116] }, .slice (some ⟨g, 0, none⟩) 1 1] w fun e w' => ∃ s c, e = .returned (.tuple #[.agg #[.int .i64 0, .bool false, .int .i64 0, .string { data := #[] }, .slice s 0 c], .int .i64 2]) ∧ Below w.heap.size w w' := by
  subst hn
  have hs : isL w 0 w.heap.size (.slice (some ⟨g, 0, none⟩) 1 1) [nestG 29] := isL_one (x := nestG 29) (a := aa) (c := ca) h (blk_lt h) hx
  refine (aggList_any [nestG 29] [nestG 29] (by simp) (by simp) ⟨nest_fit 29, trivial⟩ ⟨nest_fit 29, trivial⟩ (by simp [badL, nest_may]) (sorted_one _) _ w w.heap.size (Nat.le_refl _) hs (fun n c h => by cases h)).mono fun e w' hg => gives_ans hg _ _ _ ?_
  unfold listP
  rw [if_neg]
  · rfl
  · have : vmay (nestG 30) = false := nest_not
    intro e
    have e' : vmay (nestG 30) = true := e
    rw [this] at e'
    exact absurd e' (by decide)
theorem check_end (n ca : Nat) (aa : Option Addr) (hn : n = (nestG 29).l.length) (w : World) (hx : isL w 0 w.heap.size (.slice aa n ca) (nestG 29).l) :
    Calls Tryd.prog 7 #[.agg #[.int .i64 4, .bool false, .int .i64 0, .string { data := #[] }, .slice aa n ca]] w fun e w' => e = .returned (.bool true) ∧ Below w.heap.size w w' := by
  have := vCheck_any (nestG 29) (nest_fit 29) (.slice aa n ca) w w.heap.size (Nat.le_refl _) hx
  rw [nest_may] at this
  exact this
theorem nest_round {w wr : World} {b k n ca : Nat} {aa : Option Addr} (hB : Below w.heap.size w wr) (hge : w.heap.size ≤ b) (hsz : b < wr.heap.size) (hE : wr.heap[b]? = some (.cells #[.int .i64 4, .bool false, .int .i64 0, .string { data := #[] }, .slice aa n ca] 24 (0, 0))) (hn : n = (nestG k).l.length) (hX : isL wr (b + 1) wr.heap.size (.slice aa n ca) (nestG k).l) (hk : k < 29) (v : Value) (hv : v = .int .i64 (((k + 1 : Nat) : Int) + 1)) (w2 : World)
    (h2 : w2 = ((((((wr.alloc (.cells #[.int .i64 4, .bool false, .int .i64 0, .string { data := #[] }, .slice aa n ca] 24)).setCell ⟨b, 0, none⟩ (.int .i64 4)).setCell ⟨b, 1, none⟩ (.bool false)).setCell ⟨b, 2, none⟩ (.int .i64 0)).setCell ⟨b, 3, none⟩ (.string { data := #[] })).setCell ⟨b, 4, none⟩ (.slice (some ⟨wr.heap.size, 0, none⟩) 1 1))) :
    ∃ (k ca n : Nat) (aa : Option Addr), k ≤ 29 ∧ v = .int .i64 ((k : Int) + 1) ∧ Hid (Below w.heap.size w w2) ∧ b < w2.heap.size ∧ n = (nestG k).l.length ∧ Hid (w2.heap[b]? = some (.cells #[.int .i64 4, .bool false, .int .i64 0, .string { data := #[] }, .slice aa n ca] 24 (0, 0))) ∧ Hid (isL w2 (b + 1) w2.heap.size (.slice aa n ca) (nestG k).l) := by
  have hs : w2.heap.size = wr.heap.size + 1 := by rw [h2]; simp [World.setCell]
  have hne : wr.heap.size ≠ b := by omega
  have hh : w2.heap[wr.heap.size]? = some (.cells #[.int .i64 4, .bool false, .int .i64 0, .string { data := #[] }, .slice aa n ca] 24 (0, 0)) := by
    rw [h2, Below.heap_setCell _ _ _ _ hne, Below.heap_setCell _ _ _ _ hne, Below.heap_setCell _ _ _ _ hne, Below.heap_setCell _ _ _ _ hne, Below.heap_setCell _ _ _ _ hne]
    exact heap_last
  have hb : w2.heap[b]? = some (.cells #[.int .i64 4, .bool false, .int .i64 0, .string { data := #[] }, .slice (some ⟨wr.heap.size, 0, none⟩) 1 1] 24 (0, 0)) := by
    rw [h2]
    exact set5E ((far2E hsz).trans hE) _ _ _ _ _
  have hl : isL w2 (b + 1) w2.heap.size (.slice aa n ca) (nestG k).l := isL_mono hX (fun b' off g1 g2 => World.cell?_of_block (a := ⟨b', off, none⟩) (by
    have hne : b' ≠ b := by omega
    rw [h2, Below.heap_setCell _ _ _ _ hne, Below.heap_setCell _ _ _ _ hne, Below.heap_setCell _ _ _ _ hne, Below.heap_setCell _ _ _ _ hne, Below.heap_setCell _ _ _ _ hne]
    exact far2E g2)) (Nat.le_refl _) (by omega)
  refine ⟨k + 1, 1, 1, some ⟨wr.heap.size, 0, none⟩, hk, hv, ?_, by omega, rfl, hb, ?_⟩
  · rw [h2]
    exact below_set5 (hB.alloc hB.size _) hge _ _ _ _ _
  · have q := fun o => cell_of hh o
    subst hn
    refine isL_mk (l := [nestG k]) (cap := 1) (b := wr.heap.size) (off := 0) (by simp) (fun _ => ⟨rfl, by omega, by omega⟩) ?_
    intro i hi'
    obtain rfl : i = 0 := by simp at hi'; omega
    have e0 : (nestG k).k = 4 ∧ (nestG k).b = false ∧ (nestG k).n = 0 ∧ (nestG k).t = ⟨#[]⟩ := by cases k <;> exact ⟨rfl, rfl, rfl, rfl⟩
    refine cellsV_mk (s := .slice aa (nestG k).l.length ca) ?_ ?_ ?_ ?_ ((q _).trans rfl) hl
    · show _ = some (Value.int .i64 (nestG k).k); rw [e0.1]; exact (q _).trans rfl
    · show _ = some (Value.bool (nestG k).b); rw [e0.2.1]; exact (q _).trans rfl
    · show _ = some (Value.int .i64 (nestG k).n); rw [e0.2.2.1]; exact (q _).trans rfl
    · show _ = some (Value.string (nestG k).t); rw [e0.2.2.2]; exact (q _).trans rfl
end Go.Proofs.YtaclkegoaajdgaaDoor
