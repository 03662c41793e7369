/-
  proctorlaw11.num, boolean, two: the expressions they tell. Conditions: none.
-/
import Derived.Test.YtljljhjdlicfeaaExpr
import Derived.Test.YtljljhjdlicfeaaCompE
import Derived.Test.YtljljhjdlicfeaaVm1
namespace Go.Proofs.Ytljljhjdlicfeaa
open Go Go.RowKit
set_option maxRecDepth 100000
set_option linter.unusedVariables false
def litE (v : GV) : GE := ⟨1, ByteArray.empty, v, []⟩
def twoE (op : Int) (a b : GE) : GE := ⟨op, ByteArray.empty, noV, [a, b]⟩
def listE (l : List GE) : GE := ⟨5, ByteArray.empty, noV, l⟩
def numV (n : Int) : GV := ⟨2, false, n, ByteArray.empty, []⟩
def booV (b : Bool) : GV := ⟨1, b, 0, ByteArray.empty, []⟩
theorem isX_nil5 (w : World) (B : Nat) : isX w B (.slice none 0 0) [] := ⟨none, 0, rfl, Nat.le_refl _, trivial, fun h => by simp at h⟩
theorem isX_single {w : World} {g B : Nat} {T : TypeId} {x : GE} {a aa : Option Addr} {c ca : Nat} (h : w.heap[g]? = some (.cells #[.int .i64 x.op, .string x.text, .int .i64 x.v.k, .bool x.v.b, .int .i64 x.v.n, .string x.v.t, .slice a x.v.l.length c, .slice aa x.args.length ca] T (0, 0))) (hg : g < B)
    (hs : isL w 0 B (.slice a x.v.l.length c) x.v.l) (hsa : isX w B (.slice aa x.args.length ca) x.args) : isX w B (.slice (some ⟨g, 0, none⟩) 1 1) [x] := by
  have q := fun o => cell_of h o
  refine isE_mk (l := [x]) (cap := 1) (b := g) (off := 0) (by simp) trivial (fun _ => ⟨rfl, Nat.zero_le _, hg⟩) ?_
  intro i hi
  have hi' : i = 0 := by simp at hi; omega
  subst hi'
  exact cellsE_mk ((q _).trans rfl) ((q _).trans rfl) ((q _).trans rfl) ((q _).trans rfl) ((q _).trans rfl) ((q _).trans rfl) ((q _).trans rfl) ((q _).trans rfl) hs hsa
theorem isX_pair {w : World} {g B : Nat} {T : TypeId} {x y : GE} {a aa a' aa' : Option Addr} {c ca c' ca' : Nat} (h : w.heap[g]? = some (.cells #[.int .i64 x.op, .string x.text, .int .i64 x.v.k, .bool x.v.b, .int .i64 x.v.n, .string x.v.t, .slice a x.v.l.length c, .slice aa x.args.length ca, .int .i64 y.op, .string y.text, .int .i64 y.v.k, .bool y.v.b, .int .i64 y.v.n, .string y.v.t, .slice a' y.v.l.length c', .slice aa' y.args.length ca'] T (0, 0))) (hg : g < B)
    (hs : isL w 0 B (.slice a x.v.l.length c) x.v.l) (hsa : isX w B (.slice aa x.args.length ca) x.args) (hs' : isL w 0 B (.slice a' y.v.l.length c') y.v.l) (hsa' : isX w B (.slice aa' y.args.length ca') y.args) : isX w B (.slice (some ⟨g, 0, none⟩) 2 2) [x, y] := by
  have q := fun o => cell_of h o
  refine isE_mk (l := [x, y]) (cap := 2) (b := g) (off := 0) (by simp) trivial (fun _ => ⟨rfl, Nat.zero_le _, hg⟩) ?_
  intro i hi
  have hi' : i = 0 ∨ i = 1 := by simp at hi; omega
  rcases hi' with rfl | rfl
  · exact cellsE_mk ((q _).trans rfl) ((q _).trans rfl) ((q _).trans rfl) ((q _).trans rfl) ((q _).trans rfl) ((q _).trans rfl) ((q _).trans rfl) ((q _).trans rfl) hs hsa
  · exact cellsE_mk ((q _).trans rfl) ((q _).trans rfl) ((q _).trans rfl) ((q _).trans rfl) ((q _).trans rfl) ((q _).trans rfl) ((q _).trans rfl) ((q _).trans rfl) hs' hsa'
theorem num_any (n : Int) (w : World) : Calls Try.prog 14 #[.int .i64 n] w fun e w' => e = .returned ((litE (numV n)).agg (.slice none 0 0) (.slice none 0 0)) ∧ Below w.heap.size w w' := by
  go_enter Try.func14, Try.ntmps14
  go_wp2_with fail
  refine bodyPost_ret (v := (litE (numV n)).agg (.slice none 0 0) (.slice none 0 0)) (by simp [results, Try.results14, go_sem]; rfl) rfl ⟨rfl, (Below.refl _ _).alloc (Nat.le_refl _) _⟩
theorem boolean_any (b : Bool) (w : World) : Calls Try.prog 15 #[.bool b] w fun e w' => e = .returned ((litE (booV b)).agg (.slice none 0 0) (.slice none 0 0)) ∧ Below w.heap.size w w' := by
  go_enter Try.func15, Try.ntmps15
  go_wp2_with fail
  refine bodyPost_ret (v := (litE (booV b)).agg (.slice none 0 0) (.slice none 0 0)) (by simp [results, Try.results15, go_sem]; rfl) rfl ⟨rfl, (Below.refl _ _).alloc (Nat.le_refl _) _⟩
theorem two_any (op : Int) (x y : GE) (s sa s' sa' : Value) (w : World) (B : Nat) (hB : B ≤ w.heap.size) (hs : isL w 0 B s x.v.l) (hsa : isX w B sa x.args) (hs' : isL w 0 B s' y.v.l) (hsa' : isX w B sa' y.args) :
    Calls Try.prog 10 #[.int .i64 op, x.agg s sa, y.agg s' sa'] w fun e w' => ∃ g, e = .returned ((twoE op x y).agg (.slice none 0 0) (.slice (some ⟨g, 0, none⟩) 2 2)) ∧ isX w' w'.heap.size (.slice (some ⟨g, 0, none⟩) 2 2) [x, y] ∧ Below w.heap.size w w' := by
  obtain ⟨aa, ca, rfl⟩ := isE_form hsa
  obtain ⟨a, c, rfl⟩ := isL_form hs
  obtain ⟨aa', ca', rfl⟩ := isE_form hsa'
  obtain ⟨a', c', rfl⟩ := isL_form hs'
  have HS := Lib.hid hs
  have HSA := Lib.hid hsa
  have HS' := Lib.hid hs'
  have HSA' := Lib.hid hsa'
  clear hs hsa hs' hsa'
  simp only [GE.agg]
  go_enter Try.func10, Try.ntmps10
  go_wp2_with fail
  obtain ⟨w2, hw2⟩ : ∃ u, u = (w.alloc (.cells #[.int .i64 x.op, .string x.text, .int .i64 x.v.k, .bool x.v.b, .int .i64 x.v.n, .string x.v.t, .slice a x.v.l.length c, .slice aa x.args.length ca] 40)).alloc (.cells #[.int .i64 y.op, .string y.text, .int .i64 y.v.k, .bool y.v.b, .int .i64 y.v.n, .string y.v.t, .slice a' y.v.l.length c', .slice aa' y.args.length ca'] 40) := ⟨_, rfl⟩
  rw [← hw2]
  have hz2 : w2.heap.size = w.heap.size + 2 := by rw [hw2]; simp
  have hb2 : Below w.heap.size w w2 := by rw [hw2]; exact ((Below.refl _ _).alloc (Nat.le_refl _) _).alloc (by simp) _
  clear hw2
  obtain ⟨w4, hw4⟩ : ∃ u, u = (w2.alloc (.cells #[.int .i64 op, .string { data := #[] }, .int .i64 0, .bool false, .int .i64 0, .string { data := #[] }, .slice none 0 0, .slice (some ⟨w.heap.size + 1 + 1 + 1, 0, none⟩) 2 2] 40)).alloc (.cells #[.int .i64 x.op, .string x.text, .int .i64 x.v.k, .bool x.v.b, .int .i64 x.v.n, .string x.v.t, .slice a x.v.l.length c, .slice aa x.args.length ca, .int .i64 y.op, .string y.text, .int .i64 y.v.k, .bool y.v.b, .int .i64 y.v.n, .string y.v.t, .slice a' y.v.l.length c', .slice aa' y.args.length ca'] 40) := ⟨_, rfl⟩
  rw [← hw4]
  have hb4 : Below w.heap.size w w4 := by rw [hw4]; exact (hb2.alloc hb2.size _).alloc (by simp; omega) _
  have hr4 : w4.heap[w.heap.size + 1 + 1]? = some (.cells #[.int .i64 op, .string { data := #[] }, .int .i64 0, .bool false, .int .i64 0, .string { data := #[] }, .slice none 0 0, .slice (some ⟨w.heap.size + 1 + 1 + 1, 0, none⟩) 2 2] 40 (0, 0)) := by
    have := heap_two (w := w2) (o := .cells #[.int .i64 op, .string { data := #[] }, .int .i64 0, .bool false, .int .i64 0, .string { data := #[] }, .slice none 0 0, .slice (some ⟨w.heap.size + 1 + 1 + 1, 0, none⟩) 2 2] 40) (o2 := .cells #[.int .i64 x.op, .string x.text, .int .i64 x.v.k, .bool x.v.b, .int .i64 x.v.n, .string x.v.t, .slice a x.v.l.length c, .slice aa x.args.length ca, .int .i64 y.op, .string y.text, .int .i64 y.v.k, .bool y.v.b, .int .i64 y.v.n, .string y.v.t, .slice a' y.v.l.length c', .slice aa' y.args.length ca'] 40)
    rw [hz2, ← hw4] at this
    exact this
  have hx4 : w4.heap[w.heap.size + 3]? = some (.cells #[.int .i64 x.op, .string x.text, .int .i64 x.v.k, .bool x.v.b, .int .i64 x.v.n, .string x.v.t, .slice a x.v.l.length c, .slice aa x.args.length ca, .int .i64 y.op, .string y.text, .int .i64 y.v.k, .bool y.v.b, .int .i64 y.v.n, .string y.v.t, .slice a' y.v.l.length c', .slice aa' y.args.length ca'] 40 (0, 0)) := by
    have := heap_second (w := w2) (o := .cells #[.int .i64 op, .string { data := #[] }, .int .i64 0, .bool false, .int .i64 0, .string { data := #[] }, .slice none 0 0, .slice (some ⟨w.heap.size + 1 + 1 + 1, 0, none⟩) 2 2] 40) (o2 := .cells #[.int .i64 x.op, .string x.text, .int .i64 x.v.k, .bool x.v.b, .int .i64 x.v.n, .string x.v.t, .slice a x.v.l.length c, .slice aa x.args.length ca, .int .i64 y.op, .string y.text, .int .i64 y.v.k, .bool y.v.b, .int .i64 y.v.n, .string y.v.t, .slice a' y.v.l.length c', .slice aa' y.args.length ca'] 40)
    rw [hz2, ← hw4] at this
    exact this
  have hz4 : w4.heap.size = w.heap.size + 4 := by rw [hw4]; simp; omega
  clear hw4
  have qr := fun o => cell_of hr4 o
  refine bodyPost_ret (v := (twoE op x y).agg (.slice none 0 0) (.slice (some ⟨w.heap.size + 3, 0, none⟩) 2 2)) (by simp [results, Try.results10, go_sem, qr]; rfl) rfl ⟨w.heap.size + 3, rfl, ?_, hb4⟩
  have up := fun (s : Value) l (h : isL w 0 B s l) => isL_wide (hi' := w4.heap.size) (isL_below h hb4 hB) (Nat.le_refl _) (by omega)
  have ux := fun (s : Value) l (h : isX w B s l) => isX_wide (B' := w4.heap.size) (isX_below h hb4 hB) (by omega)
  exact isX_pair hx4 (by omega) (up _ _ HS.out) (ux _ _ HSA.out) (up _ _ HS'.out) (ux _ _ HSA'.out)
end Go.Proofs.Ytljljhjdlicfeaa
/-
  An expression in a box that a drawn region makes. Conditions: none.
-/
namespace Go.Proofs.Ytljljhjdlicfeaa
open Go Go.RowKit
set_option maxRecDepth 100000
set_option linter.unusedVariables false
/-- in block g lie the eight cells of x and the eight of y -/
def PairAt (w : World) (g : Nat) (x : GE) (s sa : Value) (y : GE) (s' sa' : Value) : Prop := ∃ T, w.heap[g]? = some (.cells #[.int .i64 x.op, .string x.text, .int .i64 x.v.k, .bool x.v.b, .int .i64 x.v.n, .string x.v.t, s, sa, .int .i64 y.op, .string y.text, .int .i64 y.v.k, .bool y.v.b, .int .i64 y.v.n, .string y.v.t, s', sa'] T (0, 0))
theorem pair_isX {w : World} {g B : Nat} {x y : GE} {s sa s' sa' : Value} (h : PairAt w g x s sa y s' sa') (hg : g < B) (hs : isL w 0 B s x.v.l) (hsa : isX w B sa x.args) (hs' : isL w 0 B s' y.v.l) (hsa' : isX w B sa' y.args) : isX w B (.slice (some ⟨g, 0, none⟩) 2 2) [x, y] := by
  obtain ⟨aa, ca, rfl⟩ := isE_form hsa
  obtain ⟨a, c, rfl⟩ := isL_form hs
  obtain ⟨aa', ca', rfl⟩ := isE_form hsa'
  obtain ⟨a', c', rfl⟩ := isL_form hs'
  obtain ⟨T, h⟩ := h
  exact isX_pair h hg hs hsa hs' hsa'
theorem pair_heap {w w' : World} {g : Nat} {x y : GE} {s sa s' sa' : Value} (h : PairAt w g x s sa y s' sa') (e : w'.heap[g]? = w.heap[g]?) : PairAt w' g x s sa y s' sa' := by
  obtain ⟨T, h⟩ := h
  exact ⟨T, e.trans h⟩
theorem pair_lt {w : World} {g : Nat} {x y : GE} {s sa s' sa' : Value} (h : PairAt w g x s sa y s' sa') : g < w.heap.size := by
  obtain ⟨T, h⟩ := h
  exact (Array.getElem?_eq_some_iff.1 h).1
/-- in block p behind w0 stands two(op, x, y), its arguments in block g -/
def BoxE (w0 w : World) (p g : Nat) (op : Int) (x : GE) (s sa : Value) (y : GE) (s' sa' : Value) : Prop := Below w0.heap.size w0 w ∧ w0.heap.size ≤ p ∧ w0.heap.size ≤ g ∧ PairAt w g x s sa y s' sa' ∧
  w.heap[p]? = some (.cells #[.int .i64 op, .string { data := #[] }, .int .i64 0, .bool false, .int .i64 0, .string { data := #[] }, .slice none 0 0, .slice (some ⟨g, 0, none⟩) 2 2] 40 (0, 0))
theorem boxE_isX {w0 w : World} {p g B : Nat} {op : Int} {x y : GE} {s sa s' sa' : Value} (h : BoxE w0 w p g op x s sa y s' sa') (hB : B ≤ w0.heap.size) (hs : isL w0 0 B s x.v.l) (hsa : isX w0 B sa x.args) (hs' : isL w0 0 B s' y.v.l) (hsa' : isX w0 B sa' y.args) : isX w w.heap.size (.slice (some ⟨g, 0, none⟩) 2 2) [x, y] := by
  have hz := h.1.size
  have up := fun (s : Value) l (h2 : isL w0 0 B s l) => isL_wide (hi' := w.heap.size) (isL_below h2 h.1 hB) (Nat.le_refl _) (by omega)
  have ux := fun (s : Value) l (h2 : isX w0 B s l) => isX_wide (B' := w.heap.size) (isX_below h2 h.1 hB) (by omega)
  exact pair_isX h.2.2.2.1 (pair_lt h.2.2.2.1) (up _ _ hs) (ux _ _ hsa) (up _ _ hs') (ux _ _ hsa')
theorem pair_up {w0 w : World} {g B : Nat} {x y : GE} {s sa s' sa' : Value} (hb : Below w0.heap.size w0 w) (h : PairAt w g x s sa y s' sa') (hB : B ≤ w0.heap.size) (hs : isL w0 0 B s x.v.l) (hsa : isX w0 B sa x.args) (hs' : isL w0 0 B s' y.v.l) (hsa' : isX w0 B sa' y.args) : isX w w.heap.size (.slice (some ⟨g, 0, none⟩) 2 2) [x, y] := by
  have hz := hb.size
  have up := fun (s : Value) l (h2 : isL w0 0 B s l) => isL_wide (hi' := w.heap.size) (isL_below h2 hb hB) (Nat.le_refl _) (by omega)
  have ux := fun (s : Value) l (h2 : isX w0 B s l) => isX_wide (B' := w.heap.size) (isX_below h2 hb hB) (by omega)
  exact pair_isX h (pair_lt h) (up _ _ hs) (ux _ _ hsa) (up _ _ hs') (ux _ _ hsa')
theorem two_raw (op : Int) (x y : GE) (s sa s' sa' : Value) (w : World) (B : Nat) (hB : B ≤ w.heap.size) (hs : isL w 0 B s x.v.l) (hsa : isX w B sa x.args) (hs' : isL w 0 B s' y.v.l) (hsa' : isX w B sa' y.args) :
    Calls Try.prog 10 #[.int .i64 op, x.agg s sa, y.agg s' sa'] w fun e w' => ∃ g, e = .returned ((twoE op x y).agg (.slice none 0 0) (.slice (some ⟨g, 0, none⟩) 2 2)) ∧ w.heap.size ≤ g ∧ PairAt w' g x s sa y s' sa' ∧ Below w.heap.size w w' := by
  obtain ⟨aa, ca, rfl⟩ := isE_form hsa
  obtain ⟨a, c, rfl⟩ := isL_form hs
  obtain ⟨aa', ca', rfl⟩ := isE_form hsa'
  obtain ⟨a', c', rfl⟩ := isL_form hs'
  have HS := Lib.hid hs
  have HSA := Lib.hid hsa
  have HS' := Lib.hid hs'
  have HSA' := Lib.hid hsa'
  clear hs hsa hs' hsa'
  simp only [GE.agg]
  go_enter Try.func10, Try.ntmps10
  go_wp2_with fail
  obtain ⟨w2, hw2⟩ : ∃ u, u = (w.alloc (.cells #[.int .i64 x.op, .string x.text, .int .i64 x.v.k, .bool x.v.b, .int .i64 x.v.n, .string x.v.t, .slice a x.v.l.length c, .slice aa x.args.length ca] 40)).alloc (.cells #[.int .i64 y.op, .string y.text, .int .i64 y.v.k, .bool y.v.b, .int .i64 y.v.n, .string y.v.t, .slice a' y.v.l.length c', .slice aa' y.args.length ca'] 40) := ⟨_, rfl⟩
  rw [← hw2]
  have hz2 : w2.heap.size = w.heap.size + 2 := by rw [hw2]; simp
  have hb2 : Below w.heap.size w w2 := by rw [hw2]; exact ((Below.refl _ _).alloc (Nat.le_refl _) _).alloc (by simp) _
  clear hw2
  obtain ⟨w4, hw4⟩ : ∃ u, u = (w2.alloc (.cells #[.int .i64 op, .string { data := #[] }, .int .i64 0, .bool false, .int .i64 0, .string { data := #[] }, .slice none 0 0, .slice (some ⟨w.heap.size + 1 + 1 + 1, 0, none⟩) 2 2] 40)).alloc (.cells #[.int .i64 x.op, .string x.text, .int .i64 x.v.k, .bool x.v.b, .int .i64 x.v.n, .string x.v.t, .slice a x.v.l.length c, .slice aa x.args.length ca, .int .i64 y.op, .string y.text, .int .i64 y.v.k, .bool y.v.b, .int .i64 y.v.n, .string y.v.t, .slice a' y.v.l.length c', .slice aa' y.args.length ca'] 40) := ⟨_, rfl⟩
  rw [← hw4]
  have hb4 : Below w.heap.size w w4 := by rw [hw4]; exact (hb2.alloc hb2.size _).alloc (by simp; omega) _
  have hr4 : w4.heap[w.heap.size + 1 + 1]? = some (.cells #[.int .i64 op, .string { data := #[] }, .int .i64 0, .bool false, .int .i64 0, .string { data := #[] }, .slice none 0 0, .slice (some ⟨w.heap.size + 1 + 1 + 1, 0, none⟩) 2 2] 40 (0, 0)) := by
    have := heap_two (w := w2) (o := .cells #[.int .i64 op, .string { data := #[] }, .int .i64 0, .bool false, .int .i64 0, .string { data := #[] }, .slice none 0 0, .slice (some ⟨w.heap.size + 1 + 1 + 1, 0, none⟩) 2 2] 40) (o2 := .cells #[.int .i64 x.op, .string x.text, .int .i64 x.v.k, .bool x.v.b, .int .i64 x.v.n, .string x.v.t, .slice a x.v.l.length c, .slice aa x.args.length ca, .int .i64 y.op, .string y.text, .int .i64 y.v.k, .bool y.v.b, .int .i64 y.v.n, .string y.v.t, .slice a' y.v.l.length c', .slice aa' y.args.length ca'] 40)
    rw [hz2, ← hw4] at this
    exact this
  have hx4 : w4.heap[w.heap.size + 3]? = some (.cells #[.int .i64 x.op, .string x.text, .int .i64 x.v.k, .bool x.v.b, .int .i64 x.v.n, .string x.v.t, .slice a x.v.l.length c, .slice aa x.args.length ca, .int .i64 y.op, .string y.text, .int .i64 y.v.k, .bool y.v.b, .int .i64 y.v.n, .string y.v.t, .slice a' y.v.l.length c', .slice aa' y.args.length ca'] 40 (0, 0)) := by
    have := heap_second (w := w2) (o := .cells #[.int .i64 op, .string { data := #[] }, .int .i64 0, .bool false, .int .i64 0, .string { data := #[] }, .slice none 0 0, .slice (some ⟨w.heap.size + 1 + 1 + 1, 0, none⟩) 2 2] 40) (o2 := .cells #[.int .i64 x.op, .string x.text, .int .i64 x.v.k, .bool x.v.b, .int .i64 x.v.n, .string x.v.t, .slice a x.v.l.length c, .slice aa x.args.length ca, .int .i64 y.op, .string y.text, .int .i64 y.v.k, .bool y.v.b, .int .i64 y.v.n, .string y.v.t, .slice a' y.v.l.length c', .slice aa' y.args.length ca'] 40)
    rw [hz2, ← hw4] at this
    exact this
  have hz4 : w4.heap.size = w.heap.size + 4 := by rw [hw4]; simp; omega
  clear hw4
  have qr := fun o => cell_of hr4 o
  refine bodyPost_ret (v := (twoE op x y).agg (.slice none 0 0) (.slice (some ⟨w.heap.size + 3, 0, none⟩) 2 2)) (by simp [results, Try.results10, go_sem, qr]; rfl) rfl ⟨w.heap.size + 3, rfl, by omega, ⟨_, hx4⟩, hb4⟩
theorem eight_heap {w : World} {g b : Nat} (h : b ≠ g) (a0 a1 a2 a3 a4 a5 a6 a7 : Value) : ((((((((w.setCell ⟨g, 0, none⟩ a0).setCell ⟨g, 1, none⟩ a1).setCell ⟨g, 2, none⟩ a2).setCell ⟨g, 3, none⟩ a3).setCell ⟨g, 4, none⟩ a4).setCell ⟨g, 5, none⟩ a5).setCell ⟨g, 6, none⟩ a6).setCell ⟨g, 7, none⟩ a7).heap[b]? = w.heap[b]? := by
  rw [set1_heap h, set1_heap h, set1_heap h, set1_heap h, set1_heap h, set1_heap h, set1_heap h, set1_heap h]
theorem eight_cells {w : World} {g : Nat} {c0 c1 c2 c3 c4 c5 c6 c7 : Value} {T : TypeId} {fz : Nat × Nat} (h : w.heap[g]? = some (.cells #[c0, c1, c2, c3, c4, c5, c6, c7] T fz)) (a0 a1 a2 a3 a4 a5 a6 a7 : Value) :
    ((((((((w.setCell ⟨g, 0, none⟩ a0).setCell ⟨g, 1, none⟩ a1).setCell ⟨g, 2, none⟩ a2).setCell ⟨g, 3, none⟩ a3).setCell ⟨g, 4, none⟩ a4).setCell ⟨g, 5, none⟩ a5).setCell ⟨g, 6, none⟩ a6).setCell ⟨g, 7, none⟩ a7).heap[g]? = some (.cells #[a0, a1, a2, a3, a4, a5, a6, a7] T fz) := by
  have h0 := heap_setCell2 (o := 0) (v := a0) h
  have h1 := heap_setCell2 (o := 1) (v := a1) h0
  have h2 := heap_setCell2 (o := 2) (v := a2) h1
  have h3 := heap_setCell2 (o := 3) (v := a3) h2
  have h4 := heap_setCell2 (o := 4) (v := a4) h3
  have h5 := heap_setCell2 (o := 5) (v := a5) h4
  have h6 := heap_setCell2 (o := 6) (v := a6) h5
  have h7 := heap_setCell2 (o := 7) (v := a7) h6
  rw [h7]
  simp
theorem boxE_store {w0 w : World} {p g : Nat} {op : Int} {x y : GE} {s sa s' sa' : Value} {c0 c1 c2 c3 c4 c5 c6 c7 : Value} (hb : Below w0.heap.size w0 w) (hp : w0.heap.size ≤ p) (hg : w0.heap.size ≤ g) (hpg : p ≠ g) (hP : PairAt w g x s sa y s' sa') (h : w.heap[p]? = some (.cells #[c0, c1, c2, c3, c4, c5, c6, c7] 40 (0, 0))) :
    BoxE w0 ((((((((w.setCell ⟨p, 0, none⟩ (.int .i64 op)).setCell ⟨p, 1, none⟩ (.string { data := #[] })).setCell ⟨p, 2, none⟩ (.int .i64 0)).setCell ⟨p, 3, none⟩ (.bool false)).setCell ⟨p, 4, none⟩ (.int .i64 0)).setCell ⟨p, 5, none⟩ (.string { data := #[] })).setCell ⟨p, 6, none⟩ (.slice none 0 0)).setCell ⟨p, 7, none⟩ (.slice (some ⟨g, 0, none⟩) 2 2)) p g op x s sa y s' sa' := by
  have st := fun (w1 : World) (o : Nat) (v : Value) (h : Below w0.heap.size w0 w1) => Below.setCell (p := ⟨p, o, none⟩) h hp v
  exact ⟨st _ _ _ (st _ _ _ (st _ _ _ (st _ _ _ (st _ _ _ (st _ _ _ (st _ _ _ (st _ _ _ hb))))))), hp, hg, pair_heap hP (eight_heap hpg.symm ..), eight_cells h ..⟩
theorem boxE_alloc {w0 w : World} {g : Nat} {op : Int} {x y : GE} {s sa s' sa' : Value} (hb : Below w0.heap.size w0 w) (hg : w0.heap.size ≤ g) (hP : PairAt w g x s sa y s' sa') :
    BoxE w0 (w.alloc (.cells #[.int .i64 op, .string { data := #[] }, .int .i64 0, .bool false, .int .i64 0, .string { data := #[] }, .slice none 0 0, .slice (some ⟨g, 0, none⟩) 2 2] 40)) w.heap.size g op x s sa y s' sa' :=
  ⟨hb.alloc hb.size _, hb.size, hg, pair_heap hP (by rw [show (w.alloc _).heap = w.heap.push _ from rfl, Array.getElem?_push, if_neg (by have := pair_lt hP; omega)]), heap_last⟩
/-- in block p behind w0 stands a value, its list anywhere -/
def BoxV (w0 w : World) (p : Nat) (v : GV) : Prop := Below w0.heap.size w0 w ∧ w0.heap.size ≤ p ∧ ∃ s, w.heap[p]? = some (.cells #[.int .i64 v.k, .bool v.b, .int .i64 v.n, .string v.t, s] 35 (0, 0))
theorem boxV_store {w0 w : World} {p : Nat} {v : GV} {s : Value} {c0 c1 c2 c3 c4 : Value} (hb : Below w0.heap.size w0 w) (hp : w0.heap.size ≤ p) (h : w.heap[p]? = some (.cells #[c0, c1, c2, c3, c4] 35 (0, 0))) :
    BoxV w0 (((((w.setCell ⟨p, 0, none⟩ (.int .i64 v.k)).setCell ⟨p, 1, none⟩ (.bool v.b)).setCell ⟨p, 2, none⟩ (.int .i64 v.n)).setCell ⟨p, 3, none⟩ (.string v.t)).setCell ⟨p, 4, none⟩ s) p v := by
  have st := fun (w1 : World) (o : Nat) (u : Value) (h : Below w0.heap.size w0 w1) => Below.setCell (p := ⟨p, o, none⟩) h hp u
  refine ⟨st _ _ _ (st _ _ _ (st _ _ _ (st _ _ _ (st _ _ _ hb)))), hp, s, ?_⟩
  have h0 := heap_setCell2 (o := 0) (v := (.int .i64 v.k : Value)) h
  have h1 := heap_setCell2 (o := 1) (v := (.bool v.b : Value)) h0
  have h2 := heap_setCell2 (o := 2) (v := (.int .i64 v.n : Value)) h1
  have h3 := heap_setCell2 (o := 3) (v := (.string v.t : Value)) h2
  have h4 := heap_setCell2 (o := 4) (v := s) h3
  rw [h4]
  simp
theorem boxV_alloc {w0 w : World} {v : GV} {s : Value} (hb : Below w0.heap.size w0 w) : BoxV w0 (w.alloc (.cells #[.int .i64 v.k, .bool v.b, .int .i64 v.n, .string v.t, s] 35)) w.heap.size v :=
  ⟨hb.alloc hb.size _, hb.size, s, heap_last⟩
theorem emp_eq : ByteArray.empty = { data := #[] } := rfl
theorem booV_fit (b : Bool) : (booV b).fit := by
  simp only [booV, GV.fit, fitL]
  refine ⟨by omega, by omega, by omega, by omega, by decide, by simp, trivial⟩
theorem lit_fit {v : GV} (h : v.fit) : (litE v).fit := by
  simp only [litE, GE.fit, fitE]
  exact ⟨by omega, by omega, by decide, h, by simp, trivial⟩
theorem two_fit (op : Int) (a b : GE) (hop : -9223372036854775808 ≤ op ∧ op ≤ 9223372036854775807) (ha : a.fit) (hb : b.fit) : (twoE op a b).fit := by
  have h0 : noV.fit := by simp only [noV, GV.fit, fitL]; refine ⟨by omega, by omega, by omega, by omega, by decide, by simp, trivial⟩
  simp only [twoE, GE.fit, fitE]
  exact ⟨hop.1, hop.2, by decide, h0, by simp, ha, hb, trivial⟩
theorem list_fit (l : List GE) (h : l.length ≤ 2147483647) (ha : fitE l) : (listE l).fit := by
  have h0 : noV.fit := by simp only [noV, GV.fit, fitL]; refine ⟨by omega, by omega, by omega, by omega, by decide, by simp, trivial⟩
  simp only [listE, GE.fit]
  exact ⟨by omega, by omega, by decide, h0, h, ha⟩
end Go.Proofs.Ytljljhjdlicfeaa
