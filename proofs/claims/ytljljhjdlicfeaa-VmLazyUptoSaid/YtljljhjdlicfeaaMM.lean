/-
  What value.Apply tells where it refuses: no such operation, a wrong number of values, a value that may not be. Conditions: lists and texts shorter than 2^31.
-/
import Derived.Test.YtljljhjdlicfeaaApply
namespace Go.Proofs.Ytljljhjdlicfeaa
open Go Go.RowKit
set_option maxRecDepth 100000
set_option linter.unusedVariables false

set_option maxHeartbeats 1600000 in
theorem apply_off (op : Int) (l : List GV) (hlk : ∀ h, Instr.findNow (.int .i64) (.int .i64 op) (opsE h) 0 = some none)
    (s : Value) (w : World) (B : Nat) (hB : B ≤ w.heap.size) (hs : isL w 0 B s l) :
    Calls Try.prog 11 #[.int .i64 op, s] w (GivesO w (noP 1)) := by
  obtain ⟨a, c, rfl⟩ := isL_form hs
  have HS := Lib.hid hs
  have HLK := Lib.hid hlk
  clear hs hlk
  go_enter Try.func11, Try.ntmps11
  go_wp2_with fail
  obtain ⟨w0, hw0⟩ : ∃ w0, w0 = w.alloc (.cells #[.int .i64 0, .bool false, .int .i64 0, .string { data := #[] }, .slice none 0 0] 35) := ⟨_, rfl⟩
  have hb0 : Below w.heap.size w w0 := by rw [hw0]; exact (Below.refl _ _).alloc (Nat.le_refl _) _
  have hz0 : w0.heap[w.heap.size]? = some (.cells #[.int .i64 0, .bool false, .int .i64 0, .string { data := #[] }, .slice none 0 0] 35 (0, 0)) := by rw [hw0]; exact heap_last
  have hs0 : w0.heap.size = w.heap.size + 1 := by rw [hw0]; simp
  rw [← hw0]
  have HB0 := Lib.hid hb0
  have HZ0 := Lib.hid hz0
  clear hw0 hb0 hz0
  refine (operations_any w0).mono ?_
  rintro e w1 ⟨rfl, S⟩
  have hlk := lookup_none w1 w0.heap.size _ _ S.map op (HLK.out w0.heap.size)
  have HB1 := Lib.hid (below_down HB0.out S.below (Nat.le_refl _))
  have HZ1 := Lib.hid ((S.below.block w.heap.size (by omega)).trans HZ0.out)
  have hs1 := S.size
  rw [hs0] at hlk
  clear S HLK
  go_wp2_with fail
  obtain ⟨w2, hw2⟩ : ∃ w2, w2 = w1.alloc (.cells #[.int .i64 0, .nilFunc] 72) := ⟨_, rfl⟩
  have hb2 : Below w1.heap.size w1 w2 := by rw [hw2]; exact (Below.refl _ _).alloc (Nat.le_refl _) _
  have ho2 : w2.heap[w1.heap.size]? = some (.cells #[.int .i64 0, .nilFunc] 72 (0, 0)) := by rw [hw2]; exact heap_last
  have hs2 : w2.heap.size = w1.heap.size + 1 := by rw [hw2]; simp
  have hs2' : w1.heap.size < w2.heap.size := by omega
  rw [← hw2]
  have HB2 := Lib.hid (below_down HB1.out hb2 (Nat.le_refl _))
  have HZ2 := Lib.hid ((hb2.block w.heap.size (by omega)).trans HZ1.out)
  have qo := fun o => cell_of ho2 o
  clear hw2 hb2 ho2 hlk
  have HB3 := HB2
  have HZ3 := HZ2
  refine (no_v 1 _).mono ?_
  rintro e w4 ⟨rfl, hb4⟩
  have HB4 := Lib.hid (below_down HB3.out hb4 (Nat.le_refl _))
  have hz4 := (hb4.block w.heap.size (by omega)).trans HZ3.out
  have s4 : w.heap.size < w4.heap.size := by have := hb4.size; omega
  have qz4 := fun o => cell_of hz4 o
  have fz4 := fun o => frozen_of hz4 o
  clear hb4 hz4
  go_wp2_with fail
  refine bodyPost_ret (v := .tuple #[.agg #[.int .i64 0, .bool false, .int .i64 0, .string { data := #[] }, .slice none 0 0], .int .i64 1]) (by simp [results, Try.results11, go_sem, qz4]) rfl (gives_flat rfl rfl (below_set5 HB4.out (Nat.le_refl _) _ _ _ _ _))

set_option maxHeartbeats 1600000 in
theorem apply_len (op : Int) (l : List GV) (t : Int) (f : Nat) (caps : Nat → Array Value) (hlk : ∀ h, ∃ i, Instr.findNow (.int .i64) (.int .i64 op) (opsE h) 0 = some (some (i, .agg #[.int .i64 t, .func (.func f) #[] (caps h)]))) (hne : ((l.length : Int) == t) = false)
    (s : Value) (w : World) (B : Nat) (hB : B ≤ w.heap.size) (hs : isL w 0 B s l) :
    Calls Try.prog 11 #[.int .i64 op, s] w (GivesO w (noP 1)) := by
  obtain ⟨a, c, rfl⟩ := isL_form hs
  have HS := Lib.hid hs
  have HLK := Lib.hid hlk
  clear hs hlk
  have hne2 : ((l.length : Int) != t) = true := by rw [bne, hne]; rfl
  go_enter Try.func11, Try.ntmps11
  go_wp2_with fail
  obtain ⟨w0, hw0⟩ : ∃ w0, w0 = w.alloc (.cells #[.int .i64 0, .bool false, .int .i64 0, .string { data := #[] }, .slice none 0 0] 35) := ⟨_, rfl⟩
  have hb0 : Below w.heap.size w w0 := by rw [hw0]; exact (Below.refl _ _).alloc (Nat.le_refl _) _
  have hz0 : w0.heap[w.heap.size]? = some (.cells #[.int .i64 0, .bool false, .int .i64 0, .string { data := #[] }, .slice none 0 0] 35 (0, 0)) := by rw [hw0]; exact heap_last
  have hs0 : w0.heap.size = w.heap.size + 1 := by rw [hw0]; simp
  rw [← hw0]
  have HB0 := Lib.hid hb0
  have HZ0 := Lib.hid hz0
  clear hw0 hb0 hz0
  refine (operations_any w0).mono ?_
  rintro e w1 ⟨rfl, S⟩
  obtain ⟨i, hlk⟩ := HLK.out w0.heap.size
  have hlk := lookup_run w1 w0.heap.size _ _ S.map op i _ hlk
  obtain ⟨cp, hcp⟩ : ∃ cp, cp = caps w0.heap.size := ⟨_, rfl⟩
  rw [← hcp] at hlk
  clear hcp
  have HB1 := Lib.hid (below_down HB0.out S.below (Nat.le_refl _))
  have HZ1 := Lib.hid ((S.below.block w.heap.size (by omega)).trans HZ0.out)
  have hs1 := S.size
  rw [hs0] at hlk
  clear S HLK
  go_wp2_with fail
  obtain ⟨w2, hw2⟩ : ∃ w2, w2 = w1.alloc (.cells #[.int .i64 t, .func (.func f) #[] cp] 72) := ⟨_, rfl⟩
  have hb2 : Below w1.heap.size w1 w2 := by rw [hw2]; exact (Below.refl _ _).alloc (Nat.le_refl _) _
  have ho2 : w2.heap[w1.heap.size]? = some (.cells #[.int .i64 t, .func (.func f) #[] cp] 72 (0, 0)) := by rw [hw2]; exact heap_last
  have hs2 : w2.heap.size = w1.heap.size + 1 := by rw [hw2]; simp
  have hs2' : w1.heap.size < w2.heap.size := by omega
  rw [← hw2]
  have HB2 := Lib.hid (below_down HB1.out hb2 (Nat.le_refl _))
  have HZ2 := Lib.hid ((hb2.block w.heap.size (by omega)).trans HZ1.out)
  have qo := fun o => cell_of ho2 o
  clear hw2 hb2 ho2 hlk
  have HB3 := HB2
  have HZ3 := HZ2
  refine (no_v 1 _).mono ?_
  rintro e w4 ⟨rfl, hb4⟩
  have HB4 := Lib.hid (below_down HB3.out hb4 (Nat.le_refl _))
  have hz4 := (hb4.block w.heap.size (by omega)).trans HZ3.out
  have s4 : w.heap.size < w4.heap.size := by have := hb4.size; omega
  have qz4 := fun o => cell_of hz4 o
  have fz4 := fun o => frozen_of hz4 o
  clear hb4 hz4
  go_wp2_with fail
  refine bodyPost_ret (v := .tuple #[.agg #[.int .i64 0, .bool false, .int .i64 0, .string { data := #[] }, .slice none 0 0], .int .i64 1]) (by simp [results, Try.results11, go_sem, qz4]) rfl (gives_flat rfl rfl (below_set5 HB4.out (Nat.le_refl _) _ _ _ _ _))

set_option maxHeartbeats 1600000 in
theorem apply_bad (op : Int) (l : List GV) (hll : l.length ≤ 2147483647) (fl : fitL l) (hbad : badL l = true) (f : Nat) (caps : Nat → Array Value) (hlk : ∀ h, ∃ i, Instr.findNow (.int .i64) (.int .i64 op) (opsE h) 0 = some (some (i, .agg #[.int .i64 l.length, .func (.func f) #[] (caps h)])))
    (s : Value) (w : World) (B : Nat) (hB : B ≤ w.heap.size) (hs : isL w 0 B s l) :
    Calls Try.prog 11 #[.int .i64 op, s] w (GivesO w (noP 1)) := by
  obtain ⟨a, c, rfl⟩ := isL_form hs
  have HS := Lib.hid hs
  have HLK := Lib.hid hlk
  clear hs hlk
  have HFL := Lib.hid fl
  have HBAD := Lib.hid hbad
  clear fl hbad
  go_enter Try.func11, Try.ntmps11
  go_wp2_with fail
  obtain ⟨w0, hw0⟩ : ∃ w0, w0 = w.alloc (.cells #[.int .i64 0, .bool false, .int .i64 0, .string { data := #[] }, .slice none 0 0] 35) := ⟨_, rfl⟩
  have hb0 : Below w.heap.size w w0 := by rw [hw0]; exact (Below.refl _ _).alloc (Nat.le_refl _) _
  have hz0 : w0.heap[w.heap.size]? = some (.cells #[.int .i64 0, .bool false, .int .i64 0, .string { data := #[] }, .slice none 0 0] 35 (0, 0)) := by rw [hw0]; exact heap_last
  have hs0 : w0.heap.size = w.heap.size + 1 := by rw [hw0]; simp
  rw [← hw0]
  have HB0 := Lib.hid hb0
  have HZ0 := Lib.hid hz0
  clear hw0 hb0 hz0
  refine (operations_any w0).mono ?_
  rintro e w1 ⟨rfl, S⟩
  obtain ⟨i, hlk⟩ := HLK.out w0.heap.size
  have hlk := lookup_run w1 w0.heap.size _ _ S.map op i _ hlk
  obtain ⟨cp, hcp⟩ : ∃ cp, cp = caps w0.heap.size := ⟨_, rfl⟩
  rw [← hcp] at hlk
  clear hcp
  have HB1 := Lib.hid (below_down HB0.out S.below (Nat.le_refl _))
  have HZ1 := Lib.hid ((S.below.block w.heap.size (by omega)).trans HZ0.out)
  have hs1 := S.size
  rw [hs0] at hlk
  clear S HLK
  go_wp2_with fail
  obtain ⟨w2, hw2⟩ : ∃ w2, w2 = w1.alloc (.cells #[.int .i64 l.length, .func (.func f) #[] cp] 72) := ⟨_, rfl⟩
  have hb2 : Below w1.heap.size w1 w2 := by rw [hw2]; exact (Below.refl _ _).alloc (Nat.le_refl _) _
  have ho2 : w2.heap[w1.heap.size]? = some (.cells #[.int .i64 l.length, .func (.func f) #[] cp] 72 (0, 0)) := by rw [hw2]; exact heap_last
  have hs2 : w2.heap.size = w1.heap.size + 1 := by rw [hw2]; simp
  have hs2' : w1.heap.size < w2.heap.size := by omega
  rw [← hw2]
  have HB2 := Lib.hid (below_down HB1.out hb2 (Nat.le_refl _))
  have HZ2 := Lib.hid ((hb2.block w.heap.size (by omega)).trans HZ1.out)
  have qo := fun o => cell_of ho2 o
  clear hw2 hb2 ho2 hlk
  refine (contains_any l hll HFL.out (.slice a l.length c) w2 B (Nat.le_trans hB HB2.out.size) (isL_below HS.out HB2.out hB)).mono ?_
  rintro e w3 ⟨rfl, hb3⟩
  rw [HBAD.out]
  have HB3 := Lib.hid (below_down HB2.out hb3 (Nat.le_refl _))
  have HZ3 := Lib.hid ((hb3.block w.heap.size (by omega)).trans HZ2.out)
  have hs3 := hb3.size
  have hs30 : w.heap.size < w3.heap.size := by omega
  clear qo hb3
  go_wp2_with fail
  refine (no_v 1 _).mono ?_
  rintro e w4 ⟨rfl, hb4⟩
  have HB4 := Lib.hid (below_down HB3.out hb4 (Nat.le_refl _))
  have hz4 := (hb4.block w.heap.size (by omega)).trans HZ3.out
  have s4 : w.heap.size < w4.heap.size := by have := hb4.size; omega
  have qz4 := fun o => cell_of hz4 o
  have fz4 := fun o => frozen_of hz4 o
  clear hb4 hz4
  go_wp2_with fail
  refine bodyPost_ret (v := .tuple #[.agg #[.int .i64 0, .bool false, .int .i64 0, .string { data := #[] }, .slice none 0 0], .int .i64 1]) (by simp [results, Try.results11, go_sem, qz4]) rfl (gives_flat rfl rfl (below_set5 HB4.out (Nat.le_refl _) _ _ _ _ _))

/-- what Apply tells of an operation that takes t values -/
def appP (t : Nat) (g : GV → GV → GV × Int) (l : List GV) : GV × Int := if l.length = t ∧ badL l = false then g (l.headD ⟨0, false, 0, ⟨#[]⟩, []⟩) (l.getLastD ⟨0, false, 0, ⟨#[]⟩, []⟩) else noP 1
theorem apply_op (op : Int) (t : Nat) (ht : 0 < t) (f : Nat) (caps : Nat → Array Value) (K : Nat → World → Prop) (g : GV → GV → GV × Int) (l : List GV) (hll : l.length ≤ 2147483647) (fl : fitL l) (eg : ∀ (args : Array Value) (w : World), (callFunc f args).run Try.prog w = .ok (.enter f args) w) (hdo : ∀ h, DoC f (caps h) (K h) g)
    (hK : ∀ w0 w1 w2 : World, Tbl w0 w1 23 (opsE w0.heap.size) opsL → Below w1.heap.size w1 w2 → K w0.heap.size w2) (hlk : ∀ h, ∃ i, Instr.findNow (.int .i64) (.int .i64 op) (opsE h) 0 = some (some (i, .agg #[.int .i64 t, .func (.func f) #[] (caps h)])))
    (s : Value) (w : World) (B : Nat) (hB : B ≤ w.heap.size) (hs : isL w 0 B s l) :
    Calls Try.prog 11 #[.int .i64 op, s] w (GivesO w (appP t g l)) := by
  unfold appP
  by_cases hlen : l.length = t
  · cases hb : badL l
    · rw [if_pos ⟨hlen, rfl⟩]
      obtain ⟨m, hm⟩ : ∃ m, l.length = m + 1 := ⟨l.length - 1, by omega⟩
      have h0 : 0 < l.length := by omega
      have hm' : m < l.length := by omega
      refine apply_go op f caps K g l m hm _ _ ?_ ?_ hll fl hb eg hdo hK ?_ s w B hB hs
      · cases l with
        | nil => simp at h0
        | cons x r => rfl
      · rw [List.getElem?_eq_getElem hm', List.getLastD_eq_getLast?, List.getLast?_eq_getElem?]
        have e : l.length - 1 = m := by omega
        rw [e, List.getElem?_eq_getElem hm']; rfl
      · intro h; rw [hlen]; exact hlk h
    · rw [if_neg (by simp)]
      refine apply_bad op l hll fl hb f caps ?_ s w B hB hs
      intro h; rw [hlen]; exact hlk h
  · rw [if_neg (fun h => hlen h.1)]
    exact apply_len op l t f caps hlk (by simp; omega) s w B hB hs
end Go.Proofs.Ytljljhjdlicfeaa
/-
  Answers of Apply under letters; boxes that hold values; two values in a block, one in a block. Conditions: none.
-/
namespace Go.Proofs.Ytljljhjdlicfeaa
open Go Go.RowKit
set_option maxRecDepth 100000
set_option linter.unusedVariables false
theorem gives_let {w w' : World} {r : GV × Int} {e : Ending} (h : GivesO w r e w') : ∃ (k n er : Int) (b : Bool) (t : ByteArray) (a : Option Addr) (m c : Nat), e = .returned (.tuple #[.agg #[.int .i64 k, .bool b, .int .i64 n, .string t, .slice a m c], .int .i64 er]) ∧ Hid (b = r.1.b) ∧ Hid (er = r.2) ∧ Hid (Below w.heap.size w w') := by
  obtain ⟨a, c, he, hr, hb⟩ := h
  exact ⟨r.1.k, r.1.n, r.2, r.1.b, r.1.t, a, r.1.l.length, c, he, rfl, rfl, hb⟩
/-- a box that holds a value: its bit -/
def bitB (w : World) (b : Nat) (v : Bool) : Prop := b < w.heap.size ∧ w.cell? ⟨b, 1, none⟩ = some (.bool v)
theorem bitB_below {w w' : World} {b : Nat} {v : Bool} (h : bitB w b v) (hb : Below w.heap.size w w') : bitB w' b v := ⟨Nat.lt_of_lt_of_le h.1 hb.size, (hb.cell (p := ⟨b, 1, none⟩) h.1).trans h.2⟩
theorem bitB_alloc {w : World} {k n : Int} {b : Bool} {t : ByteArray} {s : Value} {T : TypeId} : bitB (w.alloc (.cells #[.int .i64 k, .bool b, .int .i64 n, .string t, s] T)) w.heap.size b :=
  ⟨by simp, (cell_of (heap_last (w := w)) 1).trans rfl⟩
theorem below_box {w w1 : World} (h : Below w.heap.size w w1) (o : Obj) : Below w.heap.size w (w1.alloc o) := h.alloc h.size _
def twoC (x y : GV) (ax ay : Option Addr) (cx cy : Nat) : Array Value := #[.int .i64 x.k, .bool x.b, .int .i64 x.n, .string x.t, .slice ax x.l.length cx, .int .i64 y.k, .bool y.b, .int .i64 y.n, .string y.t, .slice ay y.l.length cy]
theorem isL_two {w : World} {B g : Nat} {x y : GV} {ax ay : Option Addr} {cx cy : Nat} {T : TypeId} (hB : B ≤ g + 1) (h : w.heap[g]? = some (.cells (twoC x y ax ay cx cy) T (0, 0))) (hx : isL w 0 B (.slice ax x.l.length cx) x.l) (hy : isL w 0 B (.slice ay y.l.length cy) y.l) :
    isL w 0 (g + 1) (.slice (some ⟨g, 0, none⟩) 2 2) [x, y] := by
  have q := fun o => cell_of h o
  refine isL_mk (l := [x, y]) (cap := 2) (b := g) (off := 0) (by simp) (fun _ => ⟨rfl, Nat.zero_le _, by omega⟩) ?_
  intro i hi
  have hi' : i = 0 ∨ i = 1 := by simp at hi; omega
  rcases hi' with rfl | rfl
  · exact cellsV_mk (s := .slice ax x.l.length cx) ((q _).trans rfl) ((q _).trans rfl) ((q _).trans rfl) ((q _).trans rfl) ((q _).trans rfl) (isL_wide hx (Nat.le_refl _) hB)
  · exact cellsV_mk (s := .slice ay y.l.length cy) ((q _).trans rfl) ((q _).trans rfl) ((q _).trans rfl) ((q _).trans rfl) ((q _).trans rfl) (isL_wide hy (Nat.le_refl _) hB)
theorem bad2 (x y : GV) : badL [x, y] = (!vmay x || !vmay y) := by simp [badL]
theorem app2 {x y : GV} (hx : vmay x = true) (hy : vmay y = true) (g : GV → GV → GV × Int) : appP 2 g [x, y] = g x y := by
  unfold appP
  rw [if_pos ⟨rfl, by rw [bad2, hx, hy]; rfl⟩]; rfl
theorem app2_no {x y : GV} (h : (!vmay x || !vmay y) = true) (g : GV → GV → GV × Int) : appP 2 g [x, y] = noP 1 := by
  unfold appP
  rw [if_neg]
  rw [bad2, h]; simp
theorem alloc_drew_lt {w : World} {o : Obj} : w.heap.size < (w.alloc o).drew.heap.size := by
  show w.heap.size < (w.alloc o).heap.size
  simp
theorem isL_one {w : World} {g hi : Nat} {T : TypeId} {x : GV} {a : Option Addr} {c : Nat} (h : w.heap[g]? = some (.cells #[.int .i64 x.k, .bool x.b, .int .i64 x.n, .string x.t, .slice a x.l.length c] T (0, 0))) (hg : g < hi) (hs : isL w 0 hi (.slice a x.l.length c) x.l) :
    isL w 0 hi (.slice (some ⟨g, 0, none⟩) 1 1) [x] := by
  have q := fun o => cell_of h o
  refine isL_mk (l := [x]) (cap := 1) (b := g) (off := 0) (by simp) (fun _ => ⟨rfl, Nat.zero_le _, hg⟩) ?_
  intro i hi'
  obtain rfl : i = 0 := by simp at hi'; omega
  exact cellsV_mk (s := .slice a x.l.length c) ((q _).trans rfl) ((q _).trans rfl) ((q _).trans rfl) ((q _).trans rfl) ((q _).trans rfl) hs
theorem app1 {x : GV} (hx : vmay x = true) (g : GV → GV → GV × Int) : appP 1 g [x] = g x x := by
  unfold appP
  rw [if_pos ⟨rfl, by simp [badL, hx]⟩]; rfl
end Go.Proofs.Ytljljhjdlicfeaa
