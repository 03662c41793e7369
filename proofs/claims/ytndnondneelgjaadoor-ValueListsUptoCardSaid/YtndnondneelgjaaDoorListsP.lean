/-
  Lists as values: parts of a list; what holds of a list that may be. Conditions: none.
-/
import Derived.Test.YtndnondneelgjaaDoorTwo
import Derived.Test.YtndnondneelgjaaDoorTextUniq
import Derived.Test.YtndnondneelgjaaDoorPlus
import Derived.Test.YtndnondneelgjaaDoorHas
namespace Go.Proofs.YtndnondneelgjaaDoor
open Go Go.RowKit
set_option maxRecDepth 100000
set_option linter.unusedVariables false
theorem apply_add (l : List GV) (hll : l.length ≤ 2147483647) (fl : fitL l) (s : Value) (w : World) (B : Nat) (hB : B ≤ w.heap.size) (hs : isL w 0 B s l) :
    Calls Tryd.prog 19 #[.int .i64 16, s] w (GivesO w (appP 2 plusP l)) :=
  apply_op 16 2 (by decide) 70 (fun _ => #[]) (fun _ _ => True) plusP l hll fl Tryd.call70 (fun _ => do_plus) (fun _ _ _ _ _ => trivial) (fun h => ⟨8, rfl⟩) s w B hB hs
theorem apply_size (l : List GV) (hll : l.length ≤ 2147483647) (fl : fitL l) (s : Value) (w : World) (B : Nat) (hB : B ≤ w.heap.size) (hs : isL w 0 B s l) :
    Calls Tryd.prog 19 #[.int .i64 21, s] w (GivesO w (appP 1 sizeP l)) :=
  apply_op 21 1 (by decide) 74 (fun _ => #[]) (fun _ _ => True) sizeP l hll fl Tryd.call74 (fun _ => do_size) (fun _ _ _ _ _ => trivial) (fun h => ⟨13, rfl⟩) s w B hB hs
theorem apply_has (l : List GV) (hll : l.length ≤ 2147483647) (fl : fitL l) (s : Value) (w : World) (B : Nat) (hB : B ≤ w.heap.size) (hs : isL w 0 B s l) :
    Calls Tryd.prog 19 #[.int .i64 22, s] w (GivesO w (appP 2 hasP l)) :=
  apply_op 22 2 (by decide) 76 (fun _ => #[]) (fun _ _ => True) hasP l hll fl Tryd.call76 (fun _ => do_has) (fun _ _ _ _ _ => trivial) (fun h => ⟨14, rfl⟩) s w B hB hs
def gL (l : List GV) : GV := ⟨4, false, 0, ⟨#[]⟩, l⟩
theorem gL_fit {l : List GV} (h : fitL l) (hl : l.length ≤ 2147483647) : (gL l).fit := by
  unfold gL
  simp only [GV.fit]
  exact ⟨by decide, by decide, by decide, by decide, by decide, hl, h⟩
theorem gL_may (l : List GV) : vmay (gL l) = (decide (l.length ≤ 4096) && chkL l 1) := by
  unfold vmay
  rw [chk_eq]
  simp [gL, chkFlat]
  rfl
theorem chkL_app (l m : List GV) (d : Nat) : chkL (l ++ m) d = (chkL l d && chkL m d) := by
  induction l with
  | nil => rfl
  | cons x r ih => simp only [List.cons_append, chkL, ih, Bool.and_assoc]
theorem may_app {l m : List GV} (h1 : vmay (gL l) = true) (h2 : vmay (gL m) = true) (hl : (l ++ m).length ≤ 4096) : vmay (gL (l ++ m)) = true := by
  rw [gL_may, Bool.and_eq_true] at *
  rw [chkL_app, h1.2, h2.2]
  exact ⟨decide_eq_true hl, rfl⟩
theorem empty_app : (⟨#[]⟩ : ByteArray) ++ ⟨#[]⟩ = ⟨#[]⟩ := text_eq (by simp)
theorem plus_lists {l m : List GV} (hl : l.length + m.length ≤ 4096) : plusP (gL l) (gL m) = (gL (l ++ m), 0) := by
  unfold plusP
  rw [if_neg (by simp [gL]), if_pos (by simp [gL]), if_pos (by refine ⟨?_, by simpa [gL] using hl⟩; show (0 + 0 : Nat) ≤ 65536; omega)]
  simp only [gL, empty_app]
theorem size_list (l : List GV) : sizeP (gL l) (gL l) = numP l.length := by
  unfold sizeP
  rw [if_pos (by simp [gL])]
  have : (gL l).t.size = 0 := rfl
  rw [this]
  simp [gL]
theorem has_in {l : List GV} {y : GV} (h : y ∈ l) : hasP (gL l) y = truthP true := by
  unfold hasP
  rw [if_pos (by simp [gL])]
  have : hasL (gL l).l y = true := List.any_eq_true.2 ⟨y, h, (same_iff y y).2 rfl⟩
  rw [this]
theorem fitL_sub : ∀ {l m : List GV}, fitL l → (∀ x ∈ m, x ∈ l) → fitL m
  | _, [], _, _ => trivial
  | l, y :: r, h, hs => ⟨fitL_mem h y (hs y (by simp)), fitL_sub h (fun x hx => hs x (by simp [hx]))⟩
theorem isL_take {w : World} {B b off c : Nat} {l : List GV} (hc : l.length ≤ c) (hb : b < B) (hA : ∀ i (h : i < l.length), cellsV w 0 B l[i] b (off + i * 5)) (k : Nat) (hk : k ≤ l.length) : isL w 0 B (.slice (some ⟨b, off, none⟩) k c) (l.take k) := by
  have e : (l.take k).length = k := by simp; omega
  have h := isL_mk (w := w) (lo := 0) (hi := B) (l := l.take k) (a := some ⟨b, off, none⟩) (cap := c) (b := b) (off := off) (by omega) (fun _ => ⟨rfl, Nat.zero_le _, hb⟩) (fun i hi => by
    have := hA i (by omega)
    rw [List.getElem_take]; exact this)
  rwa [e] at h
theorem isL_drop {w : World} {B b off c : Nat} {l : List GV} (hc : l.length ≤ c) (hb : b < B) (hA : ∀ i (h : i < l.length), cellsV w 0 B l[i] b (off + i * 5)) (k : Nat) (hk : k ≤ l.length) : isL w 0 B (.slice (some ⟨b, off + k * 5, none⟩) (l.length - k) (c - k)) (l.drop k) := by
  have e : (l.drop k).length = l.length - k := by simp
  have h := isL_mk (w := w) (lo := 0) (hi := B) (l := l.drop k) (a := some ⟨b, off + k * 5, none⟩) (cap := c - k) (b := b) (off := off + k * 5) (by omega) (fun _ => ⟨rfl, Nat.zero_le _, hb⟩) (fun i hi => by
    have := hA (k + i) (by omega)
    rw [List.getElem_drop, show off + k * 5 + i * 5 = off + (k + i) * 5 by omega]; exact this)
  rwa [e] at h
theorem isL_twoG {w : World} {B g n1 n2 c1 c2 : Nat} {l m : List GV} {a1 a2 : Option Addr} {T : TypeId} (e1 : l.length = n1) (e2 : m.length = n2) (hB : B ≤ g + 1) (h : w.heap[g]? = some (.cells #[.int .i64 4, .bool false, .int .i64 0, .string { data := #[] }, .slice a1 n1 c1, .int .i64 4, .bool false, .int .i64 0, .string { data := #[] }, .slice a2 n2 c2] T (0, 0)))
    (hx : isL w 0 B (.slice a1 n1 c1) l) (hy : isL w 0 B (.slice a2 n2 c2) m) : isL w 0 (g + 1) (.slice (some ⟨g, 0, none⟩) 2 2) [gL l, gL m] := by
  subst e1
  subst e2
  exact isL_two (x := gL l) (y := gL m) hB h hx hy
/-- the sum of two parts of a list -/
theorem add_parts (l : List GV) (k : Nat) (hk : k ≤ l.length) (hlen : l.length ≤ 4096) (fl : fitL l) (hva : vmay (gL (l.take k)) = true) (hvb : vmay (gL (l.drop k)) = true) (a1 a2 : Option Addr) (c1 c2 : Nat) (w : World) (B : Nat) (hB : B ≤ w.heap.size)
    (hx : isL w 0 B (.slice a1 k c1) (l.take k)) (hy : isL w 0 B (.slice a2 (l.length - k) c2) (l.drop k)) :
    Calls Tryd.prog 19 #[.int .i64 16, .slice (some ⟨w.heap.size, 0, none⟩) 2 2] (w.alloc (.cells #[.int .i64 4, .bool false, .int .i64 0, .string { data := #[] }, .slice a1 k c1, .int .i64 4, .bool false, .int .i64 0, .string { data := #[] }, .slice a2 (l.length - k) c2] 28))
      fun e w' => ∃ a c, e = .returned (.tuple #[.agg #[.int .i64 4, .bool false, .int .i64 0, .string { data := #[] }, .slice a l.length c], .int .i64 0]) ∧ isL w' 0 w'.heap.size (.slice a l.length c) l ∧ Below w.heap.size w w' := by
  have e1 : (l.take k).length = k := by simp; omega
  have e2 : (l.drop k).length = l.length - k := by simp
  have hb := (Below.refl w.heap.size w).alloc (Nat.le_refl _) (.cells #[.int .i64 4, .bool false, .int .i64 0, .string { data := #[] }, .slice a1 k c1, .int .i64 4, .bool false, .int .i64 0, .string { data := #[] }, .slice a2 (l.length - k) c2] 28)
  have f1 : fitL (l.take k) := fitL_sub fl (fun x hx => List.mem_of_mem_take hx)
  have f2 : fitL (l.drop k) := fitL_sub fl (fun x hx => List.mem_of_mem_drop hx)
  have hsum : appP 2 plusP [gL (l.take k), gL (l.drop k)] = (gL l, 0) := by
    rw [app2 hva hvb, plus_lists (by rw [e1, e2]; omega), List.take_append_drop]
  have h := apply_add [gL (l.take k), gL (l.drop k)] (by simp) ⟨gL_fit f1 (by omega), gL_fit f2 (by omega), trivial⟩ (.slice (some ⟨w.heap.size, 0, none⟩) 2 2) _ (w.heap.size + 1) (by simp) (isL_twoG e1 e2 (by omega) heap_last (isL_below hx hb hB) (isL_below hy hb hB))
  refine h.mono ?_
  rintro e w' hgv
  rw [hsum] at hgv
  obtain ⟨a, c, rfl, hr, hb2⟩ := hgv
  exact ⟨a, c, rfl, isR_isL hr (fun b hb => ⟨Nat.zero_le _, hb.2⟩), below_down hb hb2 (Nat.le_refl _)⟩
theorem size_of (l : List GV) (fl : fitL l) (hl : l.length ≤ 2147483647) (hv : vmay (gL l) = true) (a : Option Addr) (c : Nat) (w : World) (hx : isL w 0 w.heap.size (.slice a l.length c) l) :
    Calls Tryd.prog 19 #[.int .i64 21, .slice (some ⟨w.heap.size + 1, 0, none⟩) 1 1] ((w.alloc (.cells #[.int .i64 4, .bool false, .int .i64 0, .string { data := #[] }, .slice a l.length c] 28)).alloc (.cells #[.int .i64 4, .bool false, .int .i64 0, .string { data := #[] }, .slice a l.length c] 28))
      fun e w' => ∃ a2 c2, e = .returned (.tuple #[.agg #[.int .i64 2, .bool false, .int .i64 (l.length : Nat), .string { data := #[] }, .slice a2 0 c2], .int .i64 0]) ∧ Below (w.heap.size + 2) ((w.alloc (.cells #[.int .i64 4, .bool false, .int .i64 0, .string { data := #[] }, .slice a l.length c] 28)).alloc (.cells #[.int .i64 4, .bool false, .int .i64 0, .string { data := #[] }, .slice a l.length c] 28)) w' := by
  have hb : Below w.heap.size w ((w.alloc (.cells #[.int .i64 4, .bool false, .int .i64 0, .string { data := #[] }, .slice a l.length c] 28)).alloc (.cells #[.int .i64 4, .bool false, .int .i64 0, .string { data := #[] }, .slice a l.length c] 28)) := ((Below.refl _ _).alloc (Nat.le_refl _) _).alloc (by simp) _
  have h := apply_size [gL l] (by simp) ⟨gL_fit fl hl, trivial⟩ (.slice (some ⟨w.heap.size + 1, 0, none⟩) 1 1) ((w.alloc (.cells #[.int .i64 4, .bool false, .int .i64 0, .string { data := #[] }, .slice a l.length c] 28)).alloc (.cells #[.int .i64 4, .bool false, .int .i64 0, .string { data := #[] }, .slice a l.length c] 28)) (w.heap.size + 2) (by simp) (isL_one (x := gL l) (g := w.heap.size + 1) heap_second (by omega) (isL_wide (isL_below hx hb (Nat.le_refl _)) (Nat.le_refl _) (by omega)))
  refine h.mono ?_
  rintro e w' hgv
  rw [app1 hv, size_list] at hgv
  obtain ⟨a2, c2, rfl, hr, hb2⟩ := hgv
  exact ⟨a2, c2, rfl, by simpa using hb2⟩
theorem has_at (l : List GV) (y : GV) (hy : y ∈ l) (fl : fitL l) (hl : l.length ≤ 2147483647) (hv : vmay (gL l) = true) (a ay : Option Addr) (c cy g D : Nat) (w : World) (hD : D ≤ g) (hg : w.heap[g]? = some (.cells #[.int .i64 4, .bool false, .int .i64 0, .string { data := #[] }, .slice a l.length c, .int .i64 y.k, .bool y.b, .int .i64 y.n, .string y.t, .slice ay y.l.length cy] 28 (0, 0))) (hx : isL w 0 D (.slice a l.length c) l) (hsy : isL w 0 D (.slice ay y.l.length cy) y.l) :
    Calls Tryd.prog 19 #[.int .i64 22, .slice (some ⟨g, 0, none⟩) 2 2] w
      fun e w' => ∃ a2 c2, e = .returned (.tuple #[.agg #[.int .i64 1, .bool true, .int .i64 0, .string { data := #[] }, .slice a2 0 c2], .int .i64 0]) ∧ Below w.heap.size w w' := by
  have hlt : g < w.heap.size := (Array.getElem?_eq_some_iff.1 hg).1
  have hvy : vmay y = true := may_mem (x := gL l) hv rfl y hy
  have h := apply_has [gL l, y] (by simp) ⟨gL_fit fl hl, fitL_mem fl y hy, trivial⟩ (.slice (some ⟨g, 0, none⟩) 2 2) w (g + 1) hlt (isL_two (x := gL l) (y := y) (B := D) (by omega) hg hx hsy)
  refine h.mono ?_
  rintro e w' hgv
  rw [app2 hv hvy, has_in hy] at hgv
  obtain ⟨a2, c2, rfl, hr, hb2⟩ := hgv
  exact ⟨a2, c2, rfl, hb2⟩
theorem rel_end {w w9 we : World} {o : Obj} (hb : Below w.heap.size w w9) (hx : w9.heap[w.heap.size]? = some o) (hl : w.heap.size < w9.heap.size) (key : Below w9.heap.size w9 we) : Below w.heap.size w we ∧ w.heap.size + 1 ≤ we.heap.size ∧ Hid (we.heap[w.heap.size]? = some o) :=
  ⟨below_down hb key (Nat.le_refl _), Nat.le_trans hl key.size, (key.block _ hl).trans hx⟩
theorem le_alloc {n : Nat} {w : World} {o : Obj} (h : n ≤ w.heap.size) : n ≤ (w.alloc o).heap.size := by simp; omega
end Go.Proofs.YtndnondneelgjaaDoor
