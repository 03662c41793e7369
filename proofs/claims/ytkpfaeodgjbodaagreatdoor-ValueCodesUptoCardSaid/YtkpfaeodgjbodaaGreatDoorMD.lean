/-
  Lists of values in memory that a call has made itself: they may be written over. Conditions: none.
-/
import Derived.Test.YtkpfaeodgjbodaaGreatDoorMA
import Derived.Maps.AppendAt
import Derived.Test.YtkpfaeodgjbodaaGreatDoorProg
import Derived.WalkLawsBesides
import Derived.Deep.QuietTactic
import Derived.BigQuiet
import Derived.Outline
namespace Go.Proofs.YtkpfaeodgjbodaaGreatDoor
open Go Go.RowKit
set_option linter.unusedVariables false
/-- the whole capacity lies in a block of S, free to be written -/
def room (w : World) (S : Nat → Prop) : Option Addr → Nat → Prop := fun a c => 0 < c → ∃ b off cs T, a = some ⟨b, off, none⟩ ∧ S b ∧ w.heap[b]? = some (.cells cs T (0, 0)) ∧ off % 5 = 0 ∧ off + 5 * c ≤ cs.size
/-- the slice s reads as l, all in blocks of S, with room -/
def isR (w : World) (S : Nat → Prop) (s : Value) (l : List GV) : Prop := isS w S (room w S) s l
/-- the blocks from lo on that are there -/
def since (lo : Nat) (w : World) : Nat → Prop := fun b => lo ≤ b ∧ b < w.heap.size

theorem isR_mono {w w' : World} {S S' : Nat → Prop} {s : Value} {l : List GV} (h : isR w S s l) (hw : ∀ b, S b → w'.heap[b]? = w.heap[b]?) (h1 : ∀ b, S b → S' b) : isR w' S' s l :=
  isS_mono h (fun b off g => World.cell?_of_block (w := w) (a := ⟨b, off, none⟩) (hw b g)) h1 (fun a c hr hc => by
    obtain ⟨b, off, cs, T, ea, hb, hh, hs⟩ := hr hc
    exact ⟨b, off, cs, T, ea, h1 b hb, by rw [hw b hb, hh], hs⟩)
theorem isR_isL {w : World} {S : Nat → Prop} {s : Value} {l : List GV} {lo hi : Nat} (h : isR w S s l) (h1 : ∀ b, S b → lo ≤ b ∧ b < hi) : isL w lo hi s l :=
  isS_mono h (fun _ _ _ => rfl) h1 (fun _ _ _ => trivial)
theorem isR_below {w w' : World} {S : Nat → Prop} {s : Value} {l : List GV} {B : Nat} (h : isR w S s l) (hb : Below B w w') (hS : ∀ b, S b → b < B) : isR w' S s l :=
  isR_mono h (fun b hs => hb.block b (hS b hs)) (fun _ h => h)

theorem isR_setCell {w : World} {S : Nat → Prop} {s : Value} {l : List GV} (h : isR w S s l) {p : Addr} (hp : ¬ S p.block) (u : Value) : isR (w.setCell p u) S s l :=
  isR_mono h (fun b hb => Below.heap_setCell _ _ _ _ (fun e => hp (e ▸ hb))) (fun _ h => h)
theorem isR_sub {w : World} {S S' : Nat → Prop} {s : Value} {l : List GV} (h : isR w S s l) (h1 : ∀ b, S b → S' b) : isR w S' s l := isR_mono h (fun _ _ => rfl) h1

/-- the cells of values, one behind the other -/
def flat : List GV → List Value → List Value
  | x :: r, s :: t => .int .i64 x.k :: .bool x.b :: .int .i64 x.n :: .string x.t :: s :: flat r t
  | _, _ => []
theorem flat_length : ∀ (l : List GV) (ss : List Value), ss.length = l.length → (flat l ss).length = l.length * 5
  | [], [], _ => rfl
  | x :: r, s :: t, h => by
    have := flat_length r t (by simpa using h)
    simp only [flat, List.length_cons, this]
    omega
  | [], _ :: _, h => by simp at h
  | _ :: _, [], h => by simp at h
theorem flat_append : ∀ (l : List GV) (ss : List Value) (y : GV) (s : Value), ss.length = l.length →
    flat (l ++ [y]) (ss ++ [s]) = flat l ss ++ [.int .i64 y.k, .bool y.b, .int .i64 y.n, .string y.t, s]
  | [], [], _, _, _ => rfl
  | x :: r, s :: t, y, u, h => by simp [flat, flat_append r t y u (by simpa using h)]
  | [], _ :: _, _, _, h => by simp at h
  | _ :: _, [], _, _, h => by simp at h
theorem flat_get : ∀ (l : List GV) (ss : List Value) (i : Nat) (h : i < l.length) (h' : i < ss.length),
    (flat l ss)[i * 5]? = some (.int .i64 l[i].k) ∧ (flat l ss)[i * 5 + 1]? = some (.bool l[i].b) ∧ (flat l ss)[i * 5 + 2]? = some (.int .i64 l[i].n) ∧ (flat l ss)[i * 5 + 3]? = some (.string l[i].t) ∧ (flat l ss)[i * 5 + 4]? = some ss[i]
  | x :: r, s :: t, 0, _, _ => by simp [flat]
  | x :: r, s :: t, i + 1, h, h' => by
    have := flat_get r t i (by simpa using h) (by simpa using h')
    rw [show (i + 1) * 5 = i * 5 + 5 from by omega]
    simpa [flat] using this

/-- v is a slice that the call itself has made, from block base on, of just these values; what stands in their lists lies elsewhere, made by the call too -/
def ownL (w : World) (base : Nat) (T : TypeId) (v : Value) (l : List GV) : Prop :=
  ∃ ss : List Value, ss.length = l.length ∧ w.ownsRow base T 5 v l.length (flat l ss) ∧
    ∀ i (h : i < l.length) (h' : i < ss.length), isR w (fun b => since base w b ∧ some b ≠ v.ownBlock) ss[i] l[i].l

theorem ownL_nil (w : World) (base : Nat) (T : TypeId) : ownL w base T (.slice none 0 0) [] :=
  ⟨[], rfl, ⟨by simp [flat], .inl ⟨rfl, rfl⟩⟩, fun i h => by simp at h⟩

theorem ownBlock_lt {w : World} {base : Nat} {T : TypeId} {size n : Nat} {v : Value} {xs : List Value} (h : w.ownsRow base T size v n xs) {g : Nat} (hg : v.ownBlock = some g) : base ≤ g ∧ g < w.heap.size := by
  obtain ⟨_, h | ⟨g', cap, cur, e, hb, hh, _⟩⟩ := h
  · rw [h.1] at hg; simp [Value.ownBlock] at hg
  · subst e
    simp [Value.ownBlock] at hg
    subst hg
    exact ⟨hb, by
      rcases Nat.lt_or_ge g' w.heap.size with h | h
      · exact h
      · rw [Array.getElem?_eq_none h] at hh; cases hh⟩

theorem isS_form {w : World} {S : Nat → Prop} {rm : Option Addr → Nat → Prop} {s : Value} {l : List GV} (h : isS w S rm s l) : ∃ a c, s = .slice a l.length c := by
  obtain ⟨a, c, e, _⟩ := h
  exact ⟨a, c, e⟩
/-- the cells of a literal, in the block that it has just been laid in -/
theorem news_last {w : World} {l : List Value} {T : TypeId} {j : Nat} {u : Value} (h : l[j]? = some u) : (w.alloc (.cells l.toArray T)).cell? ((⟨w.heap.size, 0, none⟩ : Addr).add j) = some u := by
  have e : (⟨w.heap.size, 0, none⟩ : Addr).add j = ⟨w.heap.size, j, none⟩ := by
    unfold Addr.add
    split
    · rename_i h0; subst h0; rfl
    · simp
  rw [e, cell_last]
  simpa using h

/-- old blocks are as they were: the call's list is still there -/
theorem ownL_keep {w w' : World} {base : Nat} {T : TypeId} {v : Value} {l : List GV} (h : ownL w base T v l) (hb : Below w.heap.size w w') : ownL w' base T v l := by
  obtain ⟨ss, hl, hown, hin⟩ := h
  refine ⟨ss, hl, ?_, fun i h h' => isR_mono (hin i h h') (fun b hb' => hb.block b hb'.1.2) (fun b g => ⟨⟨g.1.1, Nat.lt_of_lt_of_le g.1.2 hb.size⟩, g.2⟩)⟩
  obtain ⟨h1, h2⟩ := hown
  refine ⟨h1, ?_⟩
  rcases h2 with h2 | ⟨g, cap, cur, e, hg, hh, r⟩
  · exact .inl h2
  · refine .inr ⟨g, cap, cur, e, hg, ?_, r⟩
    have : g < w.heap.size := by
      rcases Nat.lt_or_ge g w.heap.size with h | h
      · exact h
      · rw [Array.getElem?_eq_none h] at hh; cases hh
    rw [hb.block g this]; exact hh

/-- one value more, behind an append -/
theorem ownL_push {w w1 w2 : World} {base : Nat} {T : TypeId} {v v' s : Value} {l : List GV} {y : GV} {o : Obj} {ss : List Value} {n : Nat} (hn : n = l.length + 1) (hl : ss.length = l.length)
    (hin : ∀ i (h : i < l.length) (h2 : i < ss.length), isR w (fun b => since base w b ∧ some b ≠ v.ownBlock) ss[i] l[i].l)
    (hw1 : w1 = w.alloc o) (hs : isR w (fun b => since base w b ∧ some b ≠ v.ownBlock) s y.l)
    (h' : w2.ownsRow base T 5 v' n (flat l ss ++ [.int .i64 y.k, .bool y.b, .int .i64 y.n, .string y.t, s])) (hg : w1.grownBy w2 v.ownBlock)
    (hat : v'.ownBlock = v.ownBlock ∨ v'.ownBlock = some (w.heap.size + 1)) : ownL w2 base T v' (l ++ [y]) := by
  subst hn
  have hsz : w.heap.size + 1 ≤ w2.heap.size := by have := hg.size; rw [hw1] at this; simpa using this
  have key : ∀ b, (since base w b ∧ some b ≠ v.ownBlock) → w2.heap[b]? = w.heap[b]? := fun b hb => by
    have h1 : b < w1.heap.size := by rw [hw1]; simp; have := hb.1.2; omega
    rw [hg.block b h1 hb.2, hw1]
    exact Below.heap_alloc _ _ _ hb.1.2
  have sub : ∀ b, (since base w b ∧ some b ≠ v.ownBlock) → (since base w2 b ∧ some b ≠ v'.ownBlock) := fun b hb => by
    refine ⟨⟨hb.1.1, by have := hb.1.2; omega⟩, ?_⟩
    rcases hat with e | e
    · rw [e]; exact hb.2
    · rw [e]; have := hb.1.2; simp; omega
  refine ⟨ss ++ [s], by simp [hl], ?_, fun i h h2 => ?_⟩
  · rw [flat_append l ss y s hl]; simpa using h'
  · by_cases hi : i < l.length
    · have := isR_mono (hin i hi (by omega)) key sub
      rw [List.getElem_append_left (by omega), List.getElem_append_left hi]
      exact this
    · have e : i = l.length := by simp at h; omega
      have := isR_mono hs key sub
      subst e
      rw [List.getElem_append_right (by omega), List.getElem_append_right (by omega)]
      simpa [hl] using this

/-- the list as it is handed back -/
theorem ownL_isR {w : World} {base : Nat} {T : TypeId} {v : Value} {l : List GV} (h : ownL w base T v l) : isR w (since base w) v l := by
  obtain ⟨ss, hl, hown, hin⟩ := h
  have hown' := hown
  obtain ⟨h1, h2 | ⟨g, cap, cur, e, hg, hh, hn, hcap, hsz, htk⟩⟩ := hown
  · have : l = [] := List.eq_nil_of_length_eq_zero h2.2
    subst this
    rw [h2.1]
    exact ⟨none, 0, rfl, Nat.le_refl _, fun h => by simp at h, fun h => by simp at h⟩
  · subst e
    have hlt := (ownBlock_lt hown' (g := g) rfl).2
    have hcell : ∀ j, j < l.length * 5 → w.cell? ⟨g, 0 + j, none⟩ = (flat l ss)[j]? := fun j hj => by
      rw [← htk, List.getElem?_take, if_pos hj]
      simp [World.cell?, hh]
    refine isS_mk hn (fun hc => ⟨g, 0, cur, T, rfl, ⟨hg, hlt⟩, hh, rfl, by omega⟩) (fun _ => ⟨rfl, hg, hlt⟩) fun i hi => ?_
    obtain ⟨a0, a1, a2, a3, a4⟩ := flat_get l ss i hi (by omega)
    have q := isR_mono (hin i hi (by omega)) (w' := w) (S' := since base w) (fun _ _ => rfl) (fun b hb => hb.1)
    exact cellsS_mk (s := ss[i]) (by rw [hcell _ (by omega), a0]) (by rw [show 0 + i * 5 + 1 = 0 + (i * 5 + 1) from by omega, hcell _ (by omega), a1]) (by rw [show 0 + i * 5 + 2 = 0 + (i * 5 + 2) from by omega, hcell _ (by omega), a2])
      (by rw [show 0 + i * 5 + 3 = 0 + (i * 5 + 3) from by omega, hcell _ (by omega), a3]) (by rw [show 0 + i * 5 + 4 = 0 + (i * 5 + 4) from by omega, hcell _ (by omega), a4]) q
end Go.Proofs.YtkpfaeodgjbodaaGreatDoor
/-
  What the references' CopyVals and CopyValue make: the same values in memory of their own. Conditions: lists shorter than 2^31.
-/
namespace Go.Proofs.YtkpfaeodgjbodaaGreatDoor
open Go Go.RowKit
set_option maxRecDepth 100000
set_option linter.unusedVariables false
/-- a list is handed back, in memory of its own -/
def GivesL (w : World) (l : List GV) (e : Ending) (w' : World) : Prop := ∃ a c, e = .returned (.slice a l.length c) ∧ isR w' (since w.heap.size w') (.slice a l.length c) l ∧ Below w.heap.size w w'
/-- a value is handed back, its lists in memory of their own -/
def GivesV (w : World) (x : GV) (e : Ending) (w' : World) : Prop := ∃ a c, e = .returned (x.agg (.slice a x.l.length c)) ∧ isR w' (since w.heap.size w') (.slice a x.l.length c) x.l ∧ Below w.heap.size w w'
def CopyLC (f : Nat) (l : List GV) : Prop := ∀ (s : Value) (w : World) (B : Nat), B ≤ w.heap.size → isL w 0 B s l → Calls Tryz.prog f #[s] w (GivesL w l)
def CopyVC (f : Nat) (x : GV) : Prop := ∀ (s : Value) (w : World) (B : Nat), B ≤ w.heap.size → isL w 0 B s x.l → Calls Tryz.prog f #[x.agg s] w (GivesV w x)

theorem frozen_of {w : World} {b : Nat} {cs : Array Value} {T : TypeId} (h : w.heap[b]? = some (.cells cs T (0, 0))) (o : Nat) : w.frozen? ⟨b, o, none⟩ = false := by
  simp [World.frozen?, h]
theorem cell_of {w : World} {b : Nat} {cs : Array Value} {T : TypeId} (h : w.heap[b]? = some (.cells cs T (0, 0))) (o : Nat) : w.cell? ⟨b, o, none⟩ = cs[o]? := by
  simp [World.cell?, h]
theorem heap_last {w : World} {o : Obj} : (w.alloc o).heap[w.heap.size]? = some o := by
  rw [show (w.alloc o).heap = w.heap.push o from rfl, Array.getElem?_push, if_pos rfl]
theorem heap_two {w : World} {o o2 : Obj} : ((w.alloc o).alloc o2).heap[w.heap.size]? = some o := by
  rw [show ((w.alloc o).alloc o2).heap = (w.heap.push o).push o2 from rfl, Array.getElem?_push, if_neg (by simp), Array.getElem?_push, if_pos rfl]
theorem heap_second {w : World} {o o2 : Obj} : ((w.alloc o).alloc o2).heap[w.heap.size + 1]? = some o2 := by
  have := @heap_last (w.alloc o) o2
  rwa [show (w.alloc o).heap.size = w.heap.size + 1 from by simp] at this

theorem vinfo : (Tryz.prog.info? 33).map (fun i => (i.zero, i.size, i.bytes)) = some (some (.agg #[.int .i64 0, .bool false, .int .i64 0, .string { data := #[] }, .slice none 0 0]), 5, 64) := by kernel_rfl
end Go.Proofs.YtkpfaeodgjbodaaGreatDoor
