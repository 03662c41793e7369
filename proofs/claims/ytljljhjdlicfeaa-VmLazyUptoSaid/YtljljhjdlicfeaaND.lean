/-
  Instructions as plain Lean types; a slice of them that a call has made itself. Conditions: none.
-/
import Derived.Test.YtljljhjdlicfeaaExpr
import Derived.Test.YtljljhjdlicfeaaMD
namespace Go.Proofs.Ytljljhjdlicfeaa
open Go Go.RowKit
set_option linter.unusedVariables false
/-- an instruction: what it does, its number, its text, its value -/
structure GI where
  op : Int
  arg : Int
  s : ByteArray
  v : GV
  deriving Inhabited
def GI.agg (x : GI) (sl : Value) : Value := .agg #[.int .i64 x.op, .int .i64 x.arg, .string x.s, .int .i64 x.v.k, .bool x.v.b, .int .i64 x.v.n, .string x.v.t, sl]
def flatI : List GI → List Value → List Value
  | x :: r, s :: t => .int .i64 x.op :: .int .i64 x.arg :: .string x.s :: .int .i64 x.v.k :: .bool x.v.b :: .int .i64 x.v.n :: .string x.v.t :: s :: flatI r t
  | _, _ => []
theorem flatI_length : ∀ (l : List GI) (ss : List Value), ss.length = l.length → (flatI l ss).length = l.length * 8
  | [], [], _ => rfl
  | x :: r, s :: t, h => by
    have := flatI_length r t (by simpa using h)
    simp only [flatI, List.length_cons, this]
    omega
  | [], _ :: _, h => by simp at h
  | _ :: _, [], h => by simp at h
theorem flatI_append : ∀ (l : List GI) (ss : List Value) (y : GI) (s : Value), ss.length = l.length →
    flatI (l ++ [y]) (ss ++ [s]) = flatI l ss ++ [.int .i64 y.op, .int .i64 y.arg, .string y.s, .int .i64 y.v.k, .bool y.v.b, .int .i64 y.v.n, .string y.v.t, s]
  | [], [], _, _, _ => rfl
  | x :: r, s :: t, y, u, h => by simp [flatI, flatI_append r t y u (by simpa using h)]
  | [], _ :: _, _, _, h => by simp at h
  | _ :: _, [], _, _, h => by simp at h
theorem flatI_get : ∀ (l : List GI) (ss : List Value) (i : Nat) (h : i < l.length) (h' : i < ss.length),
    (flatI l ss)[i * 8]? = some (.int .i64 l[i].op) ∧ (flatI l ss)[i * 8 + 1]? = some (.int .i64 l[i].arg) ∧ (flatI l ss)[i * 8 + 2]? = some (.string l[i].s) ∧ (flatI l ss)[i * 8 + 3]? = some (.int .i64 l[i].v.k) ∧
    (flatI l ss)[i * 8 + 4]? = some (.bool l[i].v.b) ∧ (flatI l ss)[i * 8 + 5]? = some (.int .i64 l[i].v.n) ∧ (flatI l ss)[i * 8 + 6]? = some (.string l[i].v.t) ∧ (flatI l ss)[i * 8 + 7]? = some ss[i]
  | x :: r, s :: t, 0, _, _ => by simp [flatI]
  | x :: r, s :: t, i + 1, h, h' => by
    have := flatI_get r t i (by simpa using h) (by simpa using h')
    rw [show (i + 1) * 8 = i * 8 + 8 from by omega]
    simpa [flatI] using this
theorem flatI_set : ∀ (l : List GI) (ss : List Value) (i : Nat) (h : i < l.length) (n : Int), ss.length = l.length → (flatI l ss).set (i * 8 + 1) (.int .i64 n) = flatI (l.set i { l[i] with arg := n }) ss
  | x :: r, s :: t, 0, _, n, _ => by simp [flatI]
  | x :: r, s :: t, i + 1, h, n, g => by
    have := flatI_set r t i (by simpa using h) n (by simpa using g)
    rw [show (i + 1) * 8 + 1 = i * 8 + 1 + 1 + 1 + 1 + 1 + 1 + 1 + 1 + 1 from by omega]
    simpa [flatI] using this
  | _ :: _, [], _, _, _, g => by simp at g

/-- the blocks where the values' lists lie -/
def inS (w : World) (lo : Nat) (ob : Option Nat) : Nat → Prop := fun b => lo ≤ b ∧ b < w.heap.size ∧ some b ≠ ob
/-- a value's list, with room to be written over or without -/
def inner (full : Bool) (w : World) (lo : Nat) (ob : Option Nat) (s : Value) (l : List GV) : Prop := isS w (inS w lo ob) (fun a c => full = true → room w (inS w lo ob) a c) s l
/-- the call's own slice moved at most to a new block -/
def moved (w : World) (ob ob' : Option Nat) : Prop := ob' = ob ∨ ∃ g, ob' = some g ∧ w.heap.size ≤ g
theorem inS_moved {w w' : World} {lo b : Nat} {ob ob' : Option Nat} (h : inS w lo ob b) (hs : w.heap.size ≤ w'.heap.size) (hm : moved w ob ob') : inS w' lo ob' b := by
  refine ⟨h.1, Nat.lt_of_lt_of_le h.2.1 hs, ?_⟩
  rcases hm with e | ⟨g, e, hg⟩
  · rw [e]; exact h.2.2
  · rw [e]; have := h.2.1; simp; omega
theorem inner_keep {full : Bool} {w w' : World} {lo : Nat} {ob ob' : Option Nat} {s : Value} {l : List GV} (h : inner full w lo ob s l) (hw : ∀ b, inS w lo ob b → w'.heap[b]? = w.heap[b]?) (hs : w.heap.size ≤ w'.heap.size) (hm : moved w ob ob') :
    inner full w' lo ob' s l :=
  isS_mono h (fun b off g => World.cell?_of_block (w := w) (a := ⟨b, off, none⟩) (hw b g)) (fun b g => inS_moved g hs hm) (fun a c hr hf hc => by
    obtain ⟨b, off, cs, T, ea, hb, hh, hs'⟩ := hr hf hc
    exact ⟨b, off, cs, T, ea, inS_moved hb hs hm, by rw [hw b hb, hh], hs'⟩)
theorem inner_of_isR {w : World} {S : Nat → Prop} {full : Bool} {lo : Nat} {ob : Option Nat} {s : Value} {l : List GV} (h : isR w S s l) (hS : ∀ b, S b → inS w lo ob b) : inner full w lo ob s l :=
  isS_mono h (fun _ _ _ => rfl) hS (fun a c hr _ hc => by
    obtain ⟨b, off, cs, T, ea, hb, r⟩ := hr hc
    exact ⟨b, off, cs, T, ea, hS b hb, r⟩)
theorem inner_nil {full : Bool} {w : World} {lo : Nat} {ob : Option Nat} : inner full w lo ob (.slice none 0 0) [] :=
  ⟨none, 0, rfl, Nat.le_refl _, fun _ h => by simp at h, fun h => by simp at h⟩
theorem inner_of_isL {w : World} {lo hi : Nat} {ob : Option Nat} {s : Value} {l : List GV} (h : isL w 0 hi s l) (hS : ∀ b, b < hi → b < w.heap.size ∧ some b ≠ ob) : inner false w 0 ob s l :=
  isS_mono h (fun _ _ _ => rfl) (fun b g => ⟨Nat.zero_le _, hS b g.2⟩) (fun _ _ _ h => by simp at h)
theorem inner_isR {w : World} {lo : Nat} {ob : Option Nat} {s : Value} {l : List GV} (h : inner true w lo ob s l) : isR w (since lo w) s l :=
  isS_mono h (fun _ _ _ => rfl) (fun b g => ⟨g.1, g.2.1⟩) (fun a c hr hc => by
    obtain ⟨b, off, cs, T, ea, hb, r⟩ := hr rfl hc
    exact ⟨b, off, cs, T, ea, ⟨hb.1, hb.2.1⟩, r⟩)
theorem inner_isL {full : Bool} {w : World} {lo : Nat} {ob : Option Nat} {s : Value} {l : List GV} (h : inner full w lo ob s l) : isL w 0 w.heap.size s l :=
  isS_mono h (fun _ _ _ => rfl) (fun b g => ⟨Nat.zero_le _, g.2.1⟩) (fun _ _ _ => trivial)

/-- v is a slice that the call itself has made, of just these instructions -/
def ownI (full : Bool) (w : World) (lo base : Nat) (T : TypeId) (v : Value) (l : List GI) : Prop :=
  ∃ ss : List Value, ss.length = l.length ∧ w.ownsRow base T 8 v l.length (flatI l ss) ∧ ∀ i (h : i < l.length) (h' : i < ss.length), inner full w lo v.ownBlock ss[i] l[i].v.l
theorem ownI_nil (full : Bool) (w : World) (lo base : Nat) (T : TypeId) : ownI full w lo base T (.slice none 0 0) [] :=
  ⟨[], rfl, ⟨by simp [flatI], .inl ⟨rfl, rfl⟩⟩, fun i h => by simp at h⟩
theorem ownI_lt {full : Bool} {w : World} {lo base : Nat} {T : TypeId} {v : Value} {l : List GI} (h : ownI full w lo base T v l) {g : Nat} (hg : v.ownBlock = some g) : base ≤ g ∧ g < w.heap.size := by
  obtain ⟨ss, _, h, _⟩ := h
  exact ownBlock_lt h hg
theorem ownsRow_keep {w w' : World} {base : Nat} {T : TypeId} {sz n : Nat} {v : Value} {xs : List Value} (h : w.ownsRow base T sz v n xs) (hw : ∀ g, v.ownBlock = some g → w'.heap[g]? = w.heap[g]?) : w'.ownsRow base T sz v n xs := by
  obtain ⟨h1, h2⟩ := h
  refine ⟨h1, ?_⟩
  rcases h2 with h2 | ⟨g, cap, cur, e, hg, hh, r⟩
  · exact .inl h2
  · refine .inr ⟨g, cap, cur, e, hg, ?_, r⟩
    rw [hw g (by rw [e]; rfl)]; exact hh
/-- nothing of it has turned -/
theorem ownI_keep {full : Bool} {w w' : World} {lo base : Nat} {T : TypeId} {v : Value} {l : List GI} (h : ownI full w lo base T v l) (hw : ∀ b, b < w.heap.size → (lo ≤ b ∨ some b = v.ownBlock) → w'.heap[b]? = w.heap[b]?) (hs : w.heap.size ≤ w'.heap.size) : ownI full w' lo base T v l := by
  have hlt := fun g hg => ownI_lt h (g := g) hg
  obtain ⟨ss, hl, hown, hin⟩ := h
  exact ⟨ss, hl, ownsRow_keep hown (fun g hg => hw g (hlt g hg).2 (.inr hg.symm)), fun i h h' => inner_keep (hin i h h') (fun b hb => hw b hb.2.1 (.inl hb.1)) hs (.inl rfl)⟩
/-- one instruction more, behind an append -/
theorem ownI_push {full : Bool} {w w1 w2 : World} {lo base : Nat} {T : TypeId} {v v' s : Value} {l : List GI} {y : GI} {ss : List Value} {n : Nat} (hn : n = l.length + 1) (hl : ss.length = l.length)
    (hin : ∀ i (h : i < l.length) (h2 : i < ss.length), inner full w lo v.ownBlock ss[i] l[i].v.l) (hw1 : Below w.heap.size w w1) (hs : inner full w lo v.ownBlock s y.v.l)
    (h' : w2.ownsRow base T 8 v' n (flatI l ss ++ [.int .i64 y.op, .int .i64 y.arg, .string y.s, .int .i64 y.v.k, .bool y.v.b, .int .i64 y.v.n, .string y.v.t, s])) (hg : w1.grownBy w2 v.ownBlock)
    (hat : v'.ownBlock = v.ownBlock ∨ v'.ownBlock = some w1.heap.size) : ownI full w2 lo base T v' (l ++ [y]) ∧ moved w v.ownBlock v'.ownBlock := by
  subst hn
  have hsz : w.heap.size ≤ w2.heap.size := Nat.le_trans hw1.size hg.size
  have key : ∀ b, inS w lo v.ownBlock b → w2.heap[b]? = w.heap[b]? := fun b hb => by
    rw [hg.block b (Nat.lt_of_lt_of_le hb.2.1 hw1.size) hb.2.2]
    exact hw1.block b hb.2.1
  have hm : moved w v.ownBlock v'.ownBlock := by
    rcases hat with e | e
    · exact .inl e
    · exact .inr ⟨_, e, hw1.size⟩
  refine ⟨⟨ss ++ [s], by simp [hl], ?_, fun i h h2 => ?_⟩, hm⟩
  · rw [flatI_append l ss y s hl]; simpa using h'
  · by_cases hi : i < l.length
    · have := inner_keep (hin i hi (by omega)) key hsz hm
      rw [List.getElem_append_left (by omega), List.getElem_append_left hi]
      exact this
    · have e : i = l.length := by simp at h; omega
      have := inner_keep hs key hsz hm
      subst e
      rw [List.getElem_append_right (by omega), List.getElem_append_right (by omega)]
      simpa [hl] using this
/-- a jump's end, filled in -/
theorem ownI_set {full : Bool} {w : World} {lo base g : Nat} {T : TypeId} {v : Value} {l : List GI} (h : ownI full w lo base T v l) (hg : v.ownBlock = some g) {k : Nat} (hk : k < l.length) (n : Int) :
    ownI full (w.setCell ⟨g, k * 8 + 1, none⟩ (.int .i64 n)) lo base T v (l.set k { l[k] with arg := n }) := by
  obtain ⟨ss, hl, hown, hin⟩ := h
  refine ⟨ss, by simpa using hl, ?_, fun i h h' => ?_⟩
  · obtain ⟨h1, h2 | ⟨g', cap, cur, e, hb, hh, hn, hc, hsz, htk⟩⟩ := hown
    · rw [h2.1] at hg; simp [Value.ownBlock] at hg
    · have eg : g' = g := by rw [e] at hg; simpa [Value.ownBlock] using hg
      subst eg
      refine ⟨by rw [flatI_length _ _ (by simpa using hl)], .inr ⟨g', cap, cur.setIfInBounds (k * 8 + 1) (.int .i64 n), by simpa using e, hb, ?_, by simpa using hn, hc, by simpa using hsz, ?_⟩⟩
      · simp [World.setCell, Array.getElem?_modify, hh]
      · rw [← flatI_set l ss k hk n hl, ← htk, Array.toList_setIfInBounds, List.take_set, List.length_set]
  · have := inner_keep (hin i (by simpa using h) h') (w' := w.setCell ⟨g, k * 8 + 1, none⟩ (.int .i64 n)) (ob' := v.ownBlock) (fun b hb => Below.heap_setCell _ _ _ _ (fun e => hb.2.2 (by rw [hg, e]))) (by simp [World.setCell]) (.inl rfl)
    by_cases e : i = k
    · subst e; simpa using this
    · rw [List.getElem_set_ne (fun h => e h.symm)]; exact this

/-- what a call may have turned: the blocks X and its own slice's -/
structure Grow (X : Nat → Prop) (ob ob' : Option Nat) (w w' : World) : Prop where
  os : w'.os = w.os
  tape : w'.tape = w.tape
  output : w'.output = w.output
  size : w.heap.size ≤ w'.heap.size
  block : ∀ b, b < w.heap.size → ¬ X b → some b ≠ ob → w'.heap[b]? = w.heap[b]?
  own : moved w ob ob'
theorem moved_trans {w w' : World} {a b c : Option Nat} (h : moved w a b) (h' : moved w' b c) (hs : w.heap.size ≤ w'.heap.size) : moved w a c := by
  rcases h' with e | ⟨g, e, hg⟩
  · rw [e]; exact h
  · exact .inr ⟨g, e, by omega⟩
theorem Grow.refl (X : Nat → Prop) (ob : Option Nat) (w : World) : Grow X ob ob w w := ⟨rfl, rfl, rfl, Nat.le_refl _, fun _ _ _ _ => rfl, .inl rfl⟩
theorem Grow.trans {X : Nat → Prop} {a b c : Option Nat} {w w1 w2 : World} (h : Grow X a b w w1) (h' : Grow X b c w1 w2) : Grow X a c w w2 :=
  ⟨h'.os.trans h.os, h'.tape.trans h.tape, h'.output.trans h.output, Nat.le_trans h.size h'.size, fun k hk hx hn => by
    rw [h'.block k (Nat.lt_of_lt_of_le hk h.size) hx ?_, h.block k hk hx hn]
    rcases h.own with e | ⟨g, e, hg⟩
    · rw [e]; exact hn
    · rw [e]; simp; omega, moved_trans h.own h'.own h.size⟩
theorem Grow.of_below {X : Nat → Prop} {ob : Option Nat} {w w' : World} (h : Below w.heap.size w w') : Grow X ob ob w w' :=
  ⟨h.os, h.tape, h.output, h.size, fun b hb _ _ => h.block b hb, .inl rfl⟩
theorem Grow.below {X : Nat → Prop} {a b : Option Nat} {w w' : World} {B : Nat} (h : Grow X a b w w') (hB : B ≤ w.heap.size) (hX : ∀ k, X k → B ≤ k) (ha : ∀ g, a = some g → B ≤ g) : Below B w w' :=
  ⟨h.os, h.tape, h.output, h.size, fun k hk => h.block k (by omega) (fun hx => by have := hX k hx; omega) (fun e => by have := ha k e.symm; omega)⟩
end Go.Proofs.Ytljljhjdlicfeaa
/-
  A slice of instructions as memory that is read. Conditions: none.
-/
namespace Go.Proofs.Ytljljhjdlicfeaa
open Go Go.RowKit
set_option linter.unusedVariables false
/-- eight cells that hold an instruction, its value's list below B -/
def cellsI (w : World) (B : Nat) (x : GI) (b off : Nat) : Prop :=
  ∃ a c, w.cell? ⟨b, off, none⟩ = some (.int .i64 x.op) ∧ w.cell? ⟨b, off + 1, none⟩ = some (.int .i64 x.arg) ∧ w.cell? ⟨b, off + 2, none⟩ = some (.string x.s) ∧ w.cell? ⟨b, off + 3, none⟩ = some (.int .i64 x.v.k) ∧
    w.cell? ⟨b, off + 4, none⟩ = some (.bool x.v.b) ∧ w.cell? ⟨b, off + 5, none⟩ = some (.int .i64 x.v.n) ∧ w.cell? ⟨b, off + 6, none⟩ = some (.string x.v.t) ∧ w.cell? ⟨b, off + 7, none⟩ = some (.slice a x.v.l.length c) ∧
    isL w 0 B (.slice a x.v.l.length c) x.v.l
/-- the slice s reads as the instructions l, all of it in blocks below B -/
def isI (w : World) (B : Nat) (s : Value) (l : List GI) : Prop :=
  ∃ a c b off, s = .slice a l.length c ∧ l.length ≤ c ∧ (0 < l.length → a = some ⟨b, off, none⟩ ∧ b < B) ∧ ∀ i (h : i < l.length), cellsI w B l[i] b (off + i * 8)
theorem isI_form {w : World} {B : Nat} {s : Value} {l : List GI} (h : isI w B s l) : ∃ a c, s = .slice a l.length c := by
  obtain ⟨a, c, b, off, e, _⟩ := h
  exact ⟨a, c, e⟩
theorem cellsI_keep {w w' : World} {B B' : Nat} {x : GI} {b off : Nat} (h : cellsI w B x b off) (hbb : b < B) (hb : Below B' w w') (hB : B ≤ B') : cellsI w' B x b off := by
  obtain ⟨a, c, a0, a1, a2, a3, a4, a5, a6, a7, hs⟩ := h
  have hk : ∀ o, w'.cell? ⟨b, o, none⟩ = w.cell? ⟨b, o, none⟩ := fun o => hb.cell (p := ⟨b, o, none⟩) (Nat.lt_of_lt_of_le hbb hB)
  exact ⟨a, c, by rw [hk, a0], by rw [hk, a1], by rw [hk, a2], by rw [hk, a3], by rw [hk, a4], by rw [hk, a5], by rw [hk, a6], by rw [hk, a7], isL_below hs hb hB⟩
theorem isI_below {w w' : World} {B B' : Nat} {s : Value} {l : List GI} (h : isI w B s l) (hb : Below B' w w') (hB : B ≤ B') : isI w' B s l := by
  obtain ⟨a, c, b, off, e, hc, ha, hA⟩ := h
  exact ⟨a, c, b, off, e, hc, ha, fun i hi => cellsI_keep (hA i hi) (ha (by omega)).2 hb hB⟩
/-- what the call has made can be read -/
theorem ownI_isI {full : Bool} {w : World} {lo base : Nat} {T : TypeId} {v : Value} {l : List GI} (h : ownI full w lo base T v l) : isI w w.heap.size v l := by
  have hlt := fun g hg => ownI_lt h (g := g) hg
  obtain ⟨ss, hl, ⟨h1, h2 | ⟨g, cap, cur, e, hg, hh, hn, hcap, hsz, htk⟩⟩, hin⟩ := h
  · have : l = [] := List.eq_nil_of_length_eq_zero h2.2
    subst this
    exact ⟨none, 0, 0, 0, h2.1, Nat.le_refl _, fun h => by simp at h, fun i hi => by simp at hi⟩
  · subst e
    have hcell : ∀ j, j < l.length * 8 → w.cell? ⟨g, j, none⟩ = (flatI l ss)[j]? := fun j hj => by
      rw [← htk, List.getElem?_take, if_pos hj]
      simp [World.cell?, hh]
    refine ⟨some ⟨g, 0, none⟩, cap, g, 0, rfl, hn, fun _ => ⟨rfl, (hlt g rfl).2⟩, fun i hi => ?_⟩
    obtain ⟨a0, a1, a2, a3, a4, a5, a6, a7⟩ := flatI_get l ss i hi (by omega)
    obtain ⟨a, c, e⟩ := isS_form (hin i hi (by omega))
    have hL := inner_isL (hin i hi (by omega))
    rw [e] at a7 hL
    rw [Nat.zero_add]
    exact ⟨a, c, by rw [hcell _ (by omega), a0], by rw [hcell _ (by omega), a1], by rw [hcell _ (by omega), a2], by rw [hcell _ (by omega), a3], by rw [hcell _ (by omega), a4], by rw [hcell _ (by omega), a5], by rw [hcell _ (by omega), a6], by rw [hcell _ (by omega), a7], hL⟩

/-! ### two lists of instructions the same -/
def sameI (x y : GI) : Bool := (x.op == y.op) && ((x.arg == y.arg) && ((x.s.toList == y.s.toList) && same x.v y.v))
def sameIs : List GI → List GI → Bool
  | [], [] => true
  | x :: r, y :: s => sameI x y && sameIs r s
  | [], _ :: _ => false
  | _ :: _, [] => false
theorem sameIs_len : ∀ (l m : List GI), l.length ≠ m.length → sameIs l m = false
  | [], [], h => by simp at h
  | x :: r, y :: s, h => by simp [sameIs, sameIs_len r s (by simpa using h)]
  | [], _ :: _, _ => rfl
  | _ :: _, [], _ => rfl
theorem sameIs_all : ∀ (l m : List GI), l.length = m.length → (∀ i (h : i < l.length) (h' : i < m.length), sameI l[i] m[i] = true) → sameIs l m = true
  | [], [], _, _ => rfl
  | x :: r, y :: s, h, g => by
    have g0 : sameI x y = true := g 0 (by simp) (by simp)
    have gr := sameIs_all r s (by simpa using h) (fun i h h' => g (i + 1) (by simpa using h) (by simpa using h'))
    simp [sameIs, g0, gr]
  | [], _ :: _, h, _ => by simp at h
  | _ :: _, [], h, _ => by simp at h
theorem sameIs_at : ∀ (l m : List GI) (i : Nat) (h : i < l.length) (h' : i < m.length), sameI l[i] m[i] = false → sameIs l m = false
  | x :: r, y :: s, 0, _, _, g => by
    have g' : sameI x y = false := g
    simp [sameIs, g']
  | x :: r, y :: s, i + 1, h, h', g => by
    have := sameIs_at r s i (by simpa using h) (by simpa using h') g
    simp [sameIs, this]
theorem sameI_iff (x y : GI) : sameI x y = true ↔ x = y := by
  obtain ⟨a, b, c, d⟩ := x
  obtain ⟨a', b', c', d'⟩ := y
  have ht : c.toList = c'.toList ↔ c = c' := ⟨bytes_ext, fun h => by rw [h]⟩
  simp only [sameI, Bool.and_eq_true, beq_iff_eq, same_iff, ht, GI.mk.injEq]
theorem sameIs_iff : ∀ (l m : List GI), sameIs l m = true ↔ l = m
  | [], [] => by simp [sameIs]
  | x :: r, y :: s => by simp [sameIs, sameI_iff x y, sameIs_iff r s]
  | [], _ :: _ => by simp [sameIs]
  | _ :: _, [] => by simp [sameIs]
end Go.Proofs.Ytljljhjdlicfeaa
