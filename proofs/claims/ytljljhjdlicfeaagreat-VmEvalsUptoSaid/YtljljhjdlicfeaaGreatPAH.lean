/-
  Instructions as plain Lean types; a slice of them that a call has made itself. Conditions: none.
-/
import Derived.Test.YtljljhjdlicfeaaGreatPAF
import Derived.Test.YtljljhjdlicfeaaGreatMD
import Derived.Test.YtljljhjdlicfeaaGreatMO
import Derived.Test.YtljljhjdlicfeaaGreatNG
import Derived.Deep.DeepCutAuto
namespace Go.Proofs.YtljljhjdlicfeaaGreat
open Go Go.RowKit
set_option linter.unusedVariables false
structure GI where
  op : Int
  arg : Int
  s : ByteArray
  v : GV
  deriving Inhabited
def GI.agg (x : GI) (sl : Value) : Value := .agg #[.int .i64 x.op, .int .i64 x.arg, .string x.s, .int .i64 x.v.k, .bool x.v.b, .int .i64 x.v.n, .string x.v.t, sl]
def flatI : List GI → List Value → List Value
  | x :: r, s :: t => .int .i64 x.op :: .int .i64 x.arg :: .string x.s :: .int .i64 x.v.k :: .bool x.v.b :: .int .i64 x.v.n :: .string x.v.t :: s :: flatI r t
  | _, _ => []
theorem flatI_length : ∀ (l : List GI) (ss : List Value), ss.length = l.length → (flatI l ss).length = l.length * 8
  | [], [], _ => rfl
  | x :: r, s :: t, h => by
    have := flatI_length r t (by simpa using h)
    simp only [flatI, List.length_cons, this]
    omega
  | [], _ :: _, h => by simp at h
  | _ :: _, [], h => by simp at h
theorem flatI_append : ∀ (l : List GI) (ss : List Value) (y : GI) (s : Value), ss.length = l.length →
    flatI (l ++ [y]) (ss ++ [s]) = flatI l ss ++ [.int .i64 y.op, .int .i64 y.arg, .string y.s, .int .i64 y.v.k, .bool y.v.b, .int .i64 y.v.n, .string y.v.t, s]
  | [], [], _, _, _ => rfl
  | x :: r, s :: t, y, u, h => by simp [flatI, flatI_append r t y u (by simpa using h)]
  | [], _ :: _, _, _, h => by simp at h
  | _ :: _, [], _, _, h => by simp at h
theorem flatI_get : ∀ (l : List GI) (ss : List Value) (i : Nat) (h : i < l.length) (h' : i < ss.length),
    (flatI l ss)[i * 8]? = some (.int .i64 l[i].op) ∧ (flatI l ss)[i * 8 + 1]? = some (.int .i64 l[i].arg) ∧ (flatI l ss)[i * 8 + 2]? = some (.string l[i].s) ∧ (flatI l ss)[i * 8 + 3]? = some (.int .i64 l[i].v.k) ∧
    (flatI l ss)[i * 8 + 4]? = some (.bool l[i].v.b) ∧ (flatI l ss)[i * 8 + 5]? = some (.int .i64 l[i].v.n) ∧ (flatI l ss)[i * 8 + 6]? = some (.string l[i].v.t) ∧ (flatI l ss)[i * 8 + 7]? = some ss[i]
  | x :: r, s :: t, 0, _, _ => by simp [flatI]
  | x :: r, s :: t, i + 1, h, h' => by
    have := flatI_get r t i (by simpa using h) (by simpa using h')
    rw [show (i + 1) * 8 = i * 8 + 8 from by omega]
    simpa [flatI] using this
theorem flatI_set : ∀ (l : List GI) (ss : List Value) (i : Nat) (h : i < l.length) (n : Int), ss.length = l.length → (flatI l ss).set (i * 8 + 1) (.int .i64 n) = flatI (l.set i { l[i] with arg := n }) ss
  | x :: r, s :: t, 0, _, n, _ => by simp [flatI]
  | x :: r, s :: t, i + 1, h, n, g => by
    have := flatI_set r t i (by simpa using h) n (by simpa using g)
    rw [show (i + 1) * 8 + 1 = i * 8 + 1 + 1 + 1 + 1 + 1 + 1 + 1 + 1 + 1 from by omega]
    simpa [flatI] using this
  | _ :: _, [], _, _, _, g => by simp at g
def inS (w : World) (lo : Nat) (ob : Option Nat) : Nat → Prop := fun b => lo ≤ b ∧ b < w.heap.size ∧ some b ≠ ob
def inner (full : Bool) (w : World) (lo : Nat) (ob : Option Nat) (s : Value) (l : List GV) : Prop := isS w (inS w lo ob) (fun a c => full = true → room w (inS w lo ob) a c) s l
def moved (w : World) (ob ob' : Option Nat) : Prop := ob' = ob ∨ ∃ g, ob' = some g ∧ w.heap.size ≤ g
theorem inS_moved {w w' : World} {lo b : Nat} {ob ob' : Option Nat} (h : inS w lo ob b) (hs : w.heap.size ≤ w'.heap.size) (hm : moved w ob ob') : inS w' lo ob' b := by
  refine ⟨h.1, Nat.lt_of_lt_of_le h.2.1 hs, ?_⟩
  rcases hm with e | ⟨g, e, hg⟩
  · rw [e]; exact h.2.2
  · rw [e]; have := h.2.1; simp; omega
theorem inner_keep {full : Bool} {w w' : World} {lo : Nat} {ob ob' : Option Nat} {s : Value} {l : List GV} (h : inner full w lo ob s l) (hw : ∀ b, inS w lo ob b → w'.heap[b]? = w.heap[b]?) (hs : w.heap.size ≤ w'.heap.size) (hm : moved w ob ob') :
    inner full w' lo ob' s l :=
  isS_mono h (fun b off g => World.cell?_of_block (w := w) (a := ⟨b, off, none⟩) (hw b g)) (fun b g => inS_moved g hs hm) (fun a c hr hf hc => by
    obtain ⟨b, off, cs, T, ea, hb, hh, hs'⟩ := hr hf hc
    exact ⟨b, off, cs, T, ea, inS_moved hb hs hm, by rw [hw b hb, hh], hs'⟩)
theorem inner_of_isR {w : World} {S : Nat → Prop} {full : Bool} {lo : Nat} {ob : Option Nat} {s : Value} {l : List GV} (h : isR w S s l) (hS : ∀ b, S b → inS w lo ob b) : inner full w lo ob s l :=
  isS_mono h (fun _ _ _ => rfl) hS (fun a c hr _ hc => by
    obtain ⟨b, off, cs, T, ea, hb, r⟩ := hr hc
    exact ⟨b, off, cs, T, ea, hS b hb, r⟩)
theorem inner_nil {full : Bool} {w : World} {lo : Nat} {ob : Option Nat} : inner full w lo ob (.slice none 0 0) [] :=
  ⟨none, 0, rfl, Nat.le_refl _, fun _ h => by simp at h, fun h => by simp at h⟩
theorem inner_isL {full : Bool} {w : World} {lo : Nat} {ob : Option Nat} {s : Value} {l : List GV} (h : inner full w lo ob s l) : isL w 0 w.heap.size s l :=
  isS_mono h (fun _ _ _ => rfl) (fun b g => ⟨Nat.zero_le _, g.2.1⟩) (fun _ _ _ => trivial)
def ownI (full : Bool) (w : World) (lo base : Nat) (T : TypeId) (v : Value) (l : List GI) : Prop :=
  ∃ ss : List Value, ss.length = l.length ∧ w.ownsRow base T 8 v l.length (flatI l ss) ∧ ∀ i (h : i < l.length) (h' : i < ss.length), inner full w lo v.ownBlock ss[i] l[i].v.l
theorem ownI_nil (full : Bool) (w : World) (lo base : Nat) (T : TypeId) : ownI full w lo base T (.slice none 0 0) [] :=
  ⟨[], rfl, ⟨by simp [flatI], .inl ⟨rfl, rfl⟩⟩, fun i h => by simp at h⟩
theorem ownI_lt {full : Bool} {w : World} {lo base : Nat} {T : TypeId} {v : Value} {l : List GI} (h : ownI full w lo base T v l) {g : Nat} (hg : v.ownBlock = some g) : base ≤ g ∧ g < w.heap.size := by
  obtain ⟨ss, _, h, _⟩ := h
  exact ownBlock_lt h hg
theorem ownsRow_keep {w w' : World} {base : Nat} {T : TypeId} {sz n : Nat} {v : Value} {xs : List Value} (h : w.ownsRow base T sz v n xs) (hw : ∀ g, v.ownBlock = some g → w'.heap[g]? = w.heap[g]?) : w'.ownsRow base T sz v n xs := by
  obtain ⟨h1, h2⟩ := h
  refine ⟨h1, ?_⟩
  rcases h2 with h2 | ⟨g, cap, cur, e, hg, hh, r⟩
  · exact .inl h2
  · refine .inr ⟨g, cap, cur, e, hg, ?_, r⟩
    rw [hw g (by rw [e]; rfl)]; exact hh
theorem ownI_keep {full : Bool} {w w' : World} {lo base : Nat} {T : TypeId} {v : Value} {l : List GI} (h : ownI full w lo base T v l) (hw : ∀ b, b < w.heap.size → (lo ≤ b ∨ some b = v.ownBlock) → w'.heap[b]? = w.heap[b]?) (hs : w.heap.size ≤ w'.heap.size) : ownI full w' lo base T v l := by
  have hlt := fun g hg => ownI_lt h (g := g) hg
  obtain ⟨ss, hl, hown, hin⟩ := h
  exact ⟨ss, hl, ownsRow_keep hown (fun g hg => hw g (hlt g hg).2 (.inr hg.symm)), fun i h h' => inner_keep (hin i h h') (fun b hb => hw b hb.2.1 (.inl hb.1)) hs (.inl rfl)⟩
theorem ownI_push {full : Bool} {w w1 w2 : World} {lo base : Nat} {T : TypeId} {v v' s : Value} {l : List GI} {y : GI} {ss : List Value} {n : Nat} (hn : n = l.length + 1) (hl : ss.length = l.length)
    (hin : ∀ i (h : i < l.length) (h2 : i < ss.length), inner full w lo v.ownBlock ss[i] l[i].v.l) (hw1 : Below w.heap.size w w1) (hs : inner full w lo v.ownBlock s y.v.l)
    (h' : w2.ownsRow base T 8 v' n (flatI l ss ++ [.int .i64 y.op, .int .i64 y.arg, .string y.s, .int .i64 y.v.k, .bool y.v.b, .int .i64 y.v.n, .string y.v.t, s])) (hg : w1.grownBy w2 v.ownBlock)
    (hat : v'.ownBlock = v.ownBlock ∨ v'.ownBlock = some w1.heap.size) : ownI full w2 lo base T v' (l ++ [y]) ∧ moved w v.ownBlock v'.ownBlock := by
  subst hn
  have hsz : w.heap.size ≤ w2.heap.size := Nat.le_trans hw1.size hg.size
  have key : ∀ b, inS w lo v.ownBlock b → w2.heap[b]? = w.heap[b]? := fun b hb => by
    rw [hg.block b (Nat.lt_of_lt_of_le hb.2.1 hw1.size) hb.2.2]
    exact hw1.block b hb.2.1
  have hm : moved w v.ownBlock v'.ownBlock := by
    rcases hat with e | e
    · exact .inl e
    · exact .inr ⟨_, e, hw1.size⟩
  refine ⟨⟨ss ++ [s], by simp [hl], ?_, fun i h h2 => ?_⟩, hm⟩
  · rw [flatI_append l ss y s hl]; simpa using h'
  · by_cases hi : i < l.length
    · have := inner_keep (hin i hi (by omega)) key hsz hm
      rw [List.getElem_append_left (by omega), List.getElem_append_left hi]
      exact this
    · have e : i = l.length := by simp at h; omega
      have := inner_keep hs key hsz hm
      subst e
      rw [List.getElem_append_right (by omega), List.getElem_append_right (by omega)]
      simpa [hl] using this
theorem ownI_set {full : Bool} {w : World} {lo base g : Nat} {T : TypeId} {v : Value} {l : List GI} (h : ownI full w lo base T v l) (hg : v.ownBlock = some g) {k : Nat} (hk : k < l.length) (n : Int) :
    ownI full (w.setCell ⟨g, k * 8 + 1, none⟩ (.int .i64 n)) lo base T v (l.set k { l[k] with arg := n }) := by
  obtain ⟨ss, hl, hown, hin⟩ := h
  refine ⟨ss, by simpa using hl, ?_, fun i h h' => ?_⟩
  · obtain ⟨h1, h2 | ⟨g', cap, cur, e, hb, hh, hn, hc, hsz, htk⟩⟩ := hown
    · rw [h2.1] at hg; simp [Value.ownBlock] at hg
    · have eg : g' = g := by rw [e] at hg; simpa [Value.ownBlock] using hg
      subst eg
      refine ⟨by rw [flatI_length _ _ (by simpa using hl)], .inr ⟨g', cap, cur.setIfInBounds (k * 8 + 1) (.int .i64 n), by simpa using e, hb, ?_, by simpa using hn, hc, by simpa using hsz, ?_⟩⟩
      · simp [World.setCell, Array.getElem?_modify, hh]
      · rw [← flatI_set l ss k hk n hl, ← htk, Array.toList_setIfInBounds, List.take_set, List.length_set]
  · have := inner_keep (hin i (by simpa using h) h') (w' := w.setCell ⟨g, k * 8 + 1, none⟩ (.int .i64 n)) (ob' := v.ownBlock) (fun b hb => Below.heap_setCell _ _ _ _ (fun e => hb.2.2 (by rw [hg, e]))) (by simp [World.setCell]) (.inl rfl)
    by_cases e : i = k
    · subst e; simpa using this
    · rw [List.getElem_set_ne (fun h => e h.symm)]; exact this
structure Grow (X : Nat → Prop) (ob ob' : Option Nat) (w w' : World) : Prop where
  os : w'.os = w.os
  tape : w'.tape = w.tape
  output : w'.output = w.output
  size : w.heap.size ≤ w'.heap.size
  block : ∀ b, b < w.heap.size → ¬ X b → some b ≠ ob → w'.heap[b]? = w.heap[b]?
  own : moved w ob ob'
theorem moved_trans {w w' : World} {a b c : Option Nat} (h : moved w a b) (h' : moved w' b c) (hs : w.heap.size ≤ w'.heap.size) : moved w a c := by
  rcases h' with e | ⟨g, e, hg⟩
  · rw [e]; exact h
  · exact .inr ⟨g, e, by omega⟩
theorem Grow.refl (X : Nat → Prop) (ob : Option Nat) (w : World) : Grow X ob ob w w := ⟨rfl, rfl, rfl, Nat.le_refl _, fun _ _ _ _ => rfl, .inl rfl⟩
theorem Grow.trans {X : Nat → Prop} {a b c : Option Nat} {w w1 w2 : World} (h : Grow X a b w w1) (h' : Grow X b c w1 w2) : Grow X a c w w2 :=
  ⟨h'.os.trans h.os, h'.tape.trans h.tape, h'.output.trans h.output, Nat.le_trans h.size h'.size, fun k hk hx hn => by
    rw [h'.block k (Nat.lt_of_lt_of_le hk h.size) hx ?_, h.block k hk hx hn]
    rcases h.own with e | ⟨g, e, hg⟩
    · rw [e]; exact hn
    · rw [e]; simp; omega, moved_trans h.own h'.own h.size⟩
theorem Grow.of_below {X : Nat → Prop} {ob : Option Nat} {w w' : World} (h : Below w.heap.size w w') : Grow X ob ob w w' :=
  ⟨h.os, h.tape, h.output, h.size, fun b hb _ _ => h.block b hb, .inl rfl⟩
theorem Grow.below {X : Nat → Prop} {a b : Option Nat} {w w' : World} {B : Nat} (h : Grow X a b w w') (hB : B ≤ w.heap.size) (hX : ∀ k, X k → B ≤ k) (ha : ∀ g, a = some g → B ≤ g) : Below B w w' :=
  ⟨h.os, h.tape, h.output, h.size, fun k hk => h.block k (by omega) (fun hx => by have := hX k hx; omega) (fun e => by have := ha k e.symm; omega)⟩
end Go.Proofs.YtljljhjdlicfeaaGreat
namespace Go.Proofs.YtljljhjdlicfeaaGreat
open Go Go.RowKit
set_option linter.unusedVariables false
def cellsI (w : World) (B : Nat) (x : GI) (b off : Nat) : Prop :=
  ∃ a c, w.cell? ⟨b, off, none⟩ = some (.int .i64 x.op) ∧ w.cell? ⟨b, off + 1, none⟩ = some (.int .i64 x.arg) ∧ w.cell? ⟨b, off + 2, none⟩ = some (.string x.s) ∧ w.cell? ⟨b, off + 3, none⟩ = some (.int .i64 x.v.k) ∧
    w.cell? ⟨b, off + 4, none⟩ = some (.bool x.v.b) ∧ w.cell? ⟨b, off + 5, none⟩ = some (.int .i64 x.v.n) ∧ w.cell? ⟨b, off + 6, none⟩ = some (.string x.v.t) ∧ w.cell? ⟨b, off + 7, none⟩ = some (.slice a x.v.l.length c) ∧
    isL w 0 B (.slice a x.v.l.length c) x.v.l
def isI (w : World) (B : Nat) (s : Value) (l : List GI) : Prop :=
  ∃ a c b off, s = .slice a l.length c ∧ l.length ≤ c ∧ (0 < l.length → a = some ⟨b, off, none⟩ ∧ b < B) ∧ ∀ i (h : i < l.length), cellsI w B l[i] b (off + i * 8)
theorem isI_form {w : World} {B : Nat} {s : Value} {l : List GI} (h : isI w B s l) : ∃ a c, s = .slice a l.length c := by
  obtain ⟨a, c, b, off, e, _⟩ := h
  exact ⟨a, c, e⟩
theorem cellsI_keep {w w' : World} {B B' : Nat} {x : GI} {b off : Nat} (h : cellsI w B x b off) (hbb : b < B) (hb : Below B' w w') (hB : B ≤ B') : cellsI w' B x b off := by
  obtain ⟨a, c, a0, a1, a2, a3, a4, a5, a6, a7, hs⟩ := h
  have hk : ∀ o, w'.cell? ⟨b, o, none⟩ = w.cell? ⟨b, o, none⟩ := fun o => hb.cell (p := ⟨b, o, none⟩) (Nat.lt_of_lt_of_le hbb hB)
  exact ⟨a, c, by rw [hk, a0], by rw [hk, a1], by rw [hk, a2], by rw [hk, a3], by rw [hk, a4], by rw [hk, a5], by rw [hk, a6], by rw [hk, a7], isL_below hs hb hB⟩
theorem isI_below {w w' : World} {B B' : Nat} {s : Value} {l : List GI} (h : isI w B s l) (hb : Below B' w w') (hB : B ≤ B') : isI w' B s l := by
  obtain ⟨a, c, b, off, e, hc, ha, hA⟩ := h
  exact ⟨a, c, b, off, e, hc, ha, fun i hi => cellsI_keep (hA i hi) (ha (by omega)).2 hb hB⟩
theorem ownI_isI {full : Bool} {w : World} {lo base : Nat} {T : TypeId} {v : Value} {l : List GI} (h : ownI full w lo base T v l) : isI w w.heap.size v l := by
  have hlt := fun g hg => ownI_lt h (g := g) hg
  obtain ⟨ss, hl, ⟨h1, h2 | ⟨g, cap, cur, e, hg, hh, hn, hcap, hsz, htk⟩⟩, hin⟩ := h
  · have : l = [] := List.eq_nil_of_length_eq_zero h2.2
    subst this
    exact ⟨none, 0, 0, 0, h2.1, Nat.le_refl _, fun h => by simp at h, fun i hi => by simp at hi⟩
  · subst e
    have hcell : ∀ j, j < l.length * 8 → w.cell? ⟨g, j, none⟩ = (flatI l ss)[j]? := fun j hj => by
      rw [← htk, List.getElem?_take, if_pos hj]
      simp [World.cell?, hh]
    refine ⟨some ⟨g, 0, none⟩, cap, g, 0, rfl, hn, fun _ => ⟨rfl, (hlt g rfl).2⟩, fun i hi => ?_⟩
    obtain ⟨a0, a1, a2, a3, a4, a5, a6, a7⟩ := flatI_get l ss i hi (by omega)
    obtain ⟨a, c, e⟩ := isS_form (hin i hi (by omega))
    have hL := inner_isL (hin i hi (by omega))
    rw [e] at a7 hL
    rw [Nat.zero_add]
    exact ⟨a, c, by rw [hcell _ (by omega), a0], by rw [hcell _ (by omega), a1], by rw [hcell _ (by omega), a2], by rw [hcell _ (by omega), a3], by rw [hcell _ (by omega), a4], by rw [hcell _ (by omega), a5], by rw [hcell _ (by omega), a6], by rw [hcell _ (by omega), a7], hL⟩
end Go.Proofs.YtljljhjdlicfeaaGreat
namespace Go.Proofs.YtljljhjdlicfeaaGreat
open Go Go.RowKit
set_option maxRecDepth 100000
set_option linter.unusedVariables false
theorem iinfo : (Tryz.prog.info? 86).map (fun i => (i.zero, i.size, i.bytes)) = some (some (.agg #[.int .i64 0, .int .i64 0, .string { data := #[] }, .int .i64 0, .bool false, .int .i64 0, .string { data := #[] }, .slice none 0 0]), 8, 96) := by kernel_rfl
def St (w : World) (wb base : Nat) (l : List GI) (ob : Option Nat) : Prop :=
  ∃ v, w.heap[wb]? = some (.cells #[v] 73 (0, 0)) ∧ v.ownBlock = ob ∧ ownI true w base base 86 v l ∧ wb < base ∧ base ≤ w.heap.size
theorem St.keep {w w' : World} {wb base : Nat} {l : List GI} {ob : Option Nat} (h : St w wb base l ob) (hb : Below w.heap.size w w') : St w' wb base l ob := by
  obtain ⟨v, h1, h2, h3, h4, h5⟩ := h
  exact ⟨v, by rw [hb.block wb (by omega)]; exact h1, h2, ownI_keep h3 (fun b hlt _ => hb.block b hlt) hb.size, h4, Nat.le_trans h5 hb.size⟩
theorem St.lt {w : World} {wb base g : Nat} {l : List GI} {ob : Option Nat} (h : St w wb base l ob) (hg : ob = some g) : base ≤ g ∧ g < w.heap.size := by
  obtain ⟨v, h1, h2, h3, h4, h5⟩ := h
  exact ownI_lt h3 (h2.trans hg)
theorem drew_heap (w : World) : w.drew.heap = w.heap := rfl
theorem owns_form {w : World} {base : Nat} {T : TypeId} {sz n : Nat} {v : Value} {xs : List Value} (h : w.ownsRow base T sz v n xs) : ∃ a c, v = .slice a n c := by
  obtain ⟨_, ⟨e, rfl⟩ | ⟨g, cap, _, e, _⟩⟩ := h
  · exact ⟨_, _, e⟩
  · exact ⟨_, _, e⟩
theorem put_law {w w1 w2 : World} {wb base n : Nat} {l : List GI} {i : GI} {v v' s : Value} {ss : List Value}
    (hwb : w.heap[wb]? = some (.cells #[v] 73 (0, 0))) (hlt : wb < base) (hbase : base ≤ w.heap.size) (hob : ∀ g, v.ownBlock = some g → base ≤ g ∧ g < w.heap.size) (hn : n = l.length + 1) (hls : ss.length = l.length)
    (hin : ∀ j (h : j < l.length) (h2 : j < ss.length), inner true w base v.ownBlock ss[j] l[j].v.l) (hs : inner true w base v.ownBlock s i.v.l) (hw1 : Below w.heap.size w w1)
    (hown : w2.ownsRow base 86 8 v' n (flatI l ss ++ [.int .i64 i.op, .int .i64 i.arg, .string i.s, .int .i64 i.v.k, .bool i.v.b, .int .i64 i.v.n, .string i.v.t, s]))
    (hg : w1.grownBy w2 v.ownBlock) (hat : v'.ownBlock = v.ownBlock ∨ v'.ownBlock = some w1.heap.size) :
    w2.heap[wb]? = some (.cells #[v] 73 (0, 0)) ∧ St (w2.setCell ⟨wb, 0, none⟩ v') wb base (l ++ [i]) v'.ownBlock ∧ Grow (· = wb) v.ownBlock v'.ownBlock w (w2.setCell ⟨wb, 0, none⟩ v') := by
  have hwk : ∀ b, b < w.heap.size → some b ≠ v.ownBlock → w2.heap[b]? = w.heap[b]? := fun b hb hne => by
    rw [hg.block b (Nat.lt_of_lt_of_le hb hw1.size) hne, hw1.block b hb]
  have hne : some wb ≠ v.ownBlock := fun e => by have := (hob wb e.symm).1; omega
  have h1 : w2.heap[wb]? = some (.cells #[v] 73 (0, 0)) := by rw [hwk wb (by omega) hne]; exact hwb
  have hsz2 : w.heap.size ≤ w2.heap.size := Nat.le_trans hw1.size hg.size
  have hP := ownI_push (full := true) hn hls hin hw1 hs hown hg hat
  have hne' : ∀ g, v'.ownBlock = some g → base ≤ g := fun g hg' => (ownI_lt hP.1 hg').1
  refine ⟨h1, ⟨v', ?_, rfl, ?_, hlt, by rw [hsz_setCell2]; omega⟩, ?_⟩
  · rw [heap_setCell2 h1]; rfl
  · refine ownI_keep hP.1 (fun b hb hor => Below.heap_setCell _ _ _ _ ?_) (by rw [hsz_setCell2]; exact Nat.le_refl _)
    rintro rfl
    rcases hor with h | h
    · omega
    · have := hne' _ h.symm; omega
  · refine ⟨?_, ?_, ?_, by rw [hsz_setCell2]; omega, fun b hb hx hn' => ?_, hP.2⟩
    · exact hg.os.trans hw1.os
    · exact hg.tape.trans hw1.tape
    · exact hg.output.trans hw1.output
    · rw [Below.heap_setCell _ _ _ _ (fun e => hx e), hwk b hb hn']
set_option maxHeartbeats 1600000 in
theorem put_any (l : List GI) (i : GI) (hl : l.length ≤ 2147483647) (wb base : Nat) (ob : Option Nat) (s : Value) (w : World) (h : St w wb base l ob) (hs : inner true w base ob s i.v.l) :
    Calls Tryz.prog 38 #[.pointer (some ⟨wb, 0, none⟩), i.agg s] w (fun e w' => e = .returned (.tuple #[]) ∧ ∃ ob', St w' wb base (l ++ [i]) ob' ∧ Grow (· = wb) ob ob' w w') := by
  obtain ⟨v, h1, rfl, h3, h4, h5⟩ := h
  have hlt := fun g hg => ownI_lt h3 (g := g) hg
  obtain ⟨ss, hls, hown, hin⟩ := h3
  obtain ⟨va, cp, rfl⟩ := owns_form hown
  obtain ⟨a1, c1, rfl⟩ := isS_form hs
  obtain ⟨i0, hi, hz0, hz1, hz2⟩ := info_parts iinfo
  have HI := Lib.hid (And.intro hi (And.intro hz0 (And.intro hz1 hz2)))
  have HSL := Lib.hid Tryz.underlying56
  have q1 := fun o => cell_of h1 o
  have f1 := fun o => frozen_of h1 o
  have H1 := Lib.hid h1
  have HS := Lib.hid hs
  have HLT := Lib.hid hlt
  have HLS := Lib.hid hls
  have HOWN := Lib.hid hown
  have HIN := Lib.hid hin
  have hwz : wb < w.heap.size := by omega
  clear h1 hs hlt hls hown hin hi hz0 hz1 hz2
  simp only [GI.agg]
  go_enter Tryz.func38, Tryz.ntmps38
  go_wp2_with fail
  have hzh : wb ≠ w.heap.size := by omega
  have hzl : wb < w.heap.size + 1 := by omega
  go_region_law
    (refine step_append_own_at rfl _ _ 56 rfl base 86 i0 (.agg #[.int .i64 0, .int .i64 0, .string { data := #[] }, .int .i64 0, .bool false, .int .i64 0, .string { data := #[] }, .slice none 0 0]) 8 96 HSL.out HI.out.1 HI.out.2.1 HI.out.2.2.1 HI.out.2.2.2 rfl (by decide) (.slice va l.length cp) l.length (flatI l ss) rfl ?c0 ⟨w.heap.size + 1, 0, none⟩ 1 1 [.int .i64 i.op, .int .i64 i.arg, .string i.s, .int .i64 i.v.k, .bool i.v.b, .int .i64 i.v.n, .string i.v.t, .slice a1 i.v.l.length c1] ?c6 rfl ?c1 ?c2 ?c3 ?c4 ?c5 ?_
     case c0 =>
       refine ownsRow_keep HOWN.out fun g hg => ?_
       have := (HLT.out g hg).2
       rw [drew_heap, Below.heap_alloc _ _ _ (by simp; omega), Below.heap_alloc _ _ _ this]
     case c6 => rfl
     case c1 =>
       intro j u hj
       have := @news_last (w.alloc (.cells #[.int .i64 i.op, .int .i64 i.arg, .string i.s, .int .i64 i.v.k, .bool i.v.b, .int .i64 i.v.n, .string i.v.t, .slice a1 i.v.l.length c1] 86)) _ 86 j u hj
       rw [show (w.alloc (.cells #[.int .i64 i.op, .int .i64 i.arg, .string i.s, .int .i64 i.v.k, .bool i.v.b, .int .i64 i.v.n, .string i.v.t, .slice a1 i.v.l.length c1] 86)).heap.size = w.heap.size + 1 from by simp] at this
       exact this
     case c2 => intro u hu; simp only [List.mem_cons, List.not_mem_nil, or_false] at hu; rcases hu with rfl | rfl | rfl | rfl | rfl | rfl | rfl | rfl <;> rfl
     case c3 => unfold maxLen; omega
     case c4 => omega
     case c5 => simp [World.drew]; omega
     intro v' w2 hown2 hgrow hat
     have hP := put_law (l := l) (i := i) H1.out h4 h5 HLT.out (n := l.length + 1) rfl HLS.out HIN.out HS.out (((Below.refl w.heap.size w).alloc (Nat.le_refl _) _).alloc (by simp) _).drew hown2 hgrow hat
     obtain ⟨a2, c2, hv⟩ := owns_form hown2
     subst hv
     have HP := Lib.hid hP
     have q3 := fun o => cell_of hP.1 o
     have f3 := fun o => frozen_of hP.1 o
     clear hP hown2 hgrow hat)
  all_goals
    go_wp2_with fail
    go_end0
    exact ⟨rfl, _, HP.out.2.1, HP.out.2.2⟩
def jmp (op : Int) : GI := ⟨op, 0, ByteArray.empty, ⟨0, false, 0, ByteArray.empty, []⟩⟩
set_option maxHeartbeats 1600000 in
theorem jump_any (l : List GI) (op : Int) (hl : l.length ≤ 2147483647) (wb base : Nat) (ob : Option Nat) (w : World) (h : St w wb base l ob) :
    Calls Tryz.prog 40 #[.pointer (some ⟨wb, 0, none⟩), .int .i64 op] w (fun e w' => ∃ ob' c1 c2, e = .returned (.func (.func 63) #[] #[.pointer (some ⟨c1, 0, none⟩), .pointer (some ⟨c2, 0, none⟩)]) ∧ St w' wb base (l ++ [jmp op]) ob' ∧ Grow (· = wb) ob ob' w w' ∧
      w'.heap[c1]? = some (.cells #[.pointer (some ⟨wb, 0, none⟩)] 71 (0, 0)) ∧ w'.heap[c2]? = some (.cells #[.int .i64 (l.length : Nat)] 3 (0, 0)) ∧ w.heap.size ≤ c1 ∧ w.heap.size ≤ c2 ∧ some c1 ≠ ob' ∧ some c2 ≠ ob') := by
  have h0 := h
  obtain ⟨v, h1, rfl, h3, h4, h5⟩ := h
  obtain ⟨ss, hls, hown, hin⟩ := h3
  obtain ⟨va, cp, rfl⟩ := owns_form hown
  have q1 := fun o => cell_of h1 o
  have f1 := fun o => frozen_of h1 o
  have H0 := Lib.hid h0
  have hwz : wb < w.heap.size := by omega
  clear h1 hls hown hin h0
  go_enter Tryz.func40, Tryz.ntmps40
  go_wp2_with fail
  have hb0 : Below w.heap.size w ((w.alloc (.cells #[.pointer (some ⟨wb, 0, none⟩)] 71)).alloc (.cells #[.int .i64 (l.length : Nat)] 3)) := ((Below.refl w.heap.size w).alloc (Nat.le_refl _) _).alloc (by simp) _
  refine (put_any l (jmp op) hl wb base _ _ _ (St.keep H0.out hb0) inner_nil).mono ?_
  rintro e w1 ⟨rfl, ob', hst, hgr⟩
  go_wp2_with fail
  go_ret
  have hsz : w.heap.size + 2 ≤ w1.heap.size := by have := hgr.size; simpa using this
  have hol : ∀ g, (Value.slice va l.length cp).ownBlock = some g → g < w.heap.size := fun g hg => (H0.out.lt hg).2
  have hob : ∀ c, w.heap.size ≤ c → c < w.heap.size + 2 → some c ≠ ob' := fun c h1 h2 e => by
    rcases hgr.own with e2 | ⟨g, e2, hg⟩
    · rw [e2] at e; have := hol c e.symm; omega
    · rw [e2] at e; simp at e hg; omega
  have hkeep : ∀ c, w.heap.size ≤ c → c < w.heap.size + 2 → w1.heap[c]? = ((w.alloc (.cells #[.pointer (some ⟨wb, 0, none⟩)] 71)).alloc (.cells #[.int .i64 (l.length : Nat)] 3)).heap[c]? := fun c h1 h2 =>
    hgr.block c (by simpa using h2) (by omega) (fun e => by have := hol c e.symm; omega)
  refine ⟨ob', w.heap.size, w.heap.size + 1, rfl, hst, (Grow.of_below hb0).trans hgr, ?_, ?_, Nat.le_refl _, by omega, hob _ (by omega) (by omega), hob _ (by omega) (by omega)⟩
  · rw [hkeep _ (by omega) (by omega), heap_two]
  · rw [hkeep _ (by omega) (by omega), heap_second]
set_option maxHeartbeats 1600000 in
theorem end_any (l : List GI) (k : Nat) (hk : k < l.length) (hl : l.length ≤ 2147483647) (wb base c1 c2 : Nat) (ob : Option Nat) (w : World) (h : St w wb base l ob)
    (h1 : w.heap[c1]? = some (.cells #[.pointer (some ⟨wb, 0, none⟩)] 71 (0, 0))) (h2 : w.heap[c2]? = some (.cells #[.int .i64 (k : Nat)] 3 (0, 0))) :
    Calls Tryz.prog 63 #[.pointer (some ⟨c1, 0, none⟩), .pointer (some ⟨c2, 0, none⟩)] w (fun e w' => e = .returned (.tuple #[]) ∧ St w' wb base (l.set k { l[k] with arg := (l.length : Nat) }) ob ∧ Grow (· = wb) ob ob w w') := by
  obtain ⟨v, h1', rfl, h3, h4, h5⟩ := h
  obtain ⟨g, hg⟩ : ∃ g, v.ownBlock = some g := by
    obtain ⟨ss, _, ⟨_, ⟨_, e⟩ | ⟨g, _, _, e, _⟩⟩, _⟩ := h3
    · omega
    · exact ⟨g, by rw [e]; rfl⟩
  have hlt := ownI_lt h3 hg
  have hset := ownI_set h3 hg hk (l.length : Nat)
  have h3' := h3
  obtain ⟨ss, hls, hown, hin⟩ := h3
  obtain ⟨va, cp, rfl⟩ := owns_form hown
  obtain ⟨hx1, ⟨_, e⟩ | ⟨g', cap, cur, e, hb, hh, hn, hc, hsz, htk⟩⟩ := hown
  · omega
  simp only [Value.slice.injEq] at e
  obtain ⟨rfl, _, rfl⟩ := e
  obtain rfl : g' = g := by simpa [Value.ownBlock] using hg
  have hcs : k * 8 + 1 < cur.size := by rw [hsz]; omega
  have q0 := fun o => cell_of h1' o
  have q1 := fun o => cell_of h1 o
  have q2 := fun o => cell_of h2 o
  have q3 := fun o => cell_of hh o
  have f3 := fun o => frozen_of hh o
  have HSET := Lib.hid hset
  have HH := Lib.hid hh
  have H1' := Lib.hid h1'
  have HLT := Lib.hid hlt
  obtain ⟨u, hu⟩ : ∃ u, cur[k * 8 + 1]? = some u := ⟨_, Array.getElem?_eq_getElem hcs⟩
  clear hset h3' hls hin hx1 htk hh h1' h1 h2 hlt hg
  go_enter Tryz.func63, Tryz.ntmps63
  go_wp2_with fail
  go_region
  all_goals
    go_wp2_with fail
    go_end0
    refine ⟨rfl, ⟨_, ?_, rfl, ownI_keep HSET.out ?_ ?_, h4, ?_⟩, ?_⟩
    · rw [drew_heap, Below.heap_setCell _ _ _ _ (by dsimp only; omega)]; exact H1'.out
    · exact fun b _ _ => rfl
    · exact Nat.le_refl _
    · rw [drew_heap, hsz_setCell2]; exact h5
    · have e1 : (w.setCell ⟨g', k * 8 + 1, none⟩ (.int .i64 (l.length : Nat))).heap.size = w.heap.size := hsz_setCell2 _ _ _
      refine ⟨rfl, rfl, rfl, by rw [drew_heap, e1]; exact Nat.le_refl _, fun b hb hx hn => ?_, .inl rfl⟩
      rw [drew_heap]
      exact Below.heap_setCell _ _ _ _ (fun e => hn (by rw [e]; rfl))
end Go.Proofs.YtljljhjdlicfeaaGreat
