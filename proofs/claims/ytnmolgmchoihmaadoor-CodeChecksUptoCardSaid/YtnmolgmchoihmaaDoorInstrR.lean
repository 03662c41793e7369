/-
  A slice of instructions as memory that is read. Conditions: none.
-/
import Derived.Test.YtnmolgmchoihmaaDoorInstr
namespace Go.Proofs.YtnmolgmchoihmaaDoor
open Go Go.RowKit
set_option linter.unusedVariables false
/-- eight cells that hold an instruction, its value's list below B -/
def cellsI (w : World) (B : Nat) (x : GI) (b off : Nat) : Prop :=
  ∃ a c, w.cell? ⟨b, off, none⟩ = some (.int .i64 x.op) ∧ w.cell? ⟨b, off + 1, none⟩ = some (.int .i64 x.arg) ∧ w.cell? ⟨b, off + 2, none⟩ = some (.string x.s) ∧ w.cell? ⟨b, off + 3, none⟩ = some (.int .i64 x.v.k) ∧
    w.cell? ⟨b, off + 4, none⟩ = some (.bool x.v.b) ∧ w.cell? ⟨b, off + 5, none⟩ = some (.int .i64 x.v.n) ∧ w.cell? ⟨b, off + 6, none⟩ = some (.string x.v.t) ∧ w.cell? ⟨b, off + 7, none⟩ = some (.slice a x.v.l.length c) ∧
    isL w 0 B (.slice a x.v.l.length c) x.v.l
/-- the slice s reads as the instructions l, all of it in blocks below B -/
def isI (w : World) (B : Nat) (s : Value) (l : List GI) : Prop :=
  ∃ a c b off, s = .slice a l.length c ∧ l.length ≤ c ∧ (0 < l.length → a = some ⟨b, off, none⟩ ∧ b < B) ∧ ∀ i (h : i < l.length), cellsI w B l[i] b (off + i * 8)
theorem isI_form {w : World} {B : Nat} {s : Value} {l : List GI} (h : isI w B s l) : ∃ a c, s = .slice a l.length c := by
  obtain ⟨a, c, b, off, e, _⟩ := h
  exact ⟨a, c, e⟩
theorem cellsI_keep {w w' : World} {B B' : Nat} {x : GI} {b off : Nat} (h : cellsI w B x b off) (hbb : b < B) (hb : Below B' w w') (hB : B ≤ B') : cellsI w' B x b off := by
  obtain ⟨a, c, a0, a1, a2, a3, a4, a5, a6, a7, hs⟩ := h
  have hk : ∀ o, w'.cell? ⟨b, o, none⟩ = w.cell? ⟨b, o, none⟩ := fun o => hb.cell (p := ⟨b, o, none⟩) (Nat.lt_of_lt_of_le hbb hB)
  exact ⟨a, c, by rw [hk, a0], by rw [hk, a1], by rw [hk, a2], by rw [hk, a3], by rw [hk, a4], by rw [hk, a5], by rw [hk, a6], by rw [hk, a7], isL_below hs hb hB⟩
theorem isI_below {w w' : World} {B B' : Nat} {s : Value} {l : List GI} (h : isI w B s l) (hb : Below B' w w') (hB : B ≤ B') : isI w' B s l := by
  obtain ⟨a, c, b, off, e, hc, ha, hA⟩ := h
  exact ⟨a, c, b, off, e, hc, ha, fun i hi => cellsI_keep (hA i hi) (ha (by omega)).2 hb hB⟩
/-- what the call has made can be read -/
theorem ownI_isI {full : Bool} {w : World} {lo base : Nat} {T : TypeId} {v : Value} {l : List GI} (h : ownI full w lo base T v l) : isI w w.heap.size v l := by
  have hlt := fun g hg => ownI_lt h (g := g) hg
  obtain ⟨ss, hl, ⟨h1, h2 | ⟨g, cap, cur, e, hg, hh, hn, hcap, hsz, htk⟩⟩, hin⟩ := h
  · have : l = [] := List.eq_nil_of_length_eq_zero h2.2
    subst this
    exact ⟨none, 0, 0, 0, h2.1, Nat.le_refl _, fun h => by simp at h, fun i hi => by simp at hi⟩
  · subst e
    have hcell : ∀ j, j < l.length * 8 → w.cell? ⟨g, j, none⟩ = (flatI l ss)[j]? := fun j hj => by
      rw [← htk, List.getElem?_take, if_pos hj]
      simp [World.cell?, hh]
    refine ⟨some ⟨g, 0, none⟩, cap, g, 0, rfl, hn, fun _ => ⟨rfl, (hlt g rfl).2⟩, fun i hi => ?_⟩
    obtain ⟨a0, a1, a2, a3, a4, a5, a6, a7⟩ := flatI_get l ss i hi (by omega)
    obtain ⟨a, c, e⟩ := isS_form (hin i hi (by omega))
    have hL := inner_isL (hin i hi (by omega))
    rw [e] at a7 hL
    rw [Nat.zero_add]
    exact ⟨a, c, by rw [hcell _ (by omega), a0], by rw [hcell _ (by omega), a1], by rw [hcell _ (by omega), a2], by rw [hcell _ (by omega), a3], by rw [hcell _ (by omega), a4], by rw [hcell _ (by omega), a5], by rw [hcell _ (by omega), a6], by rw [hcell _ (by omega), a7], hL⟩

/-! ### two lists of instructions the same -/
def sameI (x y : GI) : Bool := (x.op == y.op) && ((x.arg == y.arg) && ((x.s.toList == y.s.toList) && same x.v y.v))
def sameIs : List GI → List GI → Bool
  | [], [] => true
  | x :: r, y :: s => sameI x y && sameIs r s
  | [], _ :: _ => false
  | _ :: _, [] => false
theorem sameIs_len : ∀ (l m : List GI), l.length ≠ m.length → sameIs l m = false
  | [], [], h => by simp at h
  | x :: r, y :: s, h => by simp [sameIs, sameIs_len r s (by simpa using h)]
  | [], _ :: _, _ => rfl
  | _ :: _, [], _ => rfl
theorem sameIs_all : ∀ (l m : List GI), l.length = m.length → (∀ i (h : i < l.length) (h' : i < m.length), sameI l[i] m[i] = true) → sameIs l m = true
  | [], [], _, _ => rfl
  | x :: r, y :: s, h, g => by
    have g0 : sameI x y = true := g 0 (by simp) (by simp)
    have gr := sameIs_all r s (by simpa using h) (fun i h h' => g (i + 1) (by simpa using h) (by simpa using h'))
    simp [sameIs, g0, gr]
  | [], _ :: _, h, _ => by simp at h
  | _ :: _, [], h, _ => by simp at h
theorem sameIs_at : ∀ (l m : List GI) (i : Nat) (h : i < l.length) (h' : i < m.length), sameI l[i] m[i] = false → sameIs l m = false
  | x :: r, y :: s, 0, _, _, g => by
    have g' : sameI x y = false := g
    simp [sameIs, g']
  | x :: r, y :: s, i + 1, h, h', g => by
    have := sameIs_at r s i (by simpa using h) (by simpa using h') g
    simp [sameIs, this]
theorem sameI_iff (x y : GI) : sameI x y = true ↔ x = y := by
  obtain ⟨a, b, c, d⟩ := x
  obtain ⟨a', b', c', d'⟩ := y
  have ht : c.toList = c'.toList ↔ c = c' := ⟨bytes_ext, fun h => by rw [h]⟩
  simp only [sameI, Bool.and_eq_true, beq_iff_eq, same_iff, ht, GI.mk.injEq]
theorem sameIs_iff : ∀ (l m : List GI), sameIs l m = true ↔ l = m
  | [], [] => by simp [sameIs]
  | x :: r, y :: s => by simp [sameIs, sameI_iff x y, sameIs_iff r s]
  | [], _ :: _ => by simp [sameIs]
  | _ :: _, [] => by simp [sameIs]
end Go.Proofs.YtnmolgmchoihmaaDoor
