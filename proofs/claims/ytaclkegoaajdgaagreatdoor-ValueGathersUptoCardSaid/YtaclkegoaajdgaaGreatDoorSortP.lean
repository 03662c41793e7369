/-
  Sorting by value.Order in plain words: swaps, the insertion sort's rounds, the rotation, the merge of two sorted parts; the one sorted list. Conditions: none.
-/
import Derived.Test.YtaclkegoaajdgaaGreatDoorOrdSame
namespace Go.Proofs.YtaclkegoaajdgaaGreatDoor
open Go Go.RowKit
set_option linter.unusedVariables false
def dfG : GV := ⟨0, false, 0, ⟨#[]⟩, []⟩
/-- the i-th value of a list -/
def vat (m : List GV) (i : Nat) : GV := m.getD i dfG
theorem vat_get {m : List GV} {i : Nat} (h : i < m.length) : vat m i = m[i] := by
  simp [vat, List.getD, List.getElem?_eq_getElem h]
theorem vat_set {m : List GV} {i : Nat} (h : i < m.length) (x : GV) (k : Nat) : vat (m.set i x) k = if k = i then x else vat m k := by
  unfold vat
  simp only [List.getD, List.getElem?_set]
  by_cases e : i = k
  · subst e; simp [h]
  · rw [if_neg e, if_neg (fun g => e g.symm)]
def le (x y : GV) : Prop := ordV x y ≤ 0
instance (x y : GV) : Decidable (le x y) := by unfold le; exact inferInstance
theorem le_trans' {x y z : GV} (h : le x y) (g : le y z) : le x z := (ordV_row x y z).1.1 h g
theorem le_of_not {x y : GV} (h : ¬ ordV x y < 0) : le y x := by
  unfold le
  rw [ordV_neg]; omega
theorem le_of_lt {x y : GV} (h : ordV x y < 0) : le x y := by unfold le; omega
theorem le_total (x y : GV) : le x y ∨ le y x := by
  unfold le
  rw [ordV_neg y x]; omega
theorem le_refl' (x : GV) : le x x := by cases le_total x x <;> assumption
/-- the values from a on, below b, stand in order -/
def srt (f : Nat → GV) (a b : Nat) : Prop := ∀ i j, a ≤ i → i < j → j < b → le (f i) (f j)
theorem srt_le {f : Nat → GV} {a b : Nat} (h : srt f a b) {i j : Nat} (h1 : a ≤ i) (h2 : i ≤ j) (h3 : j < b) : le (f i) (f j) := by
  by_cases e : i = j
  · subst e; exact le_refl' _
  · exact h i j h1 (by omega) h3
theorem srt_sub {f : Nat → GV} {a b a' b' : Nat} (h : srt f a b) (h1 : a ≤ a') (h2 : b' ≤ b) : srt f a' b' := fun i j g1 g2 g3 => h i j (by omega) g2 (by omega)
theorem srt_congr {f g : Nat → GV} {a b : Nat} (h : srt f a b) (e : ∀ i, a ≤ i → i < b → g i = f i) : srt g a b := fun i j g1 g2 g3 => by
  rw [e i g1 (by omega), e j (by omega) g3]; exact h i j g1 g2 g3
/-- m' holds m's values; only those from a on, below b, stand elsewhere -/
def Mov (a b : Nat) (m m' : List GV) : Prop := m'.length = m.length ∧ m'.Perm m ∧ (∀ i, i < a ∨ b ≤ i → vat m' i = vat m i) ∧ (∀ i, a ≤ i → i < b → ∃ j, a ≤ j ∧ j < b ∧ vat m' i = vat m j)
theorem Mov.refl (a b : Nat) (m : List GV) : Mov a b m m := ⟨rfl, List.Perm.refl _, fun _ _ => rfl, fun i h1 h2 => ⟨i, h1, h2, rfl⟩⟩
theorem Mov.trans {a b : Nat} {m m' m'' : List GV} (h : Mov a b m m') (g : Mov a b m' m'') : Mov a b m m'' :=
  ⟨g.1.trans h.1, g.2.1.trans h.2.1, fun i hi => (g.2.2.1 i hi).trans (h.2.2.1 i hi), fun i h1 h2 => by
    obtain ⟨j, j1, j2, e⟩ := g.2.2.2 i h1 h2
    obtain ⟨k, k1, k2, e2⟩ := h.2.2.2 j j1 j2
    exact ⟨k, k1, k2, e.trans e2⟩⟩
theorem Mov.wide {a b a' b' : Nat} {m m' : List GV} (h : Mov a b m m') (h1 : a' ≤ a) (h2 : b ≤ b') : Mov a' b' m m' :=
  ⟨h.1, h.2.1, fun i hi => h.2.2.1 i (by omega), fun i g1 g2 => by
    by_cases e : a ≤ i ∧ i < b
    · obtain ⟨j, j1, j2, e⟩ := h.2.2.2 i e.1 e.2
      exact ⟨j, by omega, by omega, e⟩
    · exact ⟨i, g1, g2, h.2.2.1 i (by omega)⟩⟩
/-- two values change places -/
def swp (m : List GV) (i j : Nat) : List GV := (m.set i (vat m j)).set j (vat m i)
theorem swp_len (m : List GV) (i j : Nat) : (swp m i j).length = m.length := by simp [swp]
theorem vat_swp {m : List GV} {i j : Nat} (hi : i < m.length) (hj : j < m.length) (k : Nat) : vat (swp m i j) k = if k = j then vat m i else if k = i then vat m j else vat m k := by
  unfold swp
  rw [vat_set (by simpa using hj), vat_set hi]
theorem swp_mov {m : List GV} {i j a b : Nat} (hi : i < m.length) (hj : j < m.length) (h1 : a ≤ i) (h2 : i < b) (h3 : a ≤ j) (h4 : j < b) : Mov a b m (swp m i j) := by
  refine ⟨swp_len _ _ _, ?_, fun k hk => ?_, fun k k1 k2 => ?_⟩
  · unfold swp
    rw [vat_get hi, vat_get hj]
    exact List.set_set_perm hi hj
  · rw [vat_swp hi hj, if_neg (by omega), if_neg (by omega)]
  · rw [vat_swp hi hj]
    by_cases e : k = j
    · rw [if_pos e]; exact ⟨i, h1, h2, rfl⟩
    · rw [if_neg e]
      by_cases e2 : k = i
      · rw [if_pos e2]; exact ⟨j, h3, h4, rfl⟩
      · rw [if_neg e2]; exact ⟨k, k1, k2, rfl⟩

/-! ### the insertion sort: the value at j sinks -/
/-- all from a up to i in order, but for what stands at j against what is ahead of it -/
def sinks (f : Nat → GV) (a i j : Nat) : Prop := ∀ p q, a ≤ p → p < q → q ≤ i → q ≠ j → le (f p) (f q)
theorem sinks_start {f : Nat → GV} {a i : Nat} (h : srt f a i) : sinks f a i i := fun p q h1 h2 h3 h4 => h p q h1 h2 (by omega)
theorem sinks_step {m : List GV} {a i j : Nat} (h : sinks (vat m) a i (j + 1)) (hi : i < m.length) (hj : j + 1 ≤ i) (ha : a ≤ j) (hlt : ordV (vat m (j + 1)) (vat m j) < 0) : sinks (vat (swp m (j + 1) j)) a i j := by
  intro p q h1 h2 h3 h4
  rw [vat_swp (by omega) (by omega), vat_swp (by omega) (by omega), if_neg (show ¬ q = j from h4)]
  by_cases q1 : q = j + 1
  · subst q1
    rw [if_pos rfl]
    by_cases p1 : p = j
    · subst p1; rw [if_pos rfl]; exact le_of_lt hlt
    · rw [if_neg p1, if_neg (by omega)]
      exact h p j h1 (by omega) (by omega) (by omega)
  · rw [if_neg q1]
    by_cases p1 : p = j
    · subst p1; rw [if_pos rfl]; exact h _ q (by omega) (by omega) h3 q1
    · rw [if_neg p1]
      by_cases p2 : p = j + 1
      · subst p2; rw [if_pos rfl]; exact h j q ha (by omega) h3 q1
      · rw [if_neg p2]; exact h p q h1 h2 h3 q1
theorem sinks_end {f : Nat → GV} {a i j : Nat} (h : sinks f a i j) (g : j = a ∨ (a < j ∧ ¬ ordV (f j) (f (j - 1)) < 0)) : srt f a (i + 1) := by
  intro p q h1 h2 h3
  by_cases e : q = j
  · subst e
    rcases g with rfl | ⟨g1, g2⟩
    · omega
    · have hle := le_of_not g2
      by_cases e2 : p = q - 1
      · subst e2; exact hle
      · exact le_trans' (h p (q - 1) h1 (by omega) (by omega) (by omega)) hle
  · exact h p q h1 h2 (by omega) e

/-! ### the rotation -/
/-- where the i-th comes from, when the parts from a and from m on, below b, change places -/
def rotI (a m b i : Nat) : Nat := if a ≤ i ∧ i < b then (if i < a + (b - m) then i + (m - a) else i - (b - m)) else i
/-- where the i-th comes from, when n from a on and n from b on change places -/
def swpI (a b n i : Nat) : Nat := if a ≤ i ∧ i < a + n then i - a + b else if b ≤ i ∧ i < b + n then i - b + a else i
theorem swpI_zero (a b i : Nat) : swpI a b 0 i = i := by unfold swpI; rw [if_neg (by omega), if_neg (by omega)]
theorem swpI_step {m : List GV} {f : Nat → GV} {a b k : Nat} (h : ∀ i, vat m i = f (swpI a b k i)) (hn : a + k + 1 ≤ b) (hb : b + k < m.length) : ∀ i, vat (swp m (a + k) (b + k)) i = f (swpI a b (k + 1) i) := by
  intro i
  rw [vat_swp (by omega) hb, h, h, h]
  by_cases e : i = b + k
  · subst e
    rw [if_pos rfl]
    congr 1
    unfold swpI
    rw [if_neg (by omega), if_neg (by omega), if_neg (by omega), if_pos (by omega)]
    omega
  · rw [if_neg e]
    by_cases e2 : i = a + k
    · subst e2
      rw [if_pos rfl]
      congr 1
      unfold swpI
      rw [if_neg (by omega), if_neg (by omega), if_pos (by omega)]
      omega
    · rw [if_neg e2]
      congr 1
      unfold swpI
      by_cases c1 : a ≤ i ∧ i < a + k
      · rw [if_pos c1, if_pos (by omega)]
      · rw [if_neg c1, if_neg (show ¬ (a ≤ i ∧ i < a + (k + 1)) by omega)]
        by_cases c2 : b ≤ i ∧ i < b + k
        · rw [if_pos c2, if_pos (by omega)]
        · rw [if_neg c2, if_neg (by omega)]
/-- a round of the rotation, the left part the longer -/
theorem rot_left (m i j k : Nat) (h : j < i) (hm : i ≤ m) : swpI (m - i) m j (rotI (m - (i - j)) m (m + j) k) = rotI (m - i) m (m + j) k := by
  unfold rotI swpI
  by_cases c : m - i ≤ k ∧ k < m + j
  · rw [if_pos c]
    by_cases c1 : k < m - i + j
    · rw [if_neg (show ¬ (m - (i - j) ≤ k ∧ k < m + j) by omega), if_pos (show k < m - i + (m + j - m) by omega), if_pos (by omega)]
      omega
    · rw [if_pos (show m - (i - j) ≤ k ∧ k < m + j by omega), if_neg (show ¬ k < m - i + (m + j - m) by omega)]
      by_cases c2 : k < m - (i - j) + (m + j - m)
      · rw [if_pos c2, if_neg (by omega), if_pos (by omega)]
        omega
      · rw [if_neg c2, if_neg (by omega), if_neg (by omega)]
  · rw [if_neg c, if_neg (show ¬ (m - (i - j) ≤ k ∧ k < m + j) by omega), if_neg (by omega), if_neg (by omega)]
theorem rot_right (m i j k : Nat) (h : i < j) (hm : i ≤ m) : swpI (m - i) (m + j - i) i (rotI (m - i) m (m + (j - i)) k) = rotI (m - i) m (m + j) k := by
  unfold rotI swpI
  by_cases c : m - i ≤ k ∧ k < m + j
  · rw [if_pos c]
    by_cases c1 : k < m + (j - i)
    · rw [if_pos (show m - i ≤ k ∧ k < m + (j - i) by omega)]
      by_cases c2 : k < m - i + (m + (j - i) - m)
      · rw [if_pos c2, if_neg (by omega), if_neg (by omega), if_pos (by omega)]
      · rw [if_neg c2, if_pos (by omega)]
        by_cases c3 : k < m - i + (m + j - m)
        · rw [if_pos c3]; omega
        · rw [if_neg c3]; omega
    · rw [if_neg (show ¬ (m - i ≤ k ∧ k < m + (j - i)) by omega), if_neg (by omega), if_pos (by omega), if_neg (by omega)]
      omega
  · rw [if_neg c, if_neg (show ¬ (m - i ≤ k ∧ k < m + (j - i)) by omega), if_neg (by omega), if_neg (by omega)]
theorem rot_even (m i k : Nat) (hm : i ≤ m) : swpI (m - i) m i k = rotI (m - i) m (m + i) k := by
  unfold rotI swpI
  by_cases c : m - i ≤ k ∧ k < m + i
  · rw [if_pos c]
    by_cases c1 : k < m
    · rw [if_pos (by omega), if_pos (by omega)]; omega
    · rw [if_neg (by omega), if_pos (by omega), if_neg (by omega)]; omega
  · rw [if_neg c, if_neg (by omega), if_neg (by omega)]
theorem rot_in {a m b i : Nat} (h1 : a ≤ m) (h2 : m ≤ b) (h3 : a ≤ i) (h4 : i < b) : a ≤ rotI a m b i ∧ rotI a m b i < b := by
  unfold rotI
  rw [if_pos ⟨h3, h4⟩]
  split <;> omega

theorem rotI_left (m e k : Nat) : rotI m m e k = k := by unfold rotI; split <;> (try split) <;> omega
theorem rotI_right (s m k : Nat) : rotI s m m k = k := by unfold rotI; split <;> (try split) <;> omega
/-! ### the search for the place -/
def bsI (P : Nat → Prop) (lo hi i j : Nat) : Prop := lo ≤ i ∧ i ≤ j ∧ j ≤ hi ∧ (∀ q, lo ≤ q → q < i → P q) ∧ (∀ q, j ≤ q → q < hi → ¬ P q)
def down (P : Nat → Prop) (lo hi : Nat) : Prop := ∀ q q', lo ≤ q' → q' ≤ q → q < hi → P q → P q'
theorem bs_start {P : Nat → Prop} {lo hi : Nat} (h : lo ≤ hi) : bsI P lo hi lo hi := ⟨Nat.le_refl _, h, Nat.le_refl _, fun q h1 h2 => by omega, fun q h1 h2 => by omega⟩
theorem bs_up {P : Nat → Prop} {lo hi i j h : Nat} (hm : down P lo hi) (hb : bsI P lo hi i j) (h1 : i ≤ h) (h2 : h < j) (hP : P h) : bsI P lo hi (h + 1) j :=
  ⟨by have := hb.1; omega, by omega, hb.2.2.1, fun q g1 g2 => hm h q g1 (by omega) (by have := hb.2.2.1; omega) hP, hb.2.2.2.2⟩
theorem bs_dn {P : Nat → Prop} {lo hi i j h : Nat} (hm : down P lo hi) (hb : bsI P lo hi i j) (h1 : i ≤ h) (h2 : h < j) (hP : ¬ P h) : bsI P lo hi i h :=
  ⟨hb.1, h1, by have := hb.2.2.1; omega, hb.2.2.2.1, fun q g1 g2 g => hP (hm q h (by have := hb.1; omega) g1 g2 g)⟩
/-! ### one value goes among a sorted part -/
theorem down_first {f : Nat → GV} {a m b : Nat} (h : srt f m b) : down (fun q => ordV (f q) (f a) < 0) m b := fun q q' h1 h2 h3 hP => (ordV_row (f q') (f q) (f a)).1.2.2 (srt_le h h1 h2 h3) hP
theorem down_last {f : Nat → GV} {a m : Nat} (h : srt f a m) : down (fun q => ¬ ordV (f m) (f q) < 0) a m := fun q q' h1 h2 h3 hP hlt => hP ((ordV_row (f m) (f q') (f q)).1.2.1 hlt (srt_le h h1 h2 h3))
theorem first_in {f : Nat → GV} {a b i : Nat} (h : srt f (a + 1) b) (hb : bsI (fun q => ordV (f q) (f a) < 0) (a + 1) b i i) : srt (fun k => f (rotI a (a + 1) i k)) a b := by
  obtain ⟨h1, _, h2, hlo, hhi⟩ := hb
  intro p q g1 g2 g3
  show le (f (rotI a (a + 1) i p)) (f (rotI a (a + 1) i q))
  unfold rotI
  by_cases q1 : q < i
  · rw [if_pos (show a ≤ p ∧ p < i by omega), if_pos (show a ≤ q ∧ q < i by omega), if_pos (by omega)]
    by_cases q2 : q < a + (i - (a + 1))
    · rw [if_pos q2]; exact h _ _ (by omega) (by omega) (by omega)
    · rw [if_neg q2, show q - (i - (a + 1)) = a by omega]
      exact le_of_lt (hlo _ (by omega) (by omega))
  · rw [if_neg (show ¬ (a ≤ q ∧ q < i) by omega)]
    by_cases p1 : p < i
    · rw [if_pos (show a ≤ p ∧ p < i by omega)]
      by_cases p2 : p < a + (i - (a + 1))
      · rw [if_pos p2]; exact h _ _ (by omega) (by omega) (by omega)
      · rw [if_neg p2, show p - (i - (a + 1)) = a by omega]
        exact le_of_not (hhi q (by omega) g3)
    · rw [if_neg (show ¬ (a ≤ p ∧ p < i) by omega)]
      exact h _ _ (by omega) g2 g3
theorem last_in {f : Nat → GV} {a m i : Nat} (h : srt f a m) (hb : bsI (fun q => ¬ ordV (f m) (f q) < 0) a m i i) : srt (fun k => f (rotI i m (m + 1) k)) a (m + 1) := by
  obtain ⟨h1, _, h2, hlo, hhi⟩ := hb
  intro p q g1 g2 g3
  show le (f (rotI i m (m + 1) p)) (f (rotI i m (m + 1) q))
  unfold rotI
  by_cases p1 : i ≤ p
  · rw [if_pos (show i ≤ p ∧ p < m + 1 by omega), if_pos (show i ≤ q ∧ q < m + 1 by omega), if_neg (show ¬ q < i + (m + 1 - m) by omega)]
    by_cases p2 : p < i + (m + 1 - m)
    · rw [if_pos p2, show p + (m - i) = m by omega]
      have := hhi (q - (m + 1 - m)) (by omega) (by omega)
      exact le_of_lt (Decidable.not_not.1 this)
    · rw [if_neg p2]; exact h _ _ (by omega) (by omega) (by omega)
  · rw [if_neg (show ¬ (i ≤ p ∧ p < m + 1) by omega)]
    by_cases q1 : i ≤ q
    · rw [if_pos (show i ≤ q ∧ q < m + 1 by omega)]
      by_cases q2 : q < i + (m + 1 - m)
      · rw [if_pos q2, show q + (m - i) = m by omega]
        exact le_of_not (hlo p g1 (by omega))
      · rw [if_neg q2]; exact h _ _ g1 (by omega) (by omega)
    · rw [if_neg (show ¬ (i ≤ q ∧ q < m + 1) by omega)]
      exact h _ _ g1 g2 (by omega)
/-- the first value goes one further up -/
theorem first_step {m : List GV} {f : Nat → GV} {a k : Nat} (h : ∀ i, vat m i = f (rotI a (a + 1) (k + 1) i)) (ha : a ≤ k) (hk : k + 1 < m.length) : ∀ i, vat (swp m k (k + 1)) i = f (rotI a (a + 1) (k + 2) i) := by
  intro i
  rw [vat_swp (by omega) hk, h, h, h]
  by_cases e : i = k + 1
  · subst e
    rw [if_pos rfl]
    congr 1
    unfold rotI
    rw [if_pos (by omega), if_neg (by omega), if_pos (by omega), if_neg (by omega)]
    omega
  · rw [if_neg e]
    by_cases e2 : i = k
    · subst e2
      rw [if_pos rfl]
      congr 1
      unfold rotI
      rw [if_neg (by omega), if_pos (by omega), if_pos (by omega)]
      omega
    · rw [if_neg e2]
      congr 1
      unfold rotI
      by_cases c : a ≤ i ∧ i < k
      · rw [if_pos (by omega), if_pos (by omega), if_pos (by omega), if_pos (by omega)]
      · rw [if_neg (by omega), if_neg (by omega)]
/-- the last value goes one further down -/
theorem last_step {l : List GV} {f : Nat → GV} {m k : Nat} (h : ∀ i, vat l i = f (rotI (k + 1) m (m + 1) i)) (hk : k + 1 ≤ m) (hm : m < l.length) : ∀ i, vat (swp l (k + 1) k) i = f (rotI k m (m + 1) i) := by
  intro i
  rw [vat_swp (by omega) (by omega), h, h, h]
  by_cases e : i = k
  · subst e
    rw [if_pos rfl]
    congr 1
    unfold rotI
    rw [if_pos (by omega), if_pos (by omega), if_pos (by omega), if_pos (by omega)]
    omega
  · rw [if_neg e]
    by_cases e2 : i = k + 1
    · subst e2
      rw [if_pos rfl]
      congr 1
      unfold rotI
      rw [if_neg (by omega), if_pos (by omega), if_neg (by omega)]
      omega
    · rw [if_neg e2]
      congr 1
      unfold rotI
      by_cases c : k + 1 < i ∧ i ≤ m
      · rw [if_pos (by omega), if_neg (by omega), if_pos (by omega), if_neg (by omega)]
      · rw [if_neg (by omega), if_neg (by omega)]

/-! ### the merge -/
theorem down_sym {f : Nat → GV} {a m b n lo hi : Nat} (h1 : srt f a m) (h2 : srt f m b) (ha : a ≤ lo) (hh : hi ≤ m) (hn : n ≤ b + lo) (hm : m + hi ≤ n) : down (fun c => ¬ ordV (f (n - 1 - c)) (f c) < 0) lo hi := fun q q' g1 g2 g3 hP hlt => hP (by
  have e1 : le (f q') (f q) := srt_le h1 (by omega) g2 (by omega)
  have e2 : le (f (n - 1 - q)) (f (n - 1 - q')) := srt_le h2 (by omega) (by omega) (by omega)
  have e3 := (ordV_row (f (n - 1 - q)) (f (n - 1 - q')) (f q')).1.2.2 e2 hlt
  exact (ordV_row (f (n - 1 - q)) (f q') (f q)).1.2.1 e3 e1)
/-- what the search finds parts the two: what comes ahead is at most what comes behind -/
theorem sym_parts {f : Nat → GV} {a m b n mid lo hi s : Nat} (h1 : srt f a m) (h2 : srt f m b) (hb : bsI (fun c => ¬ ordV (f (n - 1 - c)) (f c) < 0) lo hi s s) (hn : n = mid + m) (ha : a ≤ lo) (hh : hi ≤ m) (hnb : n ≤ b + lo) (hmn : m + hi ≤ n) (hlo : lo = a ∨ n = b + lo) (hhi : hi = m ∨ hi = mid) :
    (∀ p q, a ≤ p → p < s → n - s ≤ q → q < b → le (f p) (f q)) ∧ (∀ p q, m ≤ p → p < n - s → s ≤ q → q < m → le (f p) (f q)) := by
  obtain ⟨g1, _, g2, hl, hr⟩ := hb
  refine ⟨fun p q p1 p2 q1 q2 => ?_, fun p q p1 p2 q1 q2 => ?_⟩
  · by_cases e : lo < s
    · have := le_of_not (hl (s - 1) (by omega) (by omega))
      rw [show n - 1 - (s - 1) = n - s by omega] at this
      exact le_trans' (srt_le h1 p1 (by omega) (by omega)) (le_trans' this (srt_le h2 (by omega) q1 q2))
    · omega
  · by_cases e : s < hi
    · have := le_of_lt (Decidable.not_not.1 (hr s (Nat.le_refl _) e))
      exact le_trans' (srt_le h2 p1 (show p ≤ n - 1 - s by omega) (by omega)) (le_trans' this (srt_le h1 (by omega) q1 q2))
    · omega
/-- behind the rotation: four sorted parts, the first two at most the last two -/
theorem sym_rot {f g : Nat → GV} {a m b s e c : Nat} (h1 : srt f a m) (h2 : srt f m b) (hg : ∀ k, g k = f (rotI s m e k)) (has : a ≤ s) (hsm : s ≤ m) (hme : m ≤ e) (heb : e ≤ b) (hc : c = s + (e - m))
    (hp : (∀ p q, a ≤ p → p < s → e ≤ q → q < b → le (f p) (f q)) ∧ (∀ p q, m ≤ p → p < e → s ≤ q → q < m → le (f p) (f q))) :
    srt g a s ∧ srt g s c ∧ srt g c e ∧ srt g e b ∧ ∀ p q, a ≤ p → p < c → c ≤ q → q < b → le (g p) (g q) := by
  have r0 : ∀ k, k < s → g k = f k := fun k hk => by rw [hg]; unfold rotI; rw [if_neg (by omega)]
  have r1 : ∀ k, s ≤ k → k < c → g k = f (k + (m - s)) := fun k hk hk2 => by rw [hg]; unfold rotI; rw [if_pos (by omega), if_pos (by omega)]
  have r2 : ∀ k, c ≤ k → k < e → g k = f (k - (e - m)) := fun k hk hk2 => by rw [hg]; unfold rotI; rw [if_pos (by omega), if_neg (by omega)]
  have r3 : ∀ k, e ≤ k → g k = f k := fun k hk => by rw [hg]; unfold rotI; rw [if_neg (by omega)]
  refine ⟨fun p q p1 p2 p3 => ?_, fun p q p1 p2 p3 => ?_, fun p q p1 p2 p3 => ?_, fun p q p1 p2 p3 => ?_, fun p q p1 p2 q1 q2 => ?_⟩
  · rw [r0 p (by omega), r0 q (by omega)]; exact h1 p q p1 p2 (by omega)
  · rw [r1 p (by omega) (by omega), r1 q (by omega) (by omega)]; exact h2 _ _ (by omega) (by omega) (by omega)
  · rw [r2 p (by omega) (by omega), r2 q (by omega) (by omega)]; exact h1 _ _ (by omega) (by omega) (by omega)
  · rw [r3 p (by omega), r3 q (by omega)]; exact h2 _ _ (by omega) (by omega) (by omega)
  · by_cases ps : p < s
    · rw [r0 p ps]
      by_cases qe : q < e
      · rw [r2 q q1 qe]; exact h1 _ _ p1 (by omega) (by omega)
      · rw [r3 q (by omega)]; exact hp.1 p q p1 ps (by omega) q2
    · rw [r1 p (by omega) p2]
      by_cases qe : q < e
      · rw [r2 q q1 qe]; exact hp.2 _ _ (by omega) (by omega) (by omega) (by omega)
      · rw [r3 q (by omega)]; exact h2 _ _ (by omega) (by omega) q2
/-- the two halves, each brought into order, are in order -/
theorem sym_join {l1 l2 l3 : List GV} {a c b : Nat} (hx : ∀ p q, a ≤ p → p < c → c ≤ q → q < b → le (vat l1 p) (vat l1 q)) (m1 : Mov a c l1 l2) (m2 : Mov c b l2 l3) (s2 : srt (vat l2) a c) (s3 : srt (vat l3) c b) : srt (vat l3) a b := by
  intro p q p1 p2 p3
  by_cases qc : q < c
  · rw [m2.2.2.1 p (by omega), m2.2.2.1 q (by omega)]; exact s2 p q p1 p2 qc
  · by_cases pc : p < c
    · obtain ⟨j, j1, j2, ej⟩ := m2.2.2.2 q (by omega) p3
      obtain ⟨i, i1, i2, ei⟩ := m1.2.2.2 p p1 pc
      rw [m2.2.2.1 p (by omega), ej, ei, m1.2.2.1 j (by omega)]
      exact hx i j i1 i2 j1 j2
    · exact s3 p q (by omega) p2 p3

/-! ### the one sorted list -/
def sortG (l : List GV) : List GV := l.mergeSort fun x y => decide (le x y)
theorem sortG_perm (l : List GV) : (sortG l).Perm l := List.mergeSort_perm _ _
theorem sortG_sorted (l : List GV) : (sortG l).Pairwise le := by
  have := List.pairwise_mergeSort (le := fun x y => decide (le x y)) (fun a b c h1 h2 => decide_eq_true (le_trans' (of_decide_eq_true h1) (of_decide_eq_true h2))) (fun a b => by
    rcases le_total a b with h | h
    · rw [decide_eq_true h]; rfl
    · rw [decide_eq_true h]; simp) l
  exact this.imp fun h => of_decide_eq_true h
theorem srt_pairwise {m : List GV} (h : srt (vat m) 0 m.length) : m.Pairwise le := by
  rw [List.pairwise_iff_getElem]
  intro i j hi hj hij
  have := h i j (Nat.zero_le _) hij hj
  rwa [vat_get hi, vat_get hj] at this
theorem ord_eq {x y : GV} (hx : vmay x = true) (hy : vmay y = true) (h1 : le x y) (h2 : le y x) : x = y := by
  refine (same_iff x y).1 ?_
  rw [ord_zero x y hx hy]
  refine decide_eq_true ?_
  unfold le at h1 h2
  rw [ordV_neg] at h2
  omega
theorem sort_one : ∀ (l1 l2 : List GV), l1.Pairwise le → l2.Pairwise le → l1.Perm l2 → (∀ x ∈ l1, vmay x = true) → l1 = l2
  | [], l2, _, _, hp, _ => (List.nil_perm.1 hp).symm
  | x :: r, [], _, _, hp, _ => absurd (List.perm_nil.1 hp) (by simp)
  | x :: r, y :: s, h1, h2, hp, hm => by
    have hx : x ∈ y :: s := hp.subset (List.mem_cons_self ..)
    have hy : y ∈ x :: r := hp.symm.subset (List.mem_cons_self ..)
    have e1 : le x y := by
      rcases List.mem_cons.1 hy with e | e
      · subst e; exact le_refl' _
      · exact (List.pairwise_cons.1 h1).1 y e
    have e2 : le y x := by
      rcases List.mem_cons.1 hx with e | e
      · subst e; exact le_refl' _
      · exact (List.pairwise_cons.1 h2).1 x e
    have e : x = y := ord_eq (hm x (List.mem_cons_self ..)) (hm y hy) e1 e2
    subst e
    rw [sort_one r s (List.pairwise_cons.1 h1).2 (List.pairwise_cons.1 h2).2 hp.cons_inv (fun z hz => hm z (List.mem_cons_of_mem _ hz))]
theorem sort_is {l m : List GV} (hm : ∀ x ∈ l, vmay x = true) (h : Mov 0 l.length l m) (hs : srt (vat m) 0 l.length) : m = sortG l :=
  sort_one m (sortG l) (srt_pairwise (by rw [h.1]; exact hs)) (sortG_sorted l) (h.2.1.trans (sortG_perm l).symm) (fun x hx => hm x (h.2.1.subset hx))
theorem fitL_every : ∀ {l : List GV}, (∀ x ∈ l, x.fit) → fitL l
  | [], _ => trivial
  | x :: r, h => ⟨h x (List.mem_cons_self ..), fitL_every fun y hy => h y (List.mem_cons_of_mem _ hy)⟩
theorem mov_fit {a b : Nat} {l m : List GV} (h : Mov a b l m) (fl : fitL l) : fitL m := fitL_every fun x hx => fitL_mem fl x (h.2.1.subset hx)
theorem vat_fit {l : List GV} (fl : fitL l) {i : Nat} (h : i < l.length) : (vat l i).fit := by rw [vat_get h]; exact fitL_get fl i h
end Go.Proofs.YtaclkegoaajdgaaGreatDoor
