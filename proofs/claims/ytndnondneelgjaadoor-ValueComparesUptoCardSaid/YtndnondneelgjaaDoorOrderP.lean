/-
  Plain words on the order of values: it is one. Conditions: none.
-/
import Derived.Test.YtndnondneelgjaaDoorChkL
namespace Go.Proofs.YtndnondneelgjaaDoor
open Go Go.RowKit
set_option linter.unusedVariables false
def cmpI (a b : Int) : Int := if a < b then -1 else if b < a then 1 else 0
theorem cmpI_neg (a b : Int) : cmpI a b = - cmpI b a := by
  unfold cmpI
  split <;> split <;> first | omega | (split <;> omega)
theorem cmpI_zero {a b : Int} : cmpI a b = 0 ↔ a = b := by
  unfold cmpI
  split
  · constructor <;> intro h <;> omega
  · split
    · constructor <;> intro h <;> omega
    · constructor <;> intro h <;> omega
theorem cmpI_le {a b : Int} : cmpI a b ≤ 0 ↔ a ≤ b := by
  unfold cmpI
  split
  · constructor <;> intro h <;> omega
  · split
    · constructor <;> intro h <;> omega
    · constructor <;> intro h <;> omega
theorem cmpI_lt {a b : Int} : cmpI a b < 0 ↔ a < b := by
  unfold cmpI
  split
  · constructor <;> intro h <;> omega
  · split
    · constructor <;> intro h <;> omega
    · constructor <;> intro h <;> omega
theorem less_irr (a : List UInt8) : Op.bytesLess a a = false := by
  induction a with
  | nil => rfl
  | cons x r ih => simp [Op.bytesLess, ih]
theorem less_asym (a b : List UInt8) (h : Op.bytesLess a b = true) : Op.bytesLess b a = false := by
  induction a generalizing b with
  | nil => cases b <;> rfl
  | cons x r ih =>
    cases b with
    | nil => simp [Op.bytesLess] at h
    | cons y s =>
      simp only [Op.bytesLess, Bool.or_eq_true, decide_eq_true_eq, Bool.and_eq_true, beq_iff_eq] at h
      simp only [Op.bytesLess, Bool.or_eq_false_iff, decide_eq_false_iff_not, Bool.and_eq_false_iff, beq_eq_false_iff_ne]
      rcases h with h | ⟨rfl, h⟩
      · exact ⟨fun e => absurd (UInt8.lt_trans h e) (UInt8.lt_irrefl _), .inl fun e => by subst e; exact absurd h (UInt8.lt_irrefl _)⟩
      · exact ⟨UInt8.lt_irrefl _, .inr (ih s h)⟩
theorem less_total (a b : List UInt8) (h1 : Op.bytesLess a b = false) (h2 : Op.bytesLess b a = false) : a = b := by
  induction a generalizing b with
  | nil =>
    cases b with
    | nil => rfl
    | cons y s => simp [Op.bytesLess] at h1
  | cons x r ih =>
    cases b with
    | nil => simp [Op.bytesLess] at h2
    | cons y s =>
      simp only [Op.bytesLess, Bool.or_eq_false_iff, decide_eq_false_iff_not, Bool.and_eq_false_iff, beq_eq_false_iff_ne] at h1 h2
      have e : x = y := by
        have g1 := h1.1
        have g2 := h2.1
        apply UInt8.toNat_inj.1
        rw [UInt8.lt_iff_toNat_lt] at g1 g2
        omega
      subst e
      rw [ih s (h1.2.resolve_left fun h => h rfl) (h2.2.resolve_left fun h => h rfl)]
theorem less_trans (a b c : List UInt8) (h1 : Op.bytesLess a b = true) (h2 : Op.bytesLess b c = true) : Op.bytesLess a c = true := by
  induction a generalizing b c with
  | nil =>
    cases c with
    | nil => cases b <;> simp [Op.bytesLess] at h2
    | cons z t => rfl
  | cons x r ih =>
    cases b with
    | nil => simp [Op.bytesLess] at h1
    | cons y s =>
      cases c with
      | nil => simp [Op.bytesLess] at h2
      | cons z t =>
        simp only [Op.bytesLess, Bool.or_eq_true, decide_eq_true_eq, Bool.and_eq_true, beq_iff_eq] at h1 h2 ⊢
        rcases h1 with h1 | ⟨rfl, h1⟩
        · rcases h2 with h2 | ⟨rfl, h2⟩
          · exact .inl (UInt8.lt_trans h1 h2)
          · exact .inl h1
        · rcases h2 with h2 | ⟨rfl, h2⟩
          · exact .inl h2
          · exact .inr ⟨rfl, ih s t h1 h2⟩
def cmpT (a b : List UInt8) : Int := if Op.bytesLess a b = true then -1 else if Op.bytesLess b a = true then 1 else 0
theorem cmpT_neg (a b : List UInt8) : cmpT a b = - cmpT b a := by
  unfold cmpT
  by_cases h : Op.bytesLess a b = true
  · rw [if_pos h, if_neg (by rw [less_asym a b h]; simp), if_pos h]
  · by_cases h2 : Op.bytesLess b a = true
    · rw [if_neg h, if_pos h2, if_pos h2]; rfl
    · rw [if_neg h, if_neg h2, if_neg h2, if_neg h]; rfl
theorem cmpT_zero {a b : List UInt8} : cmpT a b = 0 ↔ a = b := by
  unfold cmpT
  by_cases h : Op.bytesLess a b = true
  · rw [if_pos h]
    exact ⟨fun e => by omega, fun e => by subst e; rw [less_irr] at h; cases h⟩
  · by_cases h2 : Op.bytesLess b a = true
    · rw [if_neg h, if_pos h2]
      exact ⟨fun e => by omega, fun e => by subst e; rw [less_irr] at h2; cases h2⟩
    · rw [if_neg h, if_neg h2]
      exact ⟨fun _ => less_total a b (by simpa using h) (by simpa using h2), fun _ => rfl⟩
theorem cmpT_lt {a b : List UInt8} : cmpT a b < 0 ↔ Op.bytesLess a b = true := by
  unfold cmpT
  by_cases h : Op.bytesLess a b = true
  · rw [if_pos h]; exact ⟨fun _ => h, fun _ => by omega⟩
  · rw [if_neg h]
    refine ⟨fun e => ?_, fun e => absurd e h⟩
    split at e <;> omega
/-- what is said of three in a row, both ways round -/
def row6 (ab bc ac : Int) : Prop := ((ab ≤ 0 → bc ≤ 0 → ac ≤ 0) ∧ (ab < 0 → bc ≤ 0 → ac < 0) ∧ (ab ≤ 0 → bc < 0 → ac < 0)) ∧ (0 ≤ ab → 0 ≤ bc → 0 ≤ ac) ∧ (0 < ab → 0 ≤ bc → 0 < ac) ∧ (0 ≤ ab → 0 < bc → 0 < ac)
theorem cmpI_row (a b c : Int) : row6 (cmpI a b) (cmpI b c) (cmpI a c) := by
  unfold cmpI row6
  by_cases h1 : a < b <;> by_cases h2 : b < a <;> by_cases h3 : b < c <;> by_cases h4 : c < b <;> by_cases h5 : a < c <;> by_cases h6 : c < a <;>
    simp only [h1, h2, h3, h4, h5, h6, if_true, if_false] <;> omega
theorem cmpT_gt {a b : List UInt8} : 0 < cmpT a b ↔ Op.bytesLess b a = true := by
  rw [cmpT_neg]
  have := @cmpT_lt b a
  rw [← this]
  omega
theorem cmpT_row (a b c : List UInt8) : row6 (cmpT a b) (cmpT b c) (cmpT a c) := by
  have t : cmpT a b < 0 → cmpT b c < 0 → cmpT a c < 0 := fun h1 h2 => cmpT_lt.2 (less_trans _ _ _ (cmpT_lt.1 h1) (cmpT_lt.1 h2))
  have t' : 0 < cmpT a b → 0 < cmpT b c → 0 < cmpT a c := fun h1 h2 => cmpT_gt.2 (less_trans _ _ _ (cmpT_gt.1 h2) (cmpT_gt.1 h1))
  have z1 : cmpT a b = 0 → cmpT a c = cmpT b c := fun h => by rw [cmpT_zero.1 h]
  have z2 : cmpT b c = 0 → cmpT a c = cmpT a b := fun h => by rw [cmpT_zero.1 h]
  unfold row6
  generalize cmpT a b = A at *
  generalize cmpT b c = B at *
  generalize cmpT a c = C at *
  refine ⟨⟨fun h1 h2 => ?_, fun h1 h2 => ?_, fun h1 h2 => ?_⟩, fun h1 h2 => ?_, fun h1 h2 => ?_, fun h1 h2 => ?_⟩
  all_goals
    by_cases e1 : A = 0
    · have := z1 e1; omega
    · by_cases e2 : B = 0
      · have := z2 e2; omega
      · first
          | (have := t (by omega) (by omega); omega)
          | (have := t' (by omega) (by omega); omega)
theorem lex_row {A B C P Q R : Int} (h : row6 A B C) (g : A = 0 → B = 0 → C = 0 → row6 P Q R) : row6 (if A ≠ 0 then A else P) (if B ≠ 0 then B else Q) (if C ≠ 0 then C else R) := by
  unfold row6 at *
  by_cases e1 : A = 0
  · by_cases e2 : B = 0
    · have e3 : C = 0 := by omega
      have h2 := g e1 e2 e3
      rw [if_neg (by omega), if_neg (by omega), if_neg (by omega)]
      exact h2
    · have e3 : C ≠ 0 := by omega
      rw [if_neg (by omega), if_pos e2, if_pos e3]
      omega
  · by_cases e2 : B = 0
    · have e3 : C ≠ 0 := by omega
      rw [if_pos e1, if_neg (by omega), if_pos e3]
      omega
    · rw [if_pos e1, if_pos e2]
      by_cases e3 : C = 0
      · rw [if_neg (by omega)]
        omega
      · rw [if_pos e3]
        omega
def bitI (b : Bool) : Int := if b = true then 1 else 0
mutual
/-- the order of two values -/
def ordV : GV → GV → Int
  | ⟨k, b, n, t, l⟩, y => if cmpI k y.k ≠ 0 then cmpI k y.k else if k = 0 then 0 else if k = 1 then bitI b - bitI y.b else if k = 2 ∨ k = 5 then cmpI n y.n else if k = 4 then ordL l y.l else cmpT t.toList y.t.toList
def ordL : List GV → List GV → Int
  | [], [] => 0
  | [], _ :: _ => -1
  | _ :: _, [] => 1
  | x :: r, y :: s => if ordV x y ≠ 0 then ordV x y else ordL r s
end
theorem ordV_eq (x y : GV) : ordV x y = if cmpI x.k y.k ≠ 0 then cmpI x.k y.k else if x.k = 0 then 0 else if x.k = 1 then bitI x.b - bitI y.b else if x.k = 2 ∨ x.k = 5 then cmpI x.n y.n else if x.k = 4 then ordL x.l y.l else cmpT x.t.toList y.t.toList := by
  cases x; simp only [ordV]
theorem lex_neg {A B P Q : Int} (h : A = -B) (g : A = 0 → P = -Q) : (if A ≠ 0 then A else P) = -(if B ≠ 0 then B else Q) := by
  by_cases e : A = 0
  · have h2 : B = 0 := by omega
    rw [if_neg (by omega), if_neg (by omega)]
    exact g e
  · rw [if_pos e, if_pos (by omega)]
    exact h
mutual
theorem ordV_neg : ∀ (x y : GV), ordV x y = - ordV y x
  | ⟨k, b, n, t, l⟩, y => by
    rw [ordV_eq, ordV_eq y]
    dsimp only
    refine lex_neg (cmpI_neg k y.k) fun e => ?_
    rw [← cmpI_zero.1 e]
    by_cases h0 : k = 0
    · simp only [if_pos h0]; rfl
    simp only [if_neg h0]
    by_cases h1 : k = 1
    · simp only [if_pos h1]; omega
    simp only [if_neg h1]
    by_cases h2 : k = 2 ∨ k = 5
    · simp only [if_pos h2]; exact cmpI_neg _ _
    simp only [if_neg h2]
    by_cases h4 : k = 4
    · simp only [if_pos h4]; exact ordL_neg l y.l
    simp only [if_neg h4]; exact cmpT_neg _ _
theorem ordL_neg : ∀ (l m : List GV), ordL l m = - ordL m l
  | [], [] => by simp [ordL]
  | [], y :: s => by simp [ordL]
  | x :: r, [] => by simp [ordL]
  | x :: r, y :: s => by
    simp only [ordL]
    exact lex_neg (ordV_neg x y) fun _ => ordL_neg r s
end
theorem bit_row (a b c : Bool) : row6 (bitI a - bitI b) (bitI b - bitI c) (bitI a - bitI c) := by
  cases a <;> cases b <;> cases c <;> simp [row6, bitI]
mutual
theorem ordV_row : ∀ (x y z : GV), row6 (ordV x y) (ordV y z) (ordV x z)
  | ⟨k, b, n, t, l⟩, y, z => by
    rw [ordV_eq, ordV_eq y, ordV_eq ⟨k, b, n, t, l⟩ z]
    dsimp only
    refine lex_row (cmpI_row _ _ _) fun e1 e2 _ => ?_
    rw [← cmpI_zero.1 e1]
    by_cases h0 : k = 0
    · simp only [if_pos h0]; simp [row6]
    simp only [if_neg h0]
    by_cases h1 : k = 1
    · simp only [if_pos h1]; exact bit_row _ _ _
    simp only [if_neg h1]
    by_cases h2 : k = 2 ∨ k = 5
    · simp only [if_pos h2]; exact cmpI_row _ _ _
    simp only [if_neg h2]
    by_cases h4 : k = 4
    · simp only [if_pos h4]; exact ordL_row l y.l z.l
    simp only [if_neg h4]; exact cmpT_row _ _ _
theorem ordL_row : ∀ (l m p : List GV), row6 (ordL l m) (ordL m p) (ordL l p)
  | [], [], [] => by simp [ordL, row6]
  | [], [], _ :: _ => by simp [ordL, row6]
  | [], _ :: _, [] => by simp [ordL, row6]
  | [], y :: s, z :: t => by simp [ordL, row6]
  | _ :: _, [], [] => by simp [ordL, row6]
  | _ :: _, [], _ :: _ => by simp [ordL, row6]
  | x :: r, y :: s, [] => by simp [ordL, row6]
  | x :: r, y :: s, z :: t => by
    simp only [ordL]
    exact lex_row (ordV_row x y z) fun _ _ _ => ordL_row r s t
end
/-- 0 just of the same ones, where they may be -/
theorem flat_kind {k : Int} {b : Bool} {n : Int} {t : ByteArray} {len : Nat} (h : chkFlat k b n t len = true) :
    (k = 0 ∧ b = false ∧ n = 0 ∧ t.toList = [] ∧ len = 0) ∨ (k = 1 ∧ n = 0 ∧ t.toList = [] ∧ len = 0) ∨ (k = 2 ∧ b = false ∧ t.toList = [] ∧ len = 0) ∨ (k = 3 ∧ b = false ∧ n = 0 ∧ len = 0) ∨
      (k = 5 ∧ b = false ∧ t.toList = [] ∧ len = 0) ∨ (k = 4 ∧ b = false ∧ n = 0 ∧ t.toList = []) := by
  unfold chkFlat at h
  by_cases k0 : k = 0
  · rw [if_pos k0] at h; simp at h; simp_all
  rw [if_neg k0] at h
  by_cases k1 : k = 1
  · rw [if_pos k1] at h; simp at h; simp_all
  rw [if_neg k1] at h
  by_cases k2 : k = 2
  · rw [if_pos k2] at h; simp at h; simp_all
  rw [if_neg k2] at h
  by_cases k3 : k = 3
  · rw [if_pos k3] at h; simp at h; simp_all
  rw [if_neg k3] at h
  by_cases k5 : k = 5
  · rw [if_pos k5] at h; simp at h; simp_all
  rw [if_neg k5] at h
  by_cases k4 : k = 4
  · rw [if_pos k4] at h; simp at h; simp_all
  rw [if_neg k4] at h
  cases h
end Go.Proofs.YtndnondneelgjaaDoor
