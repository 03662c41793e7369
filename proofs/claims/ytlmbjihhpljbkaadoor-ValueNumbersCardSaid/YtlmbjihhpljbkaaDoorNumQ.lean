/-
  The operations of two numbers as they are called; the laws of numbers. Conditions: none.
-/
import Derived.Test.YtlmbjihhpljbkaaDoorNumP
import Derived.Test.YtlmbjihhpljbkaaDoorMQ
import Derived.Test.YtlmbjihhpljbkaaDoorMJ
namespace Go.Proofs.YtlmbjihhpljbkaaDoor
open Go Go.RowKit Go.Lib
set_option maxRecDepth 100000
set_option linter.unusedVariables false
/-- a number, or a refusal -/
def resI (p : Int × Int) : GV × Int := if p.2 = 0 then numP p.1 else noP p.2
def kOf (p : Int × Int) : Int := if p.2 = 0 then 2 else 0
def nOf (p : Int × Int) : Int := if p.2 = 0 then p.1 else 0
theorem resI_eq (p : Int × Int) : resI p = (⟨kOf p, false, nOf p, ⟨#[]⟩, []⟩, p.2) := by
  unfold resI kOf nOf
  by_cases h : p.2 = 0
  · rw [if_pos h, if_pos h, if_pos h, h]; rfl
  · rw [if_neg h, if_neg h, if_neg h]; rfl
theorem gives_num {w w' : World} {p : Int × Int} {e : Ending} (h : GivesO w (resI p) e w') : ∃ a c, e = .returned (.tuple #[.agg #[.int .i64 (kOf p), .bool false, .int .i64 (nOf p), .string { data := #[] }, .slice a 0 c], .int .i64 p.2]) ∧ Below w.heap.size w w' := by
  rw [resI_eq] at h
  obtain ⟨a, c, he, hr, hb⟩ := h
  exact ⟨a, c, he, hb⟩
/-- two numbers in a block -/
def twoN (w : World) (g : Nat) (a b : Int) : Prop := ∃ a1 c1 a2 c2, w.heap[g]? = some (.cells #[.int .i64 2, .bool false, .int .i64 a, .string { data := #[] }, .slice a1 0 c1, .int .i64 2, .bool false, .int .i64 b, .string { data := #[] }, .slice a2 0 c2] 27 (0, 0))
theorem twoN_lt {w : World} {g : Nat} {a b : Int} (h : twoN w g a b) : g < w.heap.size := by
  obtain ⟨_, _, _, _, h⟩ := h
  exact (Array.getElem?_eq_some_iff.1 h).1
theorem twoN_below {w w' : World} {g : Nat} {a b : Int} (h : twoN w g a b) (hb : Below w.heap.size w w') : twoN w' g a b := by
  have hl := twoN_lt h
  obtain ⟨a1, c1, a2, c2, h⟩ := h
  exact ⟨a1, c1, a2, c2, (hb.block g hl).trans h⟩
theorem twoN_isL {w : World} {g : Nat} {a b : Int} (h : twoN w g a b) : isL w 0 (g + 1) (.slice (some ⟨g, 0, none⟩) 2 2) [numG a, numG b] := by
  obtain ⟨a1, c1, a2, c2, h⟩ := h
  exact isL_two (x := numG a) (y := numG b) (B := 0) (Nat.zero_le _) h (isL_nil a1 c1) (isL_nil a2 c2)
theorem two_fit {a b : Int} (ha : inI a) (hb : inI b) : fitL [numG a, numG b] := ⟨numG_fit a ha.1 ha.2, numG_fit b hb.1 hb.2, trivial⟩
def OpN (op : Int) (f : Int → Int → Int × Int) : Prop := ∀ (a b : Int), inI a → inI b → ∀ (g : Nat) (w : World), twoN w g a b → Calls Tryd.prog 7 #[.int .i64 op, .slice (some ⟨g, 0, none⟩) 2 2] w fun e w' => ∃ s c, e = .returned (.tuple #[.agg #[.int .i64 (kOf (f a b)), .bool false, .int .i64 (nOf (f a b)), .string { data := #[] }, .slice s 0 c], .int .i64 (f a b).2]) ∧ Below w.heap.size w w'
theorem reck_num (f : Int → Int → Int × Int) (a b : Int) : appP 2 (reckP f) [numG a, numG b] = resI (f a b) := by
  rw [app2 (numG_may a) (numG_may b)]
  rfl
theorem opN_add : OpN 16 (fun a b => boundK (a + b)) := fun a b ha hb g w h => by
  have := apply_add' [numG a, numG b] (by simp) (two_fit ha hb) _ w (g + 1) (twoN_lt h) (twoN_isL h)
  rw [show appP 2 plusP [numG a, numG b] = resI (boundK (a + b)) by rw [app2 (numG_may a) (numG_may b)]; rfl] at this
  exact this.mono fun e w' hg => gives_num hg
theorem opN_sub : OpN 17 (fun a b => boundK (a - b)) := fun a b ha hb g w h => by
  have := apply_sub [numG a, numG b] (by simp) (two_fit ha hb) _ w (g + 1) (twoN_lt h) (twoN_isL h)
  rw [show appP 2 subP [numG a, numG b] = resI (boundK (a - b)) from reck_num _ a b] at this
  exact this.mono fun e w' hg => gives_num hg
theorem opN_mul : OpN 18 (fun a b => boundK (a * b)) := fun a b ha hb g w h => by
  have := apply_mul [numG a, numG b] (by simp) (two_fit ha hb) _ w (g + 1) (twoN_lt h) (twoN_isL h)
  rw [show appP 2 mulP [numG a, numG b] = resI (boundK (a * b)) from reck_num _ a b] at this
  exact this.mono fun e w' hg => gives_num hg
theorem opN_div : OpN 19 divK := fun a b ha hb g w h => by
  have := apply_div [numG a, numG b] (by simp) (two_fit ha hb) _ w (g + 1) (twoN_lt h) (twoN_isL h)
  rw [show appP 2 divP [numG a, numG b] = resI (divK a b) from reck_num _ a b] at this
  exact this.mono fun e w' hg => gives_num hg
theorem opN_mod : OpN 20 modK := fun a b ha hb g w h => by
  have := apply_mod [numG a, numG b] (by simp) (two_fit ha hb) _ w (g + 1) (twoN_lt h) (twoN_isL h)
  rw [show appP 2 modP [numG a, numG b] = resI (modK a b) from reck_num _ a b] at this
  exact this.mono fun e w' hg => gives_num hg
/-- two flat values of the same letters are the same -/
theorem same_flat (k n : Int) (hk : k = 0 ∨ k = 2) (hn : inI n) (a1 a2 : Option Addr) (c1 c2 : Nat) (w : World) : Calls Tryd.prog 6 #[.agg #[.int .i64 k, .bool false, .int .i64 n, .string { data := #[] }, .slice a1 0 c1], .agg #[.int .i64 k, .bool false, .int .i64 n, .string { data := #[] }, .slice a2 0 c2]] w fun e w' => e = .returned (.bool true) ∧ Below w.heap.size w w' := by
  have hf : GV.fit ⟨k, false, n, ⟨#[]⟩, []⟩ := by
    refine ⟨?_, ?_, hn.1, hn.2, by simp [ByteArray.size], by simp, trivial⟩ <;> rcases hk with rfl | rfl <;> decide
  have := zSame_any ⟨k, false, n, ⟨#[]⟩, []⟩ ⟨k, false, n, ⟨#[]⟩, []⟩ hf hf (.slice a1 0 c1) (.slice a2 0 c2) w 0 (Nat.zero_le _) (isL_nil a1 c1) (isL_nil a2 c2)
  rw [(same_iff _ _).2 rfl] at this
  exact this
theorem kOf_two (p : Int × Int) : kOf p = 0 ∨ kOf p = 2 := by unfold kOf; split <;> simp
theorem bound_inI (n : Int) : inI (nOf (boundK n)) := by
  unfold nOf boundK
  by_cases h : inI n
  · rw [if_pos h]; simpa using h
  · rw [if_neg h]; simp; unfold inI; omega
theorem bound_yes {n : Int} (h : inI n) : boundK n = (n, 0) := if_pos h
theorem bound_no {n : Int} (h : ¬ inI n) : boundK n = (0, 2) := if_neg h
theorem bound_two (n : Int) : (boundK n).2 = 0 ∧ inI n ∨ (boundK n).2 = 2 := by
  by_cases h : inI n
  · left; rw [bound_yes h]; exact ⟨rfl, h⟩
  · right; rw [bound_no h]
theorem div_two (a b : Int) (ha : inI a) (hb : inI b) (h0 : b ≠ 0) : (divK a b = (a.tdiv b, 0) ∧ inI (a.tdiv b)) ∨ (divK a b = (0, 2) ∧ a = -9223372036854775808 ∧ b = -1) := by
  unfold divK
  rw [if_neg h0]
  by_cases h : a = -9223372036854775808 ∧ b = -1
  · right
    obtain ⟨rfl, rfl⟩ := h
    exact ⟨by decide, rfl, rfl⟩
  · left
    have := tdiv_in a b ha hb h0 h
    exact ⟨bound_yes this, this⟩
theorem div_back (a b : Int) (ha : inI a) : wrap64 (wrap64 (a.tdiv b * b) + a.tmod b) = a := by
  have h := Int.mul_tdiv_add_tmod a b
  rw [Int.mul_comm] at h
  generalize a.tdiv b * b = p at h
  generalize a.tmod b = r at h
  unfold inI at ha
  unfold wrap64
  omega
/-- what a list of numbers sums up to -/
def sumI (l : List Int) : Int := l.foldl (· + ·) 0
theorem sum_nums (l : List Int) : sumP (l.map numG) = resI (boundK (sumI l)) := by
  have h1 : (l.map numG).all (fun x => x.k == 2) = true := by simp [numG]
  have h2 : sumN (l.map numG) = sumI l := by
    unfold sumN sumI
    rw [List.map_map]
    congr 1
    conv => rhs; rw [← List.map_id l]
    rfl
  unfold sumP
  rw [if_pos h1, h2]
  by_cases h : inI (sumI l)
  · rw [if_pos h, bound_yes h]; rfl
  · rw [if_neg h, bound_no h]; rfl
theorem sum_cons (n : Int) (l : List Int) : sumI (n :: l) = n + sumI l := by
  unfold sumI
  rw [List.foldl_cons, foldl_add l (0 + n)]
  omega
theorem sum_app (l m : List Int) : sumI (l ++ m) = sumI l + sumI m := by
  unfold sumI
  rw [List.foldl_append, foldl_add m]
theorem sum_back : ∀ l : List Int, sumI l.reverse = sumI l
  | [] => rfl
  | n :: r => by
    rw [List.reverse_cons, sum_app, sum_back r, sum_cons, sum_cons]
    simp [sumI]
    omega
theorem nums_fit : ∀ {l : List Int}, (∀ n ∈ l, inI n) → fitL (l.map numG)
  | [], _ => trivial
  | n :: r, h => ⟨numG_fit n (h n (by simp)).1 (h n (by simp)).2, nums_fit (fun m hm => h m (by simp [hm]))⟩
theorem nums_bad (l : List Int) : badL (l.map numG) = false := by
  simp [badL, numG_may]
theorem sum_own {w0 : World} {base : Nat} {v : Value} {l : List Int} (h : ownN w0 base v l) (hl : l.length ≤ 19) (hi : ∀ n ∈ l, inI n) (w : World) (hb : Below w0.heap.size w0 w) : Calls Tryd.prog 5 #[.string { data := #[115, 117, 109] }, v] w fun e w' => ∃ s c, e = .returned (.tuple #[.agg #[.int .i64 (kOf (boundK (sumI l))), .bool false, .int .i64 (nOf (boundK (sumI l))), .string { data := #[] }, .slice s 0 c], .int .i64 (boundK (sumI l)).2]) ∧ Below w.heap.size w w' := by
  have := aggSum_any (l.map numG) (by simpa using hl) (nums_fit hi) (nums_bad l) v w w0.heap.size hb.size (isL_below (ownN_isL h) hb (Nat.le_refl _)) (fun n c hv => by
    obtain ⟨a, c', e, h0⟩ := ownN_form h
    rw [e] at hv
    cases hv
    exact h0 rfl)
  rw [sum_nums] at this
  exact this.mono fun e w' hg => gives_num hg
end Go.Proofs.YtlmbjihhpljbkaaDoor
