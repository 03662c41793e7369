/-
  What an operation tells fits; parts of a list. Conditions: lists and texts shorter than 2^31.
-/
import Derived.Test.YtljljhjdlicfeaaMQ
import Derived.Test.YtljljhjdlicfeaaMD
namespace Go.Proofs.Ytljljhjdlicfeaa
open Go Go.RowKit
set_option maxRecDepth 100000
set_option linter.unusedVariables false
theorem fit_num {n : Int} (h : inI n) : (numP n).1.fit := by
  unfold inI at h
  simp only [numP, GV.fit]
  exact ⟨by decide, by decide, h.1, h.2, by decide, by decide, trivial⟩
theorem fit_truth (b : Bool) : (truthP b).1.fit := by
  simp only [truthP, GV.fit]
  exact ⟨by decide, by decide, by decide, by decide, by decide, by decide, trivial⟩
theorem fit_no (n : Int) : (noP n).1.fit := by
  simp only [noP, GV.fit]
  exact ⟨by decide, by decide, by decide, by decide, by decide, by decide, trivial⟩
theorem bound_fit (n : Int) : inI (boundK n).1 := by
  unfold boundK
  by_cases h : inI n
  · rw [if_pos h]; exact h
  · rw [if_neg h]; exact ⟨by decide, by decide⟩
theorem reck_fit (g : Int → Int → Int × Int) (hg : ∀ a b, inI a → inI b → inI (g a b).1) (x y : GV) (fx : x.fit) (fy : y.fit) : (reckP g x y).1.fit := by
  unfold reckP
  split
  · split
    · exact fit_num (hg _ _ ⟨(fit_open fx).2.2.1, (fit_open fx).2.2.2.1⟩ ⟨(fit_open fy).2.2.1, (fit_open fy).2.2.2.1⟩)
    · exact fit_no _
  · exact fit_no _
theorem cmp_fit (h : Int → Bool) (x y : GV) : (cmpP h x y).1.fit := by
  unfold cmpP
  split
  · exact fit_truth _
  · exact fit_no _
theorem tmod_in {a b : Int} (ha : inI a) (hb : inI b) : inI (a.tmod b) := by
  have h1 : (a.tmod b).natAbs = a.natAbs % b.natAbs := Int.natAbs_tmod a b
  have h2 : a.natAbs % b.natAbs ≤ a.natAbs := Nat.mod_le _ _
  by_cases hb0 : b.natAbs = 0
  · obtain rfl : b = 0 := by omega
    rw [Int.tmod_zero]; exact ha
  · have h3 : a.natAbs % b.natAbs < b.natAbs := Nat.mod_lt _ (by omega)
    unfold inI at *
    omega
theorem app_fit (t : Nat) (g : GV → GV → GV × Int) (hg : ∀ x y : GV, x.fit → y.fit → (g x y).1.fit) (l : List GV) (fl : fitL l) : (appP t g l).1.fit := by
  have fz : GV.fit ⟨0, false, 0, ⟨#[]⟩, []⟩ := fit_no 0
  unfold appP
  split
  · refine hg _ _ ?_ ?_
    · cases l with
      | nil => exact fz
      | cons x r => exact fl.1
    · rw [List.getLastD_eq_getLast?]
      cases h : l.getLast? with
      | none => exact fz
      | some y => exact fitL_mem fl y (List.mem_of_getLast? h)
  · exact fit_no _
theorem plus_fit (x y : GV) (fx : x.fit) (fy : y.fit) : (plusP x y).1.fit := by
  unfold plusP
  split
  · exact reck_fit _ (fun a b _ _ => bound_fit _) x y fx fy
  · split
    · split
      · rename_i h1 h2
        have hz : (x.t ++ y.t).size = x.t.size + y.t.size := ByteArray.size_append
        have hk := (fit_open fx)
        simp only [GV.fit]
        exact ⟨hk.1, hk.2.1, by decide, by decide, by omega, by rw [List.length_append]; omega, fitL_app (fit_open fx).2.2.2.2.2.2 (fit_open fy).2.2.2.2.2.2⟩
      · exact fit_no _
    · exact fit_no _
theorem size_fit (x y : GV) (fx : x.fit) (fy : y.fit) : (sizeP x y).1.fit := by
  have h1 := (fit_open fx).2.2.2.2.1
  have h2 := (fit_open fx).2.2.2.2.2.1
  unfold sizeP
  split
  · exact fit_num (by unfold inI; omega)
  · exact fit_no _
theorem zero_fit : zeroG.fit := by simp only [zeroG, GV.fit]; exact ⟨by decide, by decide, by decide, by decide, by decide, by decide, trivial⟩
theorem applyP_fit (op : Int) (l : List GV) (fl : fitL l) : (applyP op l).1.fit := by
  unfold applyP
  by_cases h6 : op = 6
  · rw [if_pos h6]
    exact app_fit _ _ (fun x y fx fy => by
      unfold negP ofP
      split
      · exact reck_fit _ (fun a b _ _ => bound_fit _) zeroG x zero_fit fx
      · exact fit_no _) l fl
  rw [if_neg h6]
  by_cases h7 : op = 7
  · rw [if_pos h7]
    exact app_fit _ _ (fun x y fx fy => by
      unfold notP ofP
      split
      · exact fit_truth _
      · exact fit_no _) l fl
  rw [if_neg h7]
  by_cases h10 : op = 10
  · rw [if_pos h10]
    exact app_fit _ _ (fun x y fx fy => fit_truth _) l fl
  rw [if_neg h10]
  by_cases h11 : op = 11
  · rw [if_pos h11]
    exact app_fit _ _ (fun x y fx fy => fit_truth _) l fl
  rw [if_neg h11]
  by_cases h12 : op = 12
  · rw [if_pos h12]
    exact app_fit _ _ (fun x y fx fy => cmp_fit _ x y) l fl
  rw [if_neg h12]
  by_cases h13 : op = 13
  · rw [if_pos h13]
    exact app_fit _ _ (fun x y fx fy => cmp_fit _ x y) l fl
  rw [if_neg h13]
  by_cases h14 : op = 14
  · rw [if_pos h14]
    exact app_fit _ _ (fun x y fx fy => cmp_fit _ x y) l fl
  rw [if_neg h14]
  by_cases h15 : op = 15
  · rw [if_pos h15]
    exact app_fit _ _ (fun x y fx fy => cmp_fit _ x y) l fl
  rw [if_neg h15]
  by_cases h16 : op = 16
  · rw [if_pos h16]
    exact app_fit _ _ plus_fit l fl
  rw [if_neg h16]
  by_cases h17 : op = 17
  · rw [if_pos h17]
    exact app_fit _ _ (reck_fit _ (fun a b _ _ => bound_fit _)) l fl
  rw [if_neg h17]
  by_cases h18 : op = 18
  · rw [if_pos h18]
    exact app_fit _ _ (reck_fit _ (fun a b _ _ => bound_fit _)) l fl
  rw [if_neg h18]
  by_cases h19 : op = 19
  · rw [if_pos h19]
    exact app_fit _ _ (reck_fit _ (fun a b ha hb => by
      unfold divK
      split
      · exact ⟨by decide, by decide⟩
      · exact bound_fit _)) l fl
  rw [if_neg h19]
  by_cases h20 : op = 20
  · rw [if_pos h20]
    exact app_fit _ _ (reck_fit _ (fun a b ha hb => by
      unfold modK
      split
      · exact ⟨by decide, by decide⟩
      · exact tmod_in ha hb)) l fl
  rw [if_neg h20]
  by_cases h21 : op = 21
  · rw [if_pos h21]
    exact app_fit _ _ size_fit l fl
  rw [if_neg h21]
  by_cases h22 : op = 22
  · rw [if_pos h22]
    exact app_fit _ _ (fun x y fx fy => by
      unfold hasP
      split
      · exact fit_truth _
      · exact fit_no _) l fl
  rw [if_neg h22]
  exact fit_no _
theorem fitL_sub : ∀ {l m : List GV}, fitL l → (∀ x ∈ m, x ∈ l) → fitL m
  | _, [], _, _ => trivial
  | l, y :: r, h, hs => ⟨fitL_mem h y (hs y (by simp)), fitL_sub h (fun x hx => hs x (by simp [hx]))⟩
/-- n values of a list, from the k-th on -/
def partG (l : List GV) (k n : Nat) : List GV := (l.drop k).take n
theorem part_len {l : List GV} {k n : Nat} (h : k + n ≤ l.length) : (partG l k n).length = n := by unfold partG; simp; omega
theorem part_fit {l : List GV} (h : fitL l) (k n : Nat) : fitL (partG l k n) := fitL_sub h (fun x hx => List.mem_of_mem_drop (List.mem_of_mem_take hx))
theorem isL_part {w : World} {B b off c : Nat} {l : List GV} (hc : l.length ≤ c) (hb : b < B) (hA : ∀ i (h : i < l.length), cellsV w 0 B l[i] b (off + i * 5)) (k n : Nat) (hk : k + n ≤ l.length) : isL w 0 B (.slice (some ⟨b, off + k * 5, none⟩) n (c - k)) (partG l k n) := by
  have e := part_len hk
  have h := isL_mk (w := w) (lo := 0) (hi := B) (l := partG l k n) (a := some ⟨b, off + k * 5, none⟩) (cap := c - k) (b := b) (off := off + k * 5) (by omega) (fun _ => ⟨rfl, Nat.zero_le _, hb⟩) (fun i hi => by
    have := hA (k + i) (by omega)
    have e2 : (partG l k n)[i] = l[k + i]'(by omega) := by
      show ((l.drop k).take n)[i]'(by simpa [partG] using hi) = _
      rw [List.getElem_take, List.getElem_drop]
    rw [e2, show off + k * 5 + i * 5 = off + (k + i) * 5 by omega]; exact this)
  rwa [e] at h
/-- what stands between the rounds: the argument's box is as it was -/
def RelB (w wr : World) (o : Obj) : Prop := Below w.heap.size w wr ∧ w.heap.size + 1 ≤ wr.heap.size ∧ wr.heap[w.heap.size]? = some o
theorem RelB.step {w wr w' : World} {o : Obj} {D : Nat} (h : RelB w wr o) (hb : Below D wr w') (hD : w.heap.size + 1 ≤ D) : RelB w w' o :=
  ⟨h.1.trans (hb.mono (by omega)), Nat.le_trans h.2.1 hb.size, (hb.block w.heap.size (by omega)).trans h.2.2⟩
end Go.Proofs.Ytljljhjdlicfeaa
