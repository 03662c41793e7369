/-
  What an operation tells fits; parts of a list. Conditions: lists and texts shorter than 2^31.
-/
import Derived.Test.YtljljhjdlicfeaaGreatMQ
import Derived.Test.YtljljhjdlicfeaaGreatMD
import Derived.Test.YtljljhjdlicfeaaGreatMT
import Derived.Test.YtljljhjdlicfeaaGreatRApp3
import Derived.Test.YtljljhjdlicfeaaGreatMU
import Derived.Test.YtljljhjdlicfeaaGreatMV
namespace Go.Proofs.YtljljhjdlicfeaaGreat
open Go Go.RowKit
set_option maxRecDepth 100000
set_option linter.unusedVariables false
theorem fit_num {n : Int} (h : inI n) : (numP n).1.fit := by
  unfold inI at h
  simp only [numP, GV.fit]
  exact ⟨by decide, by decide, h.1, h.2, by decide, by decide, trivial⟩
theorem fit_truth (b : Bool) : (truthP b).1.fit := by
  simp only [truthP, GV.fit]
  exact ⟨by decide, by decide, by decide, by decide, by decide, by decide, trivial⟩
theorem fit_no (n : Int) : (noP n).1.fit := by
  simp only [noP, GV.fit]
  exact ⟨by decide, by decide, by decide, by decide, by decide, by decide, trivial⟩
theorem bound_fit (n : Int) : inI (boundK n).1 := by
  unfold boundK
  by_cases h : inI n
  · rw [if_pos h]; exact h
  · rw [if_neg h]; exact ⟨by decide, by decide⟩
theorem reck_fit (g : Int → Int → Int × Int) (hg : ∀ a b, inI a → inI b → inI (g a b).1) (x y : GV) (fx : x.fit) (fy : y.fit) : (reckP g x y).1.fit := by
  unfold reckP
  split
  · split
    · exact fit_num (hg _ _ ⟨(fit_open fx).2.2.1, (fit_open fx).2.2.2.1⟩ ⟨(fit_open fy).2.2.1, (fit_open fy).2.2.2.1⟩)
    · exact fit_no _
  · exact fit_no _
theorem cmp_fit (h : Int → Bool) (x y : GV) : (cmpP h x y).1.fit := by
  unfold cmpP
  split
  · exact fit_truth _
  · exact fit_no _
theorem tmod_in {a b : Int} (ha : inI a) (hb : inI b) : inI (a.tmod b) := by
  have h1 : (a.tmod b).natAbs = a.natAbs % b.natAbs := Int.natAbs_tmod a b
  have h2 : a.natAbs % b.natAbs ≤ a.natAbs := Nat.mod_le _ _
  by_cases hb0 : b.natAbs = 0
  · obtain rfl : b = 0 := by omega
    rw [Int.tmod_zero]; exact ha
  · have h3 : a.natAbs % b.natAbs < b.natAbs := Nat.mod_lt _ (by omega)
    unfold inI at *
    omega
theorem app_fit (t : Nat) (g : GV → GV → GV × Int) (hg : ∀ x y : GV, x.fit → y.fit → (g x y).1.fit) (l : List GV) (fl : fitL l) : (appP t g l).1.fit := by
  have fz : GV.fit ⟨0, false, 0, ⟨#[]⟩, []⟩ := fit_no 0
  unfold appP
  split
  · refine hg _ _ ?_ ?_
    · cases l with
      | nil => exact fz
      | cons x r => exact fl.1
    · rw [List.getLastD_eq_getLast?]
      cases h : l.getLast? with
      | none => exact fz
      | some y => exact fitL_mem fl y (List.mem_of_getLast? h)
  · exact fit_no _
theorem plus_fit (x y : GV) (fx : x.fit) (fy : y.fit) : (plusP x y).1.fit := by
  unfold plusP
  split
  · exact reck_fit _ (fun a b _ _ => bound_fit _) x y fx fy
  · split
    · split
      · rename_i h1 h2
        have hz : (x.t ++ y.t).size = x.t.size + y.t.size := ByteArray.size_append
        have hk := (fit_open fx)
        simp only [GV.fit]
        exact ⟨hk.1, hk.2.1, by decide, by decide, by omega, by rw [List.length_append]; omega, fitL_app (fit_open fx).2.2.2.2.2.2 (fit_open fy).2.2.2.2.2.2⟩
      · exact fit_no _
    · exact fit_no _
theorem size_fit (x y : GV) (fx : x.fit) (fy : y.fit) : (sizeP x y).1.fit := by
  have h1 := (fit_open fx).2.2.2.2.1
  have h2 := (fit_open fx).2.2.2.2.2.1
  unfold sizeP
  split
  · exact fit_num (by unfold inI; omega)
  · exact fit_no _
theorem zero_fit : zeroG.fit := by simp only [zeroG, GV.fit]; exact ⟨by decide, by decide, by decide, by decide, by decide, by decide, trivial⟩
theorem applyP_fit (op : Int) (l : List GV) (fl : fitL l) : (applyP op l).1.fit := by
  unfold applyP
  by_cases h6 : op = 6
  · rw [if_pos h6]
    exact app_fit _ _ (fun x y fx fy => by
      unfold negP ofP
      split
      · exact reck_fit _ (fun a b _ _ => bound_fit _) zeroG x zero_fit fx
      · exact fit_no _) l fl
  rw [if_neg h6]
  by_cases h7 : op = 7
  · rw [if_pos h7]
    exact app_fit _ _ (fun x y fx fy => by
      unfold notP ofP
      split
      · exact fit_truth _
      · exact fit_no _) l fl
  rw [if_neg h7]
  by_cases h10 : op = 10
  · rw [if_pos h10]
    exact app_fit _ _ (fun x y fx fy => fit_truth _) l fl
  rw [if_neg h10]
  by_cases h11 : op = 11
  · rw [if_pos h11]
    exact app_fit _ _ (fun x y fx fy => fit_truth _) l fl
  rw [if_neg h11]
  by_cases h12 : op = 12
  · rw [if_pos h12]
    exact app_fit _ _ (fun x y fx fy => cmp_fit _ x y) l fl
  rw [if_neg h12]
  by_cases h13 : op = 13
  · rw [if_pos h13]
    exact app_fit _ _ (fun x y fx fy => cmp_fit _ x y) l fl
  rw [if_neg h13]
  by_cases h14 : op = 14
  · rw [if_pos h14]
    exact app_fit _ _ (fun x y fx fy => cmp_fit _ x y) l fl
  rw [if_neg h14]
  by_cases h15 : op = 15
  · rw [if_pos h15]
    exact app_fit _ _ (fun x y fx fy => cmp_fit _ x y) l fl
  rw [if_neg h15]
  by_cases h16 : op = 16
  · rw [if_pos h16]
    exact app_fit _ _ plus_fit l fl
  rw [if_neg h16]
  by_cases h17 : op = 17
  · rw [if_pos h17]
    exact app_fit _ _ (reck_fit _ (fun a b _ _ => bound_fit _)) l fl
  rw [if_neg h17]
  by_cases h18 : op = 18
  · rw [if_pos h18]
    exact app_fit _ _ (reck_fit _ (fun a b _ _ => bound_fit _)) l fl
  rw [if_neg h18]
  by_cases h19 : op = 19
  · rw [if_pos h19]
    exact app_fit _ _ (reck_fit _ (fun a b ha hb => by
      unfold divK
      split
      · exact ⟨by decide, by decide⟩
      · exact bound_fit _)) l fl
  rw [if_neg h19]
  by_cases h20 : op = 20
  · rw [if_pos h20]
    exact app_fit _ _ (reck_fit _ (fun a b ha hb => by
      unfold modK
      split
      · exact ⟨by decide, by decide⟩
      · exact tmod_in ha hb)) l fl
  rw [if_neg h20]
  by_cases h21 : op = 21
  · rw [if_pos h21]
    exact app_fit _ _ size_fit l fl
  rw [if_neg h21]
  by_cases h22 : op = 22
  · rw [if_pos h22]
    exact app_fit _ _ (fun x y fx fy => by
      unfold hasP
      split
      · exact fit_truth _
      · exact fit_no _) l fl
  rw [if_neg h22]
  exact fit_no _
end Go.Proofs.YtljljhjdlicfeaaGreat
namespace Go.Proofs.YtljljhjdlicfeaaGreat
open Go Go.RowKit
set_option maxRecDepth 100000
set_option linter.unusedVariables false
theorem empty_of {t : ByteArray} (h : t.size = 0) : t = ⟨#[]⟩ := by
  obtain ⟨d⟩ := t
  have h2 : d = #[] := Array.eq_empty_of_size_eq_zero h
  rw [h2]
theorem negP_l (x y : GV) : (negP x y).1.l = [] := by
  unfold negP ofP reckP
  split
  · dsimp only
    split
    · split <;> rfl
    · rfl
  · rfl
theorem notP_l (x y : GV) : (notP x y).1.l = [] := by
  unfold notP ofP
  split <;> rfl
theorem sizeP_l (x y : GV) : (sizeP x y).1.l = [] := by
  unfold sizeP
  split <;> rfl
theorem reck_two (g : Int → Int → Int × Int) {x y : GV} (h1 : x.k = 2) (h2 : y.k = 2) : reckP g x y = if (g x.n y.n).2 = 0 then numP (g x.n y.n).1 else noP (g x.n y.n).2 := if_pos ⟨h1, h2⟩
theorem reck_no (g : Int → Int → Int × Int) {x y : GV} (h : ¬ (x.k = 2 ∧ y.k = 2)) : reckP g x y = noP 4 := if_neg h
theorem div_two (a b : Int) : (if (divK a b).2 = 0 then numP (divK a b).1 else noP (divK a b).2) = if b = 0 then noP 3 else wholeP (a.tdiv b) := by
  unfold divK
  by_cases h : b = 0
  · rw [if_pos h, if_pos h]; rfl
  · rw [if_neg h, if_neg h]; exact bound_whole _
theorem mod_two (a b : Int) : (if (modK a b).2 = 0 then numP (modK a b).1 else noP (modK a b).2) = if b = 0 then noP 3 else numP (a.tmod b) := by
  unfold modK
  by_cases h : b = 0
  · rw [if_pos h, if_pos h]; rfl
  · rw [if_neg h, if_neg h]; rfl
section
variable (x y : GV) (fx : x.fit) (fy : y.fit) (hvx : vmay x = true) (hvy : vmay y = true) (s : Value) (w : World) (B : Nat) (hB : B ≤ w.heap.size) (hs : isL w 0 B s [x, y])
include fx fy hvx hvy hB hs
theorem r_lt : Calls Tryz.prog 36 #[.int .i64 12, s] w (RefO w (ltP x y)) := by
  by_cases hk : x.k = y.k
  · by_cases h3 : x.k = 2 ∨ x.k = 3 ∨ x.k = 1
    · exact rA_lt x y fx fy hvx hvy hk h3 s w B hB hs
    · exact rA_ltno x y fx fy hvx hvy hk (fun h => h3 (.inr (.inr h))) (fun h => h3 (.inl h)) (fun h => h3 (.inr (.inl h))) s w B hB hs
  · rw [show ltP x y = noP 4 from cmp_no (by simp [cmpOk, hk]) _]
    exact rA_dif x y fx fy hvx hvy 12 (by decide) (by decide) (by decide) (by decide) hk s w B hB hs
theorem r_le : Calls Tryz.prog 36 #[.int .i64 13, s] w (RefO w (leP x y)) := by
  by_cases hk : x.k = y.k
  · by_cases h3 : x.k = 2 ∨ x.k = 3 ∨ x.k = 1
    · exact rA_le x y fx fy hvx hvy hk h3 s w B hB hs
    · exact rA_leno x y fx fy hvx hvy hk (fun h => h3 (.inr (.inr h))) (fun h => h3 (.inl h)) (fun h => h3 (.inr (.inl h))) s w B hB hs
  · rw [show leP x y = noP 4 from cmp_no (by simp [cmpOk, hk]) _]
    exact rA_dif x y fx fy hvx hvy 13 (by decide) (by decide) (by decide) (by decide) hk s w B hB hs
theorem r_gt : Calls Tryz.prog 36 #[.int .i64 14, s] w (RefO w (gtP x y)) := by
  by_cases hk : x.k = y.k
  · by_cases h3 : x.k = 2 ∨ x.k = 3 ∨ x.k = 1
    · exact rA_gt x y fx fy hvx hvy hk h3 s w B hB hs
    · exact rA_gtno x y fx fy hvx hvy hk (fun h => h3 (.inr (.inr h))) (fun h => h3 (.inl h)) (fun h => h3 (.inr (.inl h))) s w B hB hs
  · rw [show gtP x y = noP 4 from cmp_no (by simp [cmpOk, hk]) _]
    exact rA_dif x y fx fy hvx hvy 14 (by decide) (by decide) (by decide) (by decide) hk s w B hB hs
theorem r_ge : Calls Tryz.prog 36 #[.int .i64 15, s] w (RefO w (geP x y)) := by
  by_cases hk : x.k = y.k
  · by_cases h3 : x.k = 2 ∨ x.k = 3 ∨ x.k = 1
    · exact rA_ge x y fx fy hvx hvy hk h3 s w B hB hs
    · exact rA_geno x y fx fy hvx hvy hk (fun h => h3 (.inr (.inr h))) (fun h => h3 (.inl h)) (fun h => h3 (.inr (.inl h))) s w B hB hs
  · rw [show geP x y = noP 4 from cmp_no (by simp [cmpOk, hk]) _]
    exact rA_dif x y fx fy hvx hvy 15 (by decide) (by decide) (by decide) (by decide) hk s w B hB hs
theorem r_sub : Calls Tryz.prog 36 #[.int .i64 17, s] w (RefO w (subP x y)) := by
  by_cases hk : x.k = y.k
  · by_cases h2 : x.k = 2
    · have h := rA_int17 x y fx fy hvx hvy h2 (hk ▸ h2) s w B hB hs
      rwa [show subP x y = _ from reck_two _ h2 (hk ▸ h2), bound_whole]
    · rw [show subP x y = noP 4 from reck_no _ (fun h => h2 h.1)]
      exact rA_no17 x y fx fy hvx hvy hk h2 s w B hB hs
  · rw [show subP x y = noP 4 from reck_no _ (fun h => hk (h.1.trans h.2.symm))]
    exact rA_dif x y fx fy hvx hvy 17 (by decide) (by decide) (by decide) (by decide) hk s w B hB hs
theorem r_mul : Calls Tryz.prog 36 #[.int .i64 18, s] w (RefO w (mulP x y)) := by
  by_cases hk : x.k = y.k
  · by_cases h2 : x.k = 2
    · have h := rA_int18 x y fx fy hvx hvy h2 (hk ▸ h2) s w B hB hs
      rwa [show mulP x y = _ from reck_two _ h2 (hk ▸ h2), bound_whole]
    · rw [show mulP x y = noP 4 from reck_no _ (fun h => h2 h.1)]
      exact rA_no18 x y fx fy hvx hvy hk h2 s w B hB hs
  · rw [show mulP x y = noP 4 from reck_no _ (fun h => hk (h.1.trans h.2.symm))]
    exact rA_dif x y fx fy hvx hvy 18 (by decide) (by decide) (by decide) (by decide) hk s w B hB hs
theorem r_div : Calls Tryz.prog 36 #[.int .i64 19, s] w (RefO w (divP x y)) := by
  by_cases hk : x.k = y.k
  · by_cases h2 : x.k = 2
    · have h := rA_int19 x y fx fy hvx hvy h2 (hk ▸ h2) s w B hB hs
      rwa [show divP x y = _ from reck_two _ h2 (hk ▸ h2), div_two]
    · rw [show divP x y = noP 4 from reck_no _ (fun h => h2 h.1)]
      exact rA_no19 x y fx fy hvx hvy hk h2 s w B hB hs
  · rw [show divP x y = noP 4 from reck_no _ (fun h => hk (h.1.trans h.2.symm))]
    exact rA_dif x y fx fy hvx hvy 19 (by decide) (by decide) (by decide) (by decide) hk s w B hB hs
theorem r_mod : Calls Tryz.prog 36 #[.int .i64 20, s] w (RefO w (modP x y)) := by
  by_cases hk : x.k = y.k
  · by_cases h2 : x.k = 2
    · have h := rA_int20 x y fx fy hvx hvy h2 (hk ▸ h2) s w B hB hs
      rwa [show modP x y = _ from reck_two _ h2 (hk ▸ h2), mod_two]
    · rw [show modP x y = noP 4 from reck_no _ (fun h => h2 h.1)]
      exact rA_no20 x y fx fy hvx hvy hk h2 s w B hB hs
  · rw [show modP x y = noP 4 from reck_no _ (fun h => hk (h.1.trans h.2.symm))]
    exact rA_dif x y fx fy hvx hvy 20 (by decide) (by decide) (by decide) (by decide) hk s w B hB hs
theorem r_has : Calls Tryz.prog 36 #[.int .i64 22, s] w (RefO w (hasP x y)) := by
  by_cases hk : x.k = 4
  · exact rA_has x y fx fy hvx hvy hk s w B hB hs
  · exact rA_hasno x y fx fy hvx hvy hk s w B hB hs
theorem r_add : Calls Tryz.prog 36 #[.int .i64 16, s] w (RefO w (plusP x y)) := by
  unfold plusP
  by_cases h1 : x.k = 2 ∧ y.k = 2
  · rw [if_pos h1, reck_two _ h1.1 h1.2, bound_whole]
    exact rA_int16 x y fx fy hvx hvy h1.1 h1.2 s w B hB hs
  rw [if_neg h1]
  by_cases hk : x.k = y.k
  · have h2 : x.k ≠ 2 := fun h => h1 ⟨h, hk ▸ h⟩
    by_cases h3 : x.k = 3
    · have h3' : y.k = 3 := hk ▸ h3
      rw [if_pos ⟨hk, .inl h3⟩]
      have lx := may_text hvx h3
      have ly := may_text hvy h3'
      by_cases hb : x.t.size + y.t.size ≤ 65536
      · rw [if_pos ⟨hb, by omega⟩]
        have e1 : x.l = [] := List.eq_nil_of_length_eq_zero lx
        have e2 : y.l = [] := List.eq_nil_of_length_eq_zero ly
        have h := rA_text x y fx fy hvx hvy h3 h3' hb s w B hB hs
        rw [h3, e1, e2]
        exact h
      · rw [if_neg (fun h => hb h.1)]
        exact rA_textno x y fx fy hvx hvy h3 h3' (by omega) s w B hB hs
    by_cases h4 : x.k = 4
    · have h4' : y.k = 4 := hk ▸ h4
      rw [if_pos ⟨hk, .inr h4⟩]
      have lx := may_list hvx h4
      have ly := may_list hvy h4'
      by_cases hb : x.l.length + y.l.length ≤ 4096
      · rw [if_pos ⟨by omega, hb⟩]
        have e1 : x.t = ⟨#[]⟩ := empty_of lx
        have e2 : y.t = ⟨#[]⟩ := empty_of ly
        have h := rA_list x y fx fy hvx hvy h4 h4' hb s w B hB hs
        have e3 : x.t ++ y.t = ⟨#[]⟩ := by rw [e1, e2]; exact text_eq (by simp)
        rw [h4, e3]
        exact h
      · rw [if_neg (fun h => hb h.2)]
        exact rA_listno x y fx fy hvx hvy h4 h4' (by omega) s w B hB hs
    · rw [if_neg (fun h => h.2.elim h3 h4)]
      exact rA_no16 x y fx fy hvx hvy hk h2 h3 h4 s w B hB hs
  · rw [if_neg (fun h => hk h.1)]
    exact rA_dif x y fx fy hvx hvy 16 (by decide) (by decide) (by decide) (by decide) hk s w B hB hs
end
theorem any_false {l : List GV} (h : badL l = false) : ∀ x ∈ l, vmay x = true := fun x hx => by
  have h1 := List.any_eq_false.1 h x hx
  simpa using h1
theorem r_op (op : Int) (t : Nat) (ht0 : 0 < t) (ht : takesV op = t) (g : GV → GV → GV × Int) (h1 : t = 1 → ∀ x : GV, x.fit → vmay x = true → ∀ (s : Value) (w : World) (B : Nat), B ≤ w.heap.size → isL w 0 B s [x] → Calls Tryz.prog 36 #[.int .i64 op, s] w (RefO w (g x x)))
    (h2 : t = 2 → ∀ x y : GV, x.fit → y.fit → vmay x = true → vmay y = true → ∀ (s : Value) (w : World) (B : Nat), B ≤ w.heap.size → isL w 0 B s [x, y] → Calls Tryz.prog 36 #[.int .i64 op, s] w (RefO w (g x y))) (h12 : t = 1 ∨ t = 2)
    (l : List GV) (hll : l.length ≤ 2147483647) (fl : fitL l) (s : Value) (w : World) (B : Nat) (hB : B ≤ w.heap.size) (hs : isL w 0 B s l) : Calls Tryz.prog 36 #[.int .i64 op, s] w (RefO w (appP t g l)) := by
  by_cases hl : l.length = t
  · by_cases hb : badL l = true
    · unfold appP
      rw [if_neg (fun h => by rw [hb] at h; exact absurd h.2 (by decide))]
      exact rA_bad op l hll (by rw [ht, hl]) (by omega) fl hb s w B hB hs
    · have hb' : badL l = false := by simpa using hb
      have hm := any_false hb'
      unfold appP
      rw [if_pos ⟨hl, hb'⟩]
      rcases h12 with rfl | rfl
      · match l, hl, hs, fl, hm with
        | [x], _, hs, fl, hm => exact h1 rfl x fl.1 (hm x (by simp)) s w B hB hs
      · match l, hl, hs, fl, hm with
        | [x, y], _, hs, fl, hm => exact h2 rfl x y fl.1 fl.2.1 (hm x (by simp)) (hm y (by simp)) s w B hB hs
  · unfold appP
    rw [if_neg (fun h => hl h.1)]
    exact rA_len op t ht (by omega) l (by omega) s w B hs
theorem rApply_any (op : Int) (l : List GV) (hll : l.length ≤ 2147483647) (fl : fitL l) (s : Value) (w : World) (B : Nat) (hB : B ≤ w.heap.size) (hs : isL w 0 B s l) : Calls Tryz.prog 36 #[.int .i64 op, s] w (RefO w (applyP op l)) := by
  unfold applyP
  by_cases h6 : op = 6
  · subst h6; exact r_op 6 1 (by decide) (by decide) negP (fun _ x fx hv => rA_one 6 (by decide) _ (negP_l _ _) x fx hv (one6 x fx)) (fun h => absurd h (by decide)) (.inl rfl) l hll fl s w B hB hs
  rw [if_neg h6]
  by_cases h7 : op = 7
  · subst h7; exact r_op 7 1 (by decide) (by decide) notP (fun _ x fx hv => rA_one 7 (by decide) _ (notP_l _ _) x fx hv (one7 x fx)) (fun h => absurd h (by decide)) (.inl rfl) l hll fl s w B hB hs
  rw [if_neg h7]
  by_cases h10 : op = 10
  · subst h10; exact r_op 10 2 (by decide) (by decide) eqP (fun h => absurd h (by decide)) (fun _ x y fx fy hx hy => rA_eq x y fx fy hx hy) (.inr rfl) l hll fl s w B hB hs
  rw [if_neg h10]
  by_cases h11 : op = 11
  · subst h11; exact r_op 11 2 (by decide) (by decide) neP (fun h => absurd h (by decide)) (fun _ x y fx fy hx hy => rA_ne x y fx fy hx hy) (.inr rfl) l hll fl s w B hB hs
  rw [if_neg h11]
  by_cases h12 : op = 12
  · subst h12; exact r_op 12 2 (by decide) (by decide) ltP (fun h => absurd h (by decide)) (fun _ x y fx fy hx hy => r_lt x y fx fy hx hy) (.inr rfl) l hll fl s w B hB hs
  rw [if_neg h12]
  by_cases h13 : op = 13
  · subst h13; exact r_op 13 2 (by decide) (by decide) leP (fun h => absurd h (by decide)) (fun _ x y fx fy hx hy => r_le x y fx fy hx hy) (.inr rfl) l hll fl s w B hB hs
  rw [if_neg h13]
  by_cases h14 : op = 14
  · subst h14; exact r_op 14 2 (by decide) (by decide) gtP (fun h => absurd h (by decide)) (fun _ x y fx fy hx hy => r_gt x y fx fy hx hy) (.inr rfl) l hll fl s w B hB hs
  rw [if_neg h14]
  by_cases h15 : op = 15
  · subst h15; exact r_op 15 2 (by decide) (by decide) geP (fun h => absurd h (by decide)) (fun _ x y fx fy hx hy => r_ge x y fx fy hx hy) (.inr rfl) l hll fl s w B hB hs
  rw [if_neg h15]
  by_cases h16 : op = 16
  · subst h16; exact r_op 16 2 (by decide) (by decide) plusP (fun h => absurd h (by decide)) (fun _ x y fx fy hx hy => r_add x y fx fy hx hy) (.inr rfl) l hll fl s w B hB hs
  rw [if_neg h16]
  by_cases h17 : op = 17
  · subst h17; exact r_op 17 2 (by decide) (by decide) subP (fun h => absurd h (by decide)) (fun _ x y fx fy hx hy => r_sub x y fx fy hx hy) (.inr rfl) l hll fl s w B hB hs
  rw [if_neg h17]
  by_cases h18 : op = 18
  · subst h18; exact r_op 18 2 (by decide) (by decide) mulP (fun h => absurd h (by decide)) (fun _ x y fx fy hx hy => r_mul x y fx fy hx hy) (.inr rfl) l hll fl s w B hB hs
  rw [if_neg h18]
  by_cases h19 : op = 19
  · subst h19; exact r_op 19 2 (by decide) (by decide) divP (fun h => absurd h (by decide)) (fun _ x y fx fy hx hy => r_div x y fx fy hx hy) (.inr rfl) l hll fl s w B hB hs
  rw [if_neg h19]
  by_cases h20 : op = 20
  · subst h20; exact r_op 20 2 (by decide) (by decide) modP (fun h => absurd h (by decide)) (fun _ x y fx fy hx hy => r_mod x y fx fy hx hy) (.inr rfl) l hll fl s w B hB hs
  rw [if_neg h20]
  by_cases h21 : op = 21
  · subst h21; exact r_op 21 1 (by decide) (by decide) sizeP (fun _ x fx hv => rA_one 21 (by decide) _ (sizeP_l _ _) x fx hv (one21 x fx hv)) (fun h => absurd h (by decide)) (.inl rfl) l hll fl s w B hB hs
  rw [if_neg h21]
  by_cases h22 : op = 22
  · subst h22; exact r_op 22 2 (by decide) (by decide) hasP (fun h => absurd h (by decide)) (fun _ x y fx fy hx hy => r_has x y fx fy hx hy) (.inr rfl) l hll fl s w B hB hs
  rw [if_neg h22]
  exact rA_none op (by unfold takesV; rw [if_neg (by omega), if_neg (by omega)]) l s w B hs
end Go.Proofs.YtljljhjdlicfeaaGreat
