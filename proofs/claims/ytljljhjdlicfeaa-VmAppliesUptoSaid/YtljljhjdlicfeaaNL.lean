/-
  Plain laws of VmLazy: what is not looked at, and a true behind. Conditions: none.
-/
import Derived.Test.YtljljhjdlicfeaaNQ
import Derived.Test.YtljljhjdlicfeaaNO
import Derived.Test.YtljljhjdlicfeaaUnlikeP
namespace Go.Proofs.Ytljljhjdlicfeaa
open Go Go.RowKit
set_option maxRecDepth 100000
set_option linter.unusedVariables false
theorem codeOf_may {x : GE} (h : emay x = true) : codeOf x = compE x 0 := by rw [codeOf, if_pos h]
theorem evalP_may (E : EP) {x : GE} (fuel : Int) (h : emay x = true) : EvalP E x fuel = ((RunP E (compE x 0) fuel).1, (RunP E (compE x 0) fuel).2.2) := by rw [EvalP, if_pos h, codeOf_may h]
theorem short_law (E : EP) (op : Int) (b : Bool) (x : GE) (h : (op = 8 ∧ b = false) ∨ (op = 9 ∧ b = true)) (hm : emay (twoE op (litE (booV b)) x) = true) : EvalP E (twoE op (litE (booV b)) x) 1048576 = (booV b, 0) := by
  have hc := checkC_code _ hm
  rw [evalP_may E _ hm]
  have hcode : compE (twoE op (litE (booV b)) x) 0 = gi 0 0 ByteArray.empty (booV b) :: gi 6 0 ByteArray.empty noV :: gi (jop op) ((compE x 3).length + 4 : Nat) ByteArray.empty noV :: (compE x 3 ++ [gi 6 0 ByteArray.empty noV]) := by
    unfold twoE
    rw [compE]
    show (if op = 1 then _ else if op = 2 then _ else if op = 3 then _ else if op = 8 ∨ op = 9 then compTwo [litE (booV b), x] op 0 else _) = _
    rw [if_neg (by omega), if_neg (by omega), if_neg (by omega), if_pos (by omega), compTwo_eq]
    have e0 : compE (litE (booV b)) 0 = [gi 0 0 ByteArray.empty (booV b)] := by simp [litE, compE]
    rw [e0]
    simp only [List.length_singleton, List.cons_append, List.nil_append]
    have e1 : (0 + 1 + 1 + 1 + (compE x (0 + 1 + 1 + 1)).length + 1 : Nat) = (compE x 3).length + 4 := by show 3 + (compE x 3).length + 1 = _; omega
    rw [e1]
  rw [RunP, if_pos ⟨hc, by omega, by omega⟩]
  have hl : (compE (twoE op (litE (booV b)) x) 0).length = (compE x 3).length + 1 + 1 + 1 + 1 := by rw [hcode]; simp
  obtain ⟨X, hX⟩ : ∃ X, X = compE x 3 := ⟨_, rfl⟩
  rw [hl]
  rw [hcode, ← hX]
  have hr : runP E (gi 0 0 ByteArray.empty (booV b) :: gi 6 0 ByteArray.empty noV :: gi (jop op) (X.length + 4 : Nat) ByteArray.empty noV :: (X ++ [gi 6 0 ByteArray.empty noV])) 1048576 (X.length + 1 + 1 + 1 + 1) 0 [] 0 = (.go [booV b], 3) := by
    have hend : ∀ (k n : Nat), runP E (gi 0 0 ByteArray.empty (booV b) :: gi 6 0 ByteArray.empty noV :: gi (jop op) (X.length + 4 : Nat) ByteArray.empty noV :: (X ++ [gi 6 0 ByteArray.empty noV])) 1048576 k (X.length + 4) [booV b] n = (.go [booV b], n) := by
      intro k n
      cases k with
      | zero => rfl
      | succ k =>
        rw [runP, List.getElem?_eq_none (by simp)]
    have hj : jop op = 7 ∧ b = false ∨ jop op = 8 ∧ b = true := by
      rcases h with ⟨rfl, rfl⟩ | ⟨rfl, rfl⟩
      · exact .inl ⟨rfl, rfl⟩
      · exact .inr ⟨rfl, rfl⟩
    rw [runP]
    simp only [List.getElem?_cons_zero, gi]
    rw [if_pos (by omega), if_neg (by omega)]
    simp only [doP, if_true, List.nil_append]
    rw [runP]
    simp only [List.getElem?_cons_succ, List.getElem?_cons_zero]
    rw [if_pos (by omega), if_neg (by omega)]
    have hd : doP E ⟨6, 0, ByteArray.empty, noV⟩ [booV b] = .go [booV b] := by simp [doP, topG, booV]
    rw [hd]
    simp only
    rw [runP]
    simp only [List.getElem?_cons_succ, List.getElem?_cons_zero]
    rw [if_pos (by omega)]
    rcases hj with ⟨e, rfl⟩ | ⟨e, rfl⟩
    · rw [if_pos (by rw [e]; omega), if_pos (by rw [e]; simp [topG, booV]), Int.toNat_natCast]
      exact hend _ _
    · rw [if_pos (by rw [e]; omega), if_pos (by rw [e]; simp [topG, booV]), Int.toNat_natCast]
      exact hend _ _
  rw [hr]
  rfl
theorem runP_jump {E : EP} {l : List GI} {fuel : Int} {g k n : Nat} {st : List GV} {x : GI} (hx : l[k]? = some x) (hn : (n : Int) < fuel) (hj : x.op = 7 ∨ x.op = 8) :
    runP E l fuel (g + 1) k st n = if (topG st).b = decide (x.op = 8) then runP E l fuel g x.arg.toNat st (n + 1) else runP E l fuel g (k + 1) (lessN 1 st) (n + 1) := by
  rw [runP, hx]
  simp only
  rw [if_pos hn, if_pos hj]
theorem runP_do {E : EP} {l : List GI} {fuel : Int} {g k n : Nat} {st : List GV} {x : GI} (hx : l[k]? = some x) (hn : (n : Int) < fuel) (hj : ¬ (x.op = 7 ∨ x.op = 8)) :
    runP E l fuel (g + 1) k st n = match doP E x st with
      | .go st' => runP E l fuel g (k + 1) st' (n + 1)
      | .stop e => (.stop e, n + 1) := by
  rw [runP, hx]
  simp only
  rw [if_pos hn, if_neg hj]
  cases doP E x st <;> rfl
theorem doP_stop {E : EP} {x : GI} {st : List GV} {e : Int} (h : doP E x st = .stop e) : e ≠ 0 := by
  have told : ∀ {v : GV} {s : List GV} {e : Int}, toldP v s = .stop e → e ≠ 0 := fun {v s e} h => by
    unfold toldP at h
    split at h
    · cases h
    · cases h; omega
  unfold doP at h
  split at h
  · cases h
  split at h
  · split at h
    · exact told h
    · cases h; omega
  split at h
  · split at h
    · exact told h
    · cases h; omega
  split at h
  · split at h
    · split at h
      · exact told h
      · rename_i hne; cases h; exact hne
    · cases h; omega
  split at h
  · split at h
    · cases h
    · cases h; omega
  split at h
  · split at h
    · cases h
    · rename_i hne; cases h; exact hne
  split at h
  · split at h
    · cases h
    · cases h; omega
  · cases h
/-- a run of l ahead of r: the same until l is done -/
theorem runP_sim (E : EP) (l r : List GI) (H : Nat → Int) (hH : Hts l H) (h1 : H l.length = 1) (hl : l.length ≤ 1000000) : ∀ (m k : Nat) (st : List GV) (n g : Nat), l.length ≤ k + m → k ≤ l.length → (st.length : Int) = H k → n ≤ k →
    (∃ e n', e ≠ 0 ∧ runP E l 1048576 m k st n = (.stop e, n') ∧ runP E (l ++ r) 1048576 (m + g) k st n = (.stop e, n')) ∨
    (∃ v n', runP E l 1048576 m k st n = (.go [v], n') ∧ n' ≤ l.length ∧ ∃ g', g ≤ g' ∧ runP E (l ++ r) 1048576 (m + g) k st n = runP E (l ++ r) 1048576 g' l.length [v] n') := by
  have one : ∀ (st : List GV), (st.length : Int) = 1 → ∃ v, st = [v] := fun st h => by
    match st, h with
    | [v], _ => exact ⟨v, rfl⟩
    | [], h => simp at h
    | _ :: _ :: _, h => simp at h; omega
  intro m
  induction m with
  | zero =>
    intro k st n g hm hk hst hn
    obtain rfl : k = l.length := by omega
    obtain ⟨v, rfl⟩ := one st (by omega)
    exact .inr ⟨v, n, by rw [runP], hn, g, Nat.le_refl _, by rw [Nat.zero_add]⟩
  | succ m ih =>
    intro k st n g hm hk hst hn
    by_cases hkl : k = l.length
    · subst hkl
      obtain ⟨v, rfl⟩ := one st (by omega)
      exact .inr ⟨v, n, by rw [runP, List.getElem?_eq_none (Nat.le_refl _)], hn, m + 1 + g, by omega, rfl⟩
    have hlt : k < l.length := by omega
    obtain ⟨x, hx⟩ : ∃ x, x = l[k] := ⟨_, rfl⟩
    have e1 : l[k]? = some x := by rw [hx]; exact List.getElem?_eq_getElem hlt
    have e2 : (l ++ r)[k]? = some x := by rw [List.getElem?_append_left hlt, e1]
    obtain ⟨k1, k2, k3, k4⟩ := hH k hlt
    rw [← hx] at k1 k2 k3 k4
    rw [show m + 1 + g = (m + g) + 1 by omega]
    by_cases hj : x.op = 7 ∨ x.op = 8
    · rw [runP_jump e1 (by omega) hj, runP_jump e2 (by omega) hj]
      obtain ⟨j1, j2, j3⟩ := k4 hj
      by_cases hb : (topG st).b = decide (x.op = 8)
      · rw [if_pos hb, if_pos hb]
        exact ih x.arg.toNat st (n + 1) g (by omega) (by omega) (by rw [j3]; exact hst) (by omega)
      · rw [if_neg hb, if_neg hb]
        have hO : offOf x = 1 := by unfold offOf; rw [if_pos (by omega)]
        have hL : leftOf x = 0 := by unfold leftOf; rw [if_neg (by omega)]
        have hlen := lessN_len (n := 1) (st := st) (by omega)
        exact ih (k + 1) (lessN 1 st) (n + 1) g (by omega) (by omega) (by rw [k3]; omega) (by omega)
    · rw [runP_do e1 (by omega) hj, runP_do e2 (by omega) hj]
      cases hd : doP E x st with
      | stop e => exact .inl ⟨e, n + 1, doP_stop hd, rfl, rfl⟩
      | go st' =>
        simp only
        have := doP_len k1 hj (by omega) hd
        exact ih (k + 1) st' (n + 1) g (by omega) (by omega) (by rw [k3]; omega) (by omega)
theorem true_law (E : EP) (x : GE) (hx : emay x = true) (hm : emay (twoE 8 x (litE (booV true))) = true) :
    ((EvalP E x 1048576).2 ≠ 0 → (EvalP E (twoE 8 x (litE (booV true))) 1048576).2 = (EvalP E x 1048576).2) ∧
    ((EvalP E x 1048576).2 = 0 → (EvalP E x 1048576).1.k ≠ 1 → (EvalP E (twoE 8 x (litE (booV true))) 1048576).2 = 4) ∧
    ((EvalP E x 1048576).2 = 0 → (EvalP E x 1048576).1.k = 1 → (EvalP E (twoE 8 x (litE (booV true))) 1048576).2 = 0 ∧ (EvalP E (twoE 8 x (litE (booV true))) 1048576).1.b = (EvalP E x 1048576).1.b) := by
  have hcx := checkC_code _ hx
  have hcy := checkC_code _ hm
  rw [evalP_may E _ hx, evalP_may E _ hm]
  have hll : (compE x 0).length ≤ 12288 := by rw [← codeOf_may hx]; exact codeOf_len x
  have hcode : compE (twoE 8 x (litE (booV true))) 0 = compE x 0 ++ [gi 6 0 ByteArray.empty noV, gi 7 ((compE x 0).length + 4 : Nat) ByteArray.empty noV, gi 0 0 ByteArray.empty (booV true), gi 6 0 ByteArray.empty noV] := by
    unfold twoE
    rw [compE]
    show (if (8 : Int) = 1 then _ else if (8 : Int) = 2 then _ else if (8 : Int) = 3 then _ else if (8 : Int) = 8 ∨ (8 : Int) = 9 then compTwo [x, litE (booV true)] 8 0 else _) = _
    rw [if_neg (by omega), if_neg (by omega), if_neg (by omega), if_pos (by omega), compTwo_eq]
    have e0 : ∀ m, compE (litE (booV true)) m = [gi 0 0 ByteArray.empty (booV true)] := fun m => by simp [litE, compE]
    rw [e0]
    simp only [List.length_singleton, List.append_assoc, List.cons_append, List.nil_append]
    rw [show (0 + (compE x 0).length + 1 + 1 + 1 + 1 : Nat) = (compE x 0).length + 4 by omega, show jop 8 = 7 from rfl]
  rw [hcode] at hcy ⊢
  rw [RunP, if_pos ⟨hcx, by omega, by omega⟩, RunP, if_pos ⟨hcy, by omega, by omega⟩]
  obtain ⟨H, hH, h0, h1⟩ := hts_of hcx
  obtain ⟨l, hl⟩ : ∃ l, l = compE x 0 := ⟨_, rfl⟩
  rw [← hl] at hH h1 hll ⊢
  rw [show (l ++ [gi 6 0 ByteArray.empty noV, gi 7 (l.length + 4 : Nat) ByteArray.empty noV, gi 0 0 ByteArray.empty (booV true), gi 6 0 ByteArray.empty noV]).length = l.length + 4 by simp]
  rcases runP_sim E l [gi 6 0 ByteArray.empty noV, gi 7 (l.length + 4 : Nat) ByteArray.empty noV, gi 0 0 ByteArray.empty (booV true), gi 6 0 ByteArray.empty noV] H hH h1 (by omega) l.length 0 [] 0 4 (by omega) (by omega) (by rw [h0]; rfl) (Nat.le_refl _) with ⟨e, n', he, r1, r2⟩ | ⟨v, n', r1, hn', g', hg', r2⟩
  · rw [r1, r2]
    exact ⟨fun _ => rfl, fun h => absurd h he, fun h => absurd h he⟩
  · rw [r1, r2]
    obtain ⟨g, rfl⟩ : ∃ g, g' = g + 1 + 1 + 1 + 1 := ⟨g' - 4, by omega⟩
    obtain ⟨r, hr⟩ : ∃ r, r = l ++ [gi 6 0 ByteArray.empty noV, gi 7 (l.length + 4 : Nat) ByteArray.empty noV, gi 0 0 ByteArray.empty (booV true), gi 6 0 ByteArray.empty noV] := ⟨_, rfl⟩
    have i0 : r[l.length]? = some (gi 6 0 ByteArray.empty noV) := by rw [hr, List.getElem?_append_right (by omega)]; simp
    have i1 : r[l.length + 1]? = some (gi 7 (l.length + 4 : Nat) ByteArray.empty noV) := by rw [hr, List.getElem?_append_right (by omega)]; simp
    have i2 : r[l.length + 1 + 1]? = some (gi 0 0 ByteArray.empty (booV true)) := by rw [hr, List.getElem?_append_right (by omega), show l.length + 1 + 1 - l.length = 2 by omega]; rfl
    have i3 : r[l.length + 1 + 1 + 1]? = some (gi 6 0 ByteArray.empty noV) := by rw [hr, List.getElem?_append_right (by omega), show l.length + 1 + 1 + 1 - l.length = 3 by omega]; rfl
    have i4 : r[l.length + 4]? = none := by rw [hr]; exact List.getElem?_eq_none (by simp)
    have hend : ∀ (g : Nat) (st : List GV) (n : Nat), runP E r 1048576 g (l.length + 4) st n = (.go st, n) := by
      intro g st n
      cases g with
      | zero => rfl
      | succ g => rw [runP, i4]
    rw [← hr]
    refine ⟨fun h => absurd rfl h, ?_, ?_⟩
    · intro _ hk
      have hk' : v.k ≠ 1 := hk
      rw [runP_do i0 (by omega) (by simp [gi])]
      have hd : doP E (gi 6 0 ByteArray.empty noV) [v] = .stop 4 := by simp [doP, gi, topG, hk']
      rw [hd]
      rfl
    · intro _ hk
      have hk' : v.k = 1 := hk
      rw [runP_do i0 (by omega) (by simp [gi])]
      have hd : doP E (gi 6 0 ByteArray.empty noV) [v] = .go [v] := by simp [doP, gi, topG, hk']
      rw [hd]
      simp only
      rw [runP_jump i1 (by omega) (by simp [gi])]
      by_cases hb : v.b = true
      · rw [if_neg (by simp [gi, topG, hb]), runP_do i2 (by omega) (by simp [gi])]
        have hd2 : doP E (gi 0 0 ByteArray.empty (booV true)) (lessN 1 [v]) = .go [booV true] := by simp [doP, gi, lessN]
        rw [hd2]
        simp only
        rw [runP_do i3 (by omega) (by simp [gi])]
        have hd3 : doP E (gi 6 0 ByteArray.empty noV) [booV true] = .go [booV true] := by simp [doP, gi, topG, booV]
        rw [hd3]
        simp only
        rw [show l.length + 1 + 1 + 1 + 1 = l.length + 4 by omega, hend]
        exact ⟨rfl, hb.symm⟩
      · rw [if_pos (by simp [gi, topG, hb]), show (gi 7 (l.length + 4 : Nat) ByteArray.empty noV).arg.toNat = l.length + 4 from rfl, hend]
        exact ⟨rfl, rfl⟩
end Go.Proofs.Ytljljhjdlicfeaa
/-
  Which of the law's expressions may be. Conditions: none.
-/
namespace Go.Proofs.Ytljljhjdlicfeaa
open Go Go.RowKit
set_option maxRecDepth 100000
set_option linter.unusedVariables false
mutual
theorem mayC_mono : ∀ (x : GE) (d d' n n' : Nat), d' ≤ d → n' ≤ n → (mayC x d n).1 = true → (mayC x d' n').1 = true
  | ⟨op, text, v, args⟩, d, d', n, n', hd, hn, h => by
    rw [mayC] at h ⊢
    split at h
    · cases h
    · rename_i hc
      rw [if_neg (by simp only [not_or] at hc ⊢; exact ⟨by omega, by omega, hc.2.2⟩)]
      exact maysC_mono args (d + 1) (d' + 1) (n + 1) (n' + 1) (by omega) (by omega) h
theorem maysC_mono : ∀ (l : List GE) (d d' n n' : Nat), d' ≤ d → n' ≤ n → (maysC l d n).1 = true → (maysC l d' n').1 = true
  | [], d, d', n, n', hd, hn, h => by rw [maysC]
  | x :: r, d, d', n, n', hd, hn, h => by
    rw [maysC] at h ⊢
    split at h
    · rename_i hx
      have hx' := mayC_mono x d d' n n' hd hn hx
      rw [if_pos hx']
      have e1 := (mayC_true x d n hx).2
      have e2 := (mayC_true x d' n' hx').2
      exact maysC_mono r d d' _ _ hd (by omega) h
    · cases h
end
theorem noV_same : same noV zeroV = true := (same_iff _ _).2 rfl
theorem emp_list : ByteArray.empty.toList = [] := by kernel_rfl
theorem litV_node {v : GV} (h : vmay v = true) : nodeOk (litE v) = true := by
  unfold nodeOk
  rw [if_pos (show (litE v).op = 1 from rfl)]
  show (vmay v && ((ByteArray.empty).toList == []) && (([] : List GE).length == 0)) = true
  rw [h, emp_list]
  rfl
theorem lit_may {v : GV} (h : vmay v = true) (d n : Nat) (hd : d ≤ 30) (hn : n < 4096) : (mayC (litE v) d n) = (true, n + 1) := by
  rw [mayC_eq, if_neg (by simp only [not_or]; exact ⟨by omega, by omega, by simp [litV_node h]⟩)]
  rfl
theorem two_node (op : Int) (a b : GE) (h : takesOf op = 2 ∨ op = 8 ∨ op = 9) (hop : op ≠ 1 ∧ op ≠ 2 ∧ op ≠ 3 ∧ op ≠ 4 ∧ op ≠ 5) : nodeOk (twoE op a b) = true := by
  obtain ⟨k1, k2, k3, k4, k5⟩ := hop
  unfold nodeOk
  rw [if_neg (show ¬ (twoE op a b).op = 1 from k1), if_neg (show ¬ ((twoE op a b).op = 2 ∨ (twoE op a b).op = 3) from by show ¬ (op = 2 ∨ op = 3); omega), if_neg (show ¬ (twoE op a b).op = 4 from k4), if_neg (show ¬ (twoE op a b).op = 5 from k5)]
  show (same noV zeroV && _) = true
  rw [noV_same, Bool.true_and]
  by_cases h8 : op = 8 ∨ op = 9
  · rw [if_pos (show (twoE op a b).op = 8 ∨ (twoE op a b).op = 9 from h8)]
    show ((ByteArray.empty.toList == []) && _) = true
    rw [emp_list]; rfl
  · rw [if_neg (show ¬ ((twoE op a b).op = 8 ∨ (twoE op a b).op = 9) from h8)]
    have h2 : takesOf op = 2 := by omega
    show (takesOf op != 0 && (ByteArray.empty.toList == []) && ((([a, b] : List GE).length : Int) == takesOf op)) = true
    rw [h2, emp_list]; rfl
theorem two_may (op : Int) (a b : GE) : emay (twoE op a b) = true ↔ nodeOk (twoE op a b) = true ∧ (mayC a 2 1).1 = true ∧ (mayC b 2 (mayC a 2 1).2).1 = true := by
  unfold emay
  rw [mayC_eq]
  by_cases hn : nodeOk (twoE op a b) = true
  · rw [if_neg (by simp [hn])]
    show (maysC [a, b] 2 1).1 = true ↔ _
    simp only [maysC, hn, true_and]
    by_cases h1 : (mayC a 2 1).1 = true
    · simp only [h1, if_true, true_and]
      by_cases h2 : (mayC b 2 (mayC a 2 1).2).1 = true
      · simp [h2]
      · simp [h2]
    · simp [h1]
  · rw [if_pos (.inr (.inr (by simpa using hn)))]
    simp [hn]
theorem booV_may (b : Bool) : vmay (booV b) = true := by cases b <;> kernel_rfl
/-- what the law asks of x -/
theorem lazy_may (op : Int) (b : Bool) (x : GE) (hop : op = 8 ∨ op = 9) (h : emay (twoE op (litE (booV b)) x) = true) : emay x = true ∧ ∀ c, emay (twoE 8 x (litE (booV c))) = true := by
  obtain ⟨h1, h2, h3⟩ := (two_may _ _ _).1 h
  rw [lit_may (booV_may b) 2 1 (by omega) (by omega)] at h3
  have h0 : emay x = true := mayC_mono x 2 1 2 0 (by omega) (by omega) h3
  have h4 := mayC_mono x 2 2 2 1 (by omega) (by omega) h3
  have e3 := (mayC_true x 2 2 h3).2
  have l3 := mayC_le x 2 2 h3
  have e4 := (mayC_true x 2 1 h4).2
  refine ⟨h0, fun c => (two_may _ _ _).2 ⟨two_node 8 _ _ (by omega) (by omega), h4, ?_⟩⟩
  rw [e4, lit_may (booV_may c) 2 _ (by omega) (by omega)]
end Go.Proofs.Ytljljhjdlicfeaa
/-
  Plain laws of VmApplies: an operation of two literals, a list of two, its size, what it has. Conditions: the literals may be.
-/
namespace Go.Proofs.Ytljljhjdlicfeaa
open Go Go.RowKit
set_option maxRecDepth 100000
set_option linter.unusedVariables false
def ErrN (r : GV × Int) : Prop := r.2 ≠ 0 → r.1 = nullG
theorem errN_no (n : Int) : ErrN (noP n) := fun _ => rfl
theorem errN_truth (b : Bool) : ErrN (truthP b) := fun h => absurd rfl h
theorem errN_num (n : Int) : ErrN (numP n) := fun h => absurd rfl h
theorem errN_reck (g : Int → Int → Int × Int) (x y : GV) : ErrN (reckP g x y) := by
  unfold reckP
  split
  · split
    · exact errN_num _
    · exact errN_no _
  · exact errN_no _
theorem errN_cmp (h : Int → Bool) (x y : GV) : ErrN (cmpP h x y) := by
  unfold cmpP
  split
  · exact errN_truth _
  · exact errN_no _
theorem errN_plus (x y : GV) : ErrN (plusP x y) := by
  unfold plusP
  split
  · exact errN_reck _ _ _
  split
  · split
    · exact fun h => absurd rfl h
    · exact errN_no _
  · exact errN_no _
theorem errN_size (x y : GV) : ErrN (sizeP x y) := by
  unfold sizeP
  split
  · exact errN_num _
  · exact errN_no _
theorem errN_has (x y : GV) : ErrN (hasP x y) := by
  unfold hasP
  split
  · exact errN_truth _
  · exact errN_no _
theorem errN_of (k : Int) (h : GV → GV × Int) (hh : ∀ x, ErrN (h x)) (x y : GV) : ErrN (ofP k h x y) := by
  unfold ofP
  split
  · exact hh x
  · exact errN_no _
theorem errN_app (t : Nat) (g : GV → GV → GV × Int) (hg : ∀ x y, ErrN (g x y)) (l : List GV) : ErrN (appP t g l) := by
  unfold appP
  split
  · exact hg _ _
  · exact errN_no _
theorem errN_ite {c : Prop} [Decidable c] {a b : GV × Int} (h1 : ErrN a) (h2 : ErrN b) : ErrN (if c then a else b) := by
  split
  · exact h1
  · exact h2
theorem applyP_err (op : Int) (l : List GV) : ErrN (applyP op l) := by
  unfold applyP
  refine errN_ite (errN_app _ _ (fun x y => errN_of _ _ (fun _ => errN_reck _ _ _) x y) _) (errN_ite (errN_app _ _ (fun x y => errN_of _ _ (fun _ => errN_truth _) x y) _) (errN_ite (errN_app _ _ (fun x y => errN_truth _) _) (errN_ite (errN_app _ _ (fun x y => errN_truth _) _) ?_)))
  refine errN_ite (errN_app _ _ (fun x y => errN_cmp _ x y) _) (errN_ite (errN_app _ _ (fun x y => errN_cmp _ x y) _) (errN_ite (errN_app _ _ (fun x y => errN_cmp _ x y) _) (errN_ite (errN_app _ _ (fun x y => errN_cmp _ x y) _) ?_)))
  refine errN_ite (errN_app _ _ errN_plus _) (errN_ite (errN_app _ _ (fun x y => errN_reck _ x y) _) (errN_ite (errN_app _ _ (fun x y => errN_reck _ x y) _) (errN_ite (errN_app _ _ (fun x y => errN_reck _ x y) _) (errN_ite (errN_app _ _ (fun x y => errN_reck _ x y) _) ?_))))
  exact errN_ite (errN_app _ _ errN_size _) (errN_ite (errN_app _ _ errN_has _) (errN_no _))
theorem runP_go {E : EP} {l : List GI} {fuel : Int} {g k n : Nat} {st st' : List GV} {x : GI} (hx : l[k]? = some x) (hn : (n : Int) < fuel) (hj : ¬ (x.op = 7 ∨ x.op = 8)) (hd : doP E x st = .go st') :
    runP E l fuel (g + 1) k st n = runP E l fuel g (k + 1) st' (n + 1) := by rw [runP_do hx hn hj, hd]
theorem runP_stop {E : EP} {l : List GI} {fuel : Int} {g k n : Nat} {st : List GV} {x : GI} {e : Int} (hx : l[k]? = some x) (hn : (n : Int) < fuel) (hj : ¬ (x.op = 7 ∨ x.op = 8)) (hd : doP E x st = .stop e) :
    runP E l fuel (g + 1) k st n = (.stop e, n + 1) := by rw [runP_do hx hn hj, hd]
theorem doP_push (E : EP) (v : GV) (st : List GV) : doP E (gi 0 0 ByteArray.empty v) st = .go (st ++ [v]) := by simp [doP, gi]
theorem doP_apply (E : EP) (op : Int) (st : List GV) : doP E (gi 5 op ByteArray.empty noV) st = if (applyP op (lastN (takesN op) st)).2 = 0 then .go (lessN (takesN op) st ++ [(applyP op (lastN (takesN op) st)).1]) else .stop (applyP op (lastN (takesN op) st)).2 := by
  unfold doP
  show (if (5 : Int) = 0 then _ else if (5 : Int) = 1 then _ else if (5 : Int) = 2 then _ else if (5 : Int) = 3 then _ else if (5 : Int) = 4 then _ else if (5 : Int) = 5 then (if (applyP op (lastN (takesN op) st)).2 = 0 then _ else _) else _) = _
  rw [if_neg (by omega), if_neg (by omega), if_neg (by omega), if_neg (by omega), if_neg (by omega), if_pos rfl]
  rfl
theorem doP_list (E : EP) (n : Nat) (st : List GV) : doP E (gi 4 n ByteArray.empty noV) st = if vmay (listG (lastN n st)) = true then .go (lessN n st ++ [listG (lastN n st)]) else .stop 2 := by
  unfold doP
  show (if (4 : Int) = 0 then _ else if (4 : Int) = 1 then _ else if (4 : Int) = 2 then _ else if (4 : Int) = 3 then _ else if (4 : Int) = 4 then (if vmay (listG (lastN n st)) = true then _ else _) else _) = _
  rw [if_neg (by omega), if_neg (by omega), if_neg (by omega), if_neg (by omega), if_pos rfl]
  rfl
theorem compE_lit (v : GV) (m : Nat) : compE (litE v) m = [gi 0 0 ByteArray.empty v] := by simp [litE, compE]
theorem compE_two (op : Int) (a b : GE) (hop : op ≠ 1 ∧ op ≠ 2 ∧ op ≠ 3 ∧ op ≠ 4 ∧ op ≠ 5 ∧ op ≠ 8 ∧ op ≠ 9) (m : Nat) : compE (twoE op a b) m = compE a m ++ (compE b (m + (compE a m).length) ++ []) ++ [gi 5 op ByteArray.empty noV] := by
  obtain ⟨k1, k2, k3, k4, k5, k8, k9⟩ := hop
  unfold twoE
  rw [compE]
  show (if op = 1 then _ else if op = 2 then _ else if op = 3 then _ else if op = 8 ∨ op = 9 then _ else compEs [a, b] m ++ [if op = 4 then _ else if op = 5 then _ else gi 5 op ByteArray.empty noV]) = _
  rw [if_neg k1, if_neg k2, if_neg k3, if_neg (by omega), if_neg k4, if_neg k5]
  simp only [compEs]
theorem compE_list (l : List GE) (m : Nat) : compE (listE l) m = compEs l m ++ [gi 4 l.length ByteArray.empty noV] := by
  unfold listE
  rw [compE]
  show (if (5 : Int) = 1 then _ else if (5 : Int) = 2 then _ else if (5 : Int) = 3 then _ else if (5 : Int) = 8 ∨ (5 : Int) = 9 then _ else compEs l m ++ [if (5 : Int) = 4 then _ else if (5 : Int) = 5 then _ else gi 5 5 ByteArray.empty noV]) = _
  rw [if_neg (by omega), if_neg (by omega), if_neg (by omega), if_neg (by omega), if_neg (by omega), if_pos rfl]
/-- ops of two values -/
def isOp2 (op : Int) : Prop := (10 ≤ op ∧ op ≤ 20) ∨ op = 22
theorem takesN_two {op : Int} (h : isOp2 op) : takesN op = 2 := by
  unfold isOp2 at h
  unfold takesN
  rw [if_neg (by omega)]
theorem takesOf_two {op : Int} (h : isOp2 op) : takesOf op = 2 := by
  unfold isOp2 at h
  unfold takesOf
  rw [if_neg (by omega), if_pos h]
theorem two_mayL {op : Int} (h : isOp2 op) (a b : GV) (ha : vmay a = true) (hb : vmay b = true) : emay (twoE op (litE a) (litE b)) = true := by
  have h2 := takesOf_two h
  unfold isOp2 at h
  refine (two_may _ _ _).2 ⟨two_node op _ _ (.inl h2) (by omega), ?_, ?_⟩
  · rw [lit_may ha 2 1 (by omega) (by omega)]
  · rw [lit_may ha 2 1 (by omega) (by omega), lit_may hb 2 _ (by omega) (by omega)]
/-- an operation of two literals is what value tells of them -/
theorem apply_law (E : EP) {op : Int} (h : isOp2 op) (a b : GV) (ha : vmay a = true) (hb : vmay b = true) : EvalP E (twoE op (litE a) (litE b)) 9 = applyP op [a, b] := by
  have hm := two_mayL h a b ha hb
  have hc := checkC_code _ hm
  rw [evalP_may E _ hm]
  have hcode : compE (twoE op (litE a) (litE b)) 0 = [gi 0 0 ByteArray.empty a, gi 0 0 ByteArray.empty b, gi 5 op ByteArray.empty noV] := by
    rw [compE_two _ _ _ (by unfold isOp2 at h; omega), compE_lit, compE_lit]; rfl
  rw [RunP, if_pos ⟨hc, by omega, by omega⟩, hcode]
  show (((endP (runP E _ 9 3 0 [] 0)).1, (endP (runP E _ 9 3 0 [] 0)).2.2) : GV × Int) = _
  have hr := applyP_err op [a, b]
  have e2 : lastN 2 ([] ++ [a] ++ [b]) = [a, b] := rfl
  rw [runP_go (x := gi 0 0 ByteArray.empty a) rfl (by omega) (by simp [gi]) (doP_push E a []), runP_go (x := gi 0 0 ByteArray.empty b) rfl (by omega) (by simp [gi]) (doP_push E b _)]
  by_cases he : (applyP op [a, b]).2 = 0
  · rw [runP_go (x := gi 5 op ByteArray.empty noV) (st' := [(applyP op [a, b]).1]) rfl (by omega) (by simp [gi]) (by rw [doP_apply, takesN_two h, e2, if_pos he]; rfl)]
    show ((applyP op [a, b]).1, (0 : Int)) = _
    rw [← he]
  · rw [runP_stop (x := gi 5 op ByteArray.empty noV) (e := (applyP op [a, b]).2) rfl (by omega) (by simp [gi]) (by rw [doP_apply, takesN_two h, e2, if_neg he])]
    show (nullG, (applyP op [a, b]).2) = _
    rw [← hr he]
/-! ### the list of two -/
theorem list_node (l : List GE) (h : l.length ≤ 4096) : nodeOk (listE l) = true := by
  unfold nodeOk
  rw [if_neg (show ¬ (listE l).op = 1 from by show ¬ (5 : Int) = 1; omega), if_neg (show ¬ ((listE l).op = 2 ∨ (listE l).op = 3) from by show ¬ ((5 : Int) = 2 ∨ (5 : Int) = 3); omega), if_neg (show ¬ (listE l).op = 4 from by show ¬ (5 : Int) = 4; omega), if_pos (show (listE l).op = 5 from rfl)]
  show (same noV zeroV && ((ByteArray.empty.toList == []) && decide (l.length ≤ 4096))) = true
  rw [noV_same, emp_list, Bool.true_and]
  simp [h]
theorem pair_mayC (a b : GV) (ha : vmay a = true) (hb : vmay b = true) (d n : Nat) (hd : d ≤ 29) (hn : n < 4094) : mayC (listE [litE a, litE b]) d n = (true, n + 3) := by
  rw [mayC_eq, if_neg (by simp only [not_or]; exact ⟨by omega, by omega, by simp [list_node]⟩)]
  show maysC [litE a, litE b] (d + 1) (n + 1) = _
  simp only [maysC]
  rw [lit_may ha (d + 1) (n + 1) (by omega) (by omega)]
  simp only [if_true]
  rw [lit_may hb (d + 1) (n + 1 + 1) (by omega) (by omega)]
  simp only [if_true]
def sizE (x : GE) : GE := ⟨21, ByteArray.empty, noV, [x]⟩
theorem size_node (x : GE) : nodeOk (sizE x) = true := by
  unfold nodeOk
  rw [if_neg (show ¬ (sizE x).op = 1 from by show ¬ (21 : Int) = 1; omega), if_neg (show ¬ ((sizE x).op = 2 ∨ (sizE x).op = 3) from by show ¬ ((21 : Int) = 2 ∨ (21 : Int) = 3); omega), if_neg (show ¬ (sizE x).op = 4 from by show ¬ (21 : Int) = 4; omega), if_neg (show ¬ (sizE x).op = 5 from by show ¬ (21 : Int) = 5; omega)]
  rw [if_neg (show ¬ ((sizE x).op = 8 ∨ (sizE x).op = 9) from by show ¬ ((21 : Int) = 8 ∨ (21 : Int) = 9); omega)]
  show (same noV zeroV && (takesOf 21 != 0 && (ByteArray.empty.toList == []) && ((([x] : List GE).length : Int) == takesOf 21))) = true
  rw [noV_same, emp_list]; rfl
theorem list_mayL (a b : GV) (ha : vmay a = true) (hb : vmay b = true) : emay (listE [litE a, litE b]) = true := by
  unfold emay
  rw [pair_mayC a b ha hb 1 0 (by omega) (by omega)]
theorem size_mayL (a b : GV) (ha : vmay a = true) (hb : vmay b = true) : emay (sizE (listE [litE a, litE b])) = true := by
  unfold emay
  rw [mayC_eq, if_neg (by simp only [not_or]; exact ⟨by omega, by omega, by simp [size_node]⟩)]
  show (maysC [listE [litE a, litE b]] (1 + 1) (0 + 1)).1 = true
  simp only [maysC]
  rw [pair_mayC a b ha hb (1 + 1) (0 + 1) (by omega) (by omega)]
  simp only [if_true]
theorem has_mayL (a b : GV) (ha : vmay a = true) (hb : vmay b = true) : emay (twoE 22 (listE [litE a, litE b]) (litE b)) = true := by
  refine (two_may _ _ _).2 ⟨two_node 22 _ _ (.inl (takesOf_two (.inr rfl))) (by omega), ?_, ?_⟩
  · rw [pair_mayC a b ha hb 2 1 (by omega) (by omega)]
  · rw [pair_mayC a b ha hb 2 1 (by omega) (by omega), lit_may hb 2 _ (by omega) (by omega)]
def listCode (a b : GV) : List GI := [gi 0 0 ByteArray.empty a, gi 0 0 ByteArray.empty b, gi 4 (2 : Nat) ByteArray.empty noV]
theorem list_code (a b : GV) (m : Nat) : compE (listE [litE a, litE b]) m = listCode a b := by
  rw [compE_list]
  simp only [compEs, compE_lit]
  rfl
/-- a list of them is the list -/
theorem list_law (E : EP) (a b : GV) (ha : vmay a = true) (hb : vmay b = true) : EvalP E (listE [litE a, litE b]) 9 = if vmay (listG [a, b]) = true then (listG [a, b], 0) else (nullG, 2) := by
  have hm := list_mayL a b ha hb
  have hc := checkC_code _ hm
  rw [evalP_may E _ hm, RunP, if_pos ⟨hc, by omega, by omega⟩, list_code]
  show (((endP (runP E (listCode a b) 9 3 0 [] 0)).1, (endP (runP E (listCode a b) 9 3 0 [] 0)).2.2) : GV × Int) = _
  have e2 : lastN 2 ([] ++ [a] ++ [b]) = [a, b] := rfl
  rw [runP_go (x := gi 0 0 ByteArray.empty a) rfl (by omega) (by simp [gi]) (doP_push E a []), runP_go (x := gi 0 0 ByteArray.empty b) rfl (by omega) (by simp [gi]) (doP_push E b _)]
  by_cases he : vmay (listG [a, b]) = true
  · rw [runP_go (x := gi 4 (2 : Nat) ByteArray.empty noV) (st' := [listG [a, b]]) rfl (by omega) (by simp [gi]) (by rw [doP_list, e2, if_pos he]; rfl), if_pos he]
    rfl
  · rw [runP_stop (x := gi 4 (2 : Nat) ByteArray.empty noV) (e := 2) rfl (by omega) (by simp [gi]) (by rw [doP_list, e2, if_neg he]), if_neg he]
    rfl
theorem size_code (a b : GV) : compE (sizE (listE [litE a, litE b])) 0 = listCode a b ++ [gi 5 21 ByteArray.empty noV] := by
  unfold sizE
  rw [compE]
  show (if (21 : Int) = 1 then _ else if (21 : Int) = 2 then _ else if (21 : Int) = 3 then _ else if (21 : Int) = 8 ∨ (21 : Int) = 9 then _ else compEs [listE [litE a, litE b]] 0 ++ [if (21 : Int) = 4 then _ else if (21 : Int) = 5 then _ else gi 5 21 ByteArray.empty noV]) = _
  rw [if_neg (by omega), if_neg (by omega), if_neg (by omega), if_neg (by omega), if_neg (by omega), if_neg (by omega)]
  simp only [compEs, list_code, List.append_nil]
theorem bad_one {v : GV} (h : vmay v = true) : badL [v] = false := by simp [badL, h]
theorem bad_two {v u : GV} (h : vmay v = true) (h2 : vmay u = true) : badL [v, u] = false := by simp [badL, h, h2]
theorem size_law (E : EP) (a b : GV) (ha : vmay a = true) (hb : vmay b = true) : EvalP E (sizE (listE [litE a, litE b])) 9 = if vmay (listG [a, b]) = true then (numV 2, 0) else (nullG, 2) := by
  have hm := size_mayL a b ha hb
  have hc := checkC_code _ hm
  rw [evalP_may E _ hm, RunP, if_pos ⟨hc, by omega, by omega⟩, size_code]
  show (((endP (runP E (listCode a b ++ [gi 5 21 ByteArray.empty noV]) 9 4 0 [] 0)).1, (endP (runP E (listCode a b ++ [gi 5 21 ByteArray.empty noV]) 9 4 0 [] 0)).2.2) : GV × Int) = _
  have e2 : lastN 2 ([] ++ [a] ++ [b]) = [a, b] := rfl
  rw [runP_go (x := gi 0 0 ByteArray.empty a) rfl (by omega) (by simp [gi]) (doP_push E a []), runP_go (x := gi 0 0 ByteArray.empty b) rfl (by omega) (by simp [gi]) (doP_push E b _)]
  by_cases he : vmay (listG [a, b]) = true
  · rw [runP_go (x := gi 4 (2 : Nat) ByteArray.empty noV) (st' := [listG [a, b]]) rfl (by omega) (by simp [gi]) (by rw [doP_list, e2, if_pos he]; rfl), if_pos he]
    have hv : applyP 21 [listG [a, b]] = (numV 2, 0) := by
      show appP 1 sizeP [listG [a, b]] = _
      rw [appP, if_pos ⟨rfl, bad_one he⟩]
      rfl
    rw [runP_go (x := gi 5 21 ByteArray.empty noV) (st' := [numV 2]) rfl (by omega) (by simp [gi]) (by rw [doP_apply, show lastN (takesN 21) [listG [a, b]] = [listG [a, b]] from rfl, hv, if_pos rfl]; rfl)]
    rfl
  · rw [runP_stop (x := gi 4 (2 : Nat) ByteArray.empty noV) (e := 2) rfl (by omega) (by simp [gi]) (by rw [doP_list, e2, if_neg he]), if_neg he]
    rfl
theorem has_law (E : EP) (a b : GV) (ha : vmay a = true) (hb : vmay b = true) : EvalP E (twoE 22 (listE [litE a, litE b]) (litE b)) 9 = if vmay (listG [a, b]) = true then (booV true, 0) else (nullG, 2) := by
  have hm := has_mayL a b ha hb
  have hc := checkC_code _ hm
  have hcode : compE (twoE 22 (listE [litE a, litE b]) (litE b)) 0 = listCode a b ++ [gi 0 0 ByteArray.empty b, gi 5 22 ByteArray.empty noV] := by
    rw [compE_two _ _ _ (by omega), compE_lit, list_code]; rfl
  rw [evalP_may E _ hm, RunP, if_pos ⟨hc, by omega, by omega⟩, hcode]
  show (((endP (runP E (listCode a b ++ [gi 0 0 ByteArray.empty b, gi 5 22 ByteArray.empty noV]) 9 5 0 [] 0)).1, (endP (runP E (listCode a b ++ [gi 0 0 ByteArray.empty b, gi 5 22 ByteArray.empty noV]) 9 5 0 [] 0)).2.2) : GV × Int) = _
  have e2 : lastN 2 ([] ++ [a] ++ [b]) = [a, b] := rfl
  rw [runP_go (x := gi 0 0 ByteArray.empty a) rfl (by omega) (by simp [gi]) (doP_push E a []), runP_go (x := gi 0 0 ByteArray.empty b) rfl (by omega) (by simp [gi]) (doP_push E b _)]
  by_cases he : vmay (listG [a, b]) = true
  · rw [runP_go (x := gi 4 (2 : Nat) ByteArray.empty noV) (st' := [listG [a, b]]) rfl (by omega) (by simp [gi]) (by rw [doP_list, e2, if_pos he]; rfl), if_pos he]
    rw [runP_go (x := gi 0 0 ByteArray.empty b) rfl (by omega) (by simp [gi]) (doP_push E b _)]
    have hv : applyP 22 [listG [a, b], b] = (booV true, 0) := by
      show appP 2 hasP [listG [a, b], b] = _
      rw [appP, if_pos ⟨rfl, bad_two he hb⟩]
      show hasP (listG [a, b]) b = _
      rw [hasP, if_pos (show (listG [a, b]).k = 4 from rfl)]
      have : hasL (listG [a, b]).l b = true := by simp [hasL, listG, (same_iff b b).2 rfl]
      rw [this]
      rfl
    rw [runP_go (x := gi 5 22 ByteArray.empty noV) (st' := [booV true]) rfl (by omega) (by simp [gi]) (by rw [doP_apply, show lastN (takesN 22) ([listG [a, b]] ++ [b]) = [listG [a, b], b] from rfl, hv, if_pos rfl]; rfl)]
    rfl
  · rw [runP_stop (x := gi 4 (2 : Nat) ByteArray.empty noV) (e := 2) rfl (by omega) (by simp [gi]) (by rw [doP_list, e2, if_neg he]), if_neg he]
    rfl
end Go.Proofs.Ytljljhjdlicfeaa
