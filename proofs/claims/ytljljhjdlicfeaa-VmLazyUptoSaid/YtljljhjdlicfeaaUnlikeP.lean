/-
  Plain laws of CodeUnlike: what is compiled may be run; unlike expressions have unlike instructions. Conditions: none.
-/
import Derived.Test.YtljljhjdlicfeaaExactP
import Derived.Test.YtljljhjdlicfeaaNE
namespace Go.Proofs.Ytljljhjdlicfeaa
open Go Go.RowKit
set_option maxRecDepth 100000
set_option linter.unusedVariables false
mutual
/-- all parts may be -/
def okN : GE → Prop
  | ⟨op, text, v, args⟩ => nodeOk ⟨op, text, v, args⟩ = true ∧ okNs args
def okNs : List GE → Prop
  | [] => True
  | x :: r => okN x ∧ okNs r
end
theorem okN_open {x : GE} (h : okN x) : nodeOk x = true ∧ okNs x.args := by
  obtain ⟨op, text, v, args⟩ := x
  simpa only [okN] using h
mutual
theorem okN_of : ∀ (x : GE) (d n : Nat), (mayC x d n).1 = true → okN x
  | ⟨op, text, v, args⟩, d, n, h => by
    rw [mayC] at h
    split at h
    · cases h
    · rename_i hc
      exact ⟨by simp at hc; exact hc.2.2, okNs_of args _ _ h⟩
theorem okNs_of : ∀ (l : List GE) (d n : Nat), (maysC l d n).1 = true → okNs l
  | [], d, n, _ => trivial
  | x :: r, d, n, h => by
    rw [maysC] at h
    split at h
    · rename_i hc
      exact ⟨okN_of x d n hc, okNs_of r d _ h⟩
    · cases h
end
/-! ### what is compiled may be run -/
theorem noV_zero : same noV zeroV = true := by rw [same_iff]; rfl
theorem emp_toList : (ByteArray.empty.toList == []) = true := by
  have : ByteArray.empty.toList = [] := by rw [toList_nil]; rfl
  rw [this]; rfl
theorem okOf_mk (op arg : Int) (t : ByteArray) (v : GV) : okOf (gi op arg t v) = if op = 0 then vmay v && ((arg == 0) && (t.toList == []))
  else (if op = 1 ∨ op = 2 ∨ op = 3 then nameB t.data.toList && (arg == 0)
    else (t.toList == []) && (if op = 4 then decide (0 ≤ arg ∧ arg ≤ 4096) else if op = 5 then takesOf arg != 0 else if op = 6 then arg == 0 else decide (op = 7 ∨ op = 8))) && same v zeroV := rfl
theorem offOf_mk (op arg : Int) (t : ByteArray) (v : GV) : offOf (gi op arg t v) = if op = 3 ∨ op = 6 ∨ op = 7 ∨ op = 8 then 1 else if op = 4 then arg else if op = 5 then takesOf arg else 0 := rfl
theorem leftOf_mk (op arg : Int) (t : ByteArray) (v : GV) : leftOf (gi op arg t v) = if 0 ≤ op ∧ op ≤ 6 then 1 else 0 := rfl
theorem ok0 {v : GV} (h : vmay v = true) : okOf (gi 0 0 ByteArray.empty v) = true := by
  rw [okOf_mk, if_pos rfl, h, emp_toList]
  rfl
theorem okT {op : Int} {t : ByteArray} (ho : op = 1 ∨ op = 2 ∨ op = 3) (h : nameB t.data.toList = true) : okOf (gi op 0 t noV) = true := by
  rw [okOf_mk, if_neg (by omega), if_pos ho, h, noV_zero]
  rfl
theorem ok4 {n : Nat} (h : n ≤ 4096) : okOf (gi 4 n ByteArray.empty noV) = true := by
  rw [okOf_mk, if_neg (by omega), if_neg (by omega), if_pos rfl, noV_zero, emp_toList]
  simp
  omega
theorem ok5 {op : Int} (h : takesOf op ≠ 0) : okOf (gi 5 op ByteArray.empty noV) = true := by
  rw [okOf_mk, if_neg (by omega), if_neg (by omega), if_neg (by omega), if_pos rfl, noV_zero, emp_toList]
  simp [h]
theorem ok6 : okOf (gi 6 0 ByteArray.empty noV) = true := by
  rw [okOf_mk, if_neg (by omega), if_neg (by omega), if_neg (by omega), if_neg (by omega), if_pos rfl, noV_zero, emp_toList]
  rfl
theorem jop_cases (op : Int) : jop op = 7 ∨ jop op = 8 := by unfold jop; split <;> simp
theorem okJ (op k : Int) : okOf (gi (jop op) k ByteArray.empty noV) = true := by
  have h3 := jop_cases op
  rw [okOf_mk, if_neg (by omega), if_neg (by omega), if_neg (by omega), if_neg (by omega), if_neg (by omega), noV_zero, emp_toList]
  simpa using h3
theorem step_plain {n i : Nat} {x : GI} {hs : List Int} {H : Int} (hok : okOf x = true) (hop : x.op ≤ 6) (hH : hs.getD i 0 = H) (hoff : offOf x + 1 ≤ H) (hz : hs.getD (i + 1) 0 = 0 ∨ hs.getD (i + 1) 0 = H - offOf x + 1) :
    stepC n x i hs = (true, hs.set (i + 1) (H - offOf x + 1)) := by
  have hl : leftOf x = 1 := by have := okOf_op hok; unfold leftOf; rw [if_pos (by omega)]
  unfold stepC reachB
  rw [hH, hl, if_pos ⟨hok, by omega, by simp only [Bool.or_eq_true, beq_iff_eq]; omega⟩, if_neg (by omega)]
theorem step_jump {n i k : Nat} {op : Int} {hs : List Int} {H : Int} (hH : hs.getD i 0 = H) (h2 : 2 ≤ H) (hi : i + 1 < hs.length) (h1 : i < k) (hk : k ≤ n) (hne : k ≠ i + 1) (hz : hs.getD (i + 1) 0 = 0) (hz2 : hs.getD k 0 = 0) :
    stepC n (gi (jop op) k ByteArray.empty noV) i hs = (true, (hs.set (i + 1) (H - 1)).set k H) := by
  have h3 := jop_cases op
  have ho : offOf (gi (jop op) k ByteArray.empty noV) = 1 := by rw [offOf_mk, if_pos (by omega)]
  have hl : leftOf (gi (jop op) k ByteArray.empty noV) = 0 := by rw [leftOf_mk, if_neg (by omega)]
  unfold stepC reachB
  rw [ho, hl, hH, hz, if_pos ⟨okJ _ _, by omega, rfl⟩]
  show (if jop op = 7 ∨ jop op = 8 then (if (k : Int) ≤ i ∨ (n : Int) < k then (false, hs) else ((((hs.set (i + 1) (H - 1 + 0)).getD (k : Int).toNat 0 == 0) || ((hs.set (i + 1) (H - 1 + 0)).getD (k : Int).toNat 0 == H - 1 + 1)), (hs.set (i + 1) (H - 1 + 0)).set (k : Int).toNat H)) else _) = _
  rw [if_pos h3]
  rw [if_neg (by omega)]
  simp only [Int.toNat_natCast]
  rw [getD_set _ _ _ _ hi, if_neg (by omega), hz2]
  simp
def Runs (n : Nat) (c : List GI) (m : Nat) (up : Nat) : Prop := ∀ (hs : List Int) (H : Int) (r : List GI), hs.length = n + 1 → m + c.length ≤ n → hs.getD m 0 = H → 1 ≤ H → (∀ j, m < j → j ≤ m + c.length → hs.getD j 0 = 0) →
  ∃ hs' : List Int, hs'.length = n + 1 ∧ hs'.getD (m + c.length) 0 = H + up ∧ (∀ j, m + c.length < j → hs'.getD j 0 = hs.getD j 0) ∧ checkFrom n (c ++ r) m hs = checkFrom n r (m + c.length) hs'
theorem runs_one {n m : Nat} {x : GI} (hok : okOf x = true) (hop : x.op ≤ 2) : Runs n [x] m 1 := by
  intro hs H r hl hm hH h1 hz
  simp only [List.length_singleton] at hm hz ⊢
  have ho : offOf x = 0 := by have := okOf_op hok; unfold offOf; rw [if_neg (by omega), if_neg (by omega), if_neg (by omega)]
  have hst := step_plain (n := n) hok (by omega) hH (by omega) (.inl (hz (m + 1) (by omega) (by omega)))
  refine ⟨hs.set (m + 1) (H + 1), by simpa using hl, ?_, fun j hj => ?_, ?_⟩
  · rw [getD_set _ _ _ _ (by omega), if_pos rfl]; rfl
  · rw [getD_set _ _ _ _ (by omega), if_neg (by omega)]
  · rw [List.singleton_append, checkFrom, hst, ho]
    simp
/-- one instruction behind a run -/
theorem runs_snoc {n m up : Nat} {c : List GI} {x : GI} (h : Runs n c m up) (hok : okOf x = true) (hop : x.op ≤ 6) (hoff : offOf x = up) : Runs n (c ++ [x]) m 1 := by
  intro hs H r hl hm hH h1 hz
  simp only [List.length_append, List.length_singleton] at hm hz ⊢
  obtain ⟨hs', hl', hH', hk, hc⟩ := h hs H (x :: r) hl (by omega) hH h1 (fun j a b => hz j a (by omega))
  have hst := step_plain (n := n) hok hop hH' (by omega) (.inl (by rw [hk _ (by omega)]; exact hz _ (by omega) (by omega)))
  refine ⟨hs'.set (m + c.length + 1) (H + up - offOf x + 1), by simpa using hl', ?_, fun j hj => ?_, ?_⟩
  · rw [← Nat.add_assoc, getD_set _ _ _ _ (by omega), if_pos rfl]; rw [hoff]; omega
  · rw [getD_set _ _ _ _ (by omega), if_neg (by omega), hk _ (by omega)]
  · rw [List.append_assoc, List.singleton_append, hc, checkFrom, hst]
    simp [Nat.add_assoc]
theorem runs_append {n m u1 u2 : Nat} {c1 c2 : List GI} (h1 : Runs n c1 m u1) (h2 : Runs n c2 (m + c1.length) u2) : Runs n (c1 ++ c2) m (u1 + u2) := by
  intro hs H r hl hm hH h0 hz
  simp only [List.length_append] at hm hz ⊢
  obtain ⟨hs', hl', hH', hk, hc⟩ := h1 hs H (c2 ++ r) hl (by omega) hH h0 (fun j a b => hz j a (by omega))
  obtain ⟨hs2, hl2, hH2, hk2, hc2⟩ := h2 hs' _ r hl' (by omega) hH' (by omega) (fun j a b => by rw [hk _ a]; exact hz j (by omega) (by omega))
  refine ⟨hs2, hl2, ?_, fun j hj => ?_, ?_⟩
  · rw [← Nat.add_assoc, hH2]; omega
  · rw [hk2 _ (by omega), hk _ (by omega)]
  · rw [List.append_assoc, hc, hc2, Nat.add_assoc]
theorem runs_two {n m : Nat} {cy cz : List GI} {op : Int} (h1 : Runs n cy m 1) (h2 : Runs n cz (m + cy.length + 1 + 1) 1) :
    Runs n ((cy ++ [gi 6 0 ByteArray.empty noV]) ++ (gi (jop op) (m + cy.length + 1 + 1 + cz.length + 1 : Nat) ByteArray.empty noV :: (cz ++ [gi 6 0 ByteArray.empty noV]))) m 1 := by
  have hoff6 : offOf (gi 6 0 ByteArray.empty noV) = 1 := rfl
  have hA := runs_snoc h1 ok6 (by simp [gi]) hoff6
  intro hs H r hl hm hH h0 hz
  simp only [List.length_append, List.length_cons, List.length_nil] at hm hz ⊢
  obtain ⟨hs1, hl1, hH1, hk1, hc1⟩ := hA hs H ((gi (jop op) (m + cy.length + 1 + 1 + cz.length + 1 : Nat) ByteArray.empty noV :: (cz ++ [gi 6 0 ByteArray.empty noV])) ++ r) hl (by simp; omega) hH h0 (fun j a b => hz j a (by simp at b; omega))
  simp only [List.length_append, List.length_cons, List.length_nil] at hH1 hk1 hc1
  have e1 : m + (cy.length + (0 + 1)) = m + cy.length + 1 := by omega
  rw [e1] at hH1 hc1
  have hst := step_jump (n := n) (i := m + cy.length + 1) (k := m + cy.length + 1 + 1 + cz.length + 1) (op := op) hH1 (by omega) (by omega) (by omega) (by omega) (by omega) (by rw [hk1 _ (by omega)]; exact hz _ (by omega) (by omega)) (by rw [hk1 _ (by omega)]; exact hz _ (by omega) (by omega))
  obtain ⟨hs2, hl2, hH2, hk2, hc2⟩ := h2 ((hs1.set (m + cy.length + 1 + 1) (H + 1 - 1)).set (m + cy.length + 1 + 1 + cz.length + 1) (H + 1)) H (gi 6 0 ByteArray.empty noV :: r) (by simpa using hl1) (by omega)
    (by rw [getD_set _ _ _ _ (by simp; omega), if_neg (by omega), getD_set _ _ _ _ (by omega), if_pos rfl]; omega) h0
    (fun j a b => by rw [getD_set _ _ _ _ (by simp; omega), if_neg (by omega), getD_set _ _ _ _ (by omega), if_neg (by omega), hk1 _ (by omega)]; exact hz _ (by omega) (by omega))
  have hst2 := step_plain (n := n) ok6 (by simp [gi]) hH2 (by rw [hoff6]; omega) (.inr (by rw [hk2 _ (by omega), getD_set _ _ _ _ (by simp; omega), if_pos rfl, hoff6]; omega))
  refine ⟨hs2.set (m + cy.length + 1 + 1 + cz.length + 1) (H + (1 : Nat) - offOf (gi 6 0 ByteArray.empty noV) + 1), by simpa using hl2, ?_, fun j hj => ?_, ?_⟩
  · rw [getD_set _ _ _ _ (by omega), if_pos (by omega), hoff6]; omega
  · rw [getD_set _ _ _ _ (by omega), if_neg (by omega), hk2 _ (by omega), getD_set _ _ _ _ (by simp; omega), if_neg (by omega), getD_set _ _ _ _ (by omega), if_neg (by omega), hk1 _ (by omega)]
  · rw [List.append_assoc, hc1, List.cons_append, checkFrom, hst]
    simp only [Bool.true_and]
    rw [List.append_assoc, List.singleton_append]
    have e2 : (H + ((1 : Nat) : Int)) = H + 1 := rfl
    rw [e2] at *
    rw [hc2, checkFrom, hst2]
    simp only [Bool.true_and]
    congr 1
    omega
mutual
theorem runs_E (n : Nat) : ∀ (x : GE) (m : Nat), okN x → Runs n (compE x m) m 1
  | ⟨op, text, v, args⟩, m, h => by
    obtain ⟨hn, ha⟩ := okN_open h
    rw [compE_eq]
    dsimp only at ha ⊢
    unfold nodeOk at hn
    dsimp only at hn
    split
    · rename_i h1
      rw [if_pos h1] at hn
      simp at hn
      exact runs_one (ok0 hn.1.1) (by simp [gi])
    rename_i h1
    rw [if_neg h1] at hn
    simp only [Bool.and_eq_true] at hn
    split
    · rename_i h2
      have hn2 := hn.2
      rw [if_pos (.inl h2)] at hn2
      simp at hn2
      exact runs_one (okT (.inl rfl) hn2.1) (by simp [gi])
    rename_i h2
    split
    · rename_i h3
      have hn2 := hn.2
      rw [if_pos (.inr h3)] at hn2
      simp at hn2
      exact runs_one (okT (.inr (.inl rfl)) hn2.1) (by simp [gi])
    rename_i h3
    have hn2 := hn.2
    rw [if_neg (by omega)] at hn2
    split
    · rename_i h8
      rw [if_neg (by omega), if_neg (by omega), if_pos h8] at hn2
      simp at hn2
      match args, ha, hn2.2 with
      | [y, z], ha, _ =>
        rw [compTwo_eq]
        exact runs_two (runs_E n y _ ha.1) (runs_E n z _ ha.2.1)
    rename_i h8
    split
    · rename_i h4
      rw [if_pos h4] at hn2
      simp at hn2
      have := runs_Es n args m ha
      rw [hn2.2] at this
      exact runs_snoc this (okT (.inr (.inr rfl)) hn2.1) (by simp [gi]) rfl
    rename_i h4
    rw [if_neg h4] at hn2
    split
    · rename_i h5
      rw [if_pos h5] at hn2
      simp at hn2
      exact runs_snoc (runs_Es n args m ha) (ok4 hn2.2) (by simp [gi]) rfl
    rename_i h5
    rw [if_neg h5, if_neg h8] at hn2
    simp at hn2
    exact runs_snoc (runs_Es n args m ha) (ok5 hn2.1.1) (by simp [gi]) (by rw [offOf_mk, if_neg (by omega), if_neg (by omega), if_pos rfl]; exact hn2.2.symm)
theorem runs_Es (n : Nat) : ∀ (l : List GE) (m : Nat), okNs l → Runs n (compEs l m) m l.length
  | [], m, _ => fun hs H r hl hm hH h0 hz => ⟨hs, hl, by simpa [compEs] using hH, fun _ _ => rfl, by simp [compEs]⟩
  | x :: r, m, h => by
    have h1 := runs_append (runs_E n x m h.1) (runs_Es n r _ h.2)
    rw [Nat.add_comm 1] at h1
    exact h1
end
theorem checkC_code (x : GE) (h : emay x = true) : checkC (compE x 0) = true := by
  have hr := runs_E (compE x 0).length x 0 (okN_of x 1 0 h)
  obtain ⟨hs', h1, h2, _, h4⟩ := hr (1 :: List.replicate (compE x 0).length 0) 1 [] (by simp) (by omega) rfl (by omega) (fun j a b => by
    obtain ⟨j, rfl⟩ : ∃ i, j = i + 1 := ⟨j - 1, by omega⟩
    rw [List.getD_eq_getElem?_getD, List.getElem?_cons_succ, List.getElem?_replicate]
    split <;> rfl)
  unfold checkC
  rw [List.append_nil] at h4
  rw [h4, checkFrom]
  rw [Nat.zero_add] at h2
  rw [h2]
  rfl
/-! ### unlike expressions have unlike instructions -/
theorem bytes_nil {a : ByteArray} (h : a.toList = []) : a = ByteArray.empty := bytes_ext (by rw [h]; symm; rw [toList_nil]; rfl)
/-- what an expression that may be is, and its instructions -/
def Leaf (x : GE) : Prop := ∃ t, (∀ m, compE x m = [t]) ∧ ((t = gi 0 0 ByteArray.empty x.v ∧ x = ⟨1, ByteArray.empty, x.v, []⟩) ∨ (t = gi 1 0 x.text noV ∧ x = ⟨2, x.text, zeroV, []⟩) ∨ (t = gi 2 0 x.text noV ∧ x = ⟨3, x.text, zeroV, []⟩))
def Node (x : GE) : Prop := ∃ t, (∀ m, compE x m = compEs x.args m ++ [t]) ∧ ((t = gi 3 0 x.text noV ∧ x = ⟨4, x.text, zeroV, x.args⟩ ∧ x.args.length = 1) ∨ (t = gi 4 x.args.length ByteArray.empty noV ∧ x = ⟨5, ByteArray.empty, zeroV, x.args⟩) ∨
  (t = gi 5 x.op ByteArray.empty noV ∧ x = ⟨x.op, ByteArray.empty, zeroV, x.args⟩ ∧ (x.args.length : Int) = takesOf x.op))
def Pair (x : GE) : Prop := ∃ a b, (x.op = 8 ∨ x.op = 9) ∧ x = ⟨x.op, ByteArray.empty, zeroV, [a, b]⟩
theorem cls (x : GE) (h : nodeOk x = true) : Leaf x ∨ Node x ∨ Pair x := by
  obtain ⟨op, text, v, args⟩ := x
  unfold nodeOk at h
  dsimp only at h
  by_cases h1 : op = 1
  · rw [if_pos h1] at h
    simp at h
    subst h1
    refine .inl ⟨_, fun m => by rw [compE_eq, if_pos rfl], .inl ⟨rfl, ?_⟩⟩
    rw [bytes_nil h.1.2, h.2]
  rw [if_neg h1] at h
  simp only [Bool.and_eq_true, same_iff] at h
  obtain ⟨rfl, h⟩ := h
  by_cases h2 : op = 2
  · rw [if_pos (.inl h2)] at h
    simp at h
    subst h2
    refine .inl ⟨_, fun m => by rw [compE_eq, if_neg h1, if_pos rfl], .inr (.inl ⟨rfl, ?_⟩)⟩
    rw [h.2]
  by_cases h3 : op = 3
  · rw [if_pos (.inr h3)] at h
    simp at h
    subst h3
    refine .inl ⟨_, fun m => by rw [compE_eq, if_neg h1, if_neg h2, if_pos rfl], .inr (.inr ⟨rfl, ?_⟩)⟩
    rw [h.2]
  rw [if_neg (by omega)] at h
  by_cases h8 : op = 8 ∨ op = 9
  · rw [if_neg (by omega), if_neg (by omega), if_pos h8] at h
    simp at h
    match args, h.2 with
    | [a, b], _ => exact .inr (.inr ⟨a, b, h8, by rw [bytes_nil h.1]⟩)
  by_cases h4 : op = 4
  · rw [if_pos h4] at h
    simp at h
    subst h4
    exact .inr (.inl ⟨_, fun m => by rw [compE_eq, if_neg h1, if_neg h2, if_neg h3, if_neg h8, if_pos rfl], .inl ⟨rfl, rfl, h.2⟩⟩)
  rw [if_neg h4] at h
  by_cases h5 : op = 5
  · rw [if_pos h5] at h
    simp at h
    subst h5
    exact .inr (.inl ⟨_, fun m => by rw [compE_eq, if_neg h1, if_neg h2, if_neg h3, if_neg h8, if_neg h4, if_pos rfl], .inr (.inl ⟨rfl, by rw [bytes_nil h.1]⟩)⟩)
  rw [if_neg h5, if_neg h8] at h
  simp at h
  exact .inr (.inl ⟨_, fun m => by rw [compE_eq, if_neg h1, if_neg h2, if_neg h3, if_neg h8, if_neg h4, if_neg h5], .inr (.inr ⟨rfl, by rw [bytes_nil h.1.2], h.2⟩)⟩)
def InjE (x : GE) : Prop := ∀ y, okN y → ∀ P Q : List GI, P ++ compE x P.length = Q ++ compE y Q.length → P = Q ∧ x = y
theorem inj_Es : ∀ (n : Nat) (l m : List GE), l.length = n → m.length = n → (∀ x ∈ l, InjE x) → okNs m → ∀ P Q : List GI, P ++ compEs l P.length = Q ++ compEs m Q.length → P = Q ∧ l = m
  | 0, [], [], _, _, _, _, P, Q, h => by simpa [compEs] using h
  | n + 1, l, m, hl, hm, hi, ho, P, Q, h => by
    rcases List.eq_nil_or_concat l with rfl | ⟨l0, x, rfl⟩
    · simp at hl
    rcases List.eq_nil_or_concat m with rfl | ⟨m0, y, rfl⟩
    · simp at hm
    simp only [List.concat_eq_append, List.length_append, List.length_singleton] at hl hm hi ho h ⊢
    rw [compEs_append, compEs_append, ← List.append_assoc, ← List.append_assoc] at h
    simp only [compEs, List.append_nil] at h
    rw [← List.length_append, ← List.length_append] at h
    have hy : okN y ∧ okNs m0 := by
      clear h hm
      induction m0 with
      | nil => exact ⟨ho.1, trivial⟩
      | cons z r ih => exact ⟨(ih ho.2).1, ho.1, (ih ho.2).2⟩
    obtain ⟨h1, rfl⟩ := hi x (by simp) y hy.1 _ _ h
    obtain ⟨h2, rfl⟩ := inj_Es n l0 m0 (by omega) (by omega) (fun z hz => hi z (by simp [hz])) hy.2 P Q h1
    exact ⟨h2, rfl⟩
theorem snoc_inj {P F Q G : List GI} {t u : GI} (h : P ++ (F ++ [t]) = Q ++ (G ++ [u])) : P ++ F = Q ++ G ∧ t = u := by
  rw [← List.append_assoc, ← List.append_assoc] at h
  have := List.append_inj' h rfl
  exact ⟨this.1, by simpa using this.2⟩
theorem inj_all : ∀ (k : Nat) (x : GE), x.size ≤ k → okN x → InjE x := by
  intro k
  induction k with
  | zero => exact fun x h => by have := size_args x; omega
  | succ k ih =>
    intro x hk ox y oy P Q h
    have hs := size_args x
    have hmem : ∀ (l : List GE), okNs l → ∀ z ∈ l, okN z := by
      intro l
      induction l with
      | nil => intro _ z hz; simp at hz
      | cons w r ih2 =>
        intro ho z hz
        rcases List.mem_cons.1 hz with rfl | hz
        · exact ho.1
        · exact ih2 ho.2 z hz
    have hA : ∀ z ∈ x.args, InjE z := fun z hz => ih z (by have := sizeE_mem hz; omega) (hmem _ (okN_open ox).2 z hz)
    have hB := (okN_open oy).2
    have hpair : ∀ (z a b : GE), (z.op = 8 ∨ z.op = 9) → z = ⟨z.op, ByteArray.empty, zeroV, [a, b]⟩ → ∀ m, compE z m = ((compE a m ++ [gi 6 0 ByteArray.empty noV]) ++ (gi (jop z.op) (m + (compE a m).length + 1 + 1 + (compE b (m + (compE a m).length + 1 + 1)).length + 1 : Nat) ByteArray.empty noV :: compE b (m + (compE a m).length + 1 + 1))) ++ [gi 6 0 ByteArray.empty noV] := by
      intro z a b h8 hz m
      have e : z.args = [a, b] := by rw [hz]
      rw [compE_eq, if_neg (by omega), if_neg (by omega), if_neg (by omega), if_pos h8, e, compTwo_eq]
      simp only [List.append_assoc, List.cons_append]
    rcases cls x (okN_open ox).1 with ⟨t, ht, hx⟩ | ⟨t, ht, hx⟩ | ⟨a, b, hx8, hx⟩ <;> rcases cls y (okN_open oy).1 with ⟨u, hu, hy⟩ | ⟨u, hu, hy⟩ | ⟨c, d, hy8, hy⟩
    · rw [ht, hu] at h
      obtain ⟨h1, h2⟩ := snoc_inj (F := []) (G := []) h
      rw [List.append_nil, List.append_nil] at h1
      refine ⟨h1, ?_⟩
      rcases hx with ⟨rfl, hx⟩ | ⟨rfl, hx⟩ | ⟨rfl, hx⟩ <;> rcases hy with ⟨rfl, hy⟩ | ⟨rfl, hy⟩ | ⟨rfl, hy⟩ <;> simp only [gi, GI.mk.injEq] at h2 <;> first | omega | (rw [hx, hy]; simp [h2])
    · rw [ht, hu] at h
      obtain ⟨h1, h2⟩ := snoc_inj (F := []) h
      rcases hx with ⟨rfl, hx⟩ | ⟨rfl, hx⟩ | ⟨rfl, hx⟩ <;> rcases hy with ⟨rfl, hy⟩ | ⟨rfl, hy⟩ | ⟨rfl, hy⟩ <;> simp only [gi, GI.mk.injEq] at h2 <;> omega
    · rw [ht, hpair y c d hy8 hy] at h
      obtain ⟨h1, h2⟩ := snoc_inj (F := []) h
      rcases hx with ⟨rfl, hx⟩ | ⟨rfl, hx⟩ | ⟨rfl, hx⟩ <;> simp only [gi, GI.mk.injEq] at h2 <;> omega
    · rw [ht, hu] at h
      obtain ⟨h1, h2⟩ := snoc_inj (G := []) h
      rcases hx with ⟨rfl, hx⟩ | ⟨rfl, hx⟩ | ⟨rfl, hx⟩ <;> rcases hy with ⟨rfl, hy⟩ | ⟨rfl, hy⟩ | ⟨rfl, hy⟩ <;> simp only [gi, GI.mk.injEq] at h2 <;> omega
    · rw [ht, hu] at h
      obtain ⟨h1, h2⟩ := snoc_inj h
      have key : x.args.length = y.args.length → x.op = y.op → x.text = y.text → x.v = y.v → P = Q ∧ x = y := fun e1 e2 e3 e4 => by
        obtain ⟨g1, g2⟩ := inj_Es _ x.args y.args rfl e1.symm hA hB P Q h1
        refine ⟨g1, ?_⟩
        cases x; cases y
        simp only at e2 e3 e4 g2
        simp [e2, e3, e4, g2]
      rcases hx with ⟨rfl, hx, h3⟩ | ⟨rfl, hx⟩ | ⟨rfl, hx, h3⟩ <;> rcases hy with ⟨rfl, hy, h4⟩ | ⟨rfl, hy⟩ | ⟨rfl, hy, h4⟩ <;> simp only [gi, GI.mk.injEq] at h2 <;> first
        | omega
        | (have e1 := congrArg GE.op hx; have e2 := congrArg GE.op hy; have e3 := congrArg GE.text hx; have e4 := congrArg GE.text hy; have e5 := congrArg GE.v hx; have e6 := congrArg GE.v hy
           dsimp only at e1 e2 e3 e4 e5 e6
           refine key ?_ ?_ ?_ (e5.trans e6.symm)
           · first | omega | (have h5 := h2.2.1; rw [h5] at h3; omega)
           · first | exact h2.2.1 | exact e1.trans e2.symm
           · first | exact h2.2.2.1 | exact e3.trans e4.symm)
    · rw [ht, hpair y c d hy8 hy] at h
      obtain ⟨h1, h2⟩ := snoc_inj h
      rcases hx with ⟨rfl, hx, h3⟩ | ⟨rfl, hx⟩ | ⟨rfl, hx, h3⟩ <;> simp only [gi, GI.mk.injEq] at h2 <;> omega
    · rw [hu, hpair x a b hx8 hx] at h
      obtain ⟨h1, h2⟩ := snoc_inj (G := []) h
      rcases hy with ⟨rfl, hy⟩ | ⟨rfl, hy⟩ | ⟨rfl, hy⟩ <;> simp only [gi, GI.mk.injEq] at h2 <;> omega
    · rw [hu, hpair x a b hx8 hx] at h
      obtain ⟨h1, h2⟩ := snoc_inj h
      rcases hy with ⟨rfl, hy, h4⟩ | ⟨rfl, hy⟩ | ⟨rfl, hy, h4⟩ <;> simp only [gi, GI.mk.injEq] at h2 <;> omega
    · rw [hpair x a b hx8 hx, hpair y c d hy8 hy] at h
      obtain ⟨h1, _⟩ := snoc_inj h
      have ea : x.args = [a, b] := by rw [hx]
      have ec : y.args = [c, d] := by rw [hy]
      rw [ec] at hB
      have hsp : ∀ (P A B : List GI) (J : GI) (g : GI), P ++ ((A ++ [g]) ++ (J :: B)) = ((P ++ (A ++ [g])) ++ [J]) ++ B := by
        intro P A B J g
        simp only [List.append_assoc, List.cons_append, List.nil_append]
      rw [hsp, hsp] at h1
      have hlen : ∀ (P A : List GI) (J g : GI), ((P ++ (A ++ [g])) ++ [J]).length = P.length + A.length + 1 + 1 := by
        intro P A J g
        simp only [List.length_append, List.length_singleton]
        omega
      generalize hJ : gi (jop x.op) _ _ _ = J at h1
      generalize hK : gi (jop y.op) _ _ _ = K at h1
      rw [← hlen P (compE a P.length) J (gi 6 0 ByteArray.empty noV), ← hlen Q (compE c Q.length) K (gi 6 0 ByteArray.empty noV)] at h1
      obtain ⟨h4, rfl⟩ := hA b (by rw [ea]; simp) d hB.2.1 _ _ h1
      have h5 := List.append_inj' h4 rfl
      obtain ⟨h6, _⟩ := snoc_inj h5.1
      obtain ⟨h7, rfl⟩ := hA a (by rw [ea]; simp) c hB.1 P Q h6
      refine ⟨h7, ?_⟩
      have h8 : jop x.op = jop y.op := by
        have e5 : J = K := by simpa using h5.2
        rw [← hJ, ← hK] at e5
        exact congrArg GI.op e5
      have h9 : x.op = y.op := by
        unfold jop at h8
        rcases hx8 with e1 | e1 <;> rcases hy8 with e2 | e2 <;> simp [e1, e2] at h8 ⊢
      rw [hx, hy, h9]
theorem unlike_law (x y : GE) (hx : emay x = true) (hy : emay y = true) : sameIs (compE x 0) (compE y 0) = sameE x y := by
  rw [Bool.eq_iff_iff, sameIs_iff, sameE_iff]
  constructor
  · intro h
    exact (inj_all _ x (Nat.le_refl _) (okN_of x 1 0 hx) y (okN_of y 1 0 hy) [] [] (by simpa using h)).2
  · intro h
    rw [h]
end Go.Proofs.Ytljljhjdlicfeaa
