/-
  A stack of values: its top, its last ones, the others. Conditions: none.
-/
import Derived.Test.YtljljhjdlicfeaaGreatMD
import Derived.Test.YtljljhjdlicfeaaGreatMW
import Derived.Test.YtljljhjdlicfeaaGreatNE
import Derived.Test.YtljljhjdlicfeaaGreatPAC
namespace Go.Proofs.YtljljhjdlicfeaaGreat
open Go Go.RowKit
set_option linter.unusedVariables false
def nullG : GV := ⟨0, false, 0, ⟨#[]⟩, []⟩
def topG (st : List GV) : GV := st.getD (st.length - 1) nullG
def lastN (n : Nat) (st : List GV) : List GV := st.drop (st.length - n)
def lessN (n : Nat) (st : List GV) : List GV := st.take (st.length - n)
def listG (l : List GV) : GV := ⟨4, false, 0, ⟨#[]⟩, l⟩
theorem fitL_subs : ∀ {l m : List GV}, fitL l → (∀ x ∈ m, x ∈ l) → fitL m
  | l, [], _, _ => trivial
  | l, x :: r, h, hs => ⟨fitL_mem h x (hs x (List.mem_cons_self ..)), fitL_subs h (fun y hy => hs y (List.mem_cons_of_mem _ hy))⟩
theorem lastN_len {n : Nat} {st : List GV} (h : n ≤ st.length) : (lastN n st).length = n := by unfold lastN; simp; omega
theorem lessN_len {n : Nat} {st : List GV} (h : n ≤ st.length) : (lessN n st).length = st.length - n := by unfold lessN; simp
theorem lastN_fit {n : Nat} {st : List GV} (h : fitL st) : fitL (lastN n st) := fitL_subs h (fun x hx => List.mem_of_mem_drop hx)
theorem lessN_fit {n : Nat} {st : List GV} (h : fitL st) : fitL (lessN n st) := fitL_subs h (fun x hx => List.mem_of_mem_take hx)
theorem fitL_snoc : ∀ {l : List GV} {x : GV}, fitL l → x.fit → fitL (l ++ [x])
  | [], x, _, hx => ⟨hx, trivial⟩
  | y :: r, x, h, hx => ⟨h.1, fitL_snoc h.2 hx⟩
theorem topG_eq {st : List GV} (h : 0 < st.length) : topG st = st[st.length - 1]'(by omega) := by
  unfold topG
  rw [List.getD_eq_getElem?_getD, List.getElem?_eq_getElem (by omega)]
  rfl
theorem last1 {st : List GV} (h : 0 < st.length) : lastN 1 st = [topG st] := by
  unfold lastN
  rw [topG_eq h, List.drop_eq_getElem_cons (by omega), List.drop_of_length_le (by omega)]
theorem listG_fit {l : List GV} (h : fitL l) (hl : l.length ≤ 2147483647) : (listG l).fit := by
  simp only [listG, GV.fit]
  exact ⟨by omega, by omega, by omega, by omega, by decide, hl, h⟩
theorem set5B {B b : Nat} {w w' : World} (h : Below B w w') (hb : B ≤ b) (a0 a1 a2 a3 a4 : Value) : Below B w (((((w'.setCell ⟨b, 0, none⟩ a0).setCell ⟨b, 1, none⟩ a1).setCell ⟨b, 2, none⟩ a2).setCell ⟨b, 3, none⟩ a3).setCell ⟨b, 4, none⟩ a4) :=
  ((((h.setCell hb _).setCell hb _).setCell hb _).setCell hb _).setCell hb _
def TellR (x : GV) (b : Value) (w : World) (e : Ending) (w' : World) : Prop := ∃ a c, e = .returned (.tuple #[x.agg (.slice a x.l.length c), b]) ∧ isR w' (since w.heap.size w') (.slice a x.l.length c) x.l ∧ Below w.heap.size w w'
end Go.Proofs.YtljljhjdlicfeaaGreat
namespace Go.Proofs.YtljljhjdlicfeaaGreat
open Go Go.RowKit
set_option linter.unusedVariables false
structure EP where
  var : ByteArray → GV × Bool
  field : ByteArray → GV × Bool
  get : Int → ByteArray → GV × Int
def EP.fit (E : EP) : Prop := (∀ s, (E.var s).1.fit) ∧ (∀ s, (E.field s).1.fit) ∧ ∀ n s, (E.get n s).1.fit
inductive VO where
  | go (st : List GV)
  | stop (e : Int)
def toldP (v : GV) (st : List GV) : VO := if vmay v = true then .go (st ++ [v]) else .stop 1
def takesN (op : Int) : Nat := if op = 6 ∨ op = 7 ∨ op = 21 then 1 else 2
def doP (E : EP) (x : GI) (st : List GV) : VO :=
  if x.op = 0 then .go (st ++ [x.v])
  else if x.op = 1 then (if (E.var x.s).2 = true then toldP (E.var x.s).1 st else .stop 5)
  else if x.op = 2 then (if (E.field x.s).2 = true then toldP (E.field x.s).1 st else .stop 11)
  else if x.op = 3 then (if (topG st).k = 5 then (if (E.get (topG st).n x.s).2 = 0 then toldP (E.get (topG st).n x.s).1 (lessN 1 st) else .stop (E.get (topG st).n x.s).2) else .stop 4)
  else if x.op = 4 then (if vmay (listG (lastN x.arg.toNat st)) = true then .go (lessN x.arg.toNat st ++ [listG (lastN x.arg.toNat st)]) else .stop 2)
  else if x.op = 5 then (if (applyP x.arg (lastN (takesN x.arg) st)).2 = 0 then .go (lessN (takesN x.arg) st ++ [(applyP x.arg (lastN (takesN x.arg) st)).1]) else .stop (applyP x.arg (lastN (takesN x.arg) st)).2)
  else if x.op = 6 then (if (topG st).k = 1 then .go st else .stop 4)
  else .go st
def runP (E : EP) (l : List GI) (fuel : Int) : Nat → Nat → List GV → Nat → VO × Nat
  | 0, _, st, n => (.go st, n)
  | g + 1, k, st, n => match l[k]? with
    | none => (.go st, n)
    | some x => if (n : Int) < fuel then
        (if x.op = 7 ∨ x.op = 8 then
          (if (topG st).b = decide (x.op = 8) then runP E l fuel g x.arg.toNat st (n + 1) else runP E l fuel g (k + 1) (lessN 1 st) (n + 1))
         else match doP E x st with
          | .go st' => runP E l fuel g (k + 1) st' (n + 1)
          | .stop e => (.stop e, n + 1))
      else (.stop 6, n)
def endP (r : VO × Nat) : GV × Nat × Int := match r.1 with
  | .go st => (st.getD 0 nullG, r.2, 0)
  | .stop e => (nullG, r.2, e)
def RunP (E : EP) (l : List GI) (fuel : Int) : GV × Nat × Int :=
  if checkC l = true ∧ 1 ≤ fuel ∧ fuel ≤ 1048576 then endP (runP E l fuel l.length 0 [] 0) else (nullG, 0, 1)
def EvalP (E : EP) (x : GE) (fuel : Int) : GV × Int :=
  if emay x = true then ((RunP E (codeOf x) fuel).1, (RunP E (codeOf x) fuel).2.2) else (nullG, 1)
theorem getD_set2 (hs : List Int) (i j : Nat) (x : Int) : (hs.set i x).getD j 0 = if i = j ∧ i < hs.length then x else hs.getD j 0 := by
  rw [List.getD_eq_getElem?_getD, List.getD_eq_getElem?_getD, List.getElem?_set]
  by_cases h : i = j
  · subst h
    by_cases h2 : i < hs.length
    · simp [h2]
    · simp [h2]
  · simp [h]
theorem stepC_facts {n : Nat} {x : GI} {i : Nat} {hs : List Int} (hl : hs.length = n + 1) (hi : i < n) (h : (stepC n x i hs).1 = true) :
    okOf x = true ∧ offOf x ≤ hs.getD i 0 - 1 ∧
    (stepC n x i hs).2.getD (i + 1) 0 = hs.getD i 0 - offOf x + leftOf x ∧
    ((x.op = 7 ∨ x.op = 8) → (i : Int) < x.arg ∧ x.arg ≤ n ∧ (stepC n x i hs).2.getD x.arg.toNat 0 = hs.getD i 0) ∧
    ∀ j, 1 ≤ hs.getD j 0 → (stepC n x i hs).2.getD j 0 = hs.getD j 0 := by
  unfold stepC at h ⊢
  split at h
  case isFalse => cases h
  rename_i hc
  obtain ⟨h1, h2, h3⟩ := hc
  rw [if_pos ⟨h1, h2, h3⟩]
  have hoff := okOf_off h1
  have hle := leftOf_le x
  unfold reachB at h3
  simp only [Bool.or_eq_true, beq_iff_eq] at h3
  split at h
  · rename_i hj
    rw [if_pos hj]
    split at h
    · cases h
    rename_i ha
    rw [if_neg ha]
    unfold reachB at h
    simp only [Bool.or_eq_true, beq_iff_eq] at h
    have hL0 : leftOf x = 0 := by unfold leftOf; rw [if_neg (by omega)]
    have hO1 : offOf x = 1 := by unfold offOf; rw [if_pos (by omega)]
    have e1 : (hs.set (i + 1) (hs.getD i 0 - offOf x + leftOf x)).length = n + 1 := by simp [hl]
    dsimp only
    refine ⟨h1, h2, ?_, fun _ => ⟨by omega, by omega, ?_⟩, fun j hj0 => ?_⟩
    · rw [getD_set2, getD_set2, e1, hl]
      rw [getD_set2, hl] at h
      by_cases he : x.arg.toNat = i + 1
      · rw [if_pos ⟨by omega, by omega⟩] at h
        rw [if_pos ⟨he, by omega⟩]
        omega
      · rw [if_neg (by omega), if_pos ⟨rfl, by omega⟩]
    · rw [getD_set2, e1, if_pos ⟨rfl, by omega⟩]
    · rw [getD_set2, getD_set2, e1, hl]
      rw [getD_set2, hl] at h
      by_cases he : x.arg.toNat = j
      · subst he
        rw [if_pos ⟨rfl, by omega⟩]
        by_cases he2 : i + 1 = x.arg.toNat
        · rw [if_pos ⟨he2, by omega⟩] at h
          rw [← he2] at hj0 ⊢
          omega
        · rw [if_neg (by omega)] at h
          omega
      · rw [if_neg (by omega)]
        by_cases he2 : i + 1 = j
        · subst he2
          rw [if_pos ⟨rfl, by omega⟩]
          omega
        · rw [if_neg (by omega)]
  · rename_i hj
    rw [if_neg hj]
    dsimp only
    refine ⟨h1, h2, ?_, fun hj2 => absurd hj2 hj, fun j hj0 => ?_⟩
    · rw [getD_set2, if_pos ⟨rfl, by omega⟩]
    · rw [getD_set2, hl]
      by_cases he2 : i + 1 = j
      · subst he2
        rw [if_pos ⟨rfl, by omega⟩]
        omega
      · rw [if_neg (by omega)]
def Hts (l : List GI) (H : Nat → Int) : Prop := ∀ i (h : i < l.length), okOf l[i] = true ∧ offOf l[i] ≤ H i ∧ H (i + 1) = H i - offOf l[i] + leftOf l[i] ∧
  ((l[i].op = 7 ∨ l[i].op = 8) → (i : Int) < l[i].arg ∧ l[i].arg ≤ l.length ∧ H l[i].arg.toNat = H i)
theorem checkFrom_hts (n : Nat) : ∀ (l : List GI) (i : Nat) (hs : List Int), hs.length = n + 1 → i + l.length = n → 1 ≤ hs.getD i 0 → checkFrom n l i hs = true →
    ∃ fs : List Int, (∀ j, 1 ≤ hs.getD j 0 → fs.getD j 0 = hs.getD j 0) ∧ fs.getD n 0 = 2 ∧ ∀ k (h : k < l.length), okOf l[k] = true ∧ offOf l[k] ≤ fs.getD (i + k) 0 - 1 ∧ fs.getD (i + k + 1) 0 = fs.getD (i + k) 0 - offOf l[k] + leftOf l[k] ∧
      ((l[k].op = 7 ∨ l[k].op = 8) → ((i + k : Nat) : Int) < l[k].arg ∧ l[k].arg ≤ n ∧ fs.getD l[k].arg.toNat 0 = fs.getD (i + k) 0)
  | [], i, hs, hl, hn, hp, h => ⟨hs, fun _ _ => rfl, by simpa [checkFrom] using h, fun k hk => by simp at hk⟩
  | x :: r, i, hs, hl, hn, hp, h => by
    simp only [checkFrom, Bool.and_eq_true] at h
    simp only [List.length_cons] at hn
    obtain ⟨f1, f2, f3, f4, f5⟩ := stepC_facts hl (by omega) h.1
    have hoff := okOf_off f1
    have hle := leftOf_le x
    have hi' := f5 i hp
    have hn1 : 1 ≤ (stepC n x i hs).2.getD (i + 1) 0 := by
      rw [f3]
      by_cases hj : x.op = 7 ∨ x.op = 8
      · have hO1 : offOf x = 1 := by unfold offOf; rw [if_pos (by omega)]
        omega
      · omega
    obtain ⟨fs, g1, g2, g3⟩ := checkFrom_hts n r (i + 1) (stepC n x i hs).2 (by rw [stepC_len, hl]) (by omega) hn1 h.2
    refine ⟨fs, fun j hj => by rw [g1 j (by rw [f5 j hj]; exact hj), f5 j hj], g2, fun k hk => ?_⟩
    cases k with
    | zero =>
      simp only [List.getElem_cons_zero, Nat.add_zero]
      have e0 : fs.getD i 0 = hs.getD i 0 := by rw [g1 i (by rw [hi']; exact hp), hi']
      have e1 : fs.getD (i + 1) 0 = hs.getD i 0 - offOf x + leftOf x := by rw [g1 (i + 1) hn1, f3]
      refine ⟨f1, by rw [e0]; exact f2, by rw [e1, e0], fun hj => ?_⟩
      obtain ⟨k1, k2, k3⟩ := f4 hj
      exact ⟨by omega, k2, by rw [g1 _ (by rw [k3]; omega), k3, e0]⟩
    | succ k =>
      have := g3 k (by simpa using hk)
      simp only [List.getElem_cons_succ]
      rw [show i + 1 + k = i + (k + 1) by omega] at this
      exact this
theorem hts_of {l : List GI} (h : checkC l = true) : ∃ H : Nat → Int, Hts l H ∧ H 0 = 0 ∧ H l.length = 1 := by
  obtain ⟨fs, g1, g2, g3⟩ := checkFrom_hts l.length l 0 (1 :: List.replicate l.length 0) (by simp) (by omega) (by simp) h
  refine ⟨fun i => fs.getD i 0 - 1, fun i hi => ?_, ?_, ?_⟩
  · obtain ⟨k1, k2, k3, k4⟩ := g3 i hi
    simp only [Nat.zero_add] at k2 k3 k4
    refine ⟨k1, k2, ?_, fun hj => ?_⟩
    · show fs.getD (i + 1) 0 - 1 = fs.getD i 0 - 1 - offOf l[i] + leftOf l[i]
      omega
    · obtain ⟨m1, m2, m3⟩ := k4 hj
      exact ⟨m1, m2, by show fs.getD _ 0 - 1 = fs.getD i 0 - 1; rw [m3]⟩
  · show fs.getD 0 0 - 1 = 0
    rw [g1 0 (by simp)]
    simp
  · show fs.getD l.length 0 - 1 = 1
    rw [g2]
    rfl
theorem hts_le {l : List GI} {H : Nat → Int} (h : Hts l H) (h0 : H 0 = 0) : ∀ i, i ≤ l.length → 0 ≤ H i ∧ H i ≤ i
  | 0, _ => by rw [h0]; omega
  | i + 1, hi => by
    have ih := hts_le h h0 i (by omega)
    obtain ⟨k1, k2, k3, k4⟩ := h i (by omega)
    have := okOf_off k1
    have := leftOf_le l[i]
    omega
theorem takesN_of {op : Int} (h : takesOf op ≠ 0) : (takesN op : Int) = takesOf op := by
  unfold takesN takesOf at *
  split
  · rfl
  · rename_i h1
    rw [if_neg h1] at h
    split
    · rfl
    · rename_i h2; rw [if_neg h2] at h; exact absurd rfl h
theorem doP_len {E : EP} {x : GI} {st st' : List GV} (hok : okOf x = true) (hj : ¬ (x.op = 7 ∨ x.op = 8)) (hoff : offOf x ≤ st.length) (h : doP E x st = .go st') : (st'.length : Int) = st.length - offOf x + leftOf x := by
  have hop := okOf_op hok
  have hL : leftOf x = 1 := by unfold leftOf; rw [if_pos (by omega)]
  have hto := okOf_off hok
  rw [hL]
  unfold doP at h
  unfold offOf at hoff hto ⊢
  have told : ∀ {v : GV} {s s' : List GV}, toldP v s = .go s' → s'.length = s.length + 1 := fun {v s s'} e => by
    unfold toldP at e
    split at e
    · cases e; simp
    · cases e
  by_cases h0 : x.op = 0
  · rw [if_pos h0] at h
    cases h
    rw [if_neg (by omega), if_neg (by omega), if_neg (by omega)]
    simp
  rw [if_neg h0] at h
  by_cases h1 : x.op = 1
  · rw [if_pos h1] at h
    split at h
    · have := told h
      rw [if_neg (by omega), if_neg (by omega), if_neg (by omega)]
      omega
    · cases h
  rw [if_neg h1] at h
  by_cases h2 : x.op = 2
  · rw [if_pos h2] at h
    split at h
    · have := told h
      rw [if_neg (by omega), if_neg (by omega), if_neg (by omega)]
      omega
    · cases h
  rw [if_neg h2] at h
  by_cases h3 : x.op = 3
  · rw [if_pos h3] at h
    rw [if_pos (by omega)] at hoff ⊢
    split at h
    · split at h
      · have := told h
        have := lessN_len (n := 1) (st := st) (by omega)
        omega
      · cases h
    · cases h
  rw [if_neg h3] at h
  by_cases h4 : x.op = 4
  · rw [if_pos h4] at h
    rw [if_neg (by omega), if_pos h4] at hoff hto ⊢
    split at h
    · cases h
      have := lessN_len (n := x.arg.toNat) (st := st) (by omega)
      simp only [List.length_append, List.length_singleton, this]
      omega
    · cases h
  rw [if_neg h4] at h
  by_cases h5 : x.op = 5
  · rw [if_pos h5] at h
    rw [if_neg (by omega), if_neg h4, if_pos h5] at hoff ⊢
    have ht : takesOf x.arg ≠ 0 := by
      unfold okOf at hok
      rw [if_neg h0, if_neg (by omega), if_neg h4, if_pos h5] at hok
      simp at hok
      exact hok.1.2
    have := takesN_of ht
    split at h
    · cases h
      have := lessN_len (n := takesN x.arg) (st := st) (by omega)
      simp only [List.length_append, List.length_singleton, this]
      omega
    · cases h
  rw [if_neg h5] at h
  have h6 : x.op = 6 := by omega
  rw [if_pos h6] at h
  rw [if_pos (by omega)] at hoff ⊢
  split at h
  · cases h; omega
  · cases h
theorem doP_fit {E : EP} {x : GI} {st st' : List GV} (hE : E.fit) (fx : x.v.fit) (fs : fitL st) (hl : st.length ≤ 2147483647) (h : doP E x st = .go st') : fitL st' := by
  have told : ∀ {v : GV} {s s' : List GV}, v.fit → fitL s → toldP v s = .go s' → fitL s' := fun {v s s'} fv fs e => by
    unfold toldP at e
    split at e
    · cases e; exact fitL_snoc fs fv
    · cases e
  unfold doP at h
  split at h
  · cases h; exact fitL_snoc fs fx
  split at h
  · split at h
    · exact told (hE.1 _) fs h
    · cases h
  split at h
  · split at h
    · exact told (hE.2.1 _) fs h
    · cases h
  split at h
  · split at h
    · split at h
      · exact told (hE.2.2 _ _) (lessN_fit fs) h
      · cases h
    · cases h
  split at h
  · split at h
    · cases h
      exact fitL_snoc (lessN_fit fs) (listG_fit (lastN_fit fs) (by unfold lastN; simp; omega))
    · cases h
  split at h
  · split at h
    · cases h
      exact fitL_snoc (lessN_fit fs) (applyP_fit _ _ (lastN_fit fs))
    · cases h
  split at h
  · split at h
    · cases h; exact fs
    · cases h
  · cases h; exact fs
end Go.Proofs.YtljljhjdlicfeaaGreat
