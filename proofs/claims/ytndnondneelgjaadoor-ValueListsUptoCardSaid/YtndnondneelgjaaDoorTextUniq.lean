/-
  Unlike values that may be have unlike texts; a value's text is empty just where the value may not be. Conditions: none.
-/
import Derived.Test.YtndnondneelgjaaDoorVTextP
import Derived.Test.YtndnondneelgjaaDoorOrderP
import Derived.Lib.ItoaMem
namespace Go.Proofs.YtndnondneelgjaaDoor
open Go Go.RowKit
set_option linter.unusedVariables false
/-- a numeral's byte -/
def numC (c : UInt8) : Bool := c == 45 || (decide (48 ≤ c.toNat) && decide (c.toNat ≤ 57))
theorem digit_byte (u : Nat) (h : u < 10) : (UInt8.ofNat (48 + u)).toNat = 48 + u := by
  simp; omega
theorem digits_num : ∀ (m u : Nat), u ≤ m → ∀ c ∈ Lib.decDigits u, 48 ≤ c.toNat ∧ c.toNat ≤ 57 := by
  intro m
  induction m with
  | zero =>
    intro u hu c hc
    rw [Lib.decDigits, dif_pos (by omega)] at hc
    simp only [List.mem_cons, List.not_mem_nil, or_false] at hc
    subst hc
    have := digit_byte u (by omega)
    omega
  | succ m ih =>
    intro u hu c hc
    rw [Lib.decDigits] at hc
    split at hc
    · simp only [List.mem_cons, List.not_mem_nil, or_false] at hc
      subst hc
      have := digit_byte u (by omega)
      omega
    · rw [List.mem_append] at hc
      rcases hc with hc | hc
      · exact ih (u / 10) (by omega) c hc
      · simp only [List.mem_cons, List.not_mem_nil, or_false] at hc
        subst hc
        have := digit_byte (u % 10) (by omega)
        omega
def undig (l : List UInt8) : Nat := l.foldl (fun a c => a * 10 + (c.toNat - 48)) 0
theorem undig_digits : ∀ (m u : Nat), u ≤ m → undig (Lib.decDigits u) = u := by
  intro m
  induction m with
  | zero =>
    intro u hu
    rw [Lib.decDigits, dif_pos (by omega)]
    have := digit_byte u (by omega)
    simp only [undig, List.foldl_cons, List.foldl_nil, this]
    omega
  | succ m ih =>
    intro u hu
    rw [Lib.decDigits]
    split
    · have := digit_byte u (by omega)
      simp only [undig, List.foldl_cons, List.foldl_nil, this]
      omega
    · have h1 := ih (u / 10) (by omega)
      have := digit_byte (u % 10) (by omega)
      unfold undig at h1 ⊢
      rw [List.foldl_append, h1]
      simp only [List.foldl_cons, List.foldl_nil, this]
      omega
theorem digits_inj {u v : Nat} (h : Lib.decDigits u = Lib.decDigits v) : u = v := by
  rw [← undig_digits u u (Nat.le_refl _), h, undig_digits v v (Nat.le_refl _)]
theorem digits_ne (u : Nat) : Lib.decDigits u ≠ [] := by
  intro h
  have h1 := Lib.decDigits_length u
  have h2 := Lib.nDigits_pos u
  rw [h] at h1
  simp at h1
  omega
theorem itoa_num (n : Int) : ∀ c ∈ Lib.itoa n, numC c = true := by
  intro c hc
  unfold Lib.itoa at hc
  have key : ∀ u, c ∈ Lib.decDigits u → numC c = true := by
    intro u h
    have := digits_num u u (Nat.le_refl _) c h
    simp [numC]
    right
    exact this
  split at hc
  · rw [List.mem_cons] at hc
    rcases hc with rfl | hc
    · decide
    · exact key _ hc
  · exact key _ hc
theorem itoa_ne (n : Int) : Lib.itoa n ≠ [] := by
  unfold Lib.itoa
  split
  · simp
  · exact digits_ne _
theorem digits_no45 (u : Nat) (s : List UInt8) : 45 :: s ≠ Lib.decDigits u := by
  intro h
  have := digits_num u u (Nat.le_refl _) 45 (by rw [← h]; simp)
  simp at this
theorem itoa_inj {n m : Int} (h : Lib.itoa n = Lib.itoa m) : n = m := by
  unfold Lib.itoa at h
  split at h <;> split at h
  · have := digits_inj (List.cons.inj h).2; omega
  · exact absurd h (digits_no45 _ _)
  · exact absurd h.symm (digits_no45 _ _)
  · have := digits_inj h; omega
/-- what may follow a value's text -/
def halts (r : List UInt8) : Prop := r = [] ∨ ∃ c s, r = c :: s ∧ (c = 44 ∨ c = 93)
theorem split_at (P : UInt8 → Bool) : ∀ (a b r r' : List UInt8), (∀ c ∈ a, P c = true) → (∀ c ∈ b, P c = true) → (r = [] ∨ ∃ c s, r = c :: s ∧ P c = false) → (r' = [] ∨ ∃ c s, r' = c :: s ∧ P c = false) → a ++ r = b ++ r' → a = b ∧ r = r' := by
  intro a
  induction a with
  | nil =>
    intro b r r' _ hb hr hr' h
    cases b with
    | nil => exact ⟨rfl, h⟩
    | cons y b =>
      exfalso
      rw [List.nil_append, List.cons_append] at h
      rcases hr with hr | ⟨c, s, hr, hp⟩
      · rw [hr] at h; cases h
      · rw [hr] at h
        have e := (List.cons.inj h).1
        have := hb y (by simp)
        rw [← e, hp] at this
        cases this
  | cons x a ih =>
    intro b r r' ha hb hr hr' h
    cases b with
    | nil =>
      exfalso
      rw [List.nil_append, List.cons_append] at h
      rcases hr' with hr' | ⟨c, s, hr', hp⟩
      · rw [hr'] at h; cases h
      · rw [hr'] at h
        have e := (List.cons.inj h).1
        have := ha x (by simp)
        rw [e, hp] at this
        cases this
    | cons y b =>
      rw [List.cons_append, List.cons_append] at h
      obtain ⟨e, h'⟩ := List.cons.inj h
      obtain ⟨e2, e3⟩ := ih b r r' (fun c hc => ha c (by simp [hc])) (fun c hc => hb c (by simp [hc])) hr hr' h'
      exact ⟨by rw [e, e2], e3⟩
theorem itoa_read {n m : Int} {r r' : List UInt8} (hr : halts r) (hr' : halts r') (h : Lib.itoa n ++ r = Lib.itoa m ++ r') : n = m ∧ r = r' := by
  have st : ∀ r, halts r → (r = [] ∨ ∃ c s, r = c :: s ∧ numC c = false) := by
    intro r hr
    rcases hr with hr | ⟨c, s, hr, rfl | rfl⟩
    · exact .inl hr
    · exact .inr ⟨_, s, hr, by decide⟩
    · exact .inr ⟨_, s, hr, by decide⟩
  obtain ⟨e1, e2⟩ := split_at numC _ _ _ _ (itoa_num n) (itoa_num m) (st r hr) (st r' hr') h
  exact ⟨itoa_inj e1, e2⟩
theorem quoteC_cases (c : UInt8) : (∃ d, quoteC c = [92, d] ∧ ∀ c', quoteC c' = [92, d] → c' = c) ∨ (quoteC c = [c] ∧ c ≠ 34 ∧ c ≠ 92) := by
  unfold quoteC
  by_cases h1 : c = 34 ∨ c = 92
  · rw [if_pos h1]
    refine .inl ⟨c, rfl, fun c' h => ?_⟩
    split at h
    · simpa using h
    · split at h
      · simp at h; rcases h1 with e | e <;> rw [e] at h <;> simp at h
      · split at h
        · simp at h; rcases h1 with e | e <;> rw [e] at h <;> simp at h
        · simp at h
  · rw [if_neg h1]
    by_cases h2 : c = 10
    · rw [if_pos h2]
      refine .inl ⟨110, rfl, fun c' h => ?_⟩
      split at h
      · next g => simp at h; rcases g with e | e <;> rw [e] at h <;> simp at h
      · split at h
        · next g => rw [g, h2]
        · split at h
          · simp at h
          · simp at h
    · rw [if_neg h2]
      by_cases h3 : c = 9
      · rw [if_pos h3]
        refine .inl ⟨116, rfl, fun c' h => ?_⟩
        split at h
        · next g => simp at h; rcases g with e | e <;> rw [e] at h <;> simp at h
        · split at h
          · simp at h
          · split at h
            · next g => rw [g, h3]
            · simp at h
      · rw [if_neg h3]
        exact .inr ⟨rfl, fun e => h1 (.inl e), fun e => h1 (.inr e)⟩
theorem quote_read : ∀ (s t r r' : List UInt8), quoteL s ++ 34 :: r = quoteL t ++ 34 :: r' → s = t ∧ r = r' := by
  intro s
  induction s with
  | nil =>
    intro t r r' h
    cases t with
    | nil => simpa [quoteL] using h
    | cons c t =>
      exfalso
      simp only [quoteL, List.nil_append] at h
      rcases quoteC_cases c with ⟨d, e, _⟩ | ⟨e, g, _⟩
      · rw [e] at h; simp at h
      · rw [e] at h; simp at h; exact g h.1.symm
  | cons c s ih =>
    intro t r r' h
    cases t with
    | nil =>
      exfalso
      simp only [quoteL, List.nil_append] at h
      rcases quoteC_cases c with ⟨d, e, _⟩ | ⟨e, g, _⟩
      · rw [e] at h; simp at h
      · rw [e] at h; simp at h; exact g h.1
    | cons c' t =>
      simp only [quoteL, List.append_assoc] at h
      have key : c = c' ∧ quoteL s ++ 34 :: r = quoteL t ++ 34 :: r' := by
        rcases quoteC_cases c with ⟨d, e, u⟩ | ⟨e, g1, g2⟩
        · rcases quoteC_cases c' with ⟨d', e', u'⟩ | ⟨e', g1', g2'⟩
          · rw [e, e'] at h
            simp at h
            exact ⟨u' c (by rw [e, h.1]), h.2⟩
          · rw [e, e'] at h
            simp at h
            exact absurd h.1.symm g2'
        · rcases quoteC_cases c' with ⟨d', e', u'⟩ | ⟨e', g1', g2'⟩
          · rw [e, e'] at h
            simp at h
            exact absurd h.1 g2
          · rw [e, e'] at h
            simpa using h
      obtain ⟨e1, e2⟩ := ih t r r' key.2
      exact ⟨by rw [key.1, e1], e2⟩
mutual
theorem chk_down : ∀ (x : GV) (d : Nat), chk x (d + 1) = true → chk x d = true
  | ⟨k, b, n, t, l⟩, d, h => by
    simp only [chk, Bool.and_eq_true, Bool.or_eq_true, decide_eq_true_eq] at h ⊢
    refine ⟨h.1, ?_⟩
    rcases h.2 with h2 | ⟨h2, h3⟩
    · exact .inl h2
    · exact .inr ⟨by omega, chkL_down l (d + 1) h3⟩
theorem chkL_down : ∀ (l : List GV) (d : Nat), chkL l (d + 1) = true → chkL l d = true
  | [], _, _ => by simp [chkL]
  | x :: r, d, h => by
    simp only [chkL, Bool.and_eq_true] at h ⊢
    exact ⟨chk_down x d h.1, chkL_down r d h.2⟩
end
theorem chkL_mem {l : List GV} {d : Nat} (h : chkL l d = true) : ∀ y ∈ l, chk y d = true := by
  induction l with
  | nil => intro y hy; simp at hy
  | cons x r ih =>
    simp only [chkL, Bool.and_eq_true] at h
    intro y hy
    rw [List.mem_cons] at hy
    rcases hy with rfl | hy
    · exact h.1
    · exact ih h.2 y hy
theorem may_flat {x : GV} (h : vmay x = true) : chkFlat x.k x.b x.n x.t x.l.length = true := by
  unfold vmay at h
  rw [chk_eq, Bool.and_eq_true] at h
  exact h.1
theorem may_mem {x : GV} (h : vmay x = true) (hk : x.k = 4) : ∀ y ∈ x.l, vmay y = true := by
  unfold vmay at h
  rw [chk_eq, Bool.and_eq_true] at h
  have h2 := h.2
  simp [hk] at h2
  intro y hy
  exact chk_down y 0 (chkL_mem h2 y hy)
/-- the kind that a text's first byte tells -/
def kc (c : UInt8) : Int := if c = 110 then 0 else if c = 116 ∨ c = 102 then 1 else if c = 34 then 3 else if c = 35 then 5 else if c = 91 then 4 else if numC c then 2 else -1
theorem kc_num {c : UInt8} (h : numC c = true) : kc c = 2 := by
  unfold kc
  have g : ∀ d : UInt8, numC d = false → c ≠ d := fun d hd e => by rw [e, hd] at h; cases h
  rw [if_neg (g _ (by decide)), if_neg (by intro e; rcases e with e | e; exact g _ (by decide) e; exact g _ (by decide) e), if_neg (g _ (by decide)), if_neg (g _ (by decide)), if_neg (g _ (by decide)), if_pos h]
theorem vtx_may {x : GV} (h : vmay x = true) : vtx x = if x.k = 1 then Lib.formatBool x.b else if x.k = 2 then Lib.itoa x.n else if x.k = 3 then quoteT x.t else if x.k = 5 then 35 :: Lib.itoa x.n else if x.k = 4 then 91 :: Lib.join (vtxL x.l) [44, 32] ++ [93] else [110, 117, 108, 108] := by
  rw [vtx_eq, if_pos h]
theorem vtx_head {x : GV} (h : vmay x = true) : ∃ c s, vtx x = c :: s ∧ kc c = x.k := by
  have hf := flat_kind (may_flat h)
  rw [vtx_may h]
  rcases hf with ⟨e, _⟩ | ⟨e, _⟩ | ⟨e, _⟩ | ⟨e, _⟩ | ⟨e, _⟩ | ⟨e, _⟩ <;> rw [e]
  · exact ⟨110, _, rfl, by decide⟩
  · cases x.b
    · exact ⟨102, [97, 108, 115, 101], (if_pos rfl).trans (by decide : Lib.formatBool false = _), by decide⟩
    · exact ⟨116, [114, 117, 101], (if_pos rfl).trans (by decide : Lib.formatBool true = _), by decide⟩
  · have hn := itoa_ne x.n
    have hu := itoa_num x.n
    cases hi : Lib.itoa x.n with
    | nil => exact absurd hi hn
    | cons c s =>
      refine ⟨c, s, by simp, ?_⟩
      rw [hi] at hu
      exact kc_num (hu c (by simp))
  · exact ⟨34, _, rfl, by decide⟩
  · exact ⟨35, _, rfl, by decide⟩
  · exact ⟨91, _, rfl, by decide⟩
theorem vtx_ne {x : GV} (h : vmay x = true) : vtx x ≠ [] := by
  obtain ⟨c, s, e, _⟩ := vtx_head h
  rw [e]; simp
theorem vtx_no {x : GV} (h : vmay x = false) : vtx x = [] := by
  rw [vtx_eq, if_neg (by rw [h]; decide)]
theorem vtx_empty (x : GV) : (vtx x = []) ↔ vmay x = false := by
  cases h : vmay x
  · exact ⟨fun _ => rfl, fun _ => vtx_no h⟩
  · exact ⟨fun e => absurd e (vtx_ne h), fun e => by cases e⟩
def tailT : List GV → List UInt8
  | [] => []
  | x :: r => 44 :: 32 :: (vtx x ++ tailT r)
theorem join_tail (x : GV) (r : List GV) : Lib.join (vtxL (x :: r)) [44, 32] = vtx x ++ tailT r := by
  simp only [vtxL]
  rw [Lib.join_cons]
  congr 1
  induction r with
  | nil => rfl
  | cons y r ih => simp [Lib.joinTail, vtxL, tailT] at ih ⊢; exact ih
theorem text_eq {a b : ByteArray} (h : a.data.toList = b.data.toList) : a = b := by
  cases a; cases b
  simp only [ByteArray.mk.injEq]
  exact Array.toList_inj.1 h
theorem text_none {t : ByteArray} (h : t.toList = []) : t = ⟨#[]⟩ := by
  refine text_eq ?_
  have := ByteArray.toList_eq t
  rw [h] at this
  simpa using this.symm
theorem tail_stop (l : List GV) (r : List UInt8) : halts (tailT l ++ 93 :: r) := by
  cases l with
  | nil => exact .inr ⟨93, r, rfl, .inr rfl⟩
  | cons x l => exact .inr ⟨44, _, rfl, .inl rfl⟩
mutual
theorem vtx_read : ∀ (x y : GV) (r r' : List UInt8), vmay x = true → vmay y = true → halts r → halts r' → vtx x ++ r = vtx y ++ r' → x = y ∧ r = r'
  | ⟨k, b, n, t, l⟩, y, r, r', hx, hy, hr, hr', h => by
    obtain ⟨c, s, ec, kcx⟩ := vtx_head hx
    obtain ⟨c', s', ec', kcy⟩ := vtx_head hy
    have hk : k = y.k := by
      have h' := h
      rw [ec, ec', List.cons_append, List.cons_append] at h'
      have e := (List.cons.inj h').1
      rw [e] at kcx
      exact kcx.symm.trans kcy
    have fx := flat_kind (may_flat hx)
    have fy := flat_kind (may_flat hy)
    have mx := may_mem hx
    have my := may_mem hy
    rw [vtx_may hx, vtx_may hy] at h
    clear ec ec' kcx kcy hx hy
    obtain ⟨k', b', n', t', l'⟩ := y
    dsimp only at fx fy mx my h hk
    subst hk
    rcases fx with ⟨rfl, x1, x2, x3, x4⟩ | ⟨rfl, x2, x3, x4⟩ | ⟨rfl, x1, x3, x4⟩ | ⟨rfl, x1, x2, x4⟩ | ⟨rfl, x1, x3, x4⟩ | ⟨rfl, x1, x2, x3⟩
    · rcases fy with ⟨_, y1, y2, y3, y4⟩ | ⟨g, _⟩ | ⟨g, _⟩ | ⟨g, _⟩ | ⟨g, _⟩ | ⟨g, _⟩ <;> try omega
      have e1 := List.eq_nil_of_length_eq_zero x4
      have e2 := List.eq_nil_of_length_eq_zero y4
      have e3 := text_none x3
      have e4 := text_none y3
      subst e1 e2 e3 e4 x1 x2 y1 y2
      exact ⟨rfl, by simpa using h⟩
    · rcases fy with ⟨g, _⟩ | ⟨_, y2, y3, y4⟩ | ⟨g, _⟩ | ⟨g, _⟩ | ⟨g, _⟩ | ⟨g, _⟩ <;> try omega
      have e1 := List.eq_nil_of_length_eq_zero x4
      have e2 := List.eq_nil_of_length_eq_zero y4
      have e3 := text_none x3
      have e4 := text_none y3
      subst e1 e2 e3 e4 x2 y2
      have ft : Lib.formatBool true = [116, 114, 117, 101] := by decide
      have ff : Lib.formatBool false = [102, 97, 108, 115, 101] := by decide
      cases b <;> cases b' <;> simp [ft, ff] at h
      · exact ⟨rfl, h⟩
      · exact ⟨rfl, h⟩
    · rcases fy with ⟨g, _⟩ | ⟨g, _⟩ | ⟨_, y1, y3, y4⟩ | ⟨g, _⟩ | ⟨g, _⟩ | ⟨g, _⟩ <;> try omega
      have e1 := List.eq_nil_of_length_eq_zero x4
      have e2 := List.eq_nil_of_length_eq_zero y4
      have e3 := text_none x3
      have e4 := text_none y3
      subst e1 e2 e3 e4 x1 y1
      obtain ⟨e, e'⟩ := itoa_read hr hr' (by simpa using h)
      subst e
      exact ⟨rfl, e'⟩
    · rcases fy with ⟨g, _⟩ | ⟨g, _⟩ | ⟨g, _⟩ | ⟨_, y1, y2, y4⟩ | ⟨g, _⟩ | ⟨g, _⟩ <;> try omega
      have e1 := List.eq_nil_of_length_eq_zero x4
      have e2 := List.eq_nil_of_length_eq_zero y4
      subst e1 e2 x1 y1 x2 y2
      have h' : quoteL t.data.toList ++ 34 :: r = quoteL t'.data.toList ++ 34 :: r' := by simpa [quoteT] using h
      obtain ⟨e, e'⟩ := quote_read _ _ _ _ h'
      have := text_eq e
      subst this
      exact ⟨rfl, e'⟩
    · rcases fy with ⟨g, _⟩ | ⟨g, _⟩ | ⟨g, _⟩ | ⟨g, _⟩ | ⟨_, y1, y3, y4⟩ | ⟨g, _⟩ <;> try omega
      have e1 := List.eq_nil_of_length_eq_zero x4
      have e2 := List.eq_nil_of_length_eq_zero y4
      have e3 := text_none x3
      have e4 := text_none y3
      subst e1 e2 e3 e4 x1 y1
      obtain ⟨e, e'⟩ := itoa_read hr hr' (by simpa using h)
      subst e
      exact ⟨rfl, e'⟩
    · rcases fy with ⟨g, _⟩ | ⟨g, _⟩ | ⟨g, _⟩ | ⟨g, _⟩ | ⟨g, _⟩ | ⟨_, y1, y2, y3⟩ <;> try omega
      have e3 := text_none x3
      have e4 := text_none y3
      subst e3 e4 x1 x2 y1 y2
      have h' : Lib.join (vtxL l) [44, 32] ++ 93 :: r = Lib.join (vtxL l') [44, 32] ++ 93 :: r' := by simpa using h
      obtain ⟨e, e'⟩ := vtxL_read l l' r r' (mx rfl) (my rfl) h'
      subst e
      exact ⟨rfl, e'⟩
theorem vtxL_read : ∀ (l m : List GV) (r r' : List UInt8), (∀ y ∈ l, vmay y = true) → (∀ y ∈ m, vmay y = true) → Lib.join (vtxL l) [44, 32] ++ 93 :: r = Lib.join (vtxL m) [44, 32] ++ 93 :: r' → l = m ∧ r = r'
  | [], [], r, r', _, _, h => by
    exact ⟨rfl, (List.cons.inj h).2⟩
  | [], y :: m, r, r', _, hm, h => by
    exfalso
    obtain ⟨c, s, e, kk⟩ := vtx_head (hm y (by simp))
    rw [join_tail, e] at h
    have e2 : (93 : UInt8) = c := (List.cons.inj h).1
    rw [← e2] at kk
    have := flat_kind (may_flat (hm y (by simp)))
    have k93 : kc 93 = -1 := by decide
    omega
  | x :: l, [], r, r', hl, _, h => by
    exfalso
    obtain ⟨c, s, e, kk⟩ := vtx_head (hl x (by simp))
    rw [join_tail, e] at h
    have e2 : c = (93 : UInt8) := (List.cons.inj h).1
    rw [e2] at kk
    have := flat_kind (may_flat (hl x (by simp)))
    have k93 : kc 93 = -1 := by decide
    omega
  | x :: l, y :: m, r, r', hl, hm, h => by
    rw [join_tail, join_tail, List.append_assoc, List.append_assoc] at h
    obtain ⟨e, h2⟩ := vtx_read x y _ _ (hl x (by simp)) (hm y (by simp)) (tail_stop _ _) (tail_stop _ _) h
    obtain ⟨e2, e3⟩ := tail_read l m r r' (fun z hz => hl z (by simp [hz])) (fun z hz => hm z (by simp [hz])) h2
    exact ⟨by rw [e, e2], e3⟩
theorem tail_read : ∀ (l m : List GV) (r r' : List UInt8), (∀ y ∈ l, vmay y = true) → (∀ y ∈ m, vmay y = true) → tailT l ++ 93 :: r = tailT m ++ 93 :: r' → l = m ∧ r = r'
  | [], [], r, r', _, _, h => by
    exact ⟨rfl, (List.cons.inj h).2⟩
  | [], y :: m, r, r', _, hm, h => by
    exfalso
    have := (List.cons.inj h).1
    simp at this
  | x :: l, [], r, r', hl, _, h => by
    exfalso
    have := (List.cons.inj h).1
    simp at this
  | x :: l, y :: m, r, r', hl, hm, h => by
    simp only [tailT, List.cons_append, List.append_assoc, List.cons.injEq, true_and] at h
    obtain ⟨e, h2⟩ := vtx_read x y _ _ (hl x (by simp)) (hm y (by simp)) (tail_stop _ _) (tail_stop _ _) h
    obtain ⟨e2, e3⟩ := tail_read l m r r' (fun z hz => hl z (by simp [hz])) (fun z hz => hm z (by simp [hz])) h2
    exact ⟨by rw [e, e2], e3⟩
end
/-- unlike values, unlike texts -/
theorem vtx_same (x y : GV) (hx : vmay x = true) : decide (vtx x = vtx y) = same x y := by
  cases hy : vmay y
  · rw [vtx_no hy]
    cases hs : same x y
    · simp [vtx_ne hx]
    · exfalso
      rw [(same_iff _ _).1 hs, hy] at hx
      cases hx
  · cases hs : same x y
    · simp only [decide_eq_false_iff_not]
      intro h
      have := (vtx_read x y [] [] hx hy (.inl rfl) (.inl rfl) (by rw [h])).1
      rw [(same_iff _ _).2 this] at hs
      cases hs
    · rw [(same_iff _ _).1 hs]; simp
end Go.Proofs.YtndnondneelgjaaDoor
