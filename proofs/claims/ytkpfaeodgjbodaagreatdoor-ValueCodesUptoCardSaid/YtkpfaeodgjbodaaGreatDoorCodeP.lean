/-
  Values as bytes, and bytes as values, in plain words: what is laid is read again, a byte more or less is refused, unlike values have unlike bytes; the document's reading and the program's agree. Conditions: none.
-/
import Derived.Test.YtkpfaeodgjbodaaGreatDoorML
namespace Go.Proofs.YtkpfaeodgjbodaaGreatDoor
open Go Go.RowKit
set_option linter.unusedVariables false
/-- a number's w lowest bytes, the highest first -/
def beN (m : Nat) : Nat → List Nat
  | 0 => []
  | w + 1 => (m / 2 ^ (8 * w) % 256) :: beN m w
theorem beN_length (m : Nat) : ∀ w, (beN m w).length = w
  | 0 => rfl
  | w + 1 => by simp [beN, beN_length m w]
def unBe (bs : List Nat) : Nat := bs.foldl (fun a b => a * 256 + b) 0
theorem unBe_go (m : Nat) : ∀ (w a : Nat), (beN m w).foldl (fun a b => a * 256 + b) a = a * 2 ^ (8 * w) + m % 2 ^ (8 * w)
  | 0, a => by simp [beN, Nat.mod_one]
  | w + 1, a => by
    have e : 2 ^ (8 * (w + 1)) = 2 ^ (8 * w) * 256 := by rw [Nat.mul_add, Nat.pow_add]
    simp only [beN, List.foldl_cons]
    rw [unBe_go m w, e, Nat.mod_mul, Nat.add_mul, Nat.mul_assoc, Nat.mul_comm 256, Nat.add_assoc, Nat.mul_comm (m / 2 ^ (8 * w) % 256), Nat.add_comm (2 ^ (8 * w) * _)]
theorem unBe_beN (m w : Nat) : unBe (beN m w) = m % 2 ^ (8 * w) := by
  unfold unBe
  rw [unBe_go]; simp
theorem unBe_lt : ∀ (bs : List Nat) (a : Nat), (∀ b ∈ bs, b < 256) → bs.foldl (fun a b => a * 256 + b) a < (a + 1) * 2 ^ (8 * bs.length)
  | [], a, _ => by simp
  | b :: r, a, h => by
    have h1 := unBe_lt r (a * 256 + b) (fun x hx => h x (List.mem_cons_of_mem _ hx))
    have hb := h b (List.mem_cons_self ..)
    have e : 2 ^ (8 * (b :: r).length) = 256 * 2 ^ (8 * r.length) := by
      rw [List.length_cons, Nat.mul_add, Nat.pow_add, Nat.mul_comm]
    rw [List.foldl_cons, e, ← Nat.mul_assoc]
    exact Nat.lt_of_lt_of_le h1 (Nat.mul_le_mul_right _ (by omega))
def toU (n : Int) : Nat := (n % 18446744073709551616).toNat
def inB (n : Int) : Prop := -9223372036854775808 ≤ n ∧ n ≤ 9223372036854775807
def ofU (m : Nat) : Int := wrap64 (m : Int)
theorem ofU_toU (n : Int) (h : inB n) : ofU (toU n % 2 ^ (8 * 8)) = n := by
  have h1 := h.1
  have h2 := h.2
  unfold ofU toU wrap64
  simp only [Nat.reduceMul, Nat.reducePow]
  omega
theorem ofU_in (m : Nat) : inB (ofU m) := by unfold ofU inB wrap64; omega
/-- a text's bytes -/
def txB (t : ByteArray) : List Nat := t.data.toList.map UInt8.toNat
def txOf (bs : List Nat) : ByteArray := ⟨(bs.map UInt8.ofNat).toArray⟩
theorem txB_length (t : ByteArray) : (txB t).length = t.size := by
  show (t.data.toList.map UInt8.toNat).length = t.data.size
  rw [List.length_map, Array.length_toList]
theorem txOf_size (bs : List Nat) : (txOf bs).size = bs.length := by simp [txOf, ByteArray.size]
theorem txOf_txB (t : ByteArray) : txOf (txB t) = t := by
  obtain ⟨a⟩ := t
  have h : ∀ (l : List UInt8), (l.map UInt8.toNat).map UInt8.ofNat = l := fun l => by
    rw [List.map_map]
    have : (UInt8.ofNat ∘ UInt8.toNat) = id := funext fun x => UInt8.ofNat_toNat
    rw [this, List.map_id]
  simp [txOf, txB, h]
theorem txB_lt (t : ByteArray) : ∀ b ∈ txB t, b < 256 := fun b hb => by
  obtain ⟨u, _, e⟩ := List.mem_map.1 hb
  rw [← e]; exact u.toNat_lt
mutual
/-- a value's bytes -/
def enc : GV → List Nat
  | ⟨k, b, n, t, l⟩ => (k % 256).toNat :: (if k = 1 then [if b then 1 else 0] else if k = 2 ∨ k = 5 then beN (toU n) 8 else if k = 3 then beN t.size 4 ++ txB t else if k = 4 then beN l.length 4 ++ encL l else [])
def encL : List GV → List Nat
  | [] => []
  | x :: r => enc x ++ encL r
end
theorem enc_eq (x : GV) : enc x = (x.k % 256).toNat :: (if x.k = 1 then [if x.b then 1 else 0] else if x.k = 2 ∨ x.k = 5 then beN (toU x.n) 8 else if x.k = 3 then beN x.t.size 4 ++ txB x.t else if x.k = 4 then beN x.l.length 4 ++ encL x.l else []) := by
  cases x; simp only [enc]
theorem enc_pos (x : GV) : 0 < (enc x).length := by rw [enc_eq]; simp
/-! ### reading -/
def takeN (w : Nat) (bs : List Nat) : Option (Nat × List Nat) := if bs.length < w then none else some (unBe (bs.take w), bs.drop w)
theorem takeN_app {w n : Nat} {bs r : List Nat} (h : takeN w bs = some (n, r)) (s : List Nat) : takeN w (bs ++ s) = some (n, r ++ s) := by
  unfold takeN at h ⊢
  split at h
  · cases h
  · rename_i hl
    rw [if_neg (by simp; omega)]
    cases h
    rw [List.take_append_of_le_length (by omega), List.drop_append_of_le_length (by omega)]
theorem takeN_be (m w : Nat) (r : List Nat) : takeN w (beN m w ++ r) = some (m % 2 ^ (8 * w), r) := by
  unfold takeN
  rw [if_neg (by simp [beN_length])]
  have e1 : (beN m w ++ r).take w = beN m w := by
    have := @List.take_left' _ (beN m w) r w (beN_length m w)
    exact this
  have e2 : (beN m w ++ r).drop w = r := by
    have := @List.drop_left' _ (beN m w) r w (beN_length m w)
    exact this
  rw [e1, e2, unBe_beN]
theorem takeN_len {w n : Nat} {bs r : List Nat} (h : takeN w bs = some (n, r)) : r.length ≤ bs.length := by
  unfold takeN at h
  split at h
  · cases h
  · cases h
    simp
def decL (d : List Nat → Option (GV × List Nat)) : Nat → List Nat → Option (List GV × List Nat)
  | 0, bs => some ([], bs)
  | n + 1, bs => match d bs with
    | none => none
    | some (x, r) => match decL d n r with
      | none => none
      | some (l, r2) => some (x :: l, r2)
/-- one value behind its kind: ok: may there be a list here; odd: may there be a kind that is none -/
def decBody (ok odd : Bool) (d : List Nat → Option (GV × List Nat)) (k : Nat) (r : List Nat) : Option (GV × List Nat) :=
  if k = 1 then (match takeN 1 r with
    | none => none
    | some (n, r2) => if 1 < n then none else some (⟨1, n == 1, 0, ⟨#[]⟩, []⟩, r2))
  else if k = 2 ∨ k = 5 then (match takeN 8 r with
    | none => none
    | some (n, r2) => some (⟨k, false, ofU n, ⟨#[]⟩, []⟩, r2))
  else if k = 3 then (match takeN 4 r with
    | none => none
    | some (n, r2) => if r2.length < n then none else some (⟨3, false, 0, txOf (r2.take n), []⟩, r2.drop n))
  else if k = 4 then (match takeN 4 r with
    | none => none
    | some (n, r2) => if 4096 < n ∨ ok = false then none else match decL d n r2 with
      | none => none
      | some (l, r3) => some (⟨4, false, 0, ⟨#[]⟩, l⟩, r3))
  else if k = 0 ∨ odd = true then some (⟨k, false, 0, ⟨#[]⟩, []⟩, r) else none
def decStep (ok odd : Bool) (d : List Nat → Option (GV × List Nat)) : List Nat → Option (GV × List Nat)
  | [] => none
  | k :: r => decBody ok odd d k r
theorem decStep_cons (ok odd : Bool) (d : List Nat → Option (GV × List Nat)) (k : Nat) (r : List Nat) : decStep ok odd d (k :: r) = decBody ok odd d k r := rfl
/-- the program's reading: so many lists deep, still -/
def dec : Nat → List Nat → Option (GV × List Nat)
  | 0, _ => none
  | f + 1, bs => decStep true true (dec f) bs
/-- the document's reading -/
def rdec : Nat → List Nat → Option (GV × List Nat)
  | 0, _ => none
  | f + 1, bs => decStep (f != 0) false (rdec f) bs
def finP (o : Option (GV × List Nat)) : GV × Int := match o with
  | some (v, []) => if vmay v = true then (v, 0) else noP 8
  | _ => noP 8
def decP (bs : List Nat) : GV × Int := finP (dec 31 bs)
theorem decL_app {d : List Nat → Option (GV × List Nat)} (h : ∀ bs v r s, d bs = some (v, r) → d (bs ++ s) = some (v, r ++ s)) : ∀ (n : Nat) (bs : List Nat) (l : List GV) (r s : List Nat), decL d n bs = some (l, r) → decL d n (bs ++ s) = some (l, r ++ s)
  | 0, bs, l, r, s, e => by simp only [decL, Option.some.injEq, Prod.mk.injEq] at e ⊢; exact ⟨e.1, by rw [e.2]⟩
  | n + 1, bs, l, r, s, e => by
    simp only [decL] at e ⊢
    cases h1 : d bs with
    | none => rw [h1] at e; cases e
    | some p =>
      obtain ⟨x, r1⟩ := p
      rw [h1] at e
      rw [h bs x r1 s h1]
      dsimp only at e ⊢
      cases h2 : decL d n r1 with
      | none => rw [h2] at e; cases e
      | some q =>
        obtain ⟨l2, r2⟩ := q
        rw [h2] at e
        rw [decL_app h n r1 l2 r2 s h2]
        dsimp only at e ⊢
        cases e; rfl
theorem decStep_app {ok odd : Bool} {d : List Nat → Option (GV × List Nat)} (h : ∀ bs v r s, d bs = some (v, r) → d (bs ++ s) = some (v, r ++ s)) (bs : List Nat) (v : GV) (r s : List Nat) (e : decStep ok odd d bs = some (v, r)) : decStep ok odd d (bs ++ s) = some (v, r ++ s) := by
  cases bs with
  | nil => cases e
  | cons k q =>
    simp only [List.cons_append]
    rw [decStep_cons] at e ⊢
    unfold decBody at e ⊢
    by_cases k1 : k = 1
    · rw [if_pos k1] at e ⊢
      cases h1 : takeN 1 q with
      | none => rw [h1] at e; cases e
      | some p =>
        obtain ⟨n, r2⟩ := p
        rw [h1] at e; rw [takeN_app h1 s]
        dsimp only at e ⊢
        split at e
        · cases e
        · rename_i hn; rw [if_neg hn]; cases e; rfl
    rw [if_neg k1] at e ⊢
    by_cases k2 : k = 2 ∨ k = 5
    · rw [if_pos k2] at e ⊢
      cases h1 : takeN 8 q with
      | none => rw [h1] at e; cases e
      | some p =>
        obtain ⟨n, r2⟩ := p
        rw [h1] at e; rw [takeN_app h1 s]
        dsimp only at e ⊢
        cases e; rfl
    rw [if_neg k2] at e ⊢
    by_cases k3 : k = 3
    · rw [if_pos k3] at e ⊢
      cases h1 : takeN 4 q with
      | none => rw [h1] at e; cases e
      | some p =>
        obtain ⟨n, r2⟩ := p
        rw [h1] at e; rw [takeN_app h1 s]
        dsimp only at e ⊢
        split at e
        · cases e
        · rename_i hn
          rw [if_neg (by simp; omega), List.take_append_of_le_length (by omega), List.drop_append_of_le_length (by omega)]
          cases e; rfl
    rw [if_neg k3] at e ⊢
    by_cases k4 : k = 4
    · rw [if_pos k4] at e ⊢
      cases h1 : takeN 4 q with
      | none => rw [h1] at e; cases e
      | some p =>
        obtain ⟨n, r2⟩ := p
        rw [h1] at e; rw [takeN_app h1 s]
        dsimp only at e ⊢
        split at e
        · cases e
        · rename_i hn
          rw [if_neg hn]
          cases h2 : decL d n r2 with
          | none => rw [h2] at e; cases e
          | some u =>
            obtain ⟨l2, r3⟩ := u
            rw [h2] at e
            rw [decL_app h n r2 l2 r3 s h2]
            dsimp only at e ⊢
            cases e; rfl
    rw [if_neg k4] at e ⊢
    split at e
    · rename_i hk; rw [if_pos hk]; cases e; rfl
    · cases e
theorem dec_app : ∀ (f : Nat) (bs : List Nat) (v : GV) (r s : List Nat), dec f bs = some (v, r) → dec f (bs ++ s) = some (v, r ++ s)
  | 0, _, _, _, _, e => by cases e
  | f + 1, bs, v, r, s, e => decStep_app (dec_app f) bs v r s e
/-! ### what is laid is read again -/
theorem flat_null {k : Int} {b : Bool} {n : Int} {t : ByteArray} {len : Nat} (h : chkFlat k b n t len = true) : (k = 0 ∧ b = false ∧ n = 0 ∧ t = ⟨#[]⟩ ∧ len = 0) ∨ (k = 1 ∧ n = 0 ∧ t = ⟨#[]⟩ ∧ len = 0) ∨ (k = 2 ∧ b = false ∧ t = ⟨#[]⟩ ∧ len = 0) ∨ (k = 3 ∧ b = false ∧ n = 0 ∧ t.size ≤ 65536 ∧ len = 0) ∨ (k = 5 ∧ b = false ∧ 1 ≤ n ∧ t = ⟨#[]⟩ ∧ len = 0) ∨ (k = 4 ∧ b = false ∧ n = 0 ∧ t = ⟨#[]⟩ ∧ len ≤ 4096) := by
  have ht : ∀ {t : ByteArray}, t.toList = [] → t = ⟨#[]⟩ := fun {t} e => by
    have := toList_nil.1 e
    obtain ⟨a⟩ := t
    have : a = #[] := Array.eq_empty_of_size_eq_zero this
    rw [this]
  unfold chkFlat at h
  split at h
  · simp at h; exact .inl ⟨by assumption, h.1.1.1, h.1.1.2, ht h.1.2, h.2⟩
  · split at h
    · simp at h; exact .inr (.inl ⟨by assumption, h.1.1, ht h.1.2, h.2⟩)
    · split at h
      · simp at h; exact .inr (.inr (.inl ⟨by assumption, h.1.1, ht h.1.2, h.2⟩))
      · split at h
        · simp at h; exact .inr (.inr (.inr (.inl ⟨by assumption, h.1.1.1, h.1.1.2, h.1.2, h.2⟩)))
        · split at h
          · simp at h; exact .inr (.inr (.inr (.inr (.inl ⟨by assumption, h.1.1.1, h.1.1.2, ht h.1.2, h.2⟩))))
          · split at h
            · simp at h; exact .inr (.inr (.inr (.inr (.inr ⟨by assumption, h.1.1.1, h.1.1.2, ht h.1.2, h.2⟩))))
            · cases h
theorem decL_enc {d : List Nat → Option (GV × List Nat)} : ∀ (l : List GV), (∀ x ∈ l, ∀ r, d (enc x ++ r) = some (x, r)) → ∀ r, decL d l.length (encL l ++ r) = some (l, r)
  | [], _, r => by simp [decL, encL]
  | x :: q, h, r => by
    simp only [List.length_cons, decL, encL, List.append_assoc]
    rw [h x (List.mem_cons_self ..)]
    dsimp only
    rw [decL_enc q (fun y hy => h y (List.mem_cons_of_mem _ hy)) r]
theorem chkL_mem : ∀ {l : List GV} {d : Nat}, chkL l d = true → ∀ x ∈ l, chk x d = true
  | y :: r, d, h, x, hx => by
    simp only [chkL, Bool.and_eq_true] at h
    rcases List.mem_cons.1 hx with e | e
    · subst e; exact h.1
    · exact chkL_mem h.2 x e
theorem dec_enc : ∀ (m : Nat) (x : GV) (f d : Nat) (r : List Nat), x.size ≤ m → x.fit → f + d = 31 → 1 ≤ f → chk x d = true → dec f (enc x ++ r) = some (x, r)
  | 0, x, f, d, r, hm, _, _, _, _ => by have := size_l x; omega
  | m + 1, x, 0, d, r, _, _, _, hf, _ => by omega
  | m + 1, x, f + 1, d, r, hm, fx, hd, _, hc => by
    rw [chk_eq, Bool.and_eq_true] at hc
    obtain ⟨hc1, hc2⟩ := hc
    have hfo := fit_open fx
    have hsz := size_l x
    obtain ⟨k, b, n, t, l⟩ := x
    rw [enc_eq]
    dsimp only at hc1 hc2 hfo hsz ⊢
    show decStep true true (dec f) _ = _
    simp only [List.cons_append]
    rw [decStep_cons]
    unfold decBody
    rcases flat_null hc1 with ⟨rfl, rfl, rfl, rfl, h⟩ | ⟨rfl, rfl, rfl, h⟩ | ⟨rfl, rfl, rfl, h⟩ | ⟨rfl, rfl, rfl, h1, h⟩ | ⟨rfl, rfl, h1, rfl, h⟩ | ⟨rfl, rfl, rfl, rfl, h⟩
    · obtain rfl := List.eq_nil_of_length_eq_zero h
      rfl
    · obtain rfl := List.eq_nil_of_length_eq_zero h
      cases b <;> simp [takeN, unBe]
    · obtain rfl := List.eq_nil_of_length_eq_zero h
      rw [if_neg (by decide), if_pos (by decide), if_neg (by decide), if_pos (by decide), takeN_be]
      dsimp only
      rw [ofU_toU n ⟨hfo.2.2.1, hfo.2.2.2.1⟩]
      rfl
    · obtain rfl := List.eq_nil_of_length_eq_zero h
      have e3 : (3 % 256 : Int).toNat = 3 := rfl
      rw [if_neg (by decide), if_neg (by decide), if_pos (by decide), if_neg (by decide), if_neg (by decide), if_pos (by decide), List.append_assoc, takeN_be]
      have e : t.size % 2 ^ (8 * 4) = t.size := Nat.mod_eq_of_lt (by simp only [Nat.reduceMul, Nat.reducePow]; omega)
      rw [e]
      dsimp only
      rw [if_neg (by simp [txB_length]), List.take_left' (txB_length t), List.drop_left' (txB_length t), txOf_txB]
    · obtain rfl := List.eq_nil_of_length_eq_zero h
      rw [if_neg (by decide), if_pos (by decide), if_neg (by decide), if_pos (by decide), takeN_be]
      dsimp only
      rw [ofU_toU n ⟨hfo.2.2.1, hfo.2.2.2.1⟩]
      rfl
    · simp only [bne_self_eq_false, Bool.false_or, Bool.and_eq_true, decide_eq_true_eq] at hc2
      rw [if_neg (by decide), if_neg (by decide), if_neg (by decide), if_pos (by decide), if_neg (by decide), if_neg (by decide), if_neg (by decide), if_pos (by decide), List.append_assoc, takeN_be]
      have e : l.length % 2 ^ (8 * 4) = l.length := Nat.mod_eq_of_lt (by simp only [Nat.reduceMul, Nat.reducePow]; omega)
      rw [e]
      dsimp only
      rw [if_neg (by simp; omega), decL_enc l (fun x hx r => dec_enc m x f (d + 1) r (by have := sizeL_mem hx; omega) (fitL_mem hfo.2.2.2.2.2.2 x hx) (by omega) (by omega) (chkL_mem hc2.2 x hx)) r]
theorem dec_enc_may {x : GV} (fx : x.fit) (hv : vmay x = true) (r : List Nat) : dec 31 (enc x ++ r) = some (x, r) := dec_enc x.size x 31 0 r (Nat.le_refl _) fx rfl (by omega) hv
theorem decP_enc {x : GV} (fx : x.fit) (hv : vmay x = true) : decP (enc x) = (x, 0) := by
  have := dec_enc_may fx hv []
  rw [List.append_nil] at this
  unfold decP finP
  rw [this]
  simp [hv]
theorem decP_more {x : GV} (fx : x.fit) (hv : vmay x = true) (c : Nat) (r : List Nat) : decP (enc x ++ c :: r) = noP 8 := by
  unfold decP finP
  rw [dec_enc_may fx hv]
theorem decP_less {x : GV} (fx : x.fit) (hv : vmay x = true) : decP (enc x).dropLast = noP 8 := by
  unfold decP finP
  split
  · rename_i v e
    have hne : enc x ≠ [] := fun h => by have := enc_pos x; rw [h] at this; simp at this
    have h1 := dec_app 31 _ v [] [(enc x).getLast hne] e
    rw [List.dropLast_concat_getLast hne] at h1
    have h2 := dec_enc_may fx hv []
    rw [List.append_nil, h1] at h2
    cases h2
  · rfl
theorem enc_inj {x y : GV} (fx : x.fit) (fy : y.fit) (hx : vmay x = true) (hy : vmay y = true) (e : enc x = enc y) : x = y := by
  have h1 := decP_enc fx hx
  rw [e, decP_enc fy hy] at h1
  exact (congrArg Prod.fst h1).symm
/-! ### the two readings agree -/
theorem decL_agree {D E : List Nat → Option (GV × List Nat)} {d : Nat} (h : ∀ bs v r, chk v d = true → (D bs = some (v, r) ↔ E bs = some (v, r))) : ∀ (n : Nat) (bs : List Nat) (l : List GV) (r : List Nat), chkL l d = true → (decL D n bs = some (l, r) → decL E n bs = some (l, r))
  | 0, bs, l, r, _, e => e
  | n + 1, bs, l, r, hc, e => by
    simp only [decL] at e ⊢
    cases h1 : D bs with
    | none => rw [h1] at e; cases e
    | some p =>
      obtain ⟨x, r1⟩ := p
      rw [h1] at e
      dsimp only at e
      cases h2 : decL D n r1 with
      | none => rw [h2] at e; cases e
      | some q =>
        obtain ⟨l2, r2⟩ := q
        rw [h2] at e
        dsimp only at e
        cases e
        simp only [chkL, Bool.and_eq_true] at hc
        rw [(h bs x r1 hc.1).1 h1]
        dsimp only
        rw [decL_agree h n r1 l2 _ hc.2 h2]
theorem step_agree {ok ok2 odd odd2 : Bool} {D E : List Nat → Option (GV × List Nat)} {d : Nat} (hok : d < 30 → ok = true → ok2 = true) (h : d < 30 → ∀ bs v r, chk v (d + 1) = true → (D bs = some (v, r) ↔ E bs = some (v, r))) (bs : List Nat) (v : GV) (r : List Nat) (hc : chk v d = true) (e : decStep ok odd D bs = some (v, r)) : decStep ok2 odd2 E bs = some (v, r) := by
  cases bs with
  | nil => cases e
  | cons k q =>
    rw [decStep_cons] at e ⊢
    unfold decBody at e ⊢
    by_cases k1 : k = 1
    · rw [if_pos k1] at e ⊢; exact e
    rw [if_neg k1] at e ⊢
    by_cases k2 : k = 2 ∨ k = 5
    · rw [if_pos k2] at e ⊢; exact e
    rw [if_neg k2] at e ⊢
    by_cases k3 : k = 3
    · rw [if_pos k3] at e ⊢; exact e
    rw [if_neg k3] at e ⊢
    by_cases k4 : k = 4
    · rw [if_pos k4] at e ⊢
      cases h1 : takeN 4 q with
      | none => rw [h1] at e; cases e
      | some p =>
        obtain ⟨n, r2⟩ := p
        rw [h1] at e
        dsimp only at e ⊢
        split at e
        · cases e
        · rename_i hn
          cases h2 : decL D n r2 with
          | none => rw [h2] at e; cases e
          | some u =>
            obtain ⟨l2, r3⟩ := u
            rw [h2] at e
            dsimp only at e
            cases e
            rw [chk_eq, Bool.and_eq_true] at hc
            have hc2 := hc.2
            simp only [bne_self_eq_false, Bool.false_or, Bool.and_eq_true, decide_eq_true_eq] at hc2
            have hok1 : ok = true := by
              cases ok
              · exact absurd (.inr rfl) hn
              · rfl
            rw [if_neg (by rw [hok hc2.1 hok1]; simp; omega), decL_agree (h hc2.1) n r2 l2 _ hc2.2 h2]
    rw [if_neg k4] at e ⊢
    split at e
    · cases e
      by_cases k0 : k = 0
      · rw [if_pos (.inl k0)]
      · exfalso
        rw [chk_eq, Bool.and_eq_true] at hc
        rcases flat_null hc.1 with ⟨h, _⟩ | ⟨h, _⟩ | ⟨h, _⟩ | ⟨h, _⟩ | ⟨h, _⟩ | ⟨h, _⟩ <;> dsimp only at h <;> omega
    · cases e
theorem dec_rdec : ∀ (f d : Nat), f + d = 31 → 1 ≤ f → ∀ (bs : List Nat) (v : GV) (r : List Nat), chk v d = true → (dec f bs = some (v, r) ↔ rdec (f + 1) bs = some (v, r))
  | 0, d, _, hf, _, _, _, _ => by omega
  | f + 1, d, hd, _, bs, v, r, hc => by
    have hne : (f + 1 != 0) = true := by simp
    constructor
    · intro e
      show decStep (f + 1 != 0) false (rdec (f + 1)) bs = _
      exact step_agree (fun _ _ => hne) (fun h30 bs v r hv => dec_rdec f (d + 1) (by omega) (by omega) bs v r hv) bs v r hc e
    · intro e
      show decStep true true (dec f) bs = _
      exact step_agree (fun _ _ => rfl) (fun h30 bs v r hv => (dec_rdec f (d + 1) (by omega) (by omega) bs v r hv).symm) bs v r hc e
theorem fin_agree (bs : List Nat) : finP (rdec 32 bs) = decP bs := by
  have key := dec_rdec 31 0 rfl (by omega) bs
  unfold decP
  cases h1 : dec 31 bs with
  | none =>
    cases h2 : rdec 32 bs with
    | none => rfl
    | some q =>
      obtain ⟨v, r⟩ := q
      cases r with
      | cons c r => rfl
      | nil =>
        unfold finP
        dsimp only
        split
        · rename_i hv
          have := (key v [] hv).2 h2
          rw [h1] at this; cases this
        · rfl
  | some p =>
    obtain ⟨v, r⟩ := p
    by_cases hv : vmay v = true
    · rw [(key v r hv).1 h1]
    · have e1 : finP (some (v, r)) = noP 8 := by
        cases r with
        | nil => unfold finP; dsimp only; rw [if_neg hv]
        | cons c r => rfl
      rw [e1]
      cases h2 : rdec 32 bs with
      | none => rfl
      | some q =>
        obtain ⟨v2, r2⟩ := q
        cases r2 with
        | cons c r => rfl
        | nil =>
          unfold finP
          dsimp only
          split
          · rename_i hv2
            have := (key v2 [] hv2).2 h2
            rw [h1] at this
            cases this
            exact absurd hv2 hv
          · rfl
/-! ### what is read fits -/
theorem decL_fit {d : List Nat → Option (GV × List Nat)} (h : ∀ bs v r, bs.length ≤ 2147483647 → (∀ b ∈ bs, b < 256) → d bs = some (v, r) → v.fit ∧ r.length ≤ bs.length ∧ ∀ b ∈ r, b < 256) : ∀ (n : Nat) (bs : List Nat) (l : List GV) (r : List Nat), bs.length ≤ 2147483647 → (∀ b ∈ bs, b < 256) → decL d n bs = some (l, r) → fitL l ∧ l.length = n ∧ r.length ≤ bs.length ∧ ∀ b ∈ r, b < 256
  | 0, bs, l, r, hb, h2, e => by
    simp only [decL, Option.some.injEq, Prod.mk.injEq] at e
    rw [← e.1, ← e.2]
    exact ⟨trivial, rfl, Nat.le_refl _, h2⟩
  | n + 1, bs, l, r, hb, h2, e => by
    simp only [decL] at e
    cases h1 : d bs with
    | none => rw [h1] at e; cases e
    | some p =>
      obtain ⟨x, r1⟩ := p
      rw [h1] at e
      dsimp only at e
      obtain ⟨g1, g2, g3⟩ := h bs x r1 hb h2 h1
      cases h4 : decL d n r1 with
      | none => rw [h4] at e; cases e
      | some q =>
        obtain ⟨l2, r2⟩ := q
        rw [h4] at e
        dsimp only at e
        cases e
        obtain ⟨k1, k2, k3, k4⟩ := decL_fit h n r1 l2 _ (by omega) g3 h4
        exact ⟨⟨g1, k1⟩, by simp [k2], by omega, k4⟩
theorem takeN_rest {w n : Nat} {bs r : List Nat} (h : takeN w bs = some (n, r)) (hb : ∀ b ∈ bs, b < 256) : ∀ b ∈ r, b < 256 := by
  unfold takeN at h
  split at h
  · cases h
  · cases h
    exact fun b hm => hb b (List.mem_of_mem_drop hm)
theorem fit_flat (k n : Int) (b : Bool) (hk : 0 ≤ k ∧ k ≤ 255) (hn : inB n) : (GV.mk k b n ⟨#[]⟩ []).fit := by
  simp only [GV.fit]
  exact ⟨by omega, by omega, hn.1, hn.2, by decide, by simp, trivial⟩
theorem dec_fit : ∀ (f : Nat) (bs : List Nat) (v : GV) (r : List Nat), bs.length ≤ 2147483647 → (∀ b ∈ bs, b < 256) → dec f bs = some (v, r) → v.fit ∧ r.length ≤ bs.length ∧ ∀ b ∈ r, b < 256
  | 0, _, _, _, _, _, e => by cases e
  | f + 1, [], _, _, _, _, e => by cases e
  | f + 1, k :: q, v, r, hl, hb, e => by
    have hq : ∀ b ∈ q, b < 256 := fun b h => hb b (List.mem_cons_of_mem _ h)
    have hk := hb k (List.mem_cons_self ..)
    simp only [List.length_cons] at hl ⊢
    change decStep true true (dec f) (k :: q) = some (v, r) at e
    rw [decStep_cons] at e
    unfold decBody at e
    by_cases k1 : k = 1
    · rw [if_pos k1] at e
      cases h1 : takeN 1 q with
      | none => rw [h1] at e; cases e
      | some p =>
        obtain ⟨n, r2⟩ := p
        rw [h1] at e
        dsimp only at e
        split at e
        · cases e
        · cases e
          have := takeN_len h1
          exact ⟨fit_flat _ _ _ (by omega) (by unfold inB; omega), by omega, takeN_rest h1 hq⟩
    rw [if_neg k1] at e
    by_cases k2 : k = 2 ∨ k = 5
    · rw [if_pos k2] at e
      cases h1 : takeN 8 q with
      | none => rw [h1] at e; cases e
      | some p =>
        obtain ⟨n, r2⟩ := p
        rw [h1] at e
        dsimp only at e
        cases e
        have := takeN_len h1
        exact ⟨fit_flat _ _ _ (by omega) (ofU_in _), by omega, takeN_rest h1 hq⟩
    rw [if_neg k2] at e
    by_cases k3 : k = 3
    · rw [if_pos k3] at e
      cases h1 : takeN 4 q with
      | none => rw [h1] at e; cases e
      | some p =>
        obtain ⟨n, r2⟩ := p
        rw [h1] at e
        dsimp only at e
        split at e
        · cases e
        · cases e
          have := takeN_len h1
          refine ⟨?_, by simp; omega, fun b h => takeN_rest h1 hq b (List.mem_of_mem_drop h)⟩
          simp only [GV.fit]
          exact ⟨by omega, by omega, by omega, by omega, by rw [txOf_size, List.length_take]; omega, by simp, trivial⟩
    rw [if_neg k3] at e
    by_cases k4 : k = 4
    · rw [if_pos k4] at e
      cases h1 : takeN 4 q with
      | none => rw [h1] at e; cases e
      | some p =>
        obtain ⟨n, r2⟩ := p
        rw [h1] at e
        dsimp only at e
        split at e
        · cases e
        · rename_i hn
          have h5 := takeN_len h1
          cases h2 : decL (dec f) n r2 with
          | none => rw [h2] at e; cases e
          | some u =>
            obtain ⟨l2, r3⟩ := u
            rw [h2] at e
            dsimp only at e
            cases e
            obtain ⟨g1, g2, g3, g4⟩ := decL_fit (dec_fit f) n r2 l2 _ (by omega) (takeN_rest h1 hq) h2
            refine ⟨?_, by omega, g4⟩
            simp only [GV.fit]
            exact ⟨by omega, by omega, by omega, by omega, by decide, by omega, g1⟩
    rw [if_neg k4] at e
    split at e
    · cases e
      exact ⟨fit_flat _ _ _ (by omega) (by unfold inB; omega), by omega, hq⟩
    · cases e
end Go.Proofs.YtkpfaeodgjbodaaGreatDoor
