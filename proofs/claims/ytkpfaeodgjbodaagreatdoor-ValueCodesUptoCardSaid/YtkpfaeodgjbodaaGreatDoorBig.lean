/-
  Bytes that a call makes: a row of bytes of its own; value.big lays a number's bytes behind it. Conditions: fewer than 2^45 bytes.
-/
import Derived.Test.YtkpfaeodgjbodaaGreatDoorMI
import Derived.Test.YtkpfaeodgjbodaaGreatDoorCodeP
namespace Go.Proofs.YtkpfaeodgjbodaaGreatDoor
open Go Go.RowKit
set_option maxRecDepth 100000
set_option linter.unusedVariables false
/-- v is a slice of just these bytes, in a block of its own from base on -/
def bytesR (w : World) (base : Nat) (v : Value) (bs : List Nat) : Prop := w.ownsRow base 5 1 v bs.length (bs.map fun (b : Nat) => Value.int .u8 (b : Int))
theorem bytesR_nil (w : World) (base : Nat) : bytesR w base (.slice none 0 0) [] := ⟨rfl, .inl ⟨rfl, rfl⟩⟩
theorem bytesR_form {w : World} {base : Nat} {v : Value} {bs : List Nat} (h : bytesR w base v bs) : ∃ a c, v = .slice a bs.length c := by
  obtain ⟨_, ⟨h1, h2⟩ | ⟨g, cap, cur, e, _⟩⟩ := h
  · exact ⟨none, 0, by rw [h1, h2]⟩
  · exact ⟨_, cap, e⟩
theorem bytesR_eq {w : World} {base n : Nat} {v : Value} {bs cs : List Nat} (h : w.ownsRow base 5 1 v n (bs.map fun (b : Nat) => Value.int .u8 (b : Int))) (hn : n = bs.length) (e : bs = cs) : bytesR w base v cs := by
  subst e; subst hn; exact h
/-- no old block but o is written -/
def GK (o : Option Nat) (w w' : World) : Prop := w'.os = w.os ∧ w'.tape = w.tape ∧ w'.output = w.output ∧ w.heap.size ≤ w'.heap.size ∧ ∀ k, k < w.heap.size → some k ≠ o → w'.heap[k]? = w.heap[k]?
theorem GK.grown {o : Option Nat} {w w' : World} (h : w.grownBy w' o) : GK o w w' := ⟨h.os, h.tape, h.output, h.size, fun k hk hne => h.block k hk hne⟩
theorem GK.below {w w' : World} (h : Below w.heap.size w w') (o : Option Nat) : GK o w w' := ⟨h.os, h.tape, h.output, h.size, fun k hk _ => h.block k hk⟩
/-- the block stays, or a new one takes its place -/
def NB (o : Option Nat) (w : World) (o' : Option Nat) : Prop := o' = o ∨ ∃ g, o' = some g ∧ w.heap.size ≤ g
theorem GK.trans {o o' : Option Nat} {w w1 w2 : World} (h : GK o w w1) (hn : NB o w o') (k : GK o' w1 w2) : GK o w w2 :=
  ⟨k.1.trans h.1, k.2.1.trans h.2.1, k.2.2.1.trans h.2.2.1, Nat.le_trans h.2.2.2.1 k.2.2.2.1, fun b hb hne => (k.2.2.2.2 b (Nat.lt_of_lt_of_le hb h.2.2.2.1) (fun e => by
    rcases hn with rfl | ⟨g, rfl, hg⟩
    · exact hne e
    · cases e; omega)).trans (h.2.2.2.2 b hb hne)⟩
theorem NB.trans {o o1 o2 : Option Nat} {w w1 : World} (h : NB o w o1) (hs : w.heap.size ≤ w1.heap.size) (k : NB o1 w1 o2) : NB o w o2 := by
  rcases k with rfl | ⟨g, rfl, hg⟩
  · exact h
  · exact .inr ⟨g, rfl, Nat.le_trans hs hg⟩
theorem NB.refl (o : Option Nat) (w : World) : NB o w o := .inl rfl
theorem GK.refl (o : Option Nat) (w : World) : GK o w w := ⟨rfl, rfl, rfl, Nat.le_refl _, fun _ _ _ => rfl⟩
/-- an append's own fact -/
theorem NB.at {o o' : Option Nat} {w : World} {n : Nat} (h : o' = o ∨ o' = some n) (hs : w.heap.size ≤ n) : NB o w o' := by
  rcases h with h | h
  · exact .inl h
  · exact .inr ⟨_, h, hs⟩
theorem GK.isBelow {w w' : World} {base n : Nat} {T : TypeId} {size : Nat} {v : Value} {xs : List Value} (h : GK v.ownBlock w w') (hown : w.ownsRow base T size v n xs) (hb : base ≤ w.heap.size) : Below base w w' :=
  ⟨h.1, h.2.1, h.2.2.1, h.2.2.2.1, fun k hk => h.2.2.2.2 k (Nat.lt_of_lt_of_le hk hb) (fun e => by have := (ownBlock_lt hown e.symm).1; omega)⟩
theorem GK.far {w w' : World} {o : Option Nat} {b : Nat} (h : GK o w w') (hb : b < w.heap.size) (hne : some b ≠ o) : w'.heap[b]? = w.heap[b]? := h.2.2.2.2 b hb hne
theorem beN_get (m : Nat) : ∀ (w k : Nat), k < w → (beN m w)[k]? = some (m / 2 ^ (8 * (w - 1 - k)) % 256)
  | 0, k, h => by omega
  | w + 1, 0, h => by simp [beN]
  | w + 1, k + 1, h => by
    simp only [beN, List.getElem?_cons_succ]
    rw [beN_get m w k (by omega), show w + 1 - 1 - (k + 1) = w - 1 - k by omega]
theorem byte_cast (m j : Nat) : ((m / 2 ^ j % 256 : Nat) : Int) = (m : Int) / 2 ^ j % 256 := by
  rw [Int.natCast_emod, Int.natCast_ediv, Int.natCast_pow]; rfl
set_option maxHeartbeats 1600000 in
theorem big_b (N base width : Nat) (bs : List Nat) (hn : bs.length ≤ 70368744177664) (hw : width ≤ 8) (v : Value) (w : World) (hb : base ≤ w.heap.size) (hv : bytesR w base v bs) :
    Calls Tryz.prog 39 #[v, .int .u64 N, .int .i64 width] w fun e w' => ∃ v', e = .returned v' ∧ bytesR w' base v' (bs ++ beN N width) ∧ GK v.ownBlock w w' ∧ NB v.ownBlock w v'.ownBlock := by
  obtain ⟨i0, hi, hz0, hz1, hz2⟩ := info_parts binfo
  have HI := Lib.hid (And.intro hi (And.intro hz0 (And.intro hz1 hz2)))
  have HV : Hid (bytesR w base v (bs ++ (beN N width).take 0) ∧ GK v.ownBlock w w ∧ NB v.ownBlock w v.ownBlock) := ⟨by simpa using hv, GK.refl _ _, NB.refl _ _⟩
  have HBN := Lib.hid hn
  clear hi hz0 hz1 hz2 hv hn
  go_enter Tryz.func39, Tryz.ntmps39
  go_wp2_with fail
  go_loopw [0, 7] (fun u i wr => ∃ (k : Nat), k ≤ width ∧ i = .int .i64 ((width : Int) - 1 - k) ∧ Hid (bytesR wr base u (bs ++ (beN N width).take k) ∧ GK v.ownBlock w wr ∧ NB v.ownBlock w u.ownBlock)) (fun _ i _ => (intOf i + 1).toNat)
  case atStart => exact ⟨0, Nat.zero_le _, by simp, HV⟩
  case round =>
    obtain ⟨k, hk, rfl, HU⟩ := hrel
    by_cases hlt : k < width
    · have hd : decide (0 ≤ (width : Int) - 1 - k) = true := by simp; omega
      have hle : base ≤ wr.heap.size := Nat.le_trans hb HU.out.2.1.2.2.2.1
      have HLN : Hid ((bs ++ (beN N width).take k).length = bs.length + k) := by
        rw [Hid, List.length_append, List.length_take, beN_length]; omega
      obtain ⟨cs, hcs⟩ : ∃ cs, cs = bs ++ (beN N width).take k := ⟨_, rfl⟩
      rw [← hcs] at HU HLN
      have HCS := Lib.hid hcs
      clear hcs
      go_wp2_with (at_builtin; refine wpList_append_own_at _ rfl _ _ 28 rfl base 5 i0 (.int .u8 0) 1 1 Tryz.underlying28 HI.out.1 HI.out.2.1 HI.out.2.2.1 HI.out.2.2.2 rfl (by decide) _ _ _ rfl (HU.out.1.alloc _) ⟨wr.heap.size, 0, none⟩ 1 1 [.int .u8 ((N : Int) / 2 ^ (8 * (width - 1 - k)) % 256)] rfl rfl ?c1 ?c2 ?c3 ?c4 ?c5 ?_)
      case c1 => exact fun j u hj => news_last hj
      case c2 => intro u hu; simp only [List.mem_cons, List.not_mem_nil, or_false] at hu; subst hu; rfl
      case c3 => have h1 := HLN.out; have h2 := HBN.out; unfold maxLen; omega
      case c4 => have h1 := HLN.out; have h2 := HBN.out; omega
      case c5 => simp; omega
      intro v' w2 hown2 hgrow _ hat
      have HU2 : Hid (bytesR w2 base v' (bs ++ (beN N width).take (k + 1)) ∧ GK v.ownBlock w w2 ∧ NB v.ownBlock w v'.ownBlock) := by
        obtain ⟨h1, h2, h3⟩ := HU.out
        have e : bs ++ (beN N width).take (k + 1) = cs ++ [N / 2 ^ (8 * (width - 1 - k)) % 256] := by
          rw [HCS.out, List.take_add_one, beN_get N width k hlt, List.append_assoc]; rfl
        have hal : Below wr.heap.size wr (wr.alloc (.cells #[.int .u8 ((N : Int) / 2 ^ (8 * (width - 1 - k)) % 256)] 5)) := (Below.refl _ _).alloc (Nat.le_refl _) _
        refine ⟨?_, h2.trans h3 ((GK.below hal _).trans (NB.refl _ _) (GK.grown hgrow)), h3.trans h2.2.2.2.1 (NB.at hat (Nat.le_succ _))⟩
        rw [e]
        refine bytesR_eq (n := cs.length + 1) (bs := cs ++ [N / 2 ^ (8 * (width - 1 - k)) % 256]) ?_ (by simp) rfl
        rw [List.map_append, List.map_cons, List.map_nil, byte_cast]
        exact hown2
      clear hown2 hgrow hat HU
      go_wp2_with fail
      go_roundw
      case rel => exact ⟨k + 1, by omega, by simp; omega, HU2⟩
      case measure => simp [intOf]; omega
    · obtain rfl : k = width := by omega
      have hd : decide (0 ≤ (k : Int) - 1 - k) = false := by simp; omega
      go_wp2_with fail
      go_ret
      have hu := HU.out
      rw [List.take_of_length_le (by rw [beN_length]; exact Nat.le_refl _)] at hu
      exact ⟨_, rfl, hu.1, hu.2.1, hu.2.2⟩
end Go.Proofs.YtkpfaeodgjbodaaGreatDoor
