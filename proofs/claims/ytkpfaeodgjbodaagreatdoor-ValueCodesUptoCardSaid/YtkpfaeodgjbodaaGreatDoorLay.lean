/-
  value.lay lays a value's bytes behind those that are there; value.Encode. Conditions: the value may be; fewer than 2^45 bytes.
-/
import Derived.Test.YtkpfaeodgjbodaaGreatDoorStepT
import Derived.Test.YtkpfaeodgjbodaaGreatDoorMG
import Derived.Lib.AppendStr
import Derived.Deep.RegionLaw
namespace Go.Proofs.YtkpfaeodgjbodaaGreatDoor
open Go Go.RowKit
set_option maxRecDepth 100000
set_option linter.unusedVariables false
def LayC (x : GV) : Prop := ∀ (s : Value) (w : World) (base B : Nat) (v : Value) (bs : List Nat), base ≤ w.heap.size → B ≤ base → isL w 0 B s x.l → bytesR w base v bs → bs.length + (enc x).length ≤ 35184372088832 →
  Calls Tryz.prog 18 #[v, x.agg s] w fun e w' => ∃ v', e = .returned v' ∧ bytesR w' base v' (bs ++ enc x) ∧ GK v.ownBlock w w' ∧ NB v.ownBlock w v'.ownBlock
theorem push1 {w w1 w2 : World} {base n : Nat} {v v0 v' : Value} {bs : List Nat} {k : Nat} {ob : Obj} (hgk : GK v0.ownBlock w w1) (hnb : NB v0.ownBlock w v.ownBlock) (hown : w2.ownsRow base 5 1 v' (bs.length + 1) (bs.map (fun (b : Nat) => Value.int .u8 (b : Int)) ++ [.int .u8 (k : Int)])) (hgrow : (w1.alloc ob).grownBy w2 v.ownBlock) (hat : v'.ownBlock = v.ownBlock ∨ v'.ownBlock = some n) (hn : w1.heap.size ≤ n) : bytesR w2 base v' (bs ++ [k]) ∧ GK v0.ownBlock w w2 ∧ NB v0.ownBlock w v'.ownBlock := by
  have hal : Below w1.heap.size w1 (w1.alloc ob) := (Below.refl _ _).alloc (Nat.le_refl _) _
  refine ⟨bytesR_eq (n := bs.length + 1) (bs := bs ++ [k]) ?_ (by simp) rfl, hgk.trans hnb ((GK.below hal _).trans (NB.refl _ _) (GK.grown hgrow)), hnb.trans hgk.2.2.2.1 (NB.at hat hn)⟩
  rw [List.map_append]
  exact hown
theorem box_far {w1 w2 : World} {b : Nat} {v : Value} {ob o : Obj} (hgrow : (w1.alloc ob).grownBy w2 v.ownBlock) (hne : some b ≠ v.ownBlock) (h : w1.heap[b]? = some o) : w2.heap[b]? = some o := by
  have hlt := (Array.getElem?_eq_some_iff.1 h).1
  rw [(GK.grown hgrow).far (by simp; omega) hne, Below.heap_alloc _ _ _ hlt]
  exact h
theorem ne_trans {w : World} {o o' : Option Nat} {b : Nat} (h : some b ≠ o) (hn : NB o w o') (hb : b < w.heap.size) : some b ≠ o' := fun e => by
  rcases hn with rfl | ⟨g, rfl, hg⟩
  · exact h e
  · cases e; omega
theorem encL_append : ∀ (l m : List GV), encL (l ++ m) = encL l ++ encL m
  | [], m => by simp [encL]
  | x :: r, m => by simp [encL, encL_append r m]
theorem encL_take (l : List GV) (k : Nat) (h : k < l.length) : encL (l.take (k + 1)) = encL (l.take k) ++ enc l[k] := by
  rw [List.take_add_one, encL_append, List.getElem?_eq_getElem h]
  simp [encL]
theorem encL_take_le (l : List GV) (k : Nat) : (encL (l.take k)).length ≤ (encL l).length := by
  conv => rhs; rw [← List.take_append_drop k l, encL_append, List.length_append]
  omega
theorem enc_bulk : ∀ (m : Nat) (x : GV), x.size ≤ m → (enc x).length ≤ 9 * x.bulk
  | 0, x, h => by have := size_l x; omega
  | m + 1, x, h => by
    have hs := size_l x
    have hl : ∀ l : List GV, sizeL l ≤ m → (encL l).length ≤ 9 * bulkL l := fun l => by
      induction l with
      | nil => intro _; simp [encL]
      | cons y r ih =>
        intro h2
        simp only [sizeL] at h2
        have h3 := enc_bulk m y (by omega)
        have h4 := ih (by omega)
        simp only [encL, List.length_append, bulkL]
        omega
    have h5 := hl x.l (by omega)
    rw [enc_eq, bulk_eq, List.length_cons]
    split
    · simp; omega
    · split
      · rw [beN_length]; omega
      · split
        · rw [List.length_append, beN_length, txB_length]; omega
        · split
          · rw [List.length_append, beN_length]; omega
          · simp; omega
set_option maxHeartbeats 800000 in
theorem lay_0 (a : Option Addr) (c : Nat) (w : World) (base B : Nat) (v : Value) (bs : List Nat) (hb : base ≤ w.heap.size) (hB : B ≤ base) (hv : bytesR w base v bs) (hlen : bs.length + 1 ≤ 35184372088832) : Calls Tryz.prog 18 #[v, .agg #[.int .i64 0, .bool false, .int .i64 0, .string { data := #[] }, .slice a 0 c]] w fun e w' => ∃ v', e = .returned v' ∧ bytesR w' base v' (bs ++ [0]) ∧ GK v.ownBlock w w' ∧ NB v.ownBlock w v'.ownBlock := by
  obtain ⟨i0, hi, hz0, hz1, hz2⟩ := info_parts binfo
  have HI := Lib.hid (And.intro hi (And.intro hz0 (And.intro hz1 hz2)))
  have HLE := Lib.hid hlen
  have HVV := Lib.hid hv
  have HBB := Lib.hid (And.intro hb hB)
  clear hi hz0 hz1 hz2 hlen
  go_enter Tryz.func18, Tryz.ntmps18
  go_upto_region 1 with fail
  obtain ⟨w1, hw1⟩ : ∃ u, u = w.alloc (.cells #[.int .i64 0, .bool false, .int .i64 0, .string { data := #[] }, .slice a 0 c] 33) := ⟨_, rfl⟩
  have hb1 : Below w.heap.size w w1 := by rw [hw1]; exact (Below.refl _ _).alloc (Nat.le_refl _) _
  have hx1 : w1.heap[w.heap.size]? = some (.cells #[.int .i64 0, .bool false, .int .i64 0, .string { data := #[] }, .slice a 0 c] 33 (0, 0)) := by rw [hw1]; exact heap_last
  have HV1 : Hid (bytesR w1 base v bs) := by rw [hw1]; exact World.ownsRow.alloc hv _
  rw [← hw1]
  obtain ⟨bx, hbx⟩ : ∃ b, b = w.heap.size := ⟨_, rfl⟩
  rw [← hbx] at hx1 ⊢
  have HNE : Hid (some bx ≠ v.ownBlock) := fun e => by have := (ownBlock_lt hv e.symm).2; omega
  have HGK1 : Hid (GK v.ownBlock w w1) := GK.below hb1 _
  have HX1 := Lib.hid hx1
  have q1 := fun o => cell_of hx1 o
  have l1 : bx < w1.heap.size := (Array.getElem?_eq_some_iff.1 hx1).1
  have n1 : bx ≠ w1.heap.size := by omega
  have hb1' : base ≤ w1.heap.size := Nat.le_trans hb hb1.size
  have HBX := Lib.hid hbx
  clear hw1 hb1 hx1 hv hbx
  go_wp2_with (at_builtin; refine wpList_append_own_at _ rfl _ _ 28 rfl base 5 i0 (.int .u8 0) 1 1 Tryz.underlying28 HI.out.1 HI.out.2.1 HI.out.2.2.1 HI.out.2.2.2 rfl (by decide) _ _ _ rfl (World.ownsRow.alloc HV1.out _) ⟨w1.heap.size, 0, none⟩ 1 1 [.int .u8 0] rfl rfl ?c1 ?c2 ?c3 ?c4 ?c5 ?_)
  case c1 => exact fun j u hj => news_last hj
  case c2 => intro u hu; simp only [List.mem_cons, List.not_mem_nil, or_false] at hu; subst hu; rfl
  case c3 => have h2 := HLE.out; unfold maxLen; omega
  case c4 => have h2 := HLE.out; omega
  case c5 => simp; omega
  intro v2 w2 hown2 hgrow _ hat
  have H2 := Lib.hid (push1 (k := 0) HGK1.out (NB.refl _ _) hown2 hgrow hat (Nat.le_succ _))
  have hx2 := box_far hgrow HNE.out HX1.out
  have HX2 := Lib.hid hx2
  have HNE2 := Lib.hid (ne_trans (w := w1) HNE.out (NB.at hat (Nat.le_succ _)) l1)
  have q2 := fun o => cell_of hx2 o
  have l2 : bx < w2.heap.size := (Array.getElem?_eq_some_iff.1 hx2).1
  have hb2' : base ≤ w2.heap.size := Nat.le_trans hb H2.out.2.1.2.2.2.1
  clear hown2 hgrow hat hx2 q1 n1 HX1 HNE HV1 HGK1
  go_wp2_with fail
  go_ret
  exact ⟨v2, rfl, H2.out.1, H2.out.2.1, H2.out.2.2⟩
set_option maxHeartbeats 800000 in
theorem lay_1t (a : Option Addr) (c : Nat) (w : World) (base B : Nat) (v : Value) (bs : List Nat) (hb : base ≤ w.heap.size) (hB : B ≤ base) (hv : bytesR w base v bs) (hlen : bs.length + 2 ≤ 35184372088832) : Calls Tryz.prog 18 #[v, .agg #[.int .i64 1, .bool true, .int .i64 0, .string { data := #[] }, .slice a 0 c]] w fun e w' => ∃ v', e = .returned v' ∧ bytesR w' base v' (bs ++ [1, 1]) ∧ GK v.ownBlock w w' ∧ NB v.ownBlock w v'.ownBlock := by
  obtain ⟨i0, hi, hz0, hz1, hz2⟩ := info_parts binfo
  have HI := Lib.hid (And.intro hi (And.intro hz0 (And.intro hz1 hz2)))
  have HLE := Lib.hid hlen
  have HVV := Lib.hid hv
  have HBB := Lib.hid (And.intro hb hB)
  clear hi hz0 hz1 hz2 hlen
  go_enter Tryz.func18, Tryz.ntmps18
  go_upto_region 1 with fail
  obtain ⟨w1, hw1⟩ : ∃ u, u = w.alloc (.cells #[.int .i64 1, .bool true, .int .i64 0, .string { data := #[] }, .slice a 0 c] 33) := ⟨_, rfl⟩
  have hb1 : Below w.heap.size w w1 := by rw [hw1]; exact (Below.refl _ _).alloc (Nat.le_refl _) _
  have hx1 : w1.heap[w.heap.size]? = some (.cells #[.int .i64 1, .bool true, .int .i64 0, .string { data := #[] }, .slice a 0 c] 33 (0, 0)) := by rw [hw1]; exact heap_last
  have HV1 : Hid (bytesR w1 base v bs) := by rw [hw1]; exact World.ownsRow.alloc hv _
  rw [← hw1]
  obtain ⟨bx, hbx⟩ : ∃ b, b = w.heap.size := ⟨_, rfl⟩
  rw [← hbx] at hx1 ⊢
  have HNE : Hid (some bx ≠ v.ownBlock) := fun e => by have := (ownBlock_lt hv e.symm).2; omega
  have HGK1 : Hid (GK v.ownBlock w w1) := GK.below hb1 _
  have HX1 := Lib.hid hx1
  have q1 := fun o => cell_of hx1 o
  have l1 : bx < w1.heap.size := (Array.getElem?_eq_some_iff.1 hx1).1
  have n1 : bx ≠ w1.heap.size := by omega
  have hb1' : base ≤ w1.heap.size := Nat.le_trans hb hb1.size
  have HBX := Lib.hid hbx
  clear hw1 hb1 hx1 hv hbx
  go_wp2_with (at_builtin; refine wpList_append_own_at _ rfl _ _ 28 rfl base 5 i0 (.int .u8 0) 1 1 Tryz.underlying28 HI.out.1 HI.out.2.1 HI.out.2.2.1 HI.out.2.2.2 rfl (by decide) _ _ _ rfl (World.ownsRow.alloc HV1.out _) ⟨w1.heap.size, 0, none⟩ 1 1 [.int .u8 1] rfl rfl ?c1 ?c2 ?c3 ?c4 ?c5 ?_)
  case c1 => exact fun j u hj => news_last hj
  case c2 => intro u hu; simp only [List.mem_cons, List.not_mem_nil, or_false] at hu; subst hu; rfl
  case c3 => have h2 := HLE.out; unfold maxLen; omega
  case c4 => have h2 := HLE.out; omega
  case c5 => simp; omega
  intro v2 w2 hown2 hgrow _ hat
  have H2 := Lib.hid (push1 (k := 1) HGK1.out (NB.refl _ _) hown2 hgrow hat (Nat.le_succ _))
  have hx2 := box_far hgrow HNE.out HX1.out
  have HX2 := Lib.hid hx2
  have HNE2 := Lib.hid (ne_trans (w := w1) HNE.out (NB.at hat (Nat.le_succ _)) l1)
  have q2 := fun o => cell_of hx2 o
  have l2 : bx < w2.heap.size := (Array.getElem?_eq_some_iff.1 hx2).1
  have hb2' : base ≤ w2.heap.size := Nat.le_trans hb H2.out.2.1.2.2.2.1
  clear hown2 hgrow hat hx2 q1 n1 HX1 HNE HV1 HGK1
  go_wp2_with fail
  refine (bit_any true _).mono ?_
  rintro e w3 ⟨rfl, rfl⟩
  obtain ⟨cs, hcs⟩ : ∃ cs, cs = bs ++ [1] := ⟨_, rfl⟩
  rw [← hcs] at H2
  have HCS := Lib.hid hcs
  have HCL := Lib.hid (show cs.length = bs.length + 1 by rw [hcs]; simp)
  clear hcs
  simp only [bitI]
  go_wp2_with (at_builtin; refine wpList_append_own_at _ rfl _ _ 28 rfl base 5 i0 (.int .u8 0) 1 1 Tryz.underlying28 HI.out.1 HI.out.2.1 HI.out.2.2.1 HI.out.2.2.2 rfl (by decide) _ _ _ rfl (World.ownsRow.alloc H2.out.1 _) ⟨_, 0, none⟩ 1 1 [.int .u8 1] rfl rfl ?c1 ?c2 ?c3 ?c4 ?c5 ?_)
  case c1 => exact fun j u hj => news_last hj
  case c2 => intro u hu; simp only [List.mem_cons, List.not_mem_nil, or_false] at hu; subst hu; rfl
  case c3 => have h2 := HLE.out; have h3 := HCL.out; unfold maxLen; omega
  case c4 => have h2 := HLE.out; have h3 := HCL.out; omega
  case c5 => simp; omega
  intro v4 w4 hown4 hgrow4 _ hat4
  have H4 := Lib.hid (push1 (k := 1) H2.out.2.1 H2.out.2.2 hown4 hgrow4 hat4 (Nat.le_succ _))
  rw [HCS.out, List.append_assoc] at H4
  clear hown4 hgrow4 hat4 q2
  go_wp2_with fail
  go_ret
  exact ⟨v4, rfl, H4.out.1, H4.out.2.1, H4.out.2.2⟩
set_option maxHeartbeats 800000 in
theorem lay_1f (a : Option Addr) (c : Nat) (w : World) (base B : Nat) (v : Value) (bs : List Nat) (hb : base ≤ w.heap.size) (hB : B ≤ base) (hv : bytesR w base v bs) (hlen : bs.length + 2 ≤ 35184372088832) : Calls Tryz.prog 18 #[v, .agg #[.int .i64 1, .bool false, .int .i64 0, .string { data := #[] }, .slice a 0 c]] w fun e w' => ∃ v', e = .returned v' ∧ bytesR w' base v' (bs ++ [1, 0]) ∧ GK v.ownBlock w w' ∧ NB v.ownBlock w v'.ownBlock := by
  obtain ⟨i0, hi, hz0, hz1, hz2⟩ := info_parts binfo
  have HI := Lib.hid (And.intro hi (And.intro hz0 (And.intro hz1 hz2)))
  have HLE := Lib.hid hlen
  have HVV := Lib.hid hv
  have HBB := Lib.hid (And.intro hb hB)
  clear hi hz0 hz1 hz2 hlen
  go_enter Tryz.func18, Tryz.ntmps18
  go_upto_region 1 with fail
  obtain ⟨w1, hw1⟩ : ∃ u, u = w.alloc (.cells #[.int .i64 1, .bool false, .int .i64 0, .string { data := #[] }, .slice a 0 c] 33) := ⟨_, rfl⟩
  have hb1 : Below w.heap.size w w1 := by rw [hw1]; exact (Below.refl _ _).alloc (Nat.le_refl _) _
  have hx1 : w1.heap[w.heap.size]? = some (.cells #[.int .i64 1, .bool false, .int .i64 0, .string { data := #[] }, .slice a 0 c] 33 (0, 0)) := by rw [hw1]; exact heap_last
  have HV1 : Hid (bytesR w1 base v bs) := by rw [hw1]; exact World.ownsRow.alloc hv _
  rw [← hw1]
  obtain ⟨bx, hbx⟩ : ∃ b, b = w.heap.size := ⟨_, rfl⟩
  rw [← hbx] at hx1 ⊢
  have HNE : Hid (some bx ≠ v.ownBlock) := fun e => by have := (ownBlock_lt hv e.symm).2; omega
  have HGK1 : Hid (GK v.ownBlock w w1) := GK.below hb1 _
  have HX1 := Lib.hid hx1
  have q1 := fun o => cell_of hx1 o
  have l1 : bx < w1.heap.size := (Array.getElem?_eq_some_iff.1 hx1).1
  have n1 : bx ≠ w1.heap.size := by omega
  have hb1' : base ≤ w1.heap.size := Nat.le_trans hb hb1.size
  have HBX := Lib.hid hbx
  clear hw1 hb1 hx1 hv hbx
  go_wp2_with (at_builtin; refine wpList_append_own_at _ rfl _ _ 28 rfl base 5 i0 (.int .u8 0) 1 1 Tryz.underlying28 HI.out.1 HI.out.2.1 HI.out.2.2.1 HI.out.2.2.2 rfl (by decide) _ _ _ rfl (World.ownsRow.alloc HV1.out _) ⟨w1.heap.size, 0, none⟩ 1 1 [.int .u8 1] rfl rfl ?c1 ?c2 ?c3 ?c4 ?c5 ?_)
  case c1 => exact fun j u hj => news_last hj
  case c2 => intro u hu; simp only [List.mem_cons, List.not_mem_nil, or_false] at hu; subst hu; rfl
  case c3 => have h2 := HLE.out; unfold maxLen; omega
  case c4 => have h2 := HLE.out; omega
  case c5 => simp; omega
  intro v2 w2 hown2 hgrow _ hat
  have H2 := Lib.hid (push1 (k := 1) HGK1.out (NB.refl _ _) hown2 hgrow hat (Nat.le_succ _))
  have hx2 := box_far hgrow HNE.out HX1.out
  have HX2 := Lib.hid hx2
  have HNE2 := Lib.hid (ne_trans (w := w1) HNE.out (NB.at hat (Nat.le_succ _)) l1)
  have q2 := fun o => cell_of hx2 o
  have l2 : bx < w2.heap.size := (Array.getElem?_eq_some_iff.1 hx2).1
  have hb2' : base ≤ w2.heap.size := Nat.le_trans hb H2.out.2.1.2.2.2.1
  clear hown2 hgrow hat hx2 q1 n1 HX1 HNE HV1 HGK1
  go_wp2_with fail
  refine (bit_any false _).mono ?_
  rintro e w3 ⟨rfl, rfl⟩
  obtain ⟨cs, hcs⟩ : ∃ cs, cs = bs ++ [1] := ⟨_, rfl⟩
  rw [← hcs] at H2
  have HCS := Lib.hid hcs
  have HCL := Lib.hid (show cs.length = bs.length + 1 by rw [hcs]; simp)
  clear hcs
  simp only [bitI]
  go_wp2_with (at_builtin; refine wpList_append_own_at _ rfl _ _ 28 rfl base 5 i0 (.int .u8 0) 1 1 Tryz.underlying28 HI.out.1 HI.out.2.1 HI.out.2.2.1 HI.out.2.2.2 rfl (by decide) _ _ _ rfl (World.ownsRow.alloc H2.out.1 _) ⟨_, 0, none⟩ 1 1 [.int .u8 0] rfl rfl ?c1 ?c2 ?c3 ?c4 ?c5 ?_)
  case c1 => exact fun j u hj => news_last hj
  case c2 => intro u hu; simp only [List.mem_cons, List.not_mem_nil, or_false] at hu; subst hu; rfl
  case c3 => have h2 := HLE.out; have h3 := HCL.out; unfold maxLen; omega
  case c4 => have h2 := HLE.out; have h3 := HCL.out; omega
  case c5 => simp; omega
  intro v4 w4 hown4 hgrow4 _ hat4
  have H4 := Lib.hid (push1 (k := 0) H2.out.2.1 H2.out.2.2 hown4 hgrow4 hat4 (Nat.le_succ _))
  rw [HCS.out, List.append_assoc] at H4
  clear hown4 hgrow4 hat4 q2
  go_wp2_with fail
  go_ret
  exact ⟨v4, rfl, H4.out.1, H4.out.2.1, H4.out.2.2⟩
set_option maxHeartbeats 800000 in
theorem lay_2 (n : Int) (a : Option Addr) (c : Nat) (w : World) (base B : Nat) (v : Value) (bs : List Nat) (hb : base ≤ w.heap.size) (hB : B ≤ base) (hv : bytesR w base v bs) (hlen : bs.length + 9 ≤ 35184372088832) : Calls Tryz.prog 18 #[v, .agg #[.int .i64 2, .bool false, .int .i64 n, .string { data := #[] }, .slice a 0 c]] w fun e w' => ∃ v', e = .returned v' ∧ bytesR w' base v' (bs ++ (2 :: beN (toU n) 8)) ∧ GK v.ownBlock w w' ∧ NB v.ownBlock w v'.ownBlock := by
  obtain ⟨i0, hi, hz0, hz1, hz2⟩ := info_parts binfo
  have HI := Lib.hid (And.intro hi (And.intro hz0 (And.intro hz1 hz2)))
  have HLE := Lib.hid hlen
  have HVV := Lib.hid hv
  have HBB := Lib.hid (And.intro hb hB)
  clear hi hz0 hz1 hz2 hlen
  go_enter Tryz.func18, Tryz.ntmps18
  go_upto_region 1 with fail
  obtain ⟨w1, hw1⟩ : ∃ u, u = w.alloc (.cells #[.int .i64 2, .bool false, .int .i64 n, .string { data := #[] }, .slice a 0 c] 33) := ⟨_, rfl⟩
  have hb1 : Below w.heap.size w w1 := by rw [hw1]; exact (Below.refl _ _).alloc (Nat.le_refl _) _
  have hx1 : w1.heap[w.heap.size]? = some (.cells #[.int .i64 2, .bool false, .int .i64 n, .string { data := #[] }, .slice a 0 c] 33 (0, 0)) := by rw [hw1]; exact heap_last
  have HV1 : Hid (bytesR w1 base v bs) := by rw [hw1]; exact World.ownsRow.alloc hv _
  rw [← hw1]
  obtain ⟨bx, hbx⟩ : ∃ b, b = w.heap.size := ⟨_, rfl⟩
  rw [← hbx] at hx1 ⊢
  have HNE : Hid (some bx ≠ v.ownBlock) := fun e => by have := (ownBlock_lt hv e.symm).2; omega
  have HGK1 : Hid (GK v.ownBlock w w1) := GK.below hb1 _
  have HX1 := Lib.hid hx1
  have q1 := fun o => cell_of hx1 o
  have l1 : bx < w1.heap.size := (Array.getElem?_eq_some_iff.1 hx1).1
  have n1 : bx ≠ w1.heap.size := by omega
  have hb1' : base ≤ w1.heap.size := Nat.le_trans hb hb1.size
  have HBX := Lib.hid hbx
  clear hw1 hb1 hx1 hv hbx
  go_wp2_with (at_builtin; refine wpList_append_own_at _ rfl _ _ 28 rfl base 5 i0 (.int .u8 0) 1 1 Tryz.underlying28 HI.out.1 HI.out.2.1 HI.out.2.2.1 HI.out.2.2.2 rfl (by decide) _ _ _ rfl (World.ownsRow.alloc HV1.out _) ⟨w1.heap.size, 0, none⟩ 1 1 [.int .u8 2] rfl rfl ?c1 ?c2 ?c3 ?c4 ?c5 ?_)
  case c1 => exact fun j u hj => news_last hj
  case c2 => intro u hu; simp only [List.mem_cons, List.not_mem_nil, or_false] at hu; subst hu; rfl
  case c3 => have h2 := HLE.out; unfold maxLen; omega
  case c4 => have h2 := HLE.out; omega
  case c5 => simp; omega
  intro v2 w2 hown2 hgrow _ hat
  have H2 := Lib.hid (push1 (k := 2) HGK1.out (NB.refl _ _) hown2 hgrow hat (Nat.le_succ _))
  have hx2 := box_far hgrow HNE.out HX1.out
  have HX2 := Lib.hid hx2
  have HNE2 := Lib.hid (ne_trans (w := w1) HNE.out (NB.at hat (Nat.le_succ _)) l1)
  have q2 := fun o => cell_of hx2 o
  have l2 : bx < w2.heap.size := (Array.getElem?_eq_some_iff.1 hx2).1
  have hb2' : base ≤ w2.heap.size := Nat.le_trans hb H2.out.2.1.2.2.2.1
  clear hown2 hgrow hat hx2 q1 n1 HX1 HNE HV1 HGK1
  obtain ⟨N, hN⟩ : ∃ N, N = toU n := ⟨_, rfl⟩
  have hn : IntKind.u64.wrap n = (N : Int) := by
    rw [hN]
    show n % 18446744073709551616 = _
    unfold toU; omega
  have HN := Lib.hid hN
  clear hN
  go_wp2_with fail
  try rw [hn]
  refine (big_b N base 8 (bs ++ [2]) (by have := HLE.out; simp; omega) (by omega) v2 w2 hb2' H2.out.1).mono ?_
  rintro e w3 ⟨v3, rfl, h31, h32, h33⟩
  have H3 : Hid (bytesR w3 base v3 (bs ++ 2 :: beN (toU n) 8) ∧ GK v.ownBlock w w3 ∧ NB v.ownBlock w v3.ownBlock) := by
    rw [← HN.out]
    refine ⟨?_, H2.out.2.1.trans H2.out.2.2 h32, H2.out.2.2.trans H2.out.2.1.2.2.2.1 h33⟩
    rw [List.append_assoc] at h31
    exact h31
  clear h31 h32 h33 q2
  go_wp2_with fail
  go_ret
  exact ⟨v3, rfl, H3.out.1, H3.out.2.1, H3.out.2.2⟩
set_option maxHeartbeats 800000 in
theorem lay_5 (n : Int) (a : Option Addr) (c : Nat) (w : World) (base B : Nat) (v : Value) (bs : List Nat) (hb : base ≤ w.heap.size) (hB : B ≤ base) (hv : bytesR w base v bs) (hlen : bs.length + 9 ≤ 35184372088832) : Calls Tryz.prog 18 #[v, .agg #[.int .i64 5, .bool false, .int .i64 n, .string { data := #[] }, .slice a 0 c]] w fun e w' => ∃ v', e = .returned v' ∧ bytesR w' base v' (bs ++ (5 :: beN (toU n) 8)) ∧ GK v.ownBlock w w' ∧ NB v.ownBlock w v'.ownBlock := by
  obtain ⟨i0, hi, hz0, hz1, hz2⟩ := info_parts binfo
  have HI := Lib.hid (And.intro hi (And.intro hz0 (And.intro hz1 hz2)))
  have HLE := Lib.hid hlen
  have HVV := Lib.hid hv
  have HBB := Lib.hid (And.intro hb hB)
  clear hi hz0 hz1 hz2 hlen
  go_enter Tryz.func18, Tryz.ntmps18
  go_upto_region 1 with fail
  obtain ⟨w1, hw1⟩ : ∃ u, u = w.alloc (.cells #[.int .i64 5, .bool false, .int .i64 n, .string { data := #[] }, .slice a 0 c] 33) := ⟨_, rfl⟩
  have hb1 : Below w.heap.size w w1 := by rw [hw1]; exact (Below.refl _ _).alloc (Nat.le_refl _) _
  have hx1 : w1.heap[w.heap.size]? = some (.cells #[.int .i64 5, .bool false, .int .i64 n, .string { data := #[] }, .slice a 0 c] 33 (0, 0)) := by rw [hw1]; exact heap_last
  have HV1 : Hid (bytesR w1 base v bs) := by rw [hw1]; exact World.ownsRow.alloc hv _
  rw [← hw1]
  obtain ⟨bx, hbx⟩ : ∃ b, b = w.heap.size := ⟨_, rfl⟩
  rw [← hbx] at hx1 ⊢
  have HNE : Hid (some bx ≠ v.ownBlock) := fun e => by have := (ownBlock_lt hv e.symm).2; omega
  have HGK1 : Hid (GK v.ownBlock w w1) := GK.below hb1 _
  have HX1 := Lib.hid hx1
  have q1 := fun o => cell_of hx1 o
  have l1 : bx < w1.heap.size := (Array.getElem?_eq_some_iff.1 hx1).1
  have n1 : bx ≠ w1.heap.size := by omega
  have hb1' : base ≤ w1.heap.size := Nat.le_trans hb hb1.size
  have HBX := Lib.hid hbx
  clear hw1 hb1 hx1 hv hbx
  go_wp2_with (at_builtin; refine wpList_append_own_at _ rfl _ _ 28 rfl base 5 i0 (.int .u8 0) 1 1 Tryz.underlying28 HI.out.1 HI.out.2.1 HI.out.2.2.1 HI.out.2.2.2 rfl (by decide) _ _ _ rfl (World.ownsRow.alloc HV1.out _) ⟨w1.heap.size, 0, none⟩ 1 1 [.int .u8 5] rfl rfl ?c1 ?c2 ?c3 ?c4 ?c5 ?_)
  case c1 => exact fun j u hj => news_last hj
  case c2 => intro u hu; simp only [List.mem_cons, List.not_mem_nil, or_false] at hu; subst hu; rfl
  case c3 => have h2 := HLE.out; unfold maxLen; omega
  case c4 => have h2 := HLE.out; omega
  case c5 => simp; omega
  intro v2 w2 hown2 hgrow _ hat
  have H2 := Lib.hid (push1 (k := 5) HGK1.out (NB.refl _ _) hown2 hgrow hat (Nat.le_succ _))
  have hx2 := box_far hgrow HNE.out HX1.out
  have HX2 := Lib.hid hx2
  have HNE2 := Lib.hid (ne_trans (w := w1) HNE.out (NB.at hat (Nat.le_succ _)) l1)
  have q2 := fun o => cell_of hx2 o
  have l2 : bx < w2.heap.size := (Array.getElem?_eq_some_iff.1 hx2).1
  have hb2' : base ≤ w2.heap.size := Nat.le_trans hb H2.out.2.1.2.2.2.1
  clear hown2 hgrow hat hx2 q1 n1 HX1 HNE HV1 HGK1
  obtain ⟨N, hN⟩ : ∃ N, N = toU n := ⟨_, rfl⟩
  have hn : IntKind.u64.wrap n = (N : Int) := by
    rw [hN]
    show n % 18446744073709551616 = _
    unfold toU; omega
  have HN := Lib.hid hN
  clear hN
  go_wp2_with fail
  try rw [hn]
  refine (big_b N base 8 (bs ++ [5]) (by have := HLE.out; simp; omega) (by omega) v2 w2 hb2' H2.out.1).mono ?_
  rintro e w3 ⟨v3, rfl, h31, h32, h33⟩
  have H3 : Hid (bytesR w3 base v3 (bs ++ 5 :: beN (toU n) 8) ∧ GK v.ownBlock w w3 ∧ NB v.ownBlock w v3.ownBlock) := by
    rw [← HN.out]
    refine ⟨?_, H2.out.2.1.trans H2.out.2.2 h32, H2.out.2.2.trans H2.out.2.1.2.2.2.1 h33⟩
    rw [List.append_assoc] at h31
    exact h31
  clear h31 h32 h33 q2
  go_wp2_with fail
  go_ret
  exact ⟨v3, rfl, H3.out.1, H3.out.2.1, H3.out.2.2⟩
set_option maxHeartbeats 1600000 in
theorem lay_4 (l : List GV) (hl : l.length ≤ 4096) (h : ∀ y ∈ l, LayC y) (w : World) (base B : Nat) (a : Option Addr) (c : Nat) (v : Value) (bs : List Nat) (hb : base ≤ w.heap.size) (hB : B ≤ base) (hs : isL w 0 B (.slice a l.length c) l) (hv : bytesR w base v bs) (hlen : bs.length + 5 + (encL l).length ≤ 35184372088832) :
    Calls Tryz.prog 18 #[v, .agg #[.int .i64 4, .bool false, .int .i64 0, .string { data := #[] }, .slice a l.length c]] w fun e w' => ∃ v', e = .returned v' ∧ bytesR w' base v' (bs ++ (4 :: (beN l.length 4 ++ encL l))) ∧ GK v.ownBlock w w' ∧ NB v.ownBlock w v'.ownBlock := by
  have HS := Lib.hid hs
  have HH := Lib.hid h
  clear hs h
  obtain ⟨i0, hi, hz0, hz1, hz2⟩ := info_parts binfo
  have HI := Lib.hid (And.intro hi (And.intro hz0 (And.intro hz1 hz2)))
  have HLE := Lib.hid hlen
  have HVV := Lib.hid hv
  have HBB := Lib.hid (And.intro hb hB)
  clear hi hz0 hz1 hz2 hlen
  go_enter Tryz.func18, Tryz.ntmps18
  go_upto_region 1 with fail
  obtain ⟨w1, hw1⟩ : ∃ u, u = w.alloc (.cells #[.int .i64 4, .bool false, .int .i64 0, .string { data := #[] }, .slice a l.length c] 33) := ⟨_, rfl⟩
  have hb1 : Below w.heap.size w w1 := by rw [hw1]; exact (Below.refl _ _).alloc (Nat.le_refl _) _
  have hx1 : w1.heap[w.heap.size]? = some (.cells #[.int .i64 4, .bool false, .int .i64 0, .string { data := #[] }, .slice a l.length c] 33 (0, 0)) := by rw [hw1]; exact heap_last
  have HV1 : Hid (bytesR w1 base v bs) := by rw [hw1]; exact World.ownsRow.alloc hv _
  rw [← hw1]
  obtain ⟨bx, hbx⟩ : ∃ b, b = w.heap.size := ⟨_, rfl⟩
  rw [← hbx] at hx1 ⊢
  have HNE : Hid (some bx ≠ v.ownBlock) := fun e => by have := (ownBlock_lt hv e.symm).2; omega
  have HGK1 : Hid (GK v.ownBlock w w1) := GK.below hb1 _
  have HX1 := Lib.hid hx1
  have q1 := fun o => cell_of hx1 o
  have l1 : bx < w1.heap.size := (Array.getElem?_eq_some_iff.1 hx1).1
  have n1 : bx ≠ w1.heap.size := by omega
  have hb1' : base ≤ w1.heap.size := Nat.le_trans hb hb1.size
  have HBX := Lib.hid hbx
  clear hw1 hb1 hx1 hv hbx
  go_wp2_with (at_builtin; refine wpList_append_own_at _ rfl _ _ 28 rfl base 5 i0 (.int .u8 0) 1 1 Tryz.underlying28 HI.out.1 HI.out.2.1 HI.out.2.2.1 HI.out.2.2.2 rfl (by decide) _ _ _ rfl (World.ownsRow.alloc HV1.out _) ⟨w1.heap.size, 0, none⟩ 1 1 [.int .u8 4] rfl rfl ?c1 ?c2 ?c3 ?c4 ?c5 ?_)
  case c1 => exact fun j u hj => news_last hj
  case c2 => intro u hu; simp only [List.mem_cons, List.not_mem_nil, or_false] at hu; subst hu; rfl
  case c3 => have h2 := HLE.out; unfold maxLen; omega
  case c4 => have h2 := HLE.out; omega
  case c5 => simp; omega
  intro v2 w2 hown2 hgrow _ hat
  have H2 := Lib.hid (push1 (k := 4) HGK1.out (NB.refl _ _) hown2 hgrow hat (Nat.le_succ _))
  have hx2 := box_far hgrow HNE.out HX1.out
  have HX2 := Lib.hid hx2
  have HNE2 := Lib.hid (ne_trans (w := w1) HNE.out (NB.at hat (Nat.le_succ _)) l1)
  have q2 := fun o => cell_of hx2 o
  have l2 : bx < w2.heap.size := (Array.getElem?_eq_some_iff.1 hx2).1
  have hb2' : base ≤ w2.heap.size := Nat.le_trans hb H2.out.2.1.2.2.2.1
  clear hown2 hgrow hat hx2 q1 n1 HX1 HNE HV1 HGK1
  go_wp2_with fail
  refine (big_b l.length base 4 (bs ++ [4]) (by have := HLE.out; simp; omega) (by omega) v2 w2 hb2' H2.out.1).mono ?_
  rintro e w3 ⟨v3, rfl, h31, h32, h33⟩
  have H3 : Hid (bytesR w3 base v3 ((bs ++ [4] ++ beN l.length 4) ++ encL (l.take 0)) ∧ GK v.ownBlock w w3 ∧ NB v.ownBlock w v3.ownBlock) := by
    refine ⟨?_, H2.out.2.1.trans H2.out.2.2 h32, H2.out.2.2.trans H2.out.2.1.2.2.2.1 h33⟩
    rw [List.take_zero, encL, List.append_nil]
    exact h31
  have hx3 := (h32.far l2 HNE2.out).trans HX2.out
  have q3 := fun o => cell_of hx3 o
  have l3 : bx < w3.heap.size := (Array.getElem?_eq_some_iff.1 hx3).1
  obtain ⟨pr, hpr⟩ : ∃ p, p = bs ++ [4] ++ beN l.length 4 := ⟨_, rfl⟩
  have HPL := Lib.hid (show pr.length = bs.length + 5 by rw [hpr]; simp [beN_length])
  rw [← hpr] at H3
  have HPR := Lib.hid hpr
  clear h31 h32 h33 q2 hx3 hpr HX2 HNE2 H2
  obtain ⟨a', c', b1, o1, e1, hcc, ha, hA⟩ := isL_open HS.out
  cases e1
  have Ha := Lib.hid ha
  have HA := Lib.hid hA
  clear ha hA
  go_wp2_with fail
  go_loopw [0, 54] (fun u i wr => ∃ k : Nat, k ≤ l.length ∧ i = .int .i64 k ∧ Hid (bytesR wr base u (pr ++ encL (l.take k)) ∧ GK v.ownBlock w wr ∧ NB v.ownBlock w u.ownBlock)) (fun _ i _ => l.length - (intOf i).toNat)
  case atStart => exact ⟨0, Nat.zero_le _, rfl, H3⟩
  case round =>
    obtain ⟨k, hk, rfl, HU⟩ := hrel
    by_cases hlt : k < l.length
    rotate_left
    · obtain rfl : k = l.length := by omega
      go_wp2_with fail
      go_ret
      have hu := HU.out
      rw [List.take_of_length_le (Nat.le_refl _), HPR.out] at hu
      refine ⟨_, rfl, ?_, hu.2.1, hu.2.2⟩
      have e : bs ++ 4 :: (beN l.length 4 ++ encL l) = bs ++ [4] ++ beN l.length 4 ++ encL l := by simp
      rw [e]
      exact hu.1
    obtain ⟨rfl, hbb1, hbb2⟩ := Ha.out (by omega)
    obtain ⟨ax, cx, x0, x1, x2, x3, x4, hsx⟩ := cellsV_slice (HA.out k hlt)
    have hbel : Below base w wr := HU.out.2.1.isBelow HVV.out HBB.out.1
    have hg : ∀ o, wr.cell? ⟨b1, o, none⟩ = w.cell? ⟨b1, o, none⟩ := fun o => hbel.cell (p := ⟨b1, o, none⟩) (Nat.lt_of_lt_of_le hbb2 HBB.out.2)
    have hz : b1 < wr.heap.size := Nat.lt_of_lt_of_le (Nat.lt_of_lt_of_le hbb2 (Nat.le_trans HBB.out.2 HBB.out.1)) hbel.size
    have HSX := Lib.hid (isL_below hsx hbel HBB.out.2)
    have HBEL := Lib.hid hbel
    clear hsx hbel
    go_upto_region 15 with fail
    obtain ⟨w4, hw4⟩ : ∃ u, u = wr.alloc (.cells #[.int .i64 l[k].k, .bool l[k].b, .int .i64 l[k].n, .string l[k].t, .slice ax l[k].l.length cx] 33) := ⟨_, rfl⟩
    have hb4 : Below wr.heap.size wr w4 := by rw [hw4]; exact (Below.refl _ _).alloc (Nat.le_refl _) _
    have hx4 : w4.heap[wr.heap.size]? = some (.cells #[.int .i64 l[k].k, .bool l[k].b, .int .i64 l[k].n, .string l[k].t, .slice ax l[k].l.length cx] 33 (0, 0)) := by rw [hw4]; exact heap_last
    have HV4 : Hid (bytesR w4 base u0 (pr ++ encL (l.take k))) := by rw [hw4]; exact World.ownsRow.alloc HU.out.1 _
    rw [← hw4]
    have q4 := fun o => cell_of hx4 o
    have l4 : wr.heap.size < w4.heap.size := (Array.getElem?_eq_some_iff.1 hx4).1
    have hb4' : base ≤ w4.heap.size := Nat.le_trans (Nat.le_trans HBB.out.1 HBEL.out.size) hb4.size
    have HG4 : Hid (GK v.ownBlock w w4) := HU.out.2.1.trans HU.out.2.2 (GK.below hb4 _)
    have HSX4 := Lib.hid (isL_below HSX.out hb4 (Nat.le_trans (Nat.le_trans HBB.out.2 HBB.out.1) HBEL.out.size))
    clear hw4 hb4 hx4 hg hz x0 x1 x2 x3 x4 Ha
    go_wp2_with fail
    refine (HH.out l[k] (List.getElem_mem hlt) (.slice ax l[k].l.length cx) w4 base B u0 (pr ++ encL (l.take k)) hb4' HBB.out.2 HSX4.out HV4.out ?hln).mono ?_
    case hln =>
      have h1 := encL_take_le l (k + 1)
      rw [encL_take l k hlt, List.length_append] at h1
      have h2 := HPL.out
      have h3 := HLE.out
      rw [List.length_append]
      omega
    rintro e w5 ⟨v5, rfl, h51, h52, h53⟩
    have H5 : Hid (bytesR w5 base v5 (pr ++ encL (l.take (k + 1))) ∧ GK v.ownBlock w w5 ∧ NB v.ownBlock w v5.ownBlock) := by
      refine ⟨?_, HG4.out.trans HU.out.2.2 h52, HU.out.2.2.trans HG4.out.2.2.2.1 h53⟩
      rw [encL_take l k hlt, ← List.append_assoc]
      exact h51
    clear h51 h52 h53 q4
    go_wp2_with fail
    go_roundw
    case rel => exact ⟨k + 1, by omega, by go_num, H5⟩
    case measure => simp [intOf]; omega
end Go.Proofs.YtkpfaeodgjbodaaGreatDoor
