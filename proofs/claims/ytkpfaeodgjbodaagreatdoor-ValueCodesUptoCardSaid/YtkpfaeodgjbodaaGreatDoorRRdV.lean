/-
  The reference's reading of a value from bytes, kind by kind: it tells what rdec tells, and what is left; or the reader is bad. Conditions: fewer than 2^31 bytes.
-/
import Derived.Test.YtkpfaeodgjbodaaGreatDoorRNum
import Derived.Laws.BytesArg
namespace Go.Proofs.YtkpfaeodgjbodaaGreatDoor
open Go Go.RowKit
set_option maxRecDepth 100000
set_option linter.unusedVariables false
def RrP (w' : World) (rb hi : Nat) (y : GV) (o : Option (GV × List Nat)) : Prop := match o with
  | none => RBad w' rb
  | some (v, r) => y = v ∧ RGood w' rb hi r
def RrO (w : World) (rb hi : Nat) (o : Option (GV × List Nat)) (e : Ending) (w' : World) : Prop := ∃ (y : GV) (ay : Option Addr) (cy : Nat), e = .returned (y.agg (.slice ay y.l.length cy)) ∧ isR w' (since w.heap.size w') (.slice ay y.l.length cy) y.l ∧ Kg rb w w' ∧ RrP w' rb hi y o
def RrC (d : Nat) : Prop := ∀ (rb hi : Nat) (a : Option Addr) (c : Nat) (bs : List Nat) (w : World), w.heap[rb]? = some (.cells #[.slice a bs.length c, .bool false] 53 (0, 0)) → hi ≤ rb → isB w hi a bs → bs.length ≤ c → (∀ b ∈ bs, b < 256) → bs.length ≤ 2147483647 →
  Calls Tryz.prog 22 #[.pointer (some ⟨rb, 0, none⟩), .int .i64 d] w (RrO w rb hi (rdec (32 - d) bs))
/-- a flat answer, the result's box written -/
theorem rr_end {w w5 : World} {rb hi b : Nat} {k n : Int} {bb : Bool} {t : ByteArray} {o : Option (GV × List Nat)} (hk : Kg rb w w5) (hb : w.heap.size ≤ b) (hrb : rb < w.heap.size) (hhi : hi ≤ rb) (hp : RrP w5 rb hi ⟨k, bb, n, t, []⟩ o) :
    RrO w rb hi o (.returned (.agg #[.int .i64 k, .bool bb, .int .i64 n, .string t, .slice none 0 0])) (((((w5.setCell ⟨b, 0, none⟩ (.int .i64 k)).setCell ⟨b, 1, none⟩ (.bool bb)).setCell ⟨b, 2, none⟩ (.int .i64 n)).setCell ⟨b, 3, none⟩ (.string t)).setCell ⟨b, 4, none⟩ (.slice none 0 0)) := by
  refine ⟨⟨k, bb, n, t, []⟩, none, 0, rfl, isR_nil _ _, kg_five hk hb _ _ _ _ _, ?_⟩
  have hne : rb ≠ b := by omega
  unfold RrP at hp ⊢
  cases o with
  | none =>
    obtain ⟨a, n, c, h⟩ := hp
    exact ⟨a, n, c, by rw [far5R hne]; exact h⟩
  | some p =>
    obtain ⟨v, r⟩ := p
    obtain ⟨e, a, c, h1, h2, h3⟩ := hp
    exact ⟨e, a, c, by rw [far5R hne]; exact h1, isB_far h2 (fun b' hb' => far5R (by omega)), h3⟩
set_option maxHeartbeats 1600000 in
theorem rr_none (rb hi : Nat) (a : Option Addr) (c : Nat) (w : World) (d : Nat) (hd : d ≤ 31) (bs : List Nat) (hbs : bs = []) (hh : w.heap[rb]? = some (.cells #[.slice a bs.length c, .bool false] 53 (0, 0))) (hhi : hi ≤ rb) (hB : isB w hi a bs) (hc : bs.length ≤ c) (hb : ∀ b ∈ bs, b < 256) (hl : bs.length ≤ 2147483647) : Calls Tryz.prog 22 #[.pointer (some ⟨rb, 0, none⟩), .int .i64 d] w (RrO w rb hi none) := by
  have l0 : rb < w.heap.size := (Array.getElem?_eq_some_iff.1 hh).1
  have HBY := Lib.hid hb
  have HBS := Lib.hid hbs
  have HH := Lib.hid hh
  have HB := Lib.hid hB
  clear hh hB hb hbs
  go_enter Tryz.func22, Tryz.ntmps22
  go_upto_region 1 with fail
  obtain ⟨w0, hw0⟩ : ∃ v, v = w.alloc (.cells #[.int .i64 0, .bool false, .int .i64 0, .string { data := #[] }, .slice none 0 0] 33) := ⟨_, rfl⟩
  have hb0 : Below w.heap.size w w0 := by rw [hw0]; exact (Below.refl _ _).alloc (Nat.le_refl _) _
  have hx0 : w0.heap[w.heap.size]? = some (.cells #[.int .i64 0, .bool false, .int .i64 0, .string { data := #[] }, .slice none 0 0] 33 (0, 0)) := by rw [hw0]; exact heap_last
  rw [← hw0]
  obtain ⟨bA, hbA⟩ : ∃ b, b = w.heap.size := ⟨_, rfl⟩
  rw [← hbA] at hx0 ⊢
  have HBA := Lib.hid hbA
  have HX0 := Lib.hid hx0
  have HK0 := Lib.hid ((Kg.refl rb w).below hb0)
  have HR0 := Lib.hid ((hb0.block rb l0).trans HH.out)
  have HB0 : Hid (isB w0 hi a bs) := isB_far HB.out (fun b hb => hb0.block b (by omega))
  have l1 : bA < w0.heap.size := (Array.getElem?_eq_some_iff.1 hx0).1
  clear hw0 hb0 hx0 hbA
  go_wp2_with fail
  refine (rnum_any rb hi a c bs 1 w0 HR0.out hhi HB0.out hc HBY.out (by omega)).mono ?_
  rintro e w1 ⟨hn, hk1⟩
  rw [HBS.out] at hn
  rw [show takeN 1 [] = none from rfl] at hn
  obtain ⟨rfl, a1, n1, c1, hr1⟩ := hn
  have HK1 := Lib.hid (HK0.out.trans hk1)
  have hx1 := kg_at hk1 HX0.out (by have := HBA.out; omega)
  have l2 : bA < w1.heap.size := (Array.getElem?_eq_some_iff.1 hx1).1
  go_upto_region 2 with fail
  obtain ⟨w2, hw2⟩ : ∃ v, v = w1.alloc (.cells #[.int .i64 0, .bool false, .int .i64 0, .string { data := #[] }, .slice none 0 0] 33) := ⟨_, rfl⟩
  have hb2 : Below w1.heap.size w1 w2 := by rw [hw2]; exact (Below.refl _ _).alloc (Nat.le_refl _) _
  have hx2 : w2.heap[w1.heap.size]? = some (.cells #[.int .i64 0, .bool false, .int .i64 0, .string { data := #[] }, .slice none 0 0] 33 (0, 0)) := by rw [hw2]; exact heap_last
  rw [← hw2]
  obtain ⟨bX, hbX⟩ : ∃ b, b = w1.heap.size := ⟨_, rfl⟩
  rw [← hbX] at hx2 ⊢
  have HBX := Lib.hid (show bA < bX ∧ rb < bA by have := HBA.out; omega)
  have HK2 := Lib.hid (HK1.out.below hb2)
  have HA2 := Lib.hid ((hb2.block bA l2).trans hx1)
  have l3 : rb < w1.heap.size := (Array.getElem?_eq_some_iff.1 hr1).1
  have HR2 := Lib.hid ((hb2.block rb l3).trans hr1)
  have HX2 := Lib.hid hx2
  clear hw2 hb2 hx1 hr1 hbX hk1 l1 l2 l3 HK1 HK0 HX0 HR0 HB0
  have r2 := fun o => cell_of HR2.out o
  have fr2 := fun o => frozen_of HR2.out o
  have lr2 : rb < w2.heap.size := (Array.getElem?_eq_some_iff.1 HR2.out).1
  have p2 := fun o => cell_of HA2.out o
  have fp2 := fun o => frozen_of HA2.out o
  have lp2 : bA < w2.heap.size := (Array.getElem?_eq_some_iff.1 HA2.out).1
  have x2 := fun o => cell_of HX2.out o
  have fx2 := fun o => frozen_of HX2.out o
  have lx2 : bX < w2.heap.size := (Array.getElem?_eq_some_iff.1 HX2.out).1
  have nAX : bA ≠ bX := by have := HBX.out; omega
  have nRA : rb ≠ bA := by have := HBX.out; omega
  have nRX : rb ≠ bX := by have := HBX.out; omega
  have nXA : bX ≠ bA := by have := HBX.out; omega
  go_wp2_with fail
  refine bodyPost_ret (v := .agg #[.int .i64 0, .bool false, .int .i64 0, .string { data := #[] }, .slice none 0 0]) (by simp [results, Tryz.results22, go_sem, p2]) rfl ?_
  exact rr_end HK2.out (by have := HBA.out; omega) l0 hhi ⟨_, _, _, HR2.out⟩
set_option maxHeartbeats 1600000 in
theorem rr_0 (q : List Nat) (rb hi : Nat) (a : Option Addr) (c : Nat) (w : World) (d : Nat) (hd : d ≤ 31) (bs : List Nat) (hbs : bs = 0 :: q) (hh : w.heap[rb]? = some (.cells #[.slice a bs.length c, .bool false] 53 (0, 0))) (hhi : hi ≤ rb) (hB : isB w hi a bs) (hc : bs.length ≤ c) (hb : ∀ b ∈ bs, b < 256) (hl : bs.length ≤ 2147483647) : Calls Tryz.prog 22 #[.pointer (some ⟨rb, 0, none⟩), .int .i64 d] w (RrO w rb hi (decBody (31 - d != 0) false (rdec (31 - d)) 0 q)) := by
  have HD : Hid (decBody (31 - d != 0) false (rdec (31 - d)) 0 q = some (⟨0, false, 0, ⟨#[]⟩, []⟩, q)) := by
    rw [Hid, decBody, if_neg (by omega), if_neg (by omega), if_neg (by omega), if_neg (by omega), if_pos (.inl rfl)]
    rfl
  have l0 : rb < w.heap.size := (Array.getElem?_eq_some_iff.1 hh).1
  have HBY := Lib.hid hb
  have HBS := Lib.hid hbs
  have HH := Lib.hid hh
  have HB := Lib.hid hB
  clear hh hB hb hbs
  go_enter Tryz.func22, Tryz.ntmps22
  go_upto_region 1 with fail
  obtain ⟨w0, hw0⟩ : ∃ v, v = w.alloc (.cells #[.int .i64 0, .bool false, .int .i64 0, .string { data := #[] }, .slice none 0 0] 33) := ⟨_, rfl⟩
  have hb0 : Below w.heap.size w w0 := by rw [hw0]; exact (Below.refl _ _).alloc (Nat.le_refl _) _
  have hx0 : w0.heap[w.heap.size]? = some (.cells #[.int .i64 0, .bool false, .int .i64 0, .string { data := #[] }, .slice none 0 0] 33 (0, 0)) := by rw [hw0]; exact heap_last
  rw [← hw0]
  obtain ⟨bA, hbA⟩ : ∃ b, b = w.heap.size := ⟨_, rfl⟩
  rw [← hbA] at hx0 ⊢
  have HBA := Lib.hid hbA
  have HX0 := Lib.hid hx0
  have HK0 := Lib.hid ((Kg.refl rb w).below hb0)
  have HR0 := Lib.hid ((hb0.block rb l0).trans HH.out)
  have HB0 : Hid (isB w0 hi a bs) := isB_far HB.out (fun b hb => hb0.block b (by omega))
  have l1 : bA < w0.heap.size := (Array.getElem?_eq_some_iff.1 hx0).1
  clear hw0 hb0 hx0 hbA
  go_wp2_with fail
  refine (rnum_any rb hi a c bs 1 w0 HR0.out hhi HB0.out hc HBY.out (by omega)).mono ?_
  rintro e w1 ⟨hn, hk1⟩
  rw [HBS.out] at hn
  rw [show takeN 1 (0 :: q) = some (0, q) from by simp [takeN, unBe]] at hn
  obtain ⟨rfl, a1, c1, hr1, hB1, hc1⟩ := hn
  rw [show ofU 0 = 0 from by unfold ofU wrap64; omega]
  have HK1 := Lib.hid (HK0.out.trans hk1)
  have hx1 := kg_at hk1 HX0.out (by have := HBA.out; omega)
  have l2 : bA < w1.heap.size := (Array.getElem?_eq_some_iff.1 hx1).1
  go_upto_region 2 with fail
  obtain ⟨w2, hw2⟩ : ∃ v, v = w1.alloc (.cells #[.int .i64 0, .bool false, .int .i64 0, .string { data := #[] }, .slice none 0 0] 33) := ⟨_, rfl⟩
  have hb2 : Below w1.heap.size w1 w2 := by rw [hw2]; exact (Below.refl _ _).alloc (Nat.le_refl _) _
  have hx2 : w2.heap[w1.heap.size]? = some (.cells #[.int .i64 0, .bool false, .int .i64 0, .string { data := #[] }, .slice none 0 0] 33 (0, 0)) := by rw [hw2]; exact heap_last
  rw [← hw2]
  obtain ⟨bX, hbX⟩ : ∃ b, b = w1.heap.size := ⟨_, rfl⟩
  rw [← hbX] at hx2 ⊢
  have HBX := Lib.hid (show bA < bX ∧ rb < bA by have := HBA.out; omega)
  have HK2 := Lib.hid (HK1.out.below hb2)
  have HA2 := Lib.hid ((hb2.block bA l2).trans hx1)
  have l3 : rb < w1.heap.size := (Array.getElem?_eq_some_iff.1 hr1).1
  have HR2 := Lib.hid ((hb2.block rb l3).trans hr1)
  have HB2 : Hid (isB w2 hi (some a1) q) := isB_far hB1 (fun b hb => hb2.block b (by omega))
  have HC1 := Lib.hid hc1
  have HX2 := Lib.hid hx2
  clear hw2 hb2 hx1 hr1 hbX hk1 l1 l2 l3 HK1 HK0 HX0 HR0 HB0 hB1 hc1
  have r2 := fun o => cell_of HR2.out o
  have fr2 := fun o => frozen_of HR2.out o
  have lr2 : rb < w2.heap.size := (Array.getElem?_eq_some_iff.1 HR2.out).1
  have p2 := fun o => cell_of HA2.out o
  have fp2 := fun o => frozen_of HA2.out o
  have lp2 : bA < w2.heap.size := (Array.getElem?_eq_some_iff.1 HA2.out).1
  have x2 := fun o => cell_of HX2.out o
  have fx2 := fun o => frozen_of HX2.out o
  have lx2 : bX < w2.heap.size := (Array.getElem?_eq_some_iff.1 HX2.out).1
  have nAX : bA ≠ bX := by have := HBX.out; omega
  have nRA : rb ≠ bA := by have := HBX.out; omega
  have nRX : rb ≠ bX := by have := HBX.out; omega
  have nXA : bX ≠ bA := by have := HBX.out; omega
  go_wp2_with fail
  refine bodyPost_ret (v := .agg #[.int .i64 0, .bool false, .int .i64 0, .string { data := #[] }, .slice none 0 0]) (by simp [results, Tryz.results22, go_sem, p2]) rfl ?_
  rw [HD.out]
  exact rr_end HK2.out (by have := HBA.out; omega) l0 hhi ⟨rfl, a1, c1, HR2.out, HB2.out, HC1.out⟩
set_option maxHeartbeats 1600000 in
theorem rr_odd (k : Nat) (q : List Nat) (rb hi : Nat) (a : Option Addr) (c : Nat) (w : World) (d : Nat) (hd : d ≤ 31) (hk : k < 256) (h0 : k ≠ 0) (h1 : k ≠ 1) (h2 : k ≠ 2) (h3 : k ≠ 3) (h4 : k ≠ 4) (h5 : k ≠ 5) (bs : List Nat) (hbs : bs = k :: q) (hh : w.heap[rb]? = some (.cells #[.slice a bs.length c, .bool false] 53 (0, 0))) (hhi : hi ≤ rb) (hB : isB w hi a bs) (hc : bs.length ≤ c) (hb : ∀ b ∈ bs, b < 256) (hl : bs.length ≤ 2147483647) : Calls Tryz.prog 22 #[.pointer (some ⟨rb, 0, none⟩), .int .i64 d] w (RrO w rb hi (decBody (31 - d != 0) false (rdec (31 - d)) k q)) := by
  have HD : Hid (decBody (31 - d != 0) false (rdec (31 - d)) k q = none) := by
    rw [Hid, decBody, if_neg h1, if_neg (by omega), if_neg h3, if_neg h4, if_neg (by simp; omega)]
  have e0 : ((k : Int) == 0) = false := by simp; omega
  have g0 : (k == 0) = false := by simp; omega
  have j0 : ¬ (k : Int) = 0 := by omega
  have e1 : ((k : Int) == 1) = false := by simp; omega
  have g1 : (k == 1) = false := by simp; omega
  have j1 : ¬ (k : Int) = 1 := by omega
  have e2 : ((k : Int) == 2) = false := by simp; omega
  have g2 : (k == 2) = false := by simp; omega
  have j2 : ¬ (k : Int) = 2 := by omega
  have e3 : ((k : Int) == 3) = false := by simp; omega
  have g3 : (k == 3) = false := by simp; omega
  have j3 : ¬ (k : Int) = 3 := by omega
  have e4 : ((k : Int) == 4) = false := by simp; omega
  have g4 : (k == 4) = false := by simp; omega
  have j4 : ¬ (k : Int) = 4 := by omega
  have e5 : ((k : Int) == 5) = false := by simp; omega
  have g5 : (k == 5) = false := by simp; omega
  have j5 : ¬ (k : Int) = 5 := by omega
  have l0 : rb < w.heap.size := (Array.getElem?_eq_some_iff.1 hh).1
  have HBY := Lib.hid hb
  have HBS := Lib.hid hbs
  have HH := Lib.hid hh
  have HB := Lib.hid hB
  clear hh hB hb hbs
  go_enter Tryz.func22, Tryz.ntmps22
  go_upto_region 1 with fail
  obtain ⟨w0, hw0⟩ : ∃ v, v = w.alloc (.cells #[.int .i64 0, .bool false, .int .i64 0, .string { data := #[] }, .slice none 0 0] 33) := ⟨_, rfl⟩
  have hb0 : Below w.heap.size w w0 := by rw [hw0]; exact (Below.refl _ _).alloc (Nat.le_refl _) _
  have hx0 : w0.heap[w.heap.size]? = some (.cells #[.int .i64 0, .bool false, .int .i64 0, .string { data := #[] }, .slice none 0 0] 33 (0, 0)) := by rw [hw0]; exact heap_last
  rw [← hw0]
  obtain ⟨bA, hbA⟩ : ∃ b, b = w.heap.size := ⟨_, rfl⟩
  rw [← hbA] at hx0 ⊢
  have HBA := Lib.hid hbA
  have HX0 := Lib.hid hx0
  have HK0 := Lib.hid ((Kg.refl rb w).below hb0)
  have HR0 := Lib.hid ((hb0.block rb l0).trans HH.out)
  have HB0 : Hid (isB w0 hi a bs) := isB_far HB.out (fun b hb => hb0.block b (by omega))
  have l1 : bA < w0.heap.size := (Array.getElem?_eq_some_iff.1 hx0).1
  clear hw0 hb0 hx0 hbA
  go_wp2_with fail
  refine (rnum_any rb hi a c bs 1 w0 HR0.out hhi HB0.out hc HBY.out (by omega)).mono ?_
  rintro e w1 ⟨hn, hk1⟩
  rw [HBS.out] at hn
  rw [show takeN 1 (k :: q) = some (k, q) from by simp [takeN, unBe]] at hn
  obtain ⟨rfl, a1, c1, hr1, hB1, hc1⟩ := hn
  rw [show ofU k = k from by unfold ofU wrap64; omega]
  have HK1 := Lib.hid (HK0.out.trans hk1)
  have hx1 := kg_at hk1 HX0.out (by have := HBA.out; omega)
  have l2 : bA < w1.heap.size := (Array.getElem?_eq_some_iff.1 hx1).1
  go_upto_region 2 with fail
  obtain ⟨w2, hw2⟩ : ∃ v, v = w1.alloc (.cells #[.int .i64 k, .bool false, .int .i64 0, .string { data := #[] }, .slice none 0 0] 33) := ⟨_, rfl⟩
  have hb2 : Below w1.heap.size w1 w2 := by rw [hw2]; exact (Below.refl _ _).alloc (Nat.le_refl _) _
  have hx2 : w2.heap[w1.heap.size]? = some (.cells #[.int .i64 k, .bool false, .int .i64 0, .string { data := #[] }, .slice none 0 0] 33 (0, 0)) := by rw [hw2]; exact heap_last
  rw [← hw2]
  obtain ⟨bX, hbX⟩ : ∃ b, b = w1.heap.size := ⟨_, rfl⟩
  rw [← hbX] at hx2 ⊢
  have HBX := Lib.hid (show bA < bX ∧ rb < bA by have := HBA.out; omega)
  have HK2 := Lib.hid (HK1.out.below hb2)
  have HA2 := Lib.hid ((hb2.block bA l2).trans hx1)
  have l3 : rb < w1.heap.size := (Array.getElem?_eq_some_iff.1 hr1).1
  have HR2 := Lib.hid ((hb2.block rb l3).trans hr1)
  have HB2 : Hid (isB w2 hi (some a1) q) := isB_far hB1 (fun b hb => hb2.block b (by omega))
  have HC1 := Lib.hid hc1
  have HX2 := Lib.hid hx2
  clear hw2 hb2 hx1 hr1 hbX hk1 l1 l2 l3 HK1 HK0 HX0 HR0 HB0 hB1 hc1
  have r2 := fun o => cell_of HR2.out o
  have fr2 := fun o => frozen_of HR2.out o
  have lr2 : rb < w2.heap.size := (Array.getElem?_eq_some_iff.1 HR2.out).1
  have p2 := fun o => cell_of HA2.out o
  have fp2 := fun o => frozen_of HA2.out o
  have lp2 : bA < w2.heap.size := (Array.getElem?_eq_some_iff.1 HA2.out).1
  have x2 := fun o => cell_of HX2.out o
  have fx2 := fun o => frozen_of HX2.out o
  have lx2 : bX < w2.heap.size := (Array.getElem?_eq_some_iff.1 HX2.out).1
  have nAX : bA ≠ bX := by have := HBX.out; omega
  have nRA : rb ≠ bA := by have := HBX.out; omega
  have nRX : rb ≠ bX := by have := HBX.out; omega
  have nXA : bX ≠ bA := by have := HBX.out; omega
  go_upto_region 21 with fail
  clear r2 fr2 lr2 p2 fp2 lp2 x2 fx2 lx2
  obtain ⟨w5, hw5⟩ : ∃ v, v = (w2.setCell ⟨rb, 1, none⟩ (.bool true)) := ⟨_, rfl⟩
  rw [← hw5]
  have HX5 : Hid (w5.heap[bX]? = some (.cells #[.int .i64 k, .bool false, .int .i64 0, .string { data := #[] }, .slice none 0 0] 33 (0, 0))) := by rw [hw5]; exact ((Below.heap_setCell _ _ _ _ (show bX ≠ rb by have := HBX.out; omega)).trans HX2.out)
  have HR5 : Hid (w5.heap[rb]? = some (.cells #[.slice (some a1) q.length c1, .bool true] 53 (0, 0))) := by rw [hw5]; exact (heap_setCell2 HR2.out)
  have HA5 : Hid (w5.heap[bA]? = some (.cells #[.int .i64 0, .bool false, .int .i64 0, .string { data := #[] }, .slice none 0 0] 33 (0, 0))) := by rw [hw5]; exact ((Below.heap_setCell _ _ _ _ (show bA ≠ rb by have := HBX.out; omega)).trans HA2.out)
  have HK5 : Hid (Kg rb w w5) := by rw [hw5]; exact (Kg.set HK2.out)
  clear hw5
  have r5 := fun o => cell_of HR5.out o
  have fr5 := fun o => frozen_of HR5.out o
  have lr5 : rb < w5.heap.size := (Array.getElem?_eq_some_iff.1 HR5.out).1
  have p5 := fun o => cell_of HA5.out o
  have fp5 := fun o => frozen_of HA5.out o
  have lp5 : bA < w5.heap.size := (Array.getElem?_eq_some_iff.1 HA5.out).1
  have x5 := fun o => cell_of HX5.out o
  have fx5 := fun o => frozen_of HX5.out o
  have lx5 : bX < w5.heap.size := (Array.getElem?_eq_some_iff.1 HX5.out).1
  have nAX : bA ≠ bX := by have := HBX.out; omega
  have nRA : rb ≠ bA := by have := HBX.out; omega
  have nRX : rb ≠ bX := by have := HBX.out; omega
  have nXA : bX ≠ bA := by have := HBX.out; omega
  go_wp2_with fail
  refine bodyPost_ret (v := .agg #[.int .i64 k, .bool false, .int .i64 0, .string { data := #[] }, .slice none 0 0]) (by simp [results, Tryz.results22, go_sem, p5]) rfl ?_
  rw [HD.out]
  exact rr_end HK5.out (by have := HBA.out; omega) l0 hhi ⟨_, _, _, HR5.out⟩
set_option maxHeartbeats 1600000 in
theorem rr_1none (q : List Nat) (rb hi : Nat) (a : Option Addr) (c : Nat) (w : World) (d : Nat) (hd : d ≤ 31) (hT : takeN 1 q = none) (bs : List Nat) (hbs : bs = 1 :: q) (hh : w.heap[rb]? = some (.cells #[.slice a bs.length c, .bool false] 53 (0, 0))) (hhi : hi ≤ rb) (hB : isB w hi a bs) (hc : bs.length ≤ c) (hb : ∀ b ∈ bs, b < 256) (hl : bs.length ≤ 2147483647) : Calls Tryz.prog 22 #[.pointer (some ⟨rb, 0, none⟩), .int .i64 d] w (RrO w rb hi (decBody (31 - d != 0) false (rdec (31 - d)) 1 q)) := by
  have HT := Lib.hid hT
  have HD : Hid (decBody (31 - d != 0) false (rdec (31 - d)) 1 q = none) := by
    rw [Hid, decBody, if_pos rfl, hT]
  clear hT
  have l0 : rb < w.heap.size := (Array.getElem?_eq_some_iff.1 hh).1
  have HBY := Lib.hid hb
  have HBS := Lib.hid hbs
  have HH := Lib.hid hh
  have HB := Lib.hid hB
  clear hh hB hb hbs
  go_enter Tryz.func22, Tryz.ntmps22
  go_upto_region 1 with fail
  obtain ⟨w0, hw0⟩ : ∃ v, v = w.alloc (.cells #[.int .i64 0, .bool false, .int .i64 0, .string { data := #[] }, .slice none 0 0] 33) := ⟨_, rfl⟩
  have hb0 : Below w.heap.size w w0 := by rw [hw0]; exact (Below.refl _ _).alloc (Nat.le_refl _) _
  have hx0 : w0.heap[w.heap.size]? = some (.cells #[.int .i64 0, .bool false, .int .i64 0, .string { data := #[] }, .slice none 0 0] 33 (0, 0)) := by rw [hw0]; exact heap_last
  rw [← hw0]
  obtain ⟨bA, hbA⟩ : ∃ b, b = w.heap.size := ⟨_, rfl⟩
  rw [← hbA] at hx0 ⊢
  have HBA := Lib.hid hbA
  have HX0 := Lib.hid hx0
  have HK0 := Lib.hid ((Kg.refl rb w).below hb0)
  have HR0 := Lib.hid ((hb0.block rb l0).trans HH.out)
  have HB0 : Hid (isB w0 hi a bs) := isB_far HB.out (fun b hb => hb0.block b (by omega))
  have l1 : bA < w0.heap.size := (Array.getElem?_eq_some_iff.1 hx0).1
  clear hw0 hb0 hx0 hbA
  go_wp2_with fail
  refine (rnum_any rb hi a c bs 1 w0 HR0.out hhi HB0.out hc HBY.out (by omega)).mono ?_
  rintro e w1 ⟨hn, hk1⟩
  rw [HBS.out] at hn
  rw [show takeN 1 (1 :: q) = some (1, q) from by simp [takeN, unBe]] at hn
  obtain ⟨rfl, a1, c1, hr1, hB1, hc1⟩ := hn
  rw [show ofU 1 = 1 from by unfold ofU wrap64; omega]
  have HK1 := Lib.hid (HK0.out.trans hk1)
  have hx1 := kg_at hk1 HX0.out (by have := HBA.out; omega)
  have l2 : bA < w1.heap.size := (Array.getElem?_eq_some_iff.1 hx1).1
  go_upto_region 2 with fail
  obtain ⟨w2, hw2⟩ : ∃ v, v = w1.alloc (.cells #[.int .i64 1, .bool false, .int .i64 0, .string { data := #[] }, .slice none 0 0] 33) := ⟨_, rfl⟩
  have hb2 : Below w1.heap.size w1 w2 := by rw [hw2]; exact (Below.refl _ _).alloc (Nat.le_refl _) _
  have hx2 : w2.heap[w1.heap.size]? = some (.cells #[.int .i64 1, .bool false, .int .i64 0, .string { data := #[] }, .slice none 0 0] 33 (0, 0)) := by rw [hw2]; exact heap_last
  rw [← hw2]
  obtain ⟨bX, hbX⟩ : ∃ b, b = w1.heap.size := ⟨_, rfl⟩
  rw [← hbX] at hx2 ⊢
  have HBX := Lib.hid (show bA < bX ∧ rb < bA by have := HBA.out; omega)
  have HK2 := Lib.hid (HK1.out.below hb2)
  have HA2 := Lib.hid ((hb2.block bA l2).trans hx1)
  have l3 : rb < w1.heap.size := (Array.getElem?_eq_some_iff.1 hr1).1
  have HR2 := Lib.hid ((hb2.block rb l3).trans hr1)
  have HB2 : Hid (isB w2 hi (some a1) q) := isB_far hB1 (fun b hb => hb2.block b (by omega))
  have HC1 := Lib.hid hc1
  have HX2 := Lib.hid hx2
  clear hw2 hb2 hx1 hr1 hbX hk1 l1 l2 l3 HK1 HK0 HX0 HR0 HB0 hB1 hc1
  have r2 := fun o => cell_of HR2.out o
  have fr2 := fun o => frozen_of HR2.out o
  have lr2 : rb < w2.heap.size := (Array.getElem?_eq_some_iff.1 HR2.out).1
  have p2 := fun o => cell_of HA2.out o
  have fp2 := fun o => frozen_of HA2.out o
  have lp2 : bA < w2.heap.size := (Array.getElem?_eq_some_iff.1 HA2.out).1
  have x2 := fun o => cell_of HX2.out o
  have fx2 := fun o => frozen_of HX2.out o
  have lx2 : bX < w2.heap.size := (Array.getElem?_eq_some_iff.1 HX2.out).1
  have nAX : bA ≠ bX := by have := HBX.out; omega
  have nRA : rb ≠ bA := by have := HBX.out; omega
  have nRX : rb ≠ bX := by have := HBX.out; omega
  have nXA : bX ≠ bA := by have := HBX.out; omega
  go_wp2_with fail
  refine (rnum_any rb hi (some a1) c1 q 1 w2 HR2.out hhi HB2.out HC1.out (fun b h => HBY.out b (by rw [HBS.out]; exact List.mem_cons_of_mem _ h)) (by omega)).mono ?_
  rintro e w3 ⟨hn, hk3⟩
  rw [HT.out] at hn
  obtain ⟨rfl, a3, n3, c3, hr3⟩ := hn
  have HR3 := Lib.hid hr3
  have HX3 := Lib.hid (kg_at hk3 HX2.out (by have := HBX.out; omega))
  have HA3 := Lib.hid (kg_at hk3 HA2.out (by have := HBX.out; omega))
  have HK3 := Lib.hid (HK2.out.trans hk3)
  clear hr3 hk3
  clear r2 fr2 lr2 p2 fp2 lp2 x2 fx2 lx2
  have r3 := fun o => cell_of HR3.out o
  have fr3 := fun o => frozen_of HR3.out o
  have lr3 : rb < w3.heap.size := (Array.getElem?_eq_some_iff.1 HR3.out).1
  have p3 := fun o => cell_of HA3.out o
  have fp3 := fun o => frozen_of HA3.out o
  have lp3 : bA < w3.heap.size := (Array.getElem?_eq_some_iff.1 HA3.out).1
  have x3 := fun o => cell_of HX3.out o
  have fx3 := fun o => frozen_of HX3.out o
  have lx3 : bX < w3.heap.size := (Array.getElem?_eq_some_iff.1 HX3.out).1
  have nAX : bA ≠ bX := by have := HBX.out; omega
  have nRA : rb ≠ bA := by have := HBX.out; omega
  have nRX : rb ≠ bX := by have := HBX.out; omega
  have nXA : bX ≠ bA := by have := HBX.out; omega
  go_upto_region 21 with fail
  clear r3 fr3 lr3 p3 fp3 lp3 x3 fx3 lx3
  obtain ⟨w5, hw5⟩ : ∃ v, v = ((w3.setCell ⟨rb, 1, none⟩ (.bool true)).setCell ⟨bX, 1, none⟩ (.bool false)) := ⟨_, rfl⟩
  rw [← hw5]
  have HX5 : Hid (w5.heap[bX]? = some (.cells #[.int .i64 1, .bool false, .int .i64 0, .string { data := #[] }, .slice none 0 0] 33 (0, 0))) := by rw [hw5]; exact (heap_setCell2 ((Below.heap_setCell _ _ _ _ (show bX ≠ rb by have := HBX.out; omega)).trans HX3.out))
  have HR5 : Hid (w5.heap[rb]? = some (.cells #[.slice a3 n3 c3, .bool true] 53 (0, 0))) := by rw [hw5]; exact ((Below.heap_setCell _ _ _ _ (show rb ≠ bX by have := HBX.out; omega)).trans (heap_setCell2 HR3.out))
  have HA5 : Hid (w5.heap[bA]? = some (.cells #[.int .i64 0, .bool false, .int .i64 0, .string { data := #[] }, .slice none 0 0] 33 (0, 0))) := by rw [hw5]; exact ((Below.heap_setCell _ _ _ _ (show bA ≠ bX by have := HBX.out; omega)).trans ((Below.heap_setCell _ _ _ _ (show bA ≠ rb by have := HBX.out; omega)).trans HA3.out))
  have HK5 : Hid (Kg rb w w5) := by rw [hw5]; exact (kg_new (Kg.set HK3.out) (by have := HBX.out; have := HBA.out; omega) _)
  clear hw5
  have r5 := fun o => cell_of HR5.out o
  have fr5 := fun o => frozen_of HR5.out o
  have lr5 : rb < w5.heap.size := (Array.getElem?_eq_some_iff.1 HR5.out).1
  have p5 := fun o => cell_of HA5.out o
  have fp5 := fun o => frozen_of HA5.out o
  have lp5 : bA < w5.heap.size := (Array.getElem?_eq_some_iff.1 HA5.out).1
  have x5 := fun o => cell_of HX5.out o
  have fx5 := fun o => frozen_of HX5.out o
  have lx5 : bX < w5.heap.size := (Array.getElem?_eq_some_iff.1 HX5.out).1
  have nAX : bA ≠ bX := by have := HBX.out; omega
  have nRA : rb ≠ bA := by have := HBX.out; omega
  have nRX : rb ≠ bX := by have := HBX.out; omega
  have nXA : bX ≠ bA := by have := HBX.out; omega
  go_wp2_with fail
  refine bodyPost_ret (v := .agg #[.int .i64 1, .bool false, .int .i64 0, .string { data := #[] }, .slice none 0 0]) (by simp [results, Tryz.results22, go_sem, p5]) rfl ?_
  rw [HD.out]
  exact rr_end HK5.out (by have := HBA.out; omega) l0 hhi ⟨_, _, _, HR5.out⟩
set_option maxHeartbeats 1600000 in
theorem rr_10 (r : List Nat) (q : List Nat) (rb hi : Nat) (a : Option Addr) (c : Nat) (w : World) (d : Nat) (hd : d ≤ 31) (hT : takeN 1 q = some (0, r)) (bs : List Nat) (hbs : bs = 1 :: q) (hh : w.heap[rb]? = some (.cells #[.slice a bs.length c, .bool false] 53 (0, 0))) (hhi : hi ≤ rb) (hB : isB w hi a bs) (hc : bs.length ≤ c) (hb : ∀ b ∈ bs, b < 256) (hl : bs.length ≤ 2147483647) : Calls Tryz.prog 22 #[.pointer (some ⟨rb, 0, none⟩), .int .i64 d] w (RrO w rb hi (decBody (31 - d != 0) false (rdec (31 - d)) 1 q)) := by
  have HT := Lib.hid hT
  have HD : Hid (decBody (31 - d != 0) false (rdec (31 - d)) 1 q = some (⟨1, false, 0, ⟨#[]⟩, []⟩, r)) := by
    rw [Hid, decBody, if_pos rfl, hT]
    rfl
  have HU : Hid (ofU 0 = 0) := Lib.hid (by unfold ofU wrap64; omega)
  clear hT
  have l0 : rb < w.heap.size := (Array.getElem?_eq_some_iff.1 hh).1
  have HBY := Lib.hid hb
  have HBS := Lib.hid hbs
  have HH := Lib.hid hh
  have HB := Lib.hid hB
  clear hh hB hb hbs
  go_enter Tryz.func22, Tryz.ntmps22
  go_upto_region 1 with fail
  obtain ⟨w0, hw0⟩ : ∃ v, v = w.alloc (.cells #[.int .i64 0, .bool false, .int .i64 0, .string { data := #[] }, .slice none 0 0] 33) := ⟨_, rfl⟩
  have hb0 : Below w.heap.size w w0 := by rw [hw0]; exact (Below.refl _ _).alloc (Nat.le_refl _) _
  have hx0 : w0.heap[w.heap.size]? = some (.cells #[.int .i64 0, .bool false, .int .i64 0, .string { data := #[] }, .slice none 0 0] 33 (0, 0)) := by rw [hw0]; exact heap_last
  rw [← hw0]
  obtain ⟨bA, hbA⟩ : ∃ b, b = w.heap.size := ⟨_, rfl⟩
  rw [← hbA] at hx0 ⊢
  have HBA := Lib.hid hbA
  have HX0 := Lib.hid hx0
  have HK0 := Lib.hid ((Kg.refl rb w).below hb0)
  have HR0 := Lib.hid ((hb0.block rb l0).trans HH.out)
  have HB0 : Hid (isB w0 hi a bs) := isB_far HB.out (fun b hb => hb0.block b (by omega))
  have l1 : bA < w0.heap.size := (Array.getElem?_eq_some_iff.1 hx0).1
  clear hw0 hb0 hx0 hbA
  go_wp2_with fail
  refine (rnum_any rb hi a c bs 1 w0 HR0.out hhi HB0.out hc HBY.out (by omega)).mono ?_
  rintro e w1 ⟨hn, hk1⟩
  rw [HBS.out] at hn
  rw [show takeN 1 (1 :: q) = some (1, q) from by simp [takeN, unBe]] at hn
  obtain ⟨rfl, a1, c1, hr1, hB1, hc1⟩ := hn
  rw [show ofU 1 = 1 from by unfold ofU wrap64; omega]
  have HK1 := Lib.hid (HK0.out.trans hk1)
  have hx1 := kg_at hk1 HX0.out (by have := HBA.out; omega)
  have l2 : bA < w1.heap.size := (Array.getElem?_eq_some_iff.1 hx1).1
  go_upto_region 2 with fail
  obtain ⟨w2, hw2⟩ : ∃ v, v = w1.alloc (.cells #[.int .i64 1, .bool false, .int .i64 0, .string { data := #[] }, .slice none 0 0] 33) := ⟨_, rfl⟩
  have hb2 : Below w1.heap.size w1 w2 := by rw [hw2]; exact (Below.refl _ _).alloc (Nat.le_refl _) _
  have hx2 : w2.heap[w1.heap.size]? = some (.cells #[.int .i64 1, .bool false, .int .i64 0, .string { data := #[] }, .slice none 0 0] 33 (0, 0)) := by rw [hw2]; exact heap_last
  rw [← hw2]
  obtain ⟨bX, hbX⟩ : ∃ b, b = w1.heap.size := ⟨_, rfl⟩
  rw [← hbX] at hx2 ⊢
  have HBX := Lib.hid (show bA < bX ∧ rb < bA by have := HBA.out; omega)
  have HK2 := Lib.hid (HK1.out.below hb2)
  have HA2 := Lib.hid ((hb2.block bA l2).trans hx1)
  have l3 : rb < w1.heap.size := (Array.getElem?_eq_some_iff.1 hr1).1
  have HR2 := Lib.hid ((hb2.block rb l3).trans hr1)
  have HB2 : Hid (isB w2 hi (some a1) q) := isB_far hB1 (fun b hb => hb2.block b (by omega))
  have HC1 := Lib.hid hc1
  have HX2 := Lib.hid hx2
  clear hw2 hb2 hx1 hr1 hbX hk1 l1 l2 l3 HK1 HK0 HX0 HR0 HB0 hB1 hc1
  have r2 := fun o => cell_of HR2.out o
  have fr2 := fun o => frozen_of HR2.out o
  have lr2 : rb < w2.heap.size := (Array.getElem?_eq_some_iff.1 HR2.out).1
  have p2 := fun o => cell_of HA2.out o
  have fp2 := fun o => frozen_of HA2.out o
  have lp2 : bA < w2.heap.size := (Array.getElem?_eq_some_iff.1 HA2.out).1
  have x2 := fun o => cell_of HX2.out o
  have fx2 := fun o => frozen_of HX2.out o
  have lx2 : bX < w2.heap.size := (Array.getElem?_eq_some_iff.1 HX2.out).1
  have nAX : bA ≠ bX := by have := HBX.out; omega
  have nRA : rb ≠ bA := by have := HBX.out; omega
  have nRX : rb ≠ bX := by have := HBX.out; omega
  have nXA : bX ≠ bA := by have := HBX.out; omega
  go_wp2_with fail
  refine (rnum_any rb hi (some a1) c1 q 1 w2 HR2.out hhi HB2.out HC1.out (fun b h => HBY.out b (by rw [HBS.out]; exact List.mem_cons_of_mem _ h)) (by omega)).mono ?_
  rintro e w3 ⟨hn, hk3⟩
  rw [HT.out] at hn
  obtain ⟨rfl, a3, c3, hr3, hB3, hc3⟩ := hn
  rw [HU.out]
  have HB3 := Lib.hid hB3
  have HC3 := Lib.hid hc3
  clear hB3 hc3
  have HR3 := Lib.hid hr3
  have HX3 := Lib.hid (kg_at hk3 HX2.out (by have := HBX.out; omega))
  have HA3 := Lib.hid (kg_at hk3 HA2.out (by have := HBX.out; omega))
  have HK3 := Lib.hid (HK2.out.trans hk3)
  clear hr3 hk3
  clear r2 fr2 lr2 p2 fp2 lp2 x2 fx2 lx2
  have r3 := fun o => cell_of HR3.out o
  have fr3 := fun o => frozen_of HR3.out o
  have lr3 : rb < w3.heap.size := (Array.getElem?_eq_some_iff.1 HR3.out).1
  have p3 := fun o => cell_of HA3.out o
  have fp3 := fun o => frozen_of HA3.out o
  have lp3 : bA < w3.heap.size := (Array.getElem?_eq_some_iff.1 HA3.out).1
  have x3 := fun o => cell_of HX3.out o
  have fx3 := fun o => frozen_of HX3.out o
  have lx3 : bX < w3.heap.size := (Array.getElem?_eq_some_iff.1 HX3.out).1
  have nAX : bA ≠ bX := by have := HBX.out; omega
  have nRA : rb ≠ bA := by have := HBX.out; omega
  have nRX : rb ≠ bX := by have := HBX.out; omega
  have nXA : bX ≠ bA := by have := HBX.out; omega
  go_upto_region 21 with fail
  clear r3 fr3 lr3 p3 fp3 lp3 x3 fx3 lx3
  obtain ⟨w5, hw5⟩ : ∃ v, v = ((w3.setCell ⟨rb, 1, none⟩ (.bool false)).setCell ⟨bX, 1, none⟩ (.bool false)) := ⟨_, rfl⟩
  rw [← hw5]
  have HX5 : Hid (w5.heap[bX]? = some (.cells #[.int .i64 1, .bool false, .int .i64 0, .string { data := #[] }, .slice none 0 0] 33 (0, 0))) := by rw [hw5]; exact (heap_setCell2 ((Below.heap_setCell _ _ _ _ (show bX ≠ rb by have := HBX.out; omega)).trans HX3.out))
  have HR5 : Hid (w5.heap[rb]? = some (.cells #[.slice (some a3) r.length c3, .bool false] 53 (0, 0))) := by rw [hw5]; exact ((Below.heap_setCell _ _ _ _ (show rb ≠ bX by have := HBX.out; omega)).trans (heap_setCell2 HR3.out))
  have HA5 : Hid (w5.heap[bA]? = some (.cells #[.int .i64 0, .bool false, .int .i64 0, .string { data := #[] }, .slice none 0 0] 33 (0, 0))) := by rw [hw5]; exact ((Below.heap_setCell _ _ _ _ (show bA ≠ bX by have := HBX.out; omega)).trans ((Below.heap_setCell _ _ _ _ (show bA ≠ rb by have := HBX.out; omega)).trans HA3.out))
  have HK5 : Hid (Kg rb w w5) := by rw [hw5]; exact (kg_new (Kg.set HK3.out) (by have := HBX.out; have := HBA.out; omega) _)
  have HB5 : Hid (isB w5 hi (some a3) r) := by rw [hw5]; exact isB_far HB3.out (fun b hb => ((Below.heap_setCell _ _ _ _ (show b ≠ bX by have := HBX.out; omega)).trans ((Below.heap_setCell _ _ _ _ (show b ≠ rb by have := HBX.out; omega)).trans rfl)))
  clear hw5
  have r5 := fun o => cell_of HR5.out o
  have fr5 := fun o => frozen_of HR5.out o
  have lr5 : rb < w5.heap.size := (Array.getElem?_eq_some_iff.1 HR5.out).1
  have p5 := fun o => cell_of HA5.out o
  have fp5 := fun o => frozen_of HA5.out o
  have lp5 : bA < w5.heap.size := (Array.getElem?_eq_some_iff.1 HA5.out).1
  have x5 := fun o => cell_of HX5.out o
  have fx5 := fun o => frozen_of HX5.out o
  have lx5 : bX < w5.heap.size := (Array.getElem?_eq_some_iff.1 HX5.out).1
  have nAX : bA ≠ bX := by have := HBX.out; omega
  have nRA : rb ≠ bA := by have := HBX.out; omega
  have nRX : rb ≠ bX := by have := HBX.out; omega
  have nXA : bX ≠ bA := by have := HBX.out; omega
  go_wp2_with fail
  refine bodyPost_ret (v := .agg #[.int .i64 1, .bool false, .int .i64 0, .string { data := #[] }, .slice none 0 0]) (by simp [results, Tryz.results22, go_sem, p5]) rfl ?_
  rw [HD.out]
  exact rr_end HK5.out (by have := HBA.out; omega) l0 hhi ⟨rfl, a3, c3, HR5.out, HB5.out, HC3.out⟩
set_option maxHeartbeats 1600000 in
theorem rr_11 (r : List Nat) (q : List Nat) (rb hi : Nat) (a : Option Addr) (c : Nat) (w : World) (d : Nat) (hd : d ≤ 31) (hT : takeN 1 q = some (1, r)) (bs : List Nat) (hbs : bs = 1 :: q) (hh : w.heap[rb]? = some (.cells #[.slice a bs.length c, .bool false] 53 (0, 0))) (hhi : hi ≤ rb) (hB : isB w hi a bs) (hc : bs.length ≤ c) (hb : ∀ b ∈ bs, b < 256) (hl : bs.length ≤ 2147483647) : Calls Tryz.prog 22 #[.pointer (some ⟨rb, 0, none⟩), .int .i64 d] w (RrO w rb hi (decBody (31 - d != 0) false (rdec (31 - d)) 1 q)) := by
  have HT := Lib.hid hT
  have HD : Hid (decBody (31 - d != 0) false (rdec (31 - d)) 1 q = some (⟨1, true, 0, ⟨#[]⟩, []⟩, r)) := by
    rw [Hid, decBody, if_pos rfl, hT]
    rfl
  have HU : Hid (ofU 1 = 1) := Lib.hid (by unfold ofU wrap64; omega)
  clear hT
  have l0 : rb < w.heap.size := (Array.getElem?_eq_some_iff.1 hh).1
  have HBY := Lib.hid hb
  have HBS := Lib.hid hbs
  have HH := Lib.hid hh
  have HB := Lib.hid hB
  clear hh hB hb hbs
  go_enter Tryz.func22, Tryz.ntmps22
  go_upto_region 1 with fail
  obtain ⟨w0, hw0⟩ : ∃ v, v = w.alloc (.cells #[.int .i64 0, .bool false, .int .i64 0, .string { data := #[] }, .slice none 0 0] 33) := ⟨_, rfl⟩
  have hb0 : Below w.heap.size w w0 := by rw [hw0]; exact (Below.refl _ _).alloc (Nat.le_refl _) _
  have hx0 : w0.heap[w.heap.size]? = some (.cells #[.int .i64 0, .bool false, .int .i64 0, .string { data := #[] }, .slice none 0 0] 33 (0, 0)) := by rw [hw0]; exact heap_last
  rw [← hw0]
  obtain ⟨bA, hbA⟩ : ∃ b, b = w.heap.size := ⟨_, rfl⟩
  rw [← hbA] at hx0 ⊢
  have HBA := Lib.hid hbA
  have HX0 := Lib.hid hx0
  have HK0 := Lib.hid ((Kg.refl rb w).below hb0)
  have HR0 := Lib.hid ((hb0.block rb l0).trans HH.out)
  have HB0 : Hid (isB w0 hi a bs) := isB_far HB.out (fun b hb => hb0.block b (by omega))
  have l1 : bA < w0.heap.size := (Array.getElem?_eq_some_iff.1 hx0).1
  clear hw0 hb0 hx0 hbA
  go_wp2_with fail
  refine (rnum_any rb hi a c bs 1 w0 HR0.out hhi HB0.out hc HBY.out (by omega)).mono ?_
  rintro e w1 ⟨hn, hk1⟩
  rw [HBS.out] at hn
  rw [show takeN 1 (1 :: q) = some (1, q) from by simp [takeN, unBe]] at hn
  obtain ⟨rfl, a1, c1, hr1, hB1, hc1⟩ := hn
  rw [show ofU 1 = 1 from by unfold ofU wrap64; omega]
  have HK1 := Lib.hid (HK0.out.trans hk1)
  have hx1 := kg_at hk1 HX0.out (by have := HBA.out; omega)
  have l2 : bA < w1.heap.size := (Array.getElem?_eq_some_iff.1 hx1).1
  go_upto_region 2 with fail
  obtain ⟨w2, hw2⟩ : ∃ v, v = w1.alloc (.cells #[.int .i64 1, .bool false, .int .i64 0, .string { data := #[] }, .slice none 0 0] 33) := ⟨_, rfl⟩
  have hb2 : Below w1.heap.size w1 w2 := by rw [hw2]; exact (Below.refl _ _).alloc (Nat.le_refl _) _
  have hx2 : w2.heap[w1.heap.size]? = some (.cells #[.int .i64 1, .bool false, .int .i64 0, .string { data := #[] }, .slice none 0 0] 33 (0, 0)) := by rw [hw2]; exact heap_last
  rw [← hw2]
  obtain ⟨bX, hbX⟩ : ∃ b, b = w1.heap.size := ⟨_, rfl⟩
  rw [← hbX] at hx2 ⊢
  have HBX := Lib.hid (show bA < bX ∧ rb < bA by have := HBA.out; omega)
  have HK2 := Lib.hid (HK1.out.below hb2)
  have HA2 := Lib.hid ((hb2.block bA l2).trans hx1)
  have l3 : rb < w1.heap.size := (Array.getElem?_eq_some_iff.1 hr1).1
  have HR2 := Lib.hid ((hb2.block rb l3).trans hr1)
  have HB2 : Hid (isB w2 hi (some a1) q) := isB_far hB1 (fun b hb => hb2.block b (by omega))
  have HC1 := Lib.hid hc1
  have HX2 := Lib.hid hx2
  clear hw2 hb2 hx1 hr1 hbX hk1 l1 l2 l3 HK1 HK0 HX0 HR0 HB0 hB1 hc1
  have r2 := fun o => cell_of HR2.out o
  have fr2 := fun o => frozen_of HR2.out o
  have lr2 : rb < w2.heap.size := (Array.getElem?_eq_some_iff.1 HR2.out).1
  have p2 := fun o => cell_of HA2.out o
  have fp2 := fun o => frozen_of HA2.out o
  have lp2 : bA < w2.heap.size := (Array.getElem?_eq_some_iff.1 HA2.out).1
  have x2 := fun o => cell_of HX2.out o
  have fx2 := fun o => frozen_of HX2.out o
  have lx2 : bX < w2.heap.size := (Array.getElem?_eq_some_iff.1 HX2.out).1
  have nAX : bA ≠ bX := by have := HBX.out; omega
  have nRA : rb ≠ bA := by have := HBX.out; omega
  have nRX : rb ≠ bX := by have := HBX.out; omega
  have nXA : bX ≠ bA := by have := HBX.out; omega
  go_wp2_with fail
  refine (rnum_any rb hi (some a1) c1 q 1 w2 HR2.out hhi HB2.out HC1.out (fun b h => HBY.out b (by rw [HBS.out]; exact List.mem_cons_of_mem _ h)) (by omega)).mono ?_
  rintro e w3 ⟨hn, hk3⟩
  rw [HT.out] at hn
  obtain ⟨rfl, a3, c3, hr3, hB3, hc3⟩ := hn
  rw [HU.out]
  have HB3 := Lib.hid hB3
  have HC3 := Lib.hid hc3
  clear hB3 hc3
  have HR3 := Lib.hid hr3
  have HX3 := Lib.hid (kg_at hk3 HX2.out (by have := HBX.out; omega))
  have HA3 := Lib.hid (kg_at hk3 HA2.out (by have := HBX.out; omega))
  have HK3 := Lib.hid (HK2.out.trans hk3)
  clear hr3 hk3
  clear r2 fr2 lr2 p2 fp2 lp2 x2 fx2 lx2
  have r3 := fun o => cell_of HR3.out o
  have fr3 := fun o => frozen_of HR3.out o
  have lr3 : rb < w3.heap.size := (Array.getElem?_eq_some_iff.1 HR3.out).1
  have p3 := fun o => cell_of HA3.out o
  have fp3 := fun o => frozen_of HA3.out o
  have lp3 : bA < w3.heap.size := (Array.getElem?_eq_some_iff.1 HA3.out).1
  have x3 := fun o => cell_of HX3.out o
  have fx3 := fun o => frozen_of HX3.out o
  have lx3 : bX < w3.heap.size := (Array.getElem?_eq_some_iff.1 HX3.out).1
  have nAX : bA ≠ bX := by have := HBX.out; omega
  have nRA : rb ≠ bA := by have := HBX.out; omega
  have nRX : rb ≠ bX := by have := HBX.out; omega
  have nXA : bX ≠ bA := by have := HBX.out; omega
  go_upto_region 21 with fail
  clear r3 fr3 lr3 p3 fp3 lp3 x3 fx3 lx3
  obtain ⟨w5, hw5⟩ : ∃ v, v = ((w3.setCell ⟨rb, 1, none⟩ (.bool false)).setCell ⟨bX, 1, none⟩ (.bool true)) := ⟨_, rfl⟩
  rw [← hw5]
  have HX5 : Hid (w5.heap[bX]? = some (.cells #[.int .i64 1, .bool true, .int .i64 0, .string { data := #[] }, .slice none 0 0] 33 (0, 0))) := by rw [hw5]; exact (heap_setCell2 ((Below.heap_setCell _ _ _ _ (show bX ≠ rb by have := HBX.out; omega)).trans HX3.out))
  have HR5 : Hid (w5.heap[rb]? = some (.cells #[.slice (some a3) r.length c3, .bool false] 53 (0, 0))) := by rw [hw5]; exact ((Below.heap_setCell _ _ _ _ (show rb ≠ bX by have := HBX.out; omega)).trans (heap_setCell2 HR3.out))
  have HA5 : Hid (w5.heap[bA]? = some (.cells #[.int .i64 0, .bool false, .int .i64 0, .string { data := #[] }, .slice none 0 0] 33 (0, 0))) := by rw [hw5]; exact ((Below.heap_setCell _ _ _ _ (show bA ≠ bX by have := HBX.out; omega)).trans ((Below.heap_setCell _ _ _ _ (show bA ≠ rb by have := HBX.out; omega)).trans HA3.out))
  have HK5 : Hid (Kg rb w w5) := by rw [hw5]; exact (kg_new (Kg.set HK3.out) (by have := HBX.out; have := HBA.out; omega) _)
  have HB5 : Hid (isB w5 hi (some a3) r) := by rw [hw5]; exact isB_far HB3.out (fun b hb => ((Below.heap_setCell _ _ _ _ (show b ≠ bX by have := HBX.out; omega)).trans ((Below.heap_setCell _ _ _ _ (show b ≠ rb by have := HBX.out; omega)).trans rfl)))
  clear hw5
  have r5 := fun o => cell_of HR5.out o
  have fr5 := fun o => frozen_of HR5.out o
  have lr5 : rb < w5.heap.size := (Array.getElem?_eq_some_iff.1 HR5.out).1
  have p5 := fun o => cell_of HA5.out o
  have fp5 := fun o => frozen_of HA5.out o
  have lp5 : bA < w5.heap.size := (Array.getElem?_eq_some_iff.1 HA5.out).1
  have x5 := fun o => cell_of HX5.out o
  have fx5 := fun o => frozen_of HX5.out o
  have lx5 : bX < w5.heap.size := (Array.getElem?_eq_some_iff.1 HX5.out).1
  have nAX : bA ≠ bX := by have := HBX.out; omega
  have nRA : rb ≠ bA := by have := HBX.out; omega
  have nRX : rb ≠ bX := by have := HBX.out; omega
  have nXA : bX ≠ bA := by have := HBX.out; omega
  go_wp2_with fail
  refine bodyPost_ret (v := .agg #[.int .i64 1, .bool true, .int .i64 0, .string { data := #[] }, .slice none 0 0]) (by simp [results, Tryz.results22, go_sem, p5]) rfl ?_
  rw [HD.out]
  exact rr_end HK5.out (by have := HBA.out; omega) l0 hhi ⟨rfl, a3, c3, HR5.out, HB5.out, HC3.out⟩
set_option maxHeartbeats 1600000 in
theorem rr_1more (r : List Nat) (q : List Nat) (rb hi : Nat) (a : Option Addr) (c : Nat) (w : World) (d : Nat) (hd : d ≤ 31) (n : Nat) (h1n : 1 < n) (hn2 : n < 256) (hT : takeN 1 q = some (n, r)) (bs : List Nat) (hbs : bs = 1 :: q) (hh : w.heap[rb]? = some (.cells #[.slice a bs.length c, .bool false] 53 (0, 0))) (hhi : hi ≤ rb) (hB : isB w hi a bs) (hc : bs.length ≤ c) (hb : ∀ b ∈ bs, b < 256) (hl : bs.length ≤ 2147483647) : Calls Tryz.prog 22 #[.pointer (some ⟨rb, 0, none⟩), .int .i64 d] w (RrO w rb hi (decBody (31 - d != 0) false (rdec (31 - d)) 1 q)) := by
  have HT := Lib.hid hT
  have HD : Hid (decBody (31 - d != 0) false (rdec (31 - d)) 1 q = none) := by
    rw [Hid, decBody, if_pos rfl, hT]
    exact if_pos h1n
  have HU : Hid (ofU n = (n : Int)) := by unfold ofU wrap64; rw [Hid]; omega
  have u1 : decide (1 < n) = true := by simp; omega
  have u2 : ((n : Int) == 1) = false := by simp; omega
  have u3 : (n == 1) = false := by simp; omega
  have u4 : ¬ n = 1 := by omega
  have u5 : decide ((1 : Int) < (n : Int)) = true := by simp; omega
  clear hT
  have l0 : rb < w.heap.size := (Array.getElem?_eq_some_iff.1 hh).1
  have HBY := Lib.hid hb
  have HBS := Lib.hid hbs
  have HH := Lib.hid hh
  have HB := Lib.hid hB
  clear hh hB hb hbs
  go_enter Tryz.func22, Tryz.ntmps22
  go_upto_region 1 with fail
  obtain ⟨w0, hw0⟩ : ∃ v, v = w.alloc (.cells #[.int .i64 0, .bool false, .int .i64 0, .string { data := #[] }, .slice none 0 0] 33) := ⟨_, rfl⟩
  have hb0 : Below w.heap.size w w0 := by rw [hw0]; exact (Below.refl _ _).alloc (Nat.le_refl _) _
  have hx0 : w0.heap[w.heap.size]? = some (.cells #[.int .i64 0, .bool false, .int .i64 0, .string { data := #[] }, .slice none 0 0] 33 (0, 0)) := by rw [hw0]; exact heap_last
  rw [← hw0]
  obtain ⟨bA, hbA⟩ : ∃ b, b = w.heap.size := ⟨_, rfl⟩
  rw [← hbA] at hx0 ⊢
  have HBA := Lib.hid hbA
  have HX0 := Lib.hid hx0
  have HK0 := Lib.hid ((Kg.refl rb w).below hb0)
  have HR0 := Lib.hid ((hb0.block rb l0).trans HH.out)
  have HB0 : Hid (isB w0 hi a bs) := isB_far HB.out (fun b hb => hb0.block b (by omega))
  have l1 : bA < w0.heap.size := (Array.getElem?_eq_some_iff.1 hx0).1
  clear hw0 hb0 hx0 hbA
  go_wp2_with fail
  refine (rnum_any rb hi a c bs 1 w0 HR0.out hhi HB0.out hc HBY.out (by omega)).mono ?_
  rintro e w1 ⟨hn, hk1⟩
  rw [HBS.out] at hn
  rw [show takeN 1 (1 :: q) = some (1, q) from by simp [takeN, unBe]] at hn
  obtain ⟨rfl, a1, c1, hr1, hB1, hc1⟩ := hn
  rw [show ofU 1 = 1 from by unfold ofU wrap64; omega]
  have HK1 := Lib.hid (HK0.out.trans hk1)
  have hx1 := kg_at hk1 HX0.out (by have := HBA.out; omega)
  have l2 : bA < w1.heap.size := (Array.getElem?_eq_some_iff.1 hx1).1
  go_upto_region 2 with fail
  obtain ⟨w2, hw2⟩ : ∃ v, v = w1.alloc (.cells #[.int .i64 1, .bool false, .int .i64 0, .string { data := #[] }, .slice none 0 0] 33) := ⟨_, rfl⟩
  have hb2 : Below w1.heap.size w1 w2 := by rw [hw2]; exact (Below.refl _ _).alloc (Nat.le_refl _) _
  have hx2 : w2.heap[w1.heap.size]? = some (.cells #[.int .i64 1, .bool false, .int .i64 0, .string { data := #[] }, .slice none 0 0] 33 (0, 0)) := by rw [hw2]; exact heap_last
  rw [← hw2]
  obtain ⟨bX, hbX⟩ : ∃ b, b = w1.heap.size := ⟨_, rfl⟩
  rw [← hbX] at hx2 ⊢
  have HBX := Lib.hid (show bA < bX ∧ rb < bA by have := HBA.out; omega)
  have HK2 := Lib.hid (HK1.out.below hb2)
  have HA2 := Lib.hid ((hb2.block bA l2).trans hx1)
  have l3 : rb < w1.heap.size := (Array.getElem?_eq_some_iff.1 hr1).1
  have HR2 := Lib.hid ((hb2.block rb l3).trans hr1)
  have HB2 : Hid (isB w2 hi (some a1) q) := isB_far hB1 (fun b hb => hb2.block b (by omega))
  have HC1 := Lib.hid hc1
  have HX2 := Lib.hid hx2
  clear hw2 hb2 hx1 hr1 hbX hk1 l1 l2 l3 HK1 HK0 HX0 HR0 HB0 hB1 hc1
  have r2 := fun o => cell_of HR2.out o
  have fr2 := fun o => frozen_of HR2.out o
  have lr2 : rb < w2.heap.size := (Array.getElem?_eq_some_iff.1 HR2.out).1
  have p2 := fun o => cell_of HA2.out o
  have fp2 := fun o => frozen_of HA2.out o
  have lp2 : bA < w2.heap.size := (Array.getElem?_eq_some_iff.1 HA2.out).1
  have x2 := fun o => cell_of HX2.out o
  have fx2 := fun o => frozen_of HX2.out o
  have lx2 : bX < w2.heap.size := (Array.getElem?_eq_some_iff.1 HX2.out).1
  have nAX : bA ≠ bX := by have := HBX.out; omega
  have nRA : rb ≠ bA := by have := HBX.out; omega
  have nRX : rb ≠ bX := by have := HBX.out; omega
  have nXA : bX ≠ bA := by have := HBX.out; omega
  go_wp2_with fail
  refine (rnum_any rb hi (some a1) c1 q 1 w2 HR2.out hhi HB2.out HC1.out (fun b h => HBY.out b (by rw [HBS.out]; exact List.mem_cons_of_mem _ h)) (by omega)).mono ?_
  rintro e w3 ⟨hn, hk3⟩
  rw [HT.out] at hn
  obtain ⟨rfl, a3, c3, hr3, hB3, hc3⟩ := hn
  rw [HU.out]
  have HB3 := Lib.hid hB3
  have HC3 := Lib.hid hc3
  clear hB3 hc3
  have HR3 := Lib.hid hr3
  have HX3 := Lib.hid (kg_at hk3 HX2.out (by have := HBX.out; omega))
  have HA3 := Lib.hid (kg_at hk3 HA2.out (by have := HBX.out; omega))
  have HK3 := Lib.hid (HK2.out.trans hk3)
  clear hr3 hk3
  clear r2 fr2 lr2 p2 fp2 lp2 x2 fx2 lx2
  have r3 := fun o => cell_of HR3.out o
  have fr3 := fun o => frozen_of HR3.out o
  have lr3 : rb < w3.heap.size := (Array.getElem?_eq_some_iff.1 HR3.out).1
  have p3 := fun o => cell_of HA3.out o
  have fp3 := fun o => frozen_of HA3.out o
  have lp3 : bA < w3.heap.size := (Array.getElem?_eq_some_iff.1 HA3.out).1
  have x3 := fun o => cell_of HX3.out o
  have fx3 := fun o => frozen_of HX3.out o
  have lx3 : bX < w3.heap.size := (Array.getElem?_eq_some_iff.1 HX3.out).1
  have nAX : bA ≠ bX := by have := HBX.out; omega
  have nRA : rb ≠ bA := by have := HBX.out; omega
  have nRX : rb ≠ bX := by have := HBX.out; omega
  have nXA : bX ≠ bA := by have := HBX.out; omega
  go_upto_region 21 with fail
  try rw [u5]
  clear r3 fr3 lr3 p3 fp3 lp3 x3 fx3 lx3
  obtain ⟨w5, hw5⟩ : ∃ v, v = ((w3.setCell ⟨rb, 1, none⟩ (.bool true)).setCell ⟨bX, 1, none⟩ (.bool false)) := ⟨_, rfl⟩
  rw [← hw5]
  have HX5 : Hid (w5.heap[bX]? = some (.cells #[.int .i64 1, .bool false, .int .i64 0, .string { data := #[] }, .slice none 0 0] 33 (0, 0))) := by rw [hw5]; exact (heap_setCell2 ((Below.heap_setCell _ _ _ _ (show bX ≠ rb by have := HBX.out; omega)).trans HX3.out))
  have HR5 : Hid (w5.heap[rb]? = some (.cells #[.slice (some a3) r.length c3, .bool true] 53 (0, 0))) := by rw [hw5]; exact ((Below.heap_setCell _ _ _ _ (show rb ≠ bX by have := HBX.out; omega)).trans (heap_setCell2 HR3.out))
  have HA5 : Hid (w5.heap[bA]? = some (.cells #[.int .i64 0, .bool false, .int .i64 0, .string { data := #[] }, .slice none 0 0] 33 (0, 0))) := by rw [hw5]; exact ((Below.heap_setCell _ _ _ _ (show bA ≠ bX by have := HBX.out; omega)).trans ((Below.heap_setCell _ _ _ _ (show bA ≠ rb by have := HBX.out; omega)).trans HA3.out))
  have HK5 : Hid (Kg rb w w5) := by rw [hw5]; exact (kg_new (Kg.set HK3.out) (by have := HBX.out; have := HBA.out; omega) _)
  have HB5 : Hid (isB w5 hi (some a3) r) := by rw [hw5]; exact isB_far HB3.out (fun b hb => ((Below.heap_setCell _ _ _ _ (show b ≠ bX by have := HBX.out; omega)).trans ((Below.heap_setCell _ _ _ _ (show b ≠ rb by have := HBX.out; omega)).trans rfl)))
  clear hw5
  have r5 := fun o => cell_of HR5.out o
  have fr5 := fun o => frozen_of HR5.out o
  have lr5 : rb < w5.heap.size := (Array.getElem?_eq_some_iff.1 HR5.out).1
  have p5 := fun o => cell_of HA5.out o
  have fp5 := fun o => frozen_of HA5.out o
  have lp5 : bA < w5.heap.size := (Array.getElem?_eq_some_iff.1 HA5.out).1
  have x5 := fun o => cell_of HX5.out o
  have fx5 := fun o => frozen_of HX5.out o
  have lx5 : bX < w5.heap.size := (Array.getElem?_eq_some_iff.1 HX5.out).1
  have nAX : bA ≠ bX := by have := HBX.out; omega
  have nRA : rb ≠ bA := by have := HBX.out; omega
  have nRX : rb ≠ bX := by have := HBX.out; omega
  have nXA : bX ≠ bA := by have := HBX.out; omega
  go_wp2_with fail
  refine bodyPost_ret (v := .agg #[.int .i64 1, .bool false, .int .i64 0, .string { data := #[] }, .slice none 0 0]) (by simp [results, Tryz.results22, go_sem, p5]) rfl ?_
  rw [HD.out]
  exact rr_end HK5.out (by have := HBA.out; omega) l0 hhi ⟨_, _, _, HR5.out⟩
set_option maxHeartbeats 1600000 in
theorem rr_2none (q : List Nat) (rb hi : Nat) (a : Option Addr) (c : Nat) (w : World) (d : Nat) (hd : d ≤ 31) (hT : takeN 8 q = none) (bs : List Nat) (hbs : bs = 2 :: q) (hh : w.heap[rb]? = some (.cells #[.slice a bs.length c, .bool false] 53 (0, 0))) (hhi : hi ≤ rb) (hB : isB w hi a bs) (hc : bs.length ≤ c) (hb : ∀ b ∈ bs, b < 256) (hl : bs.length ≤ 2147483647) : Calls Tryz.prog 22 #[.pointer (some ⟨rb, 0, none⟩), .int .i64 d] w (RrO w rb hi (decBody (31 - d != 0) false (rdec (31 - d)) 2 q)) := by
  have HT := Lib.hid hT
  have HD : Hid (decBody (31 - d != 0) false (rdec (31 - d)) 2 q = none) := by
    rw [Hid, decBody, if_neg (by decide), if_pos (by decide), hT]
  clear hT
  have l0 : rb < w.heap.size := (Array.getElem?_eq_some_iff.1 hh).1
  have HBY := Lib.hid hb
  have HBS := Lib.hid hbs
  have HH := Lib.hid hh
  have HB := Lib.hid hB
  clear hh hB hb hbs
  go_enter Tryz.func22, Tryz.ntmps22
  go_upto_region 1 with fail
  obtain ⟨w0, hw0⟩ : ∃ v, v = w.alloc (.cells #[.int .i64 0, .bool false, .int .i64 0, .string { data := #[] }, .slice none 0 0] 33) := ⟨_, rfl⟩
  have hb0 : Below w.heap.size w w0 := by rw [hw0]; exact (Below.refl _ _).alloc (Nat.le_refl _) _
  have hx0 : w0.heap[w.heap.size]? = some (.cells #[.int .i64 0, .bool false, .int .i64 0, .string { data := #[] }, .slice none 0 0] 33 (0, 0)) := by rw [hw0]; exact heap_last
  rw [← hw0]
  obtain ⟨bA, hbA⟩ : ∃ b, b = w.heap.size := ⟨_, rfl⟩
  rw [← hbA] at hx0 ⊢
  have HBA := Lib.hid hbA
  have HX0 := Lib.hid hx0
  have HK0 := Lib.hid ((Kg.refl rb w).below hb0)
  have HR0 := Lib.hid ((hb0.block rb l0).trans HH.out)
  have HB0 : Hid (isB w0 hi a bs) := isB_far HB.out (fun b hb => hb0.block b (by omega))
  have l1 : bA < w0.heap.size := (Array.getElem?_eq_some_iff.1 hx0).1
  clear hw0 hb0 hx0 hbA
  go_wp2_with fail
  refine (rnum_any rb hi a c bs 1 w0 HR0.out hhi HB0.out hc HBY.out (by omega)).mono ?_
  rintro e w1 ⟨hn, hk1⟩
  rw [HBS.out] at hn
  rw [show takeN 1 (2 :: q) = some (2, q) from by simp [takeN, unBe]] at hn
  obtain ⟨rfl, a1, c1, hr1, hB1, hc1⟩ := hn
  rw [show ofU 2 = 2 from by unfold ofU wrap64; omega]
  have HK1 := Lib.hid (HK0.out.trans hk1)
  have hx1 := kg_at hk1 HX0.out (by have := HBA.out; omega)
  have l2 : bA < w1.heap.size := (Array.getElem?_eq_some_iff.1 hx1).1
  go_upto_region 2 with fail
  obtain ⟨w2, hw2⟩ : ∃ v, v = w1.alloc (.cells #[.int .i64 2, .bool false, .int .i64 0, .string { data := #[] }, .slice none 0 0] 33) := ⟨_, rfl⟩
  have hb2 : Below w1.heap.size w1 w2 := by rw [hw2]; exact (Below.refl _ _).alloc (Nat.le_refl _) _
  have hx2 : w2.heap[w1.heap.size]? = some (.cells #[.int .i64 2, .bool false, .int .i64 0, .string { data := #[] }, .slice none 0 0] 33 (0, 0)) := by rw [hw2]; exact heap_last
  rw [← hw2]
  obtain ⟨bX, hbX⟩ : ∃ b, b = w1.heap.size := ⟨_, rfl⟩
  rw [← hbX] at hx2 ⊢
  have HBX := Lib.hid (show bA < bX ∧ rb < bA by have := HBA.out; omega)
  have HK2 := Lib.hid (HK1.out.below hb2)
  have HA2 := Lib.hid ((hb2.block bA l2).trans hx1)
  have l3 : rb < w1.heap.size := (Array.getElem?_eq_some_iff.1 hr1).1
  have HR2 := Lib.hid ((hb2.block rb l3).trans hr1)
  have HB2 : Hid (isB w2 hi (some a1) q) := isB_far hB1 (fun b hb => hb2.block b (by omega))
  have HC1 := Lib.hid hc1
  have HX2 := Lib.hid hx2
  clear hw2 hb2 hx1 hr1 hbX hk1 l1 l2 l3 HK1 HK0 HX0 HR0 HB0 hB1 hc1
  have r2 := fun o => cell_of HR2.out o
  have fr2 := fun o => frozen_of HR2.out o
  have lr2 : rb < w2.heap.size := (Array.getElem?_eq_some_iff.1 HR2.out).1
  have p2 := fun o => cell_of HA2.out o
  have fp2 := fun o => frozen_of HA2.out o
  have lp2 : bA < w2.heap.size := (Array.getElem?_eq_some_iff.1 HA2.out).1
  have x2 := fun o => cell_of HX2.out o
  have fx2 := fun o => frozen_of HX2.out o
  have lx2 : bX < w2.heap.size := (Array.getElem?_eq_some_iff.1 HX2.out).1
  have nAX : bA ≠ bX := by have := HBX.out; omega
  have nRA : rb ≠ bA := by have := HBX.out; omega
  have nRX : rb ≠ bX := by have := HBX.out; omega
  have nXA : bX ≠ bA := by have := HBX.out; omega
  go_wp2_with fail
  refine (rnum_any rb hi (some a1) c1 q 8 w2 HR2.out hhi HB2.out HC1.out (fun b h => HBY.out b (by rw [HBS.out]; exact List.mem_cons_of_mem _ h)) (by omega)).mono ?_
  rintro e w3 ⟨hn, hk3⟩
  rw [HT.out] at hn
  obtain ⟨rfl, a3, n3, c3, hr3⟩ := hn
  have HR3 := Lib.hid hr3
  have HX3 := Lib.hid (kg_at hk3 HX2.out (by have := HBX.out; omega))
  have HA3 := Lib.hid (kg_at hk3 HA2.out (by have := HBX.out; omega))
  have HK3 := Lib.hid (HK2.out.trans hk3)
  clear hr3 hk3
  clear r2 fr2 lr2 p2 fp2 lp2 x2 fx2 lx2
  have r3 := fun o => cell_of HR3.out o
  have fr3 := fun o => frozen_of HR3.out o
  have lr3 : rb < w3.heap.size := (Array.getElem?_eq_some_iff.1 HR3.out).1
  have p3 := fun o => cell_of HA3.out o
  have fp3 := fun o => frozen_of HA3.out o
  have lp3 : bA < w3.heap.size := (Array.getElem?_eq_some_iff.1 HA3.out).1
  have x3 := fun o => cell_of HX3.out o
  have fx3 := fun o => frozen_of HX3.out o
  have lx3 : bX < w3.heap.size := (Array.getElem?_eq_some_iff.1 HX3.out).1
  have nAX : bA ≠ bX := by have := HBX.out; omega
  have nRA : rb ≠ bA := by have := HBX.out; omega
  have nRX : rb ≠ bX := by have := HBX.out; omega
  have nXA : bX ≠ bA := by have := HBX.out; omega
  go_upto_region 21 with fail
  clear r3 fr3 lr3 p3 fp3 lp3 x3 fx3 lx3
  obtain ⟨w5, hw5⟩ : ∃ v, v = (w3.setCell ⟨bX, 2, none⟩ (.int .i64 0)) := ⟨_, rfl⟩
  rw [← hw5]
  have HX5 : Hid (w5.heap[bX]? = some (.cells #[.int .i64 2, .bool false, .int .i64 0, .string { data := #[] }, .slice none 0 0] 33 (0, 0))) := by rw [hw5]; exact (heap_setCell2 HX3.out)
  have HR5 : Hid (w5.heap[rb]? = some (.cells #[.slice a3 n3 c3, .bool true] 53 (0, 0))) := by rw [hw5]; exact ((Below.heap_setCell _ _ _ _ (show rb ≠ bX by have := HBX.out; omega)).trans HR3.out)
  have HA5 : Hid (w5.heap[bA]? = some (.cells #[.int .i64 0, .bool false, .int .i64 0, .string { data := #[] }, .slice none 0 0] 33 (0, 0))) := by rw [hw5]; exact ((Below.heap_setCell _ _ _ _ (show bA ≠ bX by have := HBX.out; omega)).trans HA3.out)
  have HK5 : Hid (Kg rb w w5) := by rw [hw5]; exact (kg_new HK3.out (by have := HBX.out; have := HBA.out; omega) _)
  clear hw5
  have r5 := fun o => cell_of HR5.out o
  have fr5 := fun o => frozen_of HR5.out o
  have lr5 : rb < w5.heap.size := (Array.getElem?_eq_some_iff.1 HR5.out).1
  have p5 := fun o => cell_of HA5.out o
  have fp5 := fun o => frozen_of HA5.out o
  have lp5 : bA < w5.heap.size := (Array.getElem?_eq_some_iff.1 HA5.out).1
  have x5 := fun o => cell_of HX5.out o
  have fx5 := fun o => frozen_of HX5.out o
  have lx5 : bX < w5.heap.size := (Array.getElem?_eq_some_iff.1 HX5.out).1
  have nAX : bA ≠ bX := by have := HBX.out; omega
  have nRA : rb ≠ bA := by have := HBX.out; omega
  have nRX : rb ≠ bX := by have := HBX.out; omega
  have nXA : bX ≠ bA := by have := HBX.out; omega
  go_wp2_with fail
  refine bodyPost_ret (v := .agg #[.int .i64 2, .bool false, .int .i64 0, .string { data := #[] }, .slice none 0 0]) (by simp [results, Tryz.results22, go_sem, p5]) rfl ?_
  rw [HD.out]
  exact rr_end HK5.out (by have := HBA.out; omega) l0 hhi ⟨_, _, _, HR5.out⟩
set_option maxHeartbeats 1600000 in
theorem rr_2some (r : List Nat) (q : List Nat) (rb hi : Nat) (a : Option Addr) (c : Nat) (w : World) (d : Nat) (hd : d ≤ 31) (m : Nat) (hT : takeN 8 q = some (m, r)) (bs : List Nat) (hbs : bs = 2 :: q) (hh : w.heap[rb]? = some (.cells #[.slice a bs.length c, .bool false] 53 (0, 0))) (hhi : hi ≤ rb) (hB : isB w hi a bs) (hc : bs.length ≤ c) (hb : ∀ b ∈ bs, b < 256) (hl : bs.length ≤ 2147483647) : Calls Tryz.prog 22 #[.pointer (some ⟨rb, 0, none⟩), .int .i64 d] w (RrO w rb hi (decBody (31 - d != 0) false (rdec (31 - d)) 2 q)) := by
  have HT := Lib.hid hT
  have HD : Hid (decBody (31 - d != 0) false (rdec (31 - d)) 2 q = some (⟨2, false, ofU m, ⟨#[]⟩, []⟩, r)) := by
    rw [Hid, decBody, if_neg (by decide), if_pos (by decide), hT]
    rfl
  obtain ⟨V, hV⟩ : ∃ V, V = ofU m := ⟨_, rfl⟩
  have HU : Hid (ofU m = V) := hV.symm
  rw [← hV] at HD
  clear hT hV
  have l0 : rb < w.heap.size := (Array.getElem?_eq_some_iff.1 hh).1
  have HBY := Lib.hid hb
  have HBS := Lib.hid hbs
  have HH := Lib.hid hh
  have HB := Lib.hid hB
  clear hh hB hb hbs
  go_enter Tryz.func22, Tryz.ntmps22
  go_upto_region 1 with fail
  obtain ⟨w0, hw0⟩ : ∃ v, v = w.alloc (.cells #[.int .i64 0, .bool false, .int .i64 0, .string { data := #[] }, .slice none 0 0] 33) := ⟨_, rfl⟩
  have hb0 : Below w.heap.size w w0 := by rw [hw0]; exact (Below.refl _ _).alloc (Nat.le_refl _) _
  have hx0 : w0.heap[w.heap.size]? = some (.cells #[.int .i64 0, .bool false, .int .i64 0, .string { data := #[] }, .slice none 0 0] 33 (0, 0)) := by rw [hw0]; exact heap_last
  rw [← hw0]
  obtain ⟨bA, hbA⟩ : ∃ b, b = w.heap.size := ⟨_, rfl⟩
  rw [← hbA] at hx0 ⊢
  have HBA := Lib.hid hbA
  have HX0 := Lib.hid hx0
  have HK0 := Lib.hid ((Kg.refl rb w).below hb0)
  have HR0 := Lib.hid ((hb0.block rb l0).trans HH.out)
  have HB0 : Hid (isB w0 hi a bs) := isB_far HB.out (fun b hb => hb0.block b (by omega))
  have l1 : bA < w0.heap.size := (Array.getElem?_eq_some_iff.1 hx0).1
  clear hw0 hb0 hx0 hbA
  go_wp2_with fail
  refine (rnum_any rb hi a c bs 1 w0 HR0.out hhi HB0.out hc HBY.out (by omega)).mono ?_
  rintro e w1 ⟨hn, hk1⟩
  rw [HBS.out] at hn
  rw [show takeN 1 (2 :: q) = some (2, q) from by simp [takeN, unBe]] at hn
  obtain ⟨rfl, a1, c1, hr1, hB1, hc1⟩ := hn
  rw [show ofU 2 = 2 from by unfold ofU wrap64; omega]
  have HK1 := Lib.hid (HK0.out.trans hk1)
  have hx1 := kg_at hk1 HX0.out (by have := HBA.out; omega)
  have l2 : bA < w1.heap.size := (Array.getElem?_eq_some_iff.1 hx1).1
  go_upto_region 2 with fail
  obtain ⟨w2, hw2⟩ : ∃ v, v = w1.alloc (.cells #[.int .i64 2, .bool false, .int .i64 0, .string { data := #[] }, .slice none 0 0] 33) := ⟨_, rfl⟩
  have hb2 : Below w1.heap.size w1 w2 := by rw [hw2]; exact (Below.refl _ _).alloc (Nat.le_refl _) _
  have hx2 : w2.heap[w1.heap.size]? = some (.cells #[.int .i64 2, .bool false, .int .i64 0, .string { data := #[] }, .slice none 0 0] 33 (0, 0)) := by rw [hw2]; exact heap_last
  rw [← hw2]
  obtain ⟨bX, hbX⟩ : ∃ b, b = w1.heap.size := ⟨_, rfl⟩
  rw [← hbX] at hx2 ⊢
  have HBX := Lib.hid (show bA < bX ∧ rb < bA by have := HBA.out; omega)
  have HK2 := Lib.hid (HK1.out.below hb2)
  have HA2 := Lib.hid ((hb2.block bA l2).trans hx1)
  have l3 : rb < w1.heap.size := (Array.getElem?_eq_some_iff.1 hr1).1
  have HR2 := Lib.hid ((hb2.block rb l3).trans hr1)
  have HB2 : Hid (isB w2 hi (some a1) q) := isB_far hB1 (fun b hb => hb2.block b (by omega))
  have HC1 := Lib.hid hc1
  have HX2 := Lib.hid hx2
  clear hw2 hb2 hx1 hr1 hbX hk1 l1 l2 l3 HK1 HK0 HX0 HR0 HB0 hB1 hc1
  have r2 := fun o => cell_of HR2.out o
  have fr2 := fun o => frozen_of HR2.out o
  have lr2 : rb < w2.heap.size := (Array.getElem?_eq_some_iff.1 HR2.out).1
  have p2 := fun o => cell_of HA2.out o
  have fp2 := fun o => frozen_of HA2.out o
  have lp2 : bA < w2.heap.size := (Array.getElem?_eq_some_iff.1 HA2.out).1
  have x2 := fun o => cell_of HX2.out o
  have fx2 := fun o => frozen_of HX2.out o
  have lx2 : bX < w2.heap.size := (Array.getElem?_eq_some_iff.1 HX2.out).1
  have nAX : bA ≠ bX := by have := HBX.out; omega
  have nRA : rb ≠ bA := by have := HBX.out; omega
  have nRX : rb ≠ bX := by have := HBX.out; omega
  have nXA : bX ≠ bA := by have := HBX.out; omega
  go_wp2_with fail
  refine (rnum_any rb hi (some a1) c1 q 8 w2 HR2.out hhi HB2.out HC1.out (fun b h => HBY.out b (by rw [HBS.out]; exact List.mem_cons_of_mem _ h)) (by omega)).mono ?_
  rintro e w3 ⟨hn, hk3⟩
  rw [HT.out] at hn
  obtain ⟨rfl, a3, c3, hr3, hB3, hc3⟩ := hn
  rw [HU.out]
  have HB3 := Lib.hid hB3
  have HC3 := Lib.hid hc3
  clear hB3 hc3
  have HR3 := Lib.hid hr3
  have HX3 := Lib.hid (kg_at hk3 HX2.out (by have := HBX.out; omega))
  have HA3 := Lib.hid (kg_at hk3 HA2.out (by have := HBX.out; omega))
  have HK3 := Lib.hid (HK2.out.trans hk3)
  clear hr3 hk3
  clear r2 fr2 lr2 p2 fp2 lp2 x2 fx2 lx2
  have r3 := fun o => cell_of HR3.out o
  have fr3 := fun o => frozen_of HR3.out o
  have lr3 : rb < w3.heap.size := (Array.getElem?_eq_some_iff.1 HR3.out).1
  have p3 := fun o => cell_of HA3.out o
  have fp3 := fun o => frozen_of HA3.out o
  have lp3 : bA < w3.heap.size := (Array.getElem?_eq_some_iff.1 HA3.out).1
  have x3 := fun o => cell_of HX3.out o
  have fx3 := fun o => frozen_of HX3.out o
  have lx3 : bX < w3.heap.size := (Array.getElem?_eq_some_iff.1 HX3.out).1
  have nAX : bA ≠ bX := by have := HBX.out; omega
  have nRA : rb ≠ bA := by have := HBX.out; omega
  have nRX : rb ≠ bX := by have := HBX.out; omega
  have nXA : bX ≠ bA := by have := HBX.out; omega
  go_upto_region 21 with fail
  clear r3 fr3 lr3 p3 fp3 lp3 x3 fx3 lx3
  obtain ⟨w5, hw5⟩ : ∃ v, v = (w3.setCell ⟨bX, 2, none⟩ (.int .i64 V)) := ⟨_, rfl⟩
  rw [← hw5]
  have HX5 : Hid (w5.heap[bX]? = some (.cells #[.int .i64 2, .bool false, .int .i64 V, .string { data := #[] }, .slice none 0 0] 33 (0, 0))) := by rw [hw5]; exact (heap_setCell2 HX3.out)
  have HR5 : Hid (w5.heap[rb]? = some (.cells #[.slice (some a3) r.length c3, .bool false] 53 (0, 0))) := by rw [hw5]; exact ((Below.heap_setCell _ _ _ _ (show rb ≠ bX by have := HBX.out; omega)).trans HR3.out)
  have HA5 : Hid (w5.heap[bA]? = some (.cells #[.int .i64 0, .bool false, .int .i64 0, .string { data := #[] }, .slice none 0 0] 33 (0, 0))) := by rw [hw5]; exact ((Below.heap_setCell _ _ _ _ (show bA ≠ bX by have := HBX.out; omega)).trans HA3.out)
  have HK5 : Hid (Kg rb w w5) := by rw [hw5]; exact (kg_new HK3.out (by have := HBX.out; have := HBA.out; omega) _)
  have HB5 : Hid (isB w5 hi (some a3) r) := by rw [hw5]; exact isB_far HB3.out (fun b hb => ((Below.heap_setCell _ _ _ _ (show b ≠ bX by have := HBX.out; omega)).trans rfl))
  clear hw5
  have r5 := fun o => cell_of HR5.out o
  have fr5 := fun o => frozen_of HR5.out o
  have lr5 : rb < w5.heap.size := (Array.getElem?_eq_some_iff.1 HR5.out).1
  have p5 := fun o => cell_of HA5.out o
  have fp5 := fun o => frozen_of HA5.out o
  have lp5 : bA < w5.heap.size := (Array.getElem?_eq_some_iff.1 HA5.out).1
  have x5 := fun o => cell_of HX5.out o
  have fx5 := fun o => frozen_of HX5.out o
  have lx5 : bX < w5.heap.size := (Array.getElem?_eq_some_iff.1 HX5.out).1
  have nAX : bA ≠ bX := by have := HBX.out; omega
  have nRA : rb ≠ bA := by have := HBX.out; omega
  have nRX : rb ≠ bX := by have := HBX.out; omega
  have nXA : bX ≠ bA := by have := HBX.out; omega
  go_wp2_with fail
  refine bodyPost_ret (v := .agg #[.int .i64 2, .bool false, .int .i64 V, .string { data := #[] }, .slice none 0 0]) (by simp [results, Tryz.results22, go_sem, p5]) rfl ?_
  rw [HD.out]
  exact rr_end HK5.out (by have := HBA.out; omega) l0 hhi ⟨rfl, a3, c3, HR5.out, HB5.out, HC3.out⟩
set_option maxHeartbeats 1600000 in
theorem rr_5none (q : List Nat) (rb hi : Nat) (a : Option Addr) (c : Nat) (w : World) (d : Nat) (hd : d ≤ 31) (hT : takeN 8 q = none) (bs : List Nat) (hbs : bs = 5 :: q) (hh : w.heap[rb]? = some (.cells #[.slice a bs.length c, .bool false] 53 (0, 0))) (hhi : hi ≤ rb) (hB : isB w hi a bs) (hc : bs.length ≤ c) (hb : ∀ b ∈ bs, b < 256) (hl : bs.length ≤ 2147483647) : Calls Tryz.prog 22 #[.pointer (some ⟨rb, 0, none⟩), .int .i64 d] w (RrO w rb hi (decBody (31 - d != 0) false (rdec (31 - d)) 5 q)) := by
  have HT := Lib.hid hT
  have HD : Hid (decBody (31 - d != 0) false (rdec (31 - d)) 5 q = none) := by
    rw [Hid, decBody, if_neg (by decide), if_pos (by decide), hT]
  clear hT
  have l0 : rb < w.heap.size := (Array.getElem?_eq_some_iff.1 hh).1
  have HBY := Lib.hid hb
  have HBS := Lib.hid hbs
  have HH := Lib.hid hh
  have HB := Lib.hid hB
  clear hh hB hb hbs
  go_enter Tryz.func22, Tryz.ntmps22
  go_upto_region 1 with fail
  obtain ⟨w0, hw0⟩ : ∃ v, v = w.alloc (.cells #[.int .i64 0, .bool false, .int .i64 0, .string { data := #[] }, .slice none 0 0] 33) := ⟨_, rfl⟩
  have hb0 : Below w.heap.size w w0 := by rw [hw0]; exact (Below.refl _ _).alloc (Nat.le_refl _) _
  have hx0 : w0.heap[w.heap.size]? = some (.cells #[.int .i64 0, .bool false, .int .i64 0, .string { data := #[] }, .slice none 0 0] 33 (0, 0)) := by rw [hw0]; exact heap_last
  rw [← hw0]
  obtain ⟨bA, hbA⟩ : ∃ b, b = w.heap.size := ⟨_, rfl⟩
  rw [← hbA] at hx0 ⊢
  have HBA := Lib.hid hbA
  have HX0 := Lib.hid hx0
  have HK0 := Lib.hid ((Kg.refl rb w).below hb0)
  have HR0 := Lib.hid ((hb0.block rb l0).trans HH.out)
  have HB0 : Hid (isB w0 hi a bs) := isB_far HB.out (fun b hb => hb0.block b (by omega))
  have l1 : bA < w0.heap.size := (Array.getElem?_eq_some_iff.1 hx0).1
  clear hw0 hb0 hx0 hbA
  go_wp2_with fail
  refine (rnum_any rb hi a c bs 1 w0 HR0.out hhi HB0.out hc HBY.out (by omega)).mono ?_
  rintro e w1 ⟨hn, hk1⟩
  rw [HBS.out] at hn
  rw [show takeN 1 (5 :: q) = some (5, q) from by simp [takeN, unBe]] at hn
  obtain ⟨rfl, a1, c1, hr1, hB1, hc1⟩ := hn
  rw [show ofU 5 = 5 from by unfold ofU wrap64; omega]
  have HK1 := Lib.hid (HK0.out.trans hk1)
  have hx1 := kg_at hk1 HX0.out (by have := HBA.out; omega)
  have l2 : bA < w1.heap.size := (Array.getElem?_eq_some_iff.1 hx1).1
  go_upto_region 2 with fail
  obtain ⟨w2, hw2⟩ : ∃ v, v = w1.alloc (.cells #[.int .i64 5, .bool false, .int .i64 0, .string { data := #[] }, .slice none 0 0] 33) := ⟨_, rfl⟩
  have hb2 : Below w1.heap.size w1 w2 := by rw [hw2]; exact (Below.refl _ _).alloc (Nat.le_refl _) _
  have hx2 : w2.heap[w1.heap.size]? = some (.cells #[.int .i64 5, .bool false, .int .i64 0, .string { data := #[] }, .slice none 0 0] 33 (0, 0)) := by rw [hw2]; exact heap_last
  rw [← hw2]
  obtain ⟨bX, hbX⟩ : ∃ b, b = w1.heap.size := ⟨_, rfl⟩
  rw [← hbX] at hx2 ⊢
  have HBX := Lib.hid (show bA < bX ∧ rb < bA by have := HBA.out; omega)
  have HK2 := Lib.hid (HK1.out.below hb2)
  have HA2 := Lib.hid ((hb2.block bA l2).trans hx1)
  have l3 : rb < w1.heap.size := (Array.getElem?_eq_some_iff.1 hr1).1
  have HR2 := Lib.hid ((hb2.block rb l3).trans hr1)
  have HB2 : Hid (isB w2 hi (some a1) q) := isB_far hB1 (fun b hb => hb2.block b (by omega))
  have HC1 := Lib.hid hc1
  have HX2 := Lib.hid hx2
  clear hw2 hb2 hx1 hr1 hbX hk1 l1 l2 l3 HK1 HK0 HX0 HR0 HB0 hB1 hc1
  have r2 := fun o => cell_of HR2.out o
  have fr2 := fun o => frozen_of HR2.out o
  have lr2 : rb < w2.heap.size := (Array.getElem?_eq_some_iff.1 HR2.out).1
  have p2 := fun o => cell_of HA2.out o
  have fp2 := fun o => frozen_of HA2.out o
  have lp2 : bA < w2.heap.size := (Array.getElem?_eq_some_iff.1 HA2.out).1
  have x2 := fun o => cell_of HX2.out o
  have fx2 := fun o => frozen_of HX2.out o
  have lx2 : bX < w2.heap.size := (Array.getElem?_eq_some_iff.1 HX2.out).1
  have nAX : bA ≠ bX := by have := HBX.out; omega
  have nRA : rb ≠ bA := by have := HBX.out; omega
  have nRX : rb ≠ bX := by have := HBX.out; omega
  have nXA : bX ≠ bA := by have := HBX.out; omega
  go_wp2_with fail
  refine (rnum_any rb hi (some a1) c1 q 8 w2 HR2.out hhi HB2.out HC1.out (fun b h => HBY.out b (by rw [HBS.out]; exact List.mem_cons_of_mem _ h)) (by omega)).mono ?_
  rintro e w3 ⟨hn, hk3⟩
  rw [HT.out] at hn
  obtain ⟨rfl, a3, n3, c3, hr3⟩ := hn
  have HR3 := Lib.hid hr3
  have HX3 := Lib.hid (kg_at hk3 HX2.out (by have := HBX.out; omega))
  have HA3 := Lib.hid (kg_at hk3 HA2.out (by have := HBX.out; omega))
  have HK3 := Lib.hid (HK2.out.trans hk3)
  clear hr3 hk3
  clear r2 fr2 lr2 p2 fp2 lp2 x2 fx2 lx2
  have r3 := fun o => cell_of HR3.out o
  have fr3 := fun o => frozen_of HR3.out o
  have lr3 : rb < w3.heap.size := (Array.getElem?_eq_some_iff.1 HR3.out).1
  have p3 := fun o => cell_of HA3.out o
  have fp3 := fun o => frozen_of HA3.out o
  have lp3 : bA < w3.heap.size := (Array.getElem?_eq_some_iff.1 HA3.out).1
  have x3 := fun o => cell_of HX3.out o
  have fx3 := fun o => frozen_of HX3.out o
  have lx3 : bX < w3.heap.size := (Array.getElem?_eq_some_iff.1 HX3.out).1
  have nAX : bA ≠ bX := by have := HBX.out; omega
  have nRA : rb ≠ bA := by have := HBX.out; omega
  have nRX : rb ≠ bX := by have := HBX.out; omega
  have nXA : bX ≠ bA := by have := HBX.out; omega
  go_upto_region 21 with fail
  clear r3 fr3 lr3 p3 fp3 lp3 x3 fx3 lx3
  obtain ⟨w5, hw5⟩ : ∃ v, v = (w3.setCell ⟨bX, 2, none⟩ (.int .i64 0)) := ⟨_, rfl⟩
  rw [← hw5]
  have HX5 : Hid (w5.heap[bX]? = some (.cells #[.int .i64 5, .bool false, .int .i64 0, .string { data := #[] }, .slice none 0 0] 33 (0, 0))) := by rw [hw5]; exact (heap_setCell2 HX3.out)
  have HR5 : Hid (w5.heap[rb]? = some (.cells #[.slice a3 n3 c3, .bool true] 53 (0, 0))) := by rw [hw5]; exact ((Below.heap_setCell _ _ _ _ (show rb ≠ bX by have := HBX.out; omega)).trans HR3.out)
  have HA5 : Hid (w5.heap[bA]? = some (.cells #[.int .i64 0, .bool false, .int .i64 0, .string { data := #[] }, .slice none 0 0] 33 (0, 0))) := by rw [hw5]; exact ((Below.heap_setCell _ _ _ _ (show bA ≠ bX by have := HBX.out; omega)).trans HA3.out)
  have HK5 : Hid (Kg rb w w5) := by rw [hw5]; exact (kg_new HK3.out (by have := HBX.out; have := HBA.out; omega) _)
  clear hw5
  have r5 := fun o => cell_of HR5.out o
  have fr5 := fun o => frozen_of HR5.out o
  have lr5 : rb < w5.heap.size := (Array.getElem?_eq_some_iff.1 HR5.out).1
  have p5 := fun o => cell_of HA5.out o
  have fp5 := fun o => frozen_of HA5.out o
  have lp5 : bA < w5.heap.size := (Array.getElem?_eq_some_iff.1 HA5.out).1
  have x5 := fun o => cell_of HX5.out o
  have fx5 := fun o => frozen_of HX5.out o
  have lx5 : bX < w5.heap.size := (Array.getElem?_eq_some_iff.1 HX5.out).1
  have nAX : bA ≠ bX := by have := HBX.out; omega
  have nRA : rb ≠ bA := by have := HBX.out; omega
  have nRX : rb ≠ bX := by have := HBX.out; omega
  have nXA : bX ≠ bA := by have := HBX.out; omega
  go_wp2_with fail
  refine bodyPost_ret (v := .agg #[.int .i64 5, .bool false, .int .i64 0, .string { data := #[] }, .slice none 0 0]) (by simp [results, Tryz.results22, go_sem, p5]) rfl ?_
  rw [HD.out]
  exact rr_end HK5.out (by have := HBA.out; omega) l0 hhi ⟨_, _, _, HR5.out⟩
set_option maxHeartbeats 1600000 in
theorem rr_5some (r : List Nat) (q : List Nat) (rb hi : Nat) (a : Option Addr) (c : Nat) (w : World) (d : Nat) (hd : d ≤ 31) (m : Nat) (hT : takeN 8 q = some (m, r)) (bs : List Nat) (hbs : bs = 5 :: q) (hh : w.heap[rb]? = some (.cells #[.slice a bs.length c, .bool false] 53 (0, 0))) (hhi : hi ≤ rb) (hB : isB w hi a bs) (hc : bs.length ≤ c) (hb : ∀ b ∈ bs, b < 256) (hl : bs.length ≤ 2147483647) : Calls Tryz.prog 22 #[.pointer (some ⟨rb, 0, none⟩), .int .i64 d] w (RrO w rb hi (decBody (31 - d != 0) false (rdec (31 - d)) 5 q)) := by
  have HT := Lib.hid hT
  have HD : Hid (decBody (31 - d != 0) false (rdec (31 - d)) 5 q = some (⟨5, false, ofU m, ⟨#[]⟩, []⟩, r)) := by
    rw [Hid, decBody, if_neg (by decide), if_pos (by decide), hT]
    rfl
  obtain ⟨V, hV⟩ : ∃ V, V = ofU m := ⟨_, rfl⟩
  have HU : Hid (ofU m = V) := hV.symm
  rw [← hV] at HD
  clear hT hV
  have l0 : rb < w.heap.size := (Array.getElem?_eq_some_iff.1 hh).1
  have HBY := Lib.hid hb
  have HBS := Lib.hid hbs
  have HH := Lib.hid hh
  have HB := Lib.hid hB
  clear hh hB hb hbs
  go_enter Tryz.func22, Tryz.ntmps22
  go_upto_region 1 with fail
  obtain ⟨w0, hw0⟩ : ∃ v, v = w.alloc (.cells #[.int .i64 0, .bool false, .int .i64 0, .string { data := #[] }, .slice none 0 0] 33) := ⟨_, rfl⟩
  have hb0 : Below w.heap.size w w0 := by rw [hw0]; exact (Below.refl _ _).alloc (Nat.le_refl _) _
  have hx0 : w0.heap[w.heap.size]? = some (.cells #[.int .i64 0, .bool false, .int .i64 0, .string { data := #[] }, .slice none 0 0] 33 (0, 0)) := by rw [hw0]; exact heap_last
  rw [← hw0]
  obtain ⟨bA, hbA⟩ : ∃ b, b = w.heap.size := ⟨_, rfl⟩
  rw [← hbA] at hx0 ⊢
  have HBA := Lib.hid hbA
  have HX0 := Lib.hid hx0
  have HK0 := Lib.hid ((Kg.refl rb w).below hb0)
  have HR0 := Lib.hid ((hb0.block rb l0).trans HH.out)
  have HB0 : Hid (isB w0 hi a bs) := isB_far HB.out (fun b hb => hb0.block b (by omega))
  have l1 : bA < w0.heap.size := (Array.getElem?_eq_some_iff.1 hx0).1
  clear hw0 hb0 hx0 hbA
  go_wp2_with fail
  refine (rnum_any rb hi a c bs 1 w0 HR0.out hhi HB0.out hc HBY.out (by omega)).mono ?_
  rintro e w1 ⟨hn, hk1⟩
  rw [HBS.out] at hn
  rw [show takeN 1 (5 :: q) = some (5, q) from by simp [takeN, unBe]] at hn
  obtain ⟨rfl, a1, c1, hr1, hB1, hc1⟩ := hn
  rw [show ofU 5 = 5 from by unfold ofU wrap64; omega]
  have HK1 := Lib.hid (HK0.out.trans hk1)
  have hx1 := kg_at hk1 HX0.out (by have := HBA.out; omega)
  have l2 : bA < w1.heap.size := (Array.getElem?_eq_some_iff.1 hx1).1
  go_upto_region 2 with fail
  obtain ⟨w2, hw2⟩ : ∃ v, v = w1.alloc (.cells #[.int .i64 5, .bool false, .int .i64 0, .string { data := #[] }, .slice none 0 0] 33) := ⟨_, rfl⟩
  have hb2 : Below w1.heap.size w1 w2 := by rw [hw2]; exact (Below.refl _ _).alloc (Nat.le_refl _) _
  have hx2 : w2.heap[w1.heap.size]? = some (.cells #[.int .i64 5, .bool false, .int .i64 0, .string { data := #[] }, .slice none 0 0] 33 (0, 0)) := by rw [hw2]; exact heap_last
  rw [← hw2]
  obtain ⟨bX, hbX⟩ : ∃ b, b = w1.heap.size := ⟨_, rfl⟩
  rw [← hbX] at hx2 ⊢
  have HBX := Lib.hid (show bA < bX ∧ rb < bA by have := HBA.out; omega)
  have HK2 := Lib.hid (HK1.out.below hb2)
  have HA2 := Lib.hid ((hb2.block bA l2).trans hx1)
  have l3 : rb < w1.heap.size := (Array.getElem?_eq_some_iff.1 hr1).1
  have HR2 := Lib.hid ((hb2.block rb l3).trans hr1)
  have HB2 : Hid (isB w2 hi (some a1) q) := isB_far hB1 (fun b hb => hb2.block b (by omega))
  have HC1 := Lib.hid hc1
  have HX2 := Lib.hid hx2
  clear hw2 hb2 hx1 hr1 hbX hk1 l1 l2 l3 HK1 HK0 HX0 HR0 HB0 hB1 hc1
  have r2 := fun o => cell_of HR2.out o
  have fr2 := fun o => frozen_of HR2.out o
  have lr2 : rb < w2.heap.size := (Array.getElem?_eq_some_iff.1 HR2.out).1
  have p2 := fun o => cell_of HA2.out o
  have fp2 := fun o => frozen_of HA2.out o
  have lp2 : bA < w2.heap.size := (Array.getElem?_eq_some_iff.1 HA2.out).1
  have x2 := fun o => cell_of HX2.out o
  have fx2 := fun o => frozen_of HX2.out o
  have lx2 : bX < w2.heap.size := (Array.getElem?_eq_some_iff.1 HX2.out).1
  have nAX : bA ≠ bX := by have := HBX.out; omega
  have nRA : rb ≠ bA := by have := HBX.out; omega
  have nRX : rb ≠ bX := by have := HBX.out; omega
  have nXA : bX ≠ bA := by have := HBX.out; omega
  go_wp2_with fail
  refine (rnum_any rb hi (some a1) c1 q 8 w2 HR2.out hhi HB2.out HC1.out (fun b h => HBY.out b (by rw [HBS.out]; exact List.mem_cons_of_mem _ h)) (by omega)).mono ?_
  rintro e w3 ⟨hn, hk3⟩
  rw [HT.out] at hn
  obtain ⟨rfl, a3, c3, hr3, hB3, hc3⟩ := hn
  rw [HU.out]
  have HB3 := Lib.hid hB3
  have HC3 := Lib.hid hc3
  clear hB3 hc3
  have HR3 := Lib.hid hr3
  have HX3 := Lib.hid (kg_at hk3 HX2.out (by have := HBX.out; omega))
  have HA3 := Lib.hid (kg_at hk3 HA2.out (by have := HBX.out; omega))
  have HK3 := Lib.hid (HK2.out.trans hk3)
  clear hr3 hk3
  clear r2 fr2 lr2 p2 fp2 lp2 x2 fx2 lx2
  have r3 := fun o => cell_of HR3.out o
  have fr3 := fun o => frozen_of HR3.out o
  have lr3 : rb < w3.heap.size := (Array.getElem?_eq_some_iff.1 HR3.out).1
  have p3 := fun o => cell_of HA3.out o
  have fp3 := fun o => frozen_of HA3.out o
  have lp3 : bA < w3.heap.size := (Array.getElem?_eq_some_iff.1 HA3.out).1
  have x3 := fun o => cell_of HX3.out o
  have fx3 := fun o => frozen_of HX3.out o
  have lx3 : bX < w3.heap.size := (Array.getElem?_eq_some_iff.1 HX3.out).1
  have nAX : bA ≠ bX := by have := HBX.out; omega
  have nRA : rb ≠ bA := by have := HBX.out; omega
  have nRX : rb ≠ bX := by have := HBX.out; omega
  have nXA : bX ≠ bA := by have := HBX.out; omega
  go_upto_region 21 with fail
  clear r3 fr3 lr3 p3 fp3 lp3 x3 fx3 lx3
  obtain ⟨w5, hw5⟩ : ∃ v, v = (w3.setCell ⟨bX, 2, none⟩ (.int .i64 V)) := ⟨_, rfl⟩
  rw [← hw5]
  have HX5 : Hid (w5.heap[bX]? = some (.cells #[.int .i64 5, .bool false, .int .i64 V, .string { data := #[] }, .slice none 0 0] 33 (0, 0))) := by rw [hw5]; exact (heap_setCell2 HX3.out)
  have HR5 : Hid (w5.heap[rb]? = some (.cells #[.slice (some a3) r.length c3, .bool false] 53 (0, 0))) := by rw [hw5]; exact ((Below.heap_setCell _ _ _ _ (show rb ≠ bX by have := HBX.out; omega)).trans HR3.out)
  have HA5 : Hid (w5.heap[bA]? = some (.cells #[.int .i64 0, .bool false, .int .i64 0, .string { data := #[] }, .slice none 0 0] 33 (0, 0))) := by rw [hw5]; exact ((Below.heap_setCell _ _ _ _ (show bA ≠ bX by have := HBX.out; omega)).trans HA3.out)
  have HK5 : Hid (Kg rb w w5) := by rw [hw5]; exact (kg_new HK3.out (by have := HBX.out; have := HBA.out; omega) _)
  have HB5 : Hid (isB w5 hi (some a3) r) := by rw [hw5]; exact isB_far HB3.out (fun b hb => ((Below.heap_setCell _ _ _ _ (show b ≠ bX by have := HBX.out; omega)).trans rfl))
  clear hw5
  have r5 := fun o => cell_of HR5.out o
  have fr5 := fun o => frozen_of HR5.out o
  have lr5 : rb < w5.heap.size := (Array.getElem?_eq_some_iff.1 HR5.out).1
  have p5 := fun o => cell_of HA5.out o
  have fp5 := fun o => frozen_of HA5.out o
  have lp5 : bA < w5.heap.size := (Array.getElem?_eq_some_iff.1 HA5.out).1
  have x5 := fun o => cell_of HX5.out o
  have fx5 := fun o => frozen_of HX5.out o
  have lx5 : bX < w5.heap.size := (Array.getElem?_eq_some_iff.1 HX5.out).1
  have nAX : bA ≠ bX := by have := HBX.out; omega
  have nRA : rb ≠ bA := by have := HBX.out; omega
  have nRX : rb ≠ bX := by have := HBX.out; omega
  have nXA : bX ≠ bA := by have := HBX.out; omega
  go_wp2_with fail
  refine bodyPost_ret (v := .agg #[.int .i64 5, .bool false, .int .i64 V, .string { data := #[] }, .slice none 0 0]) (by simp [results, Tryz.results22, go_sem, p5]) rfl ?_
  rw [HD.out]
  exact rr_end HK5.out (by have := HBA.out; omega) l0 hhi ⟨rfl, a3, c3, HR5.out, HB5.out, HC3.out⟩
set_option maxHeartbeats 3200000 in
theorem rr_3none (q : List Nat) (rb hi : Nat) (a : Option Addr) (c : Nat) (w : World) (d : Nat) (hd : d ≤ 31) (hT : takeN 4 q = none) (bs : List Nat) (hbs : bs = 3 :: q) (hh : w.heap[rb]? = some (.cells #[.slice a bs.length c, .bool false] 53 (0, 0))) (hhi : hi ≤ rb) (hB : isB w hi a bs) (hc : bs.length ≤ c) (hb : ∀ b ∈ bs, b < 256) (hl : bs.length ≤ 2147483647) : Calls Tryz.prog 22 #[.pointer (some ⟨rb, 0, none⟩), .int .i64 d] w (RrO w rb hi (decBody (31 - d != 0) false (rdec (31 - d)) 3 q)) := by
  have HT := Lib.hid hT
  have HD : Hid (decBody (31 - d != 0) false (rdec (31 - d)) 3 q = none) := by
    rw [Hid, decBody, if_neg (by decide), if_neg (by decide), if_pos rfl, hT]
  clear hT
  have l0 : rb < w.heap.size := (Array.getElem?_eq_some_iff.1 hh).1
  have HBY := Lib.hid hb
  have HBS := Lib.hid hbs
  have HH := Lib.hid hh
  have HB := Lib.hid hB
  clear hh hB hb hbs
  go_enter Tryz.func22, Tryz.ntmps22
  go_upto_region 1 with fail
  obtain ⟨w0, hw0⟩ : ∃ v, v = w.alloc (.cells #[.int .i64 0, .bool false, .int .i64 0, .string { data := #[] }, .slice none 0 0] 33) := ⟨_, rfl⟩
  have hb0 : Below w.heap.size w w0 := by rw [hw0]; exact (Below.refl _ _).alloc (Nat.le_refl _) _
  have hx0 : w0.heap[w.heap.size]? = some (.cells #[.int .i64 0, .bool false, .int .i64 0, .string { data := #[] }, .slice none 0 0] 33 (0, 0)) := by rw [hw0]; exact heap_last
  rw [← hw0]
  obtain ⟨bA, hbA⟩ : ∃ b, b = w.heap.size := ⟨_, rfl⟩
  rw [← hbA] at hx0 ⊢
  have HBA := Lib.hid hbA
  have HX0 := Lib.hid hx0
  have HK0 := Lib.hid ((Kg.refl rb w).below hb0)
  have HR0 := Lib.hid ((hb0.block rb l0).trans HH.out)
  have HB0 : Hid (isB w0 hi a bs) := isB_far HB.out (fun b hb => hb0.block b (by omega))
  have l1 : bA < w0.heap.size := (Array.getElem?_eq_some_iff.1 hx0).1
  clear hw0 hb0 hx0 hbA
  go_wp2_with fail
  refine (rnum_any rb hi a c bs 1 w0 HR0.out hhi HB0.out hc HBY.out (by omega)).mono ?_
  rintro e w1 ⟨hn, hk1⟩
  rw [HBS.out] at hn
  rw [show takeN 1 (3 :: q) = some (3, q) from by simp [takeN, unBe]] at hn
  obtain ⟨rfl, a1, c1, hr1, hB1, hc1⟩ := hn
  rw [show ofU 3 = 3 from by unfold ofU wrap64; omega]
  have HK1 := Lib.hid (HK0.out.trans hk1)
  have hx1 := kg_at hk1 HX0.out (by have := HBA.out; omega)
  have l2 : bA < w1.heap.size := (Array.getElem?_eq_some_iff.1 hx1).1
  go_upto_region 2 with fail
  obtain ⟨w2, hw2⟩ : ∃ v, v = w1.alloc (.cells #[.int .i64 3, .bool false, .int .i64 0, .string { data := #[] }, .slice none 0 0] 33) := ⟨_, rfl⟩
  have hb2 : Below w1.heap.size w1 w2 := by rw [hw2]; exact (Below.refl _ _).alloc (Nat.le_refl _) _
  have hx2 : w2.heap[w1.heap.size]? = some (.cells #[.int .i64 3, .bool false, .int .i64 0, .string { data := #[] }, .slice none 0 0] 33 (0, 0)) := by rw [hw2]; exact heap_last
  rw [← hw2]
  obtain ⟨bX, hbX⟩ : ∃ b, b = w1.heap.size := ⟨_, rfl⟩
  rw [← hbX] at hx2 ⊢
  have HBX := Lib.hid (show bA < bX ∧ rb < bA by have := HBA.out; omega)
  have HK2 := Lib.hid (HK1.out.below hb2)
  have HA2 := Lib.hid ((hb2.block bA l2).trans hx1)
  have l3 : rb < w1.heap.size := (Array.getElem?_eq_some_iff.1 hr1).1
  have HR2 := Lib.hid ((hb2.block rb l3).trans hr1)
  have HB2 : Hid (isB w2 hi (some a1) q) := isB_far hB1 (fun b hb => hb2.block b (by omega))
  have HC1 := Lib.hid hc1
  have HX2 := Lib.hid hx2
  clear hw2 hb2 hx1 hr1 hbX hk1 l1 l2 l3 HK1 HK0 HX0 HR0 HB0 hB1 hc1
  have r2 := fun o => cell_of HR2.out o
  have fr2 := fun o => frozen_of HR2.out o
  have lr2 : rb < w2.heap.size := (Array.getElem?_eq_some_iff.1 HR2.out).1
  have p2 := fun o => cell_of HA2.out o
  have fp2 := fun o => frozen_of HA2.out o
  have lp2 : bA < w2.heap.size := (Array.getElem?_eq_some_iff.1 HA2.out).1
  have x2 := fun o => cell_of HX2.out o
  have fx2 := fun o => frozen_of HX2.out o
  have lx2 : bX < w2.heap.size := (Array.getElem?_eq_some_iff.1 HX2.out).1
  have nAX : bA ≠ bX := by have := HBX.out; omega
  have nRA : rb ≠ bA := by have := HBX.out; omega
  have nRX : rb ≠ bX := by have := HBX.out; omega
  have nXA : bX ≠ bA := by have := HBX.out; omega
  go_wp2_with fail
  refine (rnum_any rb hi (some a1) c1 q 4 w2 HR2.out hhi HB2.out HC1.out (fun b h => HBY.out b (by rw [HBS.out]; exact List.mem_cons_of_mem _ h)) (by omega)).mono ?_
  rintro e w3 ⟨hn, hk3⟩
  rw [HT.out] at hn
  obtain ⟨rfl, a3, n3, c3, hr3⟩ := hn
  have HR3 := Lib.hid hr3
  have HX3 := Lib.hid (kg_at hk3 HX2.out (by have := HBX.out; omega))
  have HA3 := Lib.hid (kg_at hk3 HA2.out (by have := HBX.out; omega))
  have HK3 := Lib.hid (HK2.out.trans hk3)
  clear hr3 hk3
  clear r2 fr2 lr2 p2 fp2 lp2 x2 fx2 lx2
  go_wp2_with fail
  refine (take_bad rb 0 w3 ⟨_, _, _, HR3.out⟩).mono ?_
  rintro e w4 ⟨rfl, ⟨a4, n4, c4, hr4⟩, hk4⟩
  have hcv : (convert 28 9 (.slice none 0 0)).run Tryz.prog w4 = .ok (.string { data := #[] }) w4 := run_convert_bytes_nil (P := Tryz.prog) w4 28 5 Tryz.underlying28 Tryz.underlying5 0 0 9 Tryz.underlying9
  have HR4 := Lib.hid hr4
  have HX4 := Lib.hid (kg_at hk4 HX3.out (by have := HBX.out; omega))
  have HA4 := Lib.hid (kg_at hk4 HA3.out (by have := HBX.out; omega))
  have HK4 := Lib.hid (HK3.out.trans hk4)
  clear hr4 hk4
  have r4 := fun o => cell_of HR4.out o
  have fr4 := fun o => frozen_of HR4.out o
  have lr4 : rb < w4.heap.size := (Array.getElem?_eq_some_iff.1 HR4.out).1
  have p4 := fun o => cell_of HA4.out o
  have fp4 := fun o => frozen_of HA4.out o
  have lp4 : bA < w4.heap.size := (Array.getElem?_eq_some_iff.1 HA4.out).1
  have x4 := fun o => cell_of HX4.out o
  have fx4 := fun o => frozen_of HX4.out o
  have lx4 : bX < w4.heap.size := (Array.getElem?_eq_some_iff.1 HX4.out).1
  have nAX : bA ≠ bX := by have := HBX.out; omega
  have nRA : rb ≠ bA := by have := HBX.out; omega
  have nRX : rb ≠ bX := by have := HBX.out; omega
  have nXA : bX ≠ bA := by have := HBX.out; omega
  go_upto_region 21 with fail
  clear r4 fr4 lr4 p4 fp4 lp4 x4 fx4 lx4
  obtain ⟨w5, hw5⟩ : ∃ v, v = (w4.setCell ⟨bX, 3, none⟩ (.string { data := #[] })) := ⟨_, rfl⟩
  rw [← hw5]
  have HX5 : Hid (w5.heap[bX]? = some (.cells #[.int .i64 3, .bool false, .int .i64 0, .string { data := #[] }, .slice none 0 0] 33 (0, 0))) := by rw [hw5]; exact (heap_setCell2 HX4.out)
  have HR5 : Hid (w5.heap[rb]? = some (.cells #[.slice a4 n4 c4, .bool true] 53 (0, 0))) := by rw [hw5]; exact ((Below.heap_setCell _ _ _ _ (show rb ≠ bX by have := HBX.out; omega)).trans HR4.out)
  have HA5 : Hid (w5.heap[bA]? = some (.cells #[.int .i64 0, .bool false, .int .i64 0, .string { data := #[] }, .slice none 0 0] 33 (0, 0))) := by rw [hw5]; exact ((Below.heap_setCell _ _ _ _ (show bA ≠ bX by have := HBX.out; omega)).trans HA4.out)
  have HK5 : Hid (Kg rb w w5) := by rw [hw5]; exact (kg_new HK4.out (by have := HBX.out; have := HBA.out; omega) _)
  clear hw5
  have r5 := fun o => cell_of HR5.out o
  have fr5 := fun o => frozen_of HR5.out o
  have lr5 : rb < w5.heap.size := (Array.getElem?_eq_some_iff.1 HR5.out).1
  have p5 := fun o => cell_of HA5.out o
  have fp5 := fun o => frozen_of HA5.out o
  have lp5 : bA < w5.heap.size := (Array.getElem?_eq_some_iff.1 HA5.out).1
  have x5 := fun o => cell_of HX5.out o
  have fx5 := fun o => frozen_of HX5.out o
  have lx5 : bX < w5.heap.size := (Array.getElem?_eq_some_iff.1 HX5.out).1
  have nAX : bA ≠ bX := by have := HBX.out; omega
  have nRA : rb ≠ bA := by have := HBX.out; omega
  have nRX : rb ≠ bX := by have := HBX.out; omega
  have nXA : bX ≠ bA := by have := HBX.out; omega
  go_wp2_with fail
  refine bodyPost_ret (v := .agg #[.int .i64 3, .bool false, .int .i64 0, .string { data := #[] }, .slice none 0 0]) (by simp [results, Tryz.results22, go_sem, p5]) rfl ?_
  rw [HD.out]
  exact rr_end HK5.out (by have := HBA.out; omega) l0 hhi ⟨_, _, _, HR5.out⟩
set_option maxHeartbeats 3200000 in
theorem rr_3long (r : List Nat) (q : List Nat) (rb hi : Nat) (a : Option Addr) (c : Nat) (w : World) (d : Nat) (hd : d ≤ 31) (m : Nat) (hm : r.length < m) (hm2 : m < 4294967296) (hT : takeN 4 q = some (m, r)) (bs : List Nat) (hbs : bs = 3 :: q) (hh : w.heap[rb]? = some (.cells #[.slice a bs.length c, .bool false] 53 (0, 0))) (hhi : hi ≤ rb) (hB : isB w hi a bs) (hc : bs.length ≤ c) (hb : ∀ b ∈ bs, b < 256) (hl : bs.length ≤ 2147483647) : Calls Tryz.prog 22 #[.pointer (some ⟨rb, 0, none⟩), .int .i64 d] w (RrO w rb hi (decBody (31 - d != 0) false (rdec (31 - d)) 3 q)) := by
  have HT := Lib.hid hT
  have HD : Hid (decBody (31 - d != 0) false (rdec (31 - d)) 3 q = none) := by
    rw [Hid, decBody, if_neg (by decide), if_neg (by decide), if_pos rfl, hT]
    exact if_pos hm
  have HU : Hid (ofU m = (m : Int)) := by unfold ofU wrap64; rw [Hid]; omega
  clear hT
  have l0 : rb < w.heap.size := (Array.getElem?_eq_some_iff.1 hh).1
  have HBY := Lib.hid hb
  have HBS := Lib.hid hbs
  have HH := Lib.hid hh
  have HB := Lib.hid hB
  clear hh hB hb hbs
  go_enter Tryz.func22, Tryz.ntmps22
  go_upto_region 1 with fail
  obtain ⟨w0, hw0⟩ : ∃ v, v = w.alloc (.cells #[.int .i64 0, .bool false, .int .i64 0, .string { data := #[] }, .slice none 0 0] 33) := ⟨_, rfl⟩
  have hb0 : Below w.heap.size w w0 := by rw [hw0]; exact (Below.refl _ _).alloc (Nat.le_refl _) _
  have hx0 : w0.heap[w.heap.size]? = some (.cells #[.int .i64 0, .bool false, .int .i64 0, .string { data := #[] }, .slice none 0 0] 33 (0, 0)) := by rw [hw0]; exact heap_last
  rw [← hw0]
  obtain ⟨bA, hbA⟩ : ∃ b, b = w.heap.size := ⟨_, rfl⟩
  rw [← hbA] at hx0 ⊢
  have HBA := Lib.hid hbA
  have HX0 := Lib.hid hx0
  have HK0 := Lib.hid ((Kg.refl rb w).below hb0)
  have HR0 := Lib.hid ((hb0.block rb l0).trans HH.out)
  have HB0 : Hid (isB w0 hi a bs) := isB_far HB.out (fun b hb => hb0.block b (by omega))
  have l1 : bA < w0.heap.size := (Array.getElem?_eq_some_iff.1 hx0).1
  clear hw0 hb0 hx0 hbA
  go_wp2_with fail
  refine (rnum_any rb hi a c bs 1 w0 HR0.out hhi HB0.out hc HBY.out (by omega)).mono ?_
  rintro e w1 ⟨hn, hk1⟩
  rw [HBS.out] at hn
  rw [show takeN 1 (3 :: q) = some (3, q) from by simp [takeN, unBe]] at hn
  obtain ⟨rfl, a1, c1, hr1, hB1, hc1⟩ := hn
  rw [show ofU 3 = 3 from by unfold ofU wrap64; omega]
  have HK1 := Lib.hid (HK0.out.trans hk1)
  have hx1 := kg_at hk1 HX0.out (by have := HBA.out; omega)
  have l2 : bA < w1.heap.size := (Array.getElem?_eq_some_iff.1 hx1).1
  go_upto_region 2 with fail
  obtain ⟨w2, hw2⟩ : ∃ v, v = w1.alloc (.cells #[.int .i64 3, .bool false, .int .i64 0, .string { data := #[] }, .slice none 0 0] 33) := ⟨_, rfl⟩
  have hb2 : Below w1.heap.size w1 w2 := by rw [hw2]; exact (Below.refl _ _).alloc (Nat.le_refl _) _
  have hx2 : w2.heap[w1.heap.size]? = some (.cells #[.int .i64 3, .bool false, .int .i64 0, .string { data := #[] }, .slice none 0 0] 33 (0, 0)) := by rw [hw2]; exact heap_last
  rw [← hw2]
  obtain ⟨bX, hbX⟩ : ∃ b, b = w1.heap.size := ⟨_, rfl⟩
  rw [← hbX] at hx2 ⊢
  have HBX := Lib.hid (show bA < bX ∧ rb < bA by have := HBA.out; omega)
  have HK2 := Lib.hid (HK1.out.below hb2)
  have HA2 := Lib.hid ((hb2.block bA l2).trans hx1)
  have l3 : rb < w1.heap.size := (Array.getElem?_eq_some_iff.1 hr1).1
  have HR2 := Lib.hid ((hb2.block rb l3).trans hr1)
  have HB2 : Hid (isB w2 hi (some a1) q) := isB_far hB1 (fun b hb => hb2.block b (by omega))
  have HC1 := Lib.hid hc1
  have HX2 := Lib.hid hx2
  clear hw2 hb2 hx1 hr1 hbX hk1 l1 l2 l3 HK1 HK0 HX0 HR0 HB0 hB1 hc1
  have r2 := fun o => cell_of HR2.out o
  have fr2 := fun o => frozen_of HR2.out o
  have lr2 : rb < w2.heap.size := (Array.getElem?_eq_some_iff.1 HR2.out).1
  have p2 := fun o => cell_of HA2.out o
  have fp2 := fun o => frozen_of HA2.out o
  have lp2 : bA < w2.heap.size := (Array.getElem?_eq_some_iff.1 HA2.out).1
  have x2 := fun o => cell_of HX2.out o
  have fx2 := fun o => frozen_of HX2.out o
  have lx2 : bX < w2.heap.size := (Array.getElem?_eq_some_iff.1 HX2.out).1
  have nAX : bA ≠ bX := by have := HBX.out; omega
  have nRA : rb ≠ bA := by have := HBX.out; omega
  have nRX : rb ≠ bX := by have := HBX.out; omega
  have nXA : bX ≠ bA := by have := HBX.out; omega
  go_wp2_with fail
  refine (rnum_any rb hi (some a1) c1 q 4 w2 HR2.out hhi HB2.out HC1.out (fun b h => HBY.out b (by rw [HBS.out]; exact List.mem_cons_of_mem _ h)) (by omega)).mono ?_
  rintro e w3 ⟨hn, hk3⟩
  rw [HT.out] at hn
  obtain ⟨rfl, a3, c3, hr3, hB3, hc3⟩ := hn
  rw [HU.out]
  have HB3 := Lib.hid hB3
  have HC3 := Lib.hid hc3
  clear hB3 hc3
  have HR3 := Lib.hid hr3
  have HX3 := Lib.hid (kg_at hk3 HX2.out (by have := HBX.out; omega))
  have HA3 := Lib.hid (kg_at hk3 HA2.out (by have := HBX.out; omega))
  have HK3 := Lib.hid (HK2.out.trans hk3)
  clear hr3 hk3
  clear r2 fr2 lr2 p2 fp2 lp2 x2 fx2 lx2
  go_wp2_with fail
  refine (take_long rb m (some a3) r.length c3 w3 hm HR3.out).mono ?_
  rintro e w4 ⟨rfl, ⟨a4, n4, c4, hr4⟩, hk4⟩
  have hcv : (convert 28 9 (.slice none 0 0)).run Tryz.prog w4 = .ok (.string { data := #[] }) w4 := run_convert_bytes_nil (P := Tryz.prog) w4 28 5 Tryz.underlying28 Tryz.underlying5 0 0 9 Tryz.underlying9
  have HR4 := Lib.hid hr4
  have HX4 := Lib.hid (kg_at hk4 HX3.out (by have := HBX.out; omega))
  have HA4 := Lib.hid (kg_at hk4 HA3.out (by have := HBX.out; omega))
  have HK4 := Lib.hid (HK3.out.trans hk4)
  clear hr4 hk4
  have r4 := fun o => cell_of HR4.out o
  have fr4 := fun o => frozen_of HR4.out o
  have lr4 : rb < w4.heap.size := (Array.getElem?_eq_some_iff.1 HR4.out).1
  have p4 := fun o => cell_of HA4.out o
  have fp4 := fun o => frozen_of HA4.out o
  have lp4 : bA < w4.heap.size := (Array.getElem?_eq_some_iff.1 HA4.out).1
  have x4 := fun o => cell_of HX4.out o
  have fx4 := fun o => frozen_of HX4.out o
  have lx4 : bX < w4.heap.size := (Array.getElem?_eq_some_iff.1 HX4.out).1
  have nAX : bA ≠ bX := by have := HBX.out; omega
  have nRA : rb ≠ bA := by have := HBX.out; omega
  have nRX : rb ≠ bX := by have := HBX.out; omega
  have nXA : bX ≠ bA := by have := HBX.out; omega
  go_upto_region 21 with fail
  clear r4 fr4 lr4 p4 fp4 lp4 x4 fx4 lx4
  obtain ⟨w5, hw5⟩ : ∃ v, v = (w4.setCell ⟨bX, 3, none⟩ (.string { data := #[] })) := ⟨_, rfl⟩
  rw [← hw5]
  have HX5 : Hid (w5.heap[bX]? = some (.cells #[.int .i64 3, .bool false, .int .i64 0, .string { data := #[] }, .slice none 0 0] 33 (0, 0))) := by rw [hw5]; exact (heap_setCell2 HX4.out)
  have HR5 : Hid (w5.heap[rb]? = some (.cells #[.slice a4 n4 c4, .bool true] 53 (0, 0))) := by rw [hw5]; exact ((Below.heap_setCell _ _ _ _ (show rb ≠ bX by have := HBX.out; omega)).trans HR4.out)
  have HA5 : Hid (w5.heap[bA]? = some (.cells #[.int .i64 0, .bool false, .int .i64 0, .string { data := #[] }, .slice none 0 0] 33 (0, 0))) := by rw [hw5]; exact ((Below.heap_setCell _ _ _ _ (show bA ≠ bX by have := HBX.out; omega)).trans HA4.out)
  have HK5 : Hid (Kg rb w w5) := by rw [hw5]; exact (kg_new HK4.out (by have := HBX.out; have := HBA.out; omega) _)
  clear hw5
  have r5 := fun o => cell_of HR5.out o
  have fr5 := fun o => frozen_of HR5.out o
  have lr5 : rb < w5.heap.size := (Array.getElem?_eq_some_iff.1 HR5.out).1
  have p5 := fun o => cell_of HA5.out o
  have fp5 := fun o => frozen_of HA5.out o
  have lp5 : bA < w5.heap.size := (Array.getElem?_eq_some_iff.1 HA5.out).1
  have x5 := fun o => cell_of HX5.out o
  have fx5 := fun o => frozen_of HX5.out o
  have lx5 : bX < w5.heap.size := (Array.getElem?_eq_some_iff.1 HX5.out).1
  have nAX : bA ≠ bX := by have := HBX.out; omega
  have nRA : rb ≠ bA := by have := HBX.out; omega
  have nRX : rb ≠ bX := by have := HBX.out; omega
  have nXA : bX ≠ bA := by have := HBX.out; omega
  go_wp2_with fail
  refine bodyPost_ret (v := .agg #[.int .i64 3, .bool false, .int .i64 0, .string { data := #[] }, .slice none 0 0]) (by simp [results, Tryz.results22, go_sem, p5]) rfl ?_
  rw [HD.out]
  exact rr_end HK5.out (by have := HBA.out; omega) l0 hhi ⟨_, _, _, HR5.out⟩
set_option maxHeartbeats 3200000 in
theorem rr_3ok (r : List Nat) (q : List Nat) (rb hi : Nat) (a : Option Addr) (c : Nat) (w : World) (d : Nat) (hd : d ≤ 31) (m : Nat) (hm : m ≤ r.length) (hm2 : m < 4294967296) (hT : takeN 4 q = some (m, r)) (bs : List Nat) (hbs : bs = 3 :: q) (hh : w.heap[rb]? = some (.cells #[.slice a bs.length c, .bool false] 53 (0, 0))) (hhi : hi ≤ rb) (hB : isB w hi a bs) (hc : bs.length ≤ c) (hb : ∀ b ∈ bs, b < 256) (hl : bs.length ≤ 2147483647) : Calls Tryz.prog 22 #[.pointer (some ⟨rb, 0, none⟩), .int .i64 d] w (RrO w rb hi (decBody (31 - d != 0) false (rdec (31 - d)) 3 q)) := by
  have HT := Lib.hid hT
  obtain ⟨t, ht⟩ : ∃ t, t = txOf (r.take m) := ⟨_, rfl⟩
  have HTX := Lib.hid ht
  have HD : Hid (decBody (31 - d != 0) false (rdec (31 - d)) 3 q = some (⟨3, false, 0, t, []⟩, r.drop m)) := by
    rw [Hid, decBody, if_neg (by decide), if_neg (by decide), if_pos rfl, hT, ht]
    exact if_neg (by omega)
  have HU : Hid (ofU m = (m : Int)) := by unfold ofU wrap64; rw [Hid]; omega
  have HRL : Hid (r.length ≤ 2147483647 ∧ ∀ b ∈ r, b < 256) := ⟨by have := takeN_len hT; rw [hbs] at hl; simp at hl; omega, takeN_rest hT (fun b h => hb b (by rw [hbs]; exact List.mem_cons_of_mem _ h))⟩
  clear hT ht
  have l0 : rb < w.heap.size := (Array.getElem?_eq_some_iff.1 hh).1
  have HBY := Lib.hid hb
  have HBS := Lib.hid hbs
  have HH := Lib.hid hh
  have HB := Lib.hid hB
  clear hh hB hb hbs
  go_enter Tryz.func22, Tryz.ntmps22
  go_upto_region 1 with fail
  obtain ⟨w0, hw0⟩ : ∃ v, v = w.alloc (.cells #[.int .i64 0, .bool false, .int .i64 0, .string { data := #[] }, .slice none 0 0] 33) := ⟨_, rfl⟩
  have hb0 : Below w.heap.size w w0 := by rw [hw0]; exact (Below.refl _ _).alloc (Nat.le_refl _) _
  have hx0 : w0.heap[w.heap.size]? = some (.cells #[.int .i64 0, .bool false, .int .i64 0, .string { data := #[] }, .slice none 0 0] 33 (0, 0)) := by rw [hw0]; exact heap_last
  rw [← hw0]
  obtain ⟨bA, hbA⟩ : ∃ b, b = w.heap.size := ⟨_, rfl⟩
  rw [← hbA] at hx0 ⊢
  have HBA := Lib.hid hbA
  have HX0 := Lib.hid hx0
  have HK0 := Lib.hid ((Kg.refl rb w).below hb0)
  have HR0 := Lib.hid ((hb0.block rb l0).trans HH.out)
  have HB0 : Hid (isB w0 hi a bs) := isB_far HB.out (fun b hb => hb0.block b (by omega))
  have l1 : bA < w0.heap.size := (Array.getElem?_eq_some_iff.1 hx0).1
  clear hw0 hb0 hx0 hbA
  go_wp2_with fail
  refine (rnum_any rb hi a c bs 1 w0 HR0.out hhi HB0.out hc HBY.out (by omega)).mono ?_
  rintro e w1 ⟨hn, hk1⟩
  rw [HBS.out] at hn
  rw [show takeN 1 (3 :: q) = some (3, q) from by simp [takeN, unBe]] at hn
  obtain ⟨rfl, a1, c1, hr1, hB1, hc1⟩ := hn
  rw [show ofU 3 = 3 from by unfold ofU wrap64; omega]
  have HK1 := Lib.hid (HK0.out.trans hk1)
  have hx1 := kg_at hk1 HX0.out (by have := HBA.out; omega)
  have l2 : bA < w1.heap.size := (Array.getElem?_eq_some_iff.1 hx1).1
  go_upto_region 2 with fail
  obtain ⟨w2, hw2⟩ : ∃ v, v = w1.alloc (.cells #[.int .i64 3, .bool false, .int .i64 0, .string { data := #[] }, .slice none 0 0] 33) := ⟨_, rfl⟩
  have hb2 : Below w1.heap.size w1 w2 := by rw [hw2]; exact (Below.refl _ _).alloc (Nat.le_refl _) _
  have hx2 : w2.heap[w1.heap.size]? = some (.cells #[.int .i64 3, .bool false, .int .i64 0, .string { data := #[] }, .slice none 0 0] 33 (0, 0)) := by rw [hw2]; exact heap_last
  rw [← hw2]
  obtain ⟨bX, hbX⟩ : ∃ b, b = w1.heap.size := ⟨_, rfl⟩
  rw [← hbX] at hx2 ⊢
  have HBX := Lib.hid (show bA < bX ∧ rb < bA by have := HBA.out; omega)
  have HK2 := Lib.hid (HK1.out.below hb2)
  have HA2 := Lib.hid ((hb2.block bA l2).trans hx1)
  have l3 : rb < w1.heap.size := (Array.getElem?_eq_some_iff.1 hr1).1
  have HR2 := Lib.hid ((hb2.block rb l3).trans hr1)
  have HB2 : Hid (isB w2 hi (some a1) q) := isB_far hB1 (fun b hb => hb2.block b (by omega))
  have HC1 := Lib.hid hc1
  have HX2 := Lib.hid hx2
  clear hw2 hb2 hx1 hr1 hbX hk1 l1 l2 l3 HK1 HK0 HX0 HR0 HB0 hB1 hc1
  have r2 := fun o => cell_of HR2.out o
  have fr2 := fun o => frozen_of HR2.out o
  have lr2 : rb < w2.heap.size := (Array.getElem?_eq_some_iff.1 HR2.out).1
  have p2 := fun o => cell_of HA2.out o
  have fp2 := fun o => frozen_of HA2.out o
  have lp2 : bA < w2.heap.size := (Array.getElem?_eq_some_iff.1 HA2.out).1
  have x2 := fun o => cell_of HX2.out o
  have fx2 := fun o => frozen_of HX2.out o
  have lx2 : bX < w2.heap.size := (Array.getElem?_eq_some_iff.1 HX2.out).1
  have nAX : bA ≠ bX := by have := HBX.out; omega
  have nRA : rb ≠ bA := by have := HBX.out; omega
  have nRX : rb ≠ bX := by have := HBX.out; omega
  have nXA : bX ≠ bA := by have := HBX.out; omega
  go_wp2_with fail
  refine (rnum_any rb hi (some a1) c1 q 4 w2 HR2.out hhi HB2.out HC1.out (fun b h => HBY.out b (by rw [HBS.out]; exact List.mem_cons_of_mem _ h)) (by omega)).mono ?_
  rintro e w3 ⟨hn, hk3⟩
  rw [HT.out] at hn
  obtain ⟨rfl, a3, c3, hr3, hB3, hc3⟩ := hn
  rw [HU.out]
  have HB3 := Lib.hid hB3
  have HC3 := Lib.hid hc3
  clear hB3 hc3
  have HR3 := Lib.hid hr3
  have HX3 := Lib.hid (kg_at hk3 HX2.out (by have := HBX.out; omega))
  have HA3 := Lib.hid (kg_at hk3 HA2.out (by have := HBX.out; omega))
  have HK3 := Lib.hid (HK2.out.trans hk3)
  clear hr3 hk3
  clear r2 fr2 lr2 p2 fp2 lp2 x2 fx2 lx2
  go_wp2_with fail
  refine (take_ok rb hi m a3 r c3 w3 hm HC3.out hhi HB3.out HR3.out).mono ?_
  rintro e w4 ⟨rfl, ⟨a4, c4, hr4, hB4, hc4⟩, hk4⟩
  have HB4 := Lib.hid hB4
  have HC4 := Lib.hid hc4
  have hcv := text_of (isB_kg HB3.out hk4 hhi (by have := (Array.getElem?_eq_some_iff.1 HR3.out).1; omega)) HRL.out.2 m c3 hm
  rw [← HTX.out] at hcv
  clear hB4 hc4
  have HR4 := Lib.hid hr4
  have HX4 := Lib.hid (kg_at hk4 HX3.out (by have := HBX.out; omega))
  have HA4 := Lib.hid (kg_at hk4 HA3.out (by have := HBX.out; omega))
  have HK4 := Lib.hid (HK3.out.trans hk4)
  clear hr4 hk4
  have r4 := fun o => cell_of HR4.out o
  have fr4 := fun o => frozen_of HR4.out o
  have lr4 : rb < w4.heap.size := (Array.getElem?_eq_some_iff.1 HR4.out).1
  have p4 := fun o => cell_of HA4.out o
  have fp4 := fun o => frozen_of HA4.out o
  have lp4 : bA < w4.heap.size := (Array.getElem?_eq_some_iff.1 HA4.out).1
  have x4 := fun o => cell_of HX4.out o
  have fx4 := fun o => frozen_of HX4.out o
  have lx4 : bX < w4.heap.size := (Array.getElem?_eq_some_iff.1 HX4.out).1
  have nAX : bA ≠ bX := by have := HBX.out; omega
  have nRA : rb ≠ bA := by have := HBX.out; omega
  have nRX : rb ≠ bX := by have := HBX.out; omega
  have nXA : bX ≠ bA := by have := HBX.out; omega
  go_upto_region 21 with fail
  clear r4 fr4 lr4 p4 fp4 lp4 x4 fx4 lx4
  obtain ⟨w5, hw5⟩ : ∃ v, v = (w4.setCell ⟨bX, 3, none⟩ (.string t)) := ⟨_, rfl⟩
  rw [← hw5]
  have HX5 : Hid (w5.heap[bX]? = some (.cells #[.int .i64 3, .bool false, .int .i64 0, .string t, .slice none 0 0] 33 (0, 0))) := by rw [hw5]; exact (heap_setCell2 HX4.out)
  have HR5 : Hid (w5.heap[rb]? = some (.cells #[.slice (some a4) (r.drop m).length c4, .bool false] 53 (0, 0))) := by rw [hw5]; exact ((Below.heap_setCell _ _ _ _ (show rb ≠ bX by have := HBX.out; omega)).trans HR4.out)
  have HA5 : Hid (w5.heap[bA]? = some (.cells #[.int .i64 0, .bool false, .int .i64 0, .string { data := #[] }, .slice none 0 0] 33 (0, 0))) := by rw [hw5]; exact ((Below.heap_setCell _ _ _ _ (show bA ≠ bX by have := HBX.out; omega)).trans HA4.out)
  have HK5 : Hid (Kg rb w w5) := by rw [hw5]; exact (kg_new HK4.out (by have := HBX.out; have := HBA.out; omega) _)
  have HB5 : Hid (isB w5 hi (some a4) (r.drop m)) := by rw [hw5]; exact isB_far HB4.out (fun b hb => (Below.heap_setCell _ _ _ _ (show b ≠ bX by have := HBX.out; omega)))
  clear hw5
  have r5 := fun o => cell_of HR5.out o
  have fr5 := fun o => frozen_of HR5.out o
  have lr5 : rb < w5.heap.size := (Array.getElem?_eq_some_iff.1 HR5.out).1
  have p5 := fun o => cell_of HA5.out o
  have fp5 := fun o => frozen_of HA5.out o
  have lp5 : bA < w5.heap.size := (Array.getElem?_eq_some_iff.1 HA5.out).1
  have x5 := fun o => cell_of HX5.out o
  have fx5 := fun o => frozen_of HX5.out o
  have lx5 : bX < w5.heap.size := (Array.getElem?_eq_some_iff.1 HX5.out).1
  have nAX : bA ≠ bX := by have := HBX.out; omega
  have nRA : rb ≠ bA := by have := HBX.out; omega
  have nRX : rb ≠ bX := by have := HBX.out; omega
  have nXA : bX ≠ bA := by have := HBX.out; omega
  go_wp2_with fail
  refine bodyPost_ret (v := .agg #[.int .i64 3, .bool false, .int .i64 0, .string t, .slice none 0 0]) (by simp [results, Tryz.results22, go_sem, p5]) rfl ?_
  rw [HD.out]
  exact rr_end HK5.out (by have := HBA.out; omega) l0 hhi ⟨rfl, a4, c4, HR5.out, HB5.out, HC4.out⟩
end Go.Proofs.YtkpfaeodgjbodaaGreatDoor
