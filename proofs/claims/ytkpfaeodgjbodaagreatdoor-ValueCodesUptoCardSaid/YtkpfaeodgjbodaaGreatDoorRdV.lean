/-
  The program's reading of a value from bytes, kind by kind: it tells what dec tells, and what is left; or the reader is bad. Conditions: fewer than 2^31 bytes.
-/
import Derived.Test.YtkpfaeodgjbodaaGreatDoorNum8
namespace Go.Proofs.YtkpfaeodgjbodaaGreatDoor
open Go Go.RowKit
set_option maxRecDepth 100000
set_option linter.unusedVariables false
def RdP (w' : World) (rb hi : Nat) (y : GV) (o : Option (GV × List Nat)) : Prop := match o with
  | none => ∃ a n c, w'.heap[rb]? = some (.cells #[.slice a n c, .bool true] 49 (0, 0))
  | some (v, r) => y = v ∧ ∃ a c, w'.heap[rb]? = some (.cells #[.slice a r.length c, .bool false] 49 (0, 0)) ∧ isB w' hi a r ∧ r.length ≤ c
def RdO (w : World) (rb hi : Nat) (o : Option (GV × List Nat)) (e : Ending) (w' : World) : Prop := ∃ (y : GV) (ay : Option Addr) (cy : Nat), e = .returned (y.agg (.slice ay y.l.length cy)) ∧ isR w' (since w.heap.size w') (.slice ay y.l.length cy) y.l ∧ Kg rb w w' ∧ RdP w' rb hi y o
def RdC (d : Nat) : Prop := ∀ (rb hi : Nat) (a : Option Addr) (c : Nat) (bs : List Nat) (w : World), w.heap[rb]? = some (.cells #[.slice a bs.length c, .bool false] 49 (0, 0)) → hi ≤ rb → isB w hi a bs → bs.length ≤ c → (∀ b ∈ bs, b < 256) → bs.length ≤ 2147483647 →
  Calls Tryz.prog 21 #[.pointer (some ⟨rb, 0, none⟩), .int .i64 d] w (RdO w rb hi (dec (31 - d) bs))
theorem setF {w : World} {b : Nat} {a0 a1 a2 a3 a4 : Value} {TT : TypeId} (h : w.heap[b]? = some (.cells #[a0, a1, a2, a3, a4] TT (0, 0))) (c0 c1 c2 c3 c4 : Value) : (((((w.setCell ⟨b, 0, none⟩ c0).setCell ⟨b, 1, none⟩ c1).setCell ⟨b, 2, none⟩ c2).setCell ⟨b, 3, none⟩ c3).setCell ⟨b, 4, none⟩ c4).heap[b]? = some (.cells #[c0, c1, c2, c3, c4] TT (0, 0)) :=
  heap_setCell2 (heap_setCell2 (heap_setCell2 (heap_setCell2 (heap_setCell2 h))))
theorem far5R {w : World} {g b o0 o1 o2 o3 o4 : Nat} {a0 a1 a2 a3 a4 : Value} (h : b ≠ g) : (((((w.setCell ⟨g, o0, none⟩ a0).setCell ⟨g, o1, none⟩ a1).setCell ⟨g, o2, none⟩ a2).setCell ⟨g, o3, none⟩ a3).setCell ⟨g, o4, none⟩ a4).heap[b]? = w.heap[b]? := by
  rw [Below.heap_setCell _ _ _ _ h, Below.heap_setCell _ _ _ _ h, Below.heap_setCell _ _ _ _ h, Below.heap_setCell _ _ _ _ h, Below.heap_setCell _ _ _ _ h]
theorem kg_new {g : Nat} {w w1 : World} {b o : Nat} (h : Kg g w w1) (hb : w.heap.size ≤ b) (v : Value) : Kg g w (w1.setCell ⟨b, o, none⟩ v) :=
  ⟨h.1, h.2.1, h.2.2.1, by simpa [World.setCell] using h.2.2.2.1, fun c h1 h2 => (Below.heap_setCell _ _ _ _ (show c ≠ b by omega)).trans (h.2.2.2.2 c h1 h2)⟩
theorem kg_five {g : Nat} {w w1 : World} {b : Nat} (h : Kg g w w1) (hb : w.heap.size ≤ b) (c0 c1 c2 c3 c4 : Value) : Kg g w (((((w1.setCell ⟨b, 0, none⟩ c0).setCell ⟨b, 1, none⟩ c1).setCell ⟨b, 2, none⟩ c2).setCell ⟨b, 3, none⟩ c3).setCell ⟨b, 4, none⟩ c4) :=
  kg_new (kg_new (kg_new (kg_new (kg_new h hb _) hb _) hb _) hb _) hb _
theorem kg_at {g : Nat} {w w1 : World} (h : Kg g w w1) {b : Nat} {o : Obj} (hx : w.heap[b]? = some o) (hne : b ≠ g) : w1.heap[b]? = some o := (h.2.2.2.2 b (Array.getElem?_eq_some_iff.1 hx).1 hne).trans hx
theorem isB_far {w w' : World} {hi : Nat} {a : Option Addr} {bs : List Nat} (h : isB w hi a bs) (hk : ∀ b, b < hi → w'.heap[b]? = w.heap[b]?) : isB w' hi a bs := fun h0 => by
  obtain ⟨b, off, e, hb, hc⟩ := h h0
  exact ⟨b, off, e, hb, fun i hi' => (World.cell?_of_block (a := ⟨b, off + i, none⟩) (hk b hb)).trans (hc i hi')⟩
/-- a flat answer, the result's box written -/
theorem rd_end {w w5 : World} {rb hi b : Nat} {k n : Int} {bb : Bool} {t : ByteArray} {o : Option (GV × List Nat)} (hk : Kg rb w w5) (hb : w.heap.size ≤ b) (hrb : rb < w.heap.size) (hhi : hi ≤ rb) (hp : RdP w5 rb hi ⟨k, bb, n, t, []⟩ o) :
    RdO w rb hi o (.returned (.agg #[.int .i64 k, .bool bb, .int .i64 n, .string t, .slice none 0 0])) (((((w5.setCell ⟨b, 0, none⟩ (.int .i64 k)).setCell ⟨b, 1, none⟩ (.bool bb)).setCell ⟨b, 2, none⟩ (.int .i64 n)).setCell ⟨b, 3, none⟩ (.string t)).setCell ⟨b, 4, none⟩ (.slice none 0 0)) := by
  refine ⟨⟨k, bb, n, t, []⟩, none, 0, rfl, isR_nil _ _, kg_five hk hb _ _ _ _ _, ?_⟩
  have hne : rb ≠ b := by omega
  unfold RdP at hp ⊢
  cases o with
  | none =>
    obtain ⟨a, n, c, h⟩ := hp
    exact ⟨a, n, c, by rw [far5R hne]; exact h⟩
  | some p =>
    obtain ⟨v, r⟩ := p
    obtain ⟨e, a, c, h1, h2, h3⟩ := hp
    exact ⟨e, a, c, by rw [far5R hne]; exact h1, isB_far h2 (fun b' hb' => far5R (by omega)), h3⟩
set_option maxHeartbeats 1600000 in
theorem rd_none (rb hi : Nat) (a : Option Addr) (c : Nat) (w : World) (d : Nat) (hd : d ≤ 31) (bs : List Nat) (hbs : bs = []) (hh : w.heap[rb]? = some (.cells #[.slice a bs.length c, .bool false] 49 (0, 0))) (hhi : hi ≤ rb) (hB : isB w hi a bs) (hc : bs.length ≤ c) (hb : ∀ b ∈ bs, b < 256) (hl : bs.length ≤ 2147483647) : Calls Tryz.prog 21 #[.pointer (some ⟨rb, 0, none⟩), .int .i64 d] w (RdO w rb hi none) := by
  have l0 : rb < w.heap.size := (Array.getElem?_eq_some_iff.1 hh).1
  have HBY := Lib.hid hb
  have HBS := Lib.hid hbs
  have HH := Lib.hid hh
  have HB := Lib.hid hB
  clear hh hB hb hbs
  go_enter Tryz.func21, Tryz.ntmps21
  go_upto_region 1 with fail
  obtain ⟨w0, hw0⟩ : ∃ v, v = w.alloc (.cells #[.int .i64 0, .bool false, .int .i64 0, .string { data := #[] }, .slice none 0 0] 33) := ⟨_, rfl⟩
  have hb0 : Below w.heap.size w w0 := by rw [hw0]; exact (Below.refl _ _).alloc (Nat.le_refl _) _
  have hx0 : w0.heap[w.heap.size]? = some (.cells #[.int .i64 0, .bool false, .int .i64 0, .string { data := #[] }, .slice none 0 0] 33 (0, 0)) := by rw [hw0]; exact heap_last
  rw [← hw0]
  obtain ⟨bA, hbA⟩ : ∃ b, b = w.heap.size := ⟨_, rfl⟩
  rw [← hbA] at hx0 ⊢
  have HBA := Lib.hid hbA
  have HX0 := Lib.hid hx0
  have HK0 := Lib.hid ((Kg.refl rb w).below hb0)
  have HR0 := Lib.hid ((hb0.block rb l0).trans HH.out)
  have HB0 : Hid (isB w0 hi a bs) := isB_far HB.out (fun b hb => hb0.block b (by omega))
  have l1 : bA < w0.heap.size := (Array.getElem?_eq_some_iff.1 hx0).1
  clear hw0 hb0 hx0 hbA
  go_wp2_with fail
  refine (number_any rb hi a c bs 1 w0 HR0.out hhi HB0.out hc HBY.out hl (by omega)).mono ?_
  rintro e w1 ⟨hn, hk1⟩
  rw [HBS.out] at hn

  obtain ⟨rfl, a1, n1, c1, hr1⟩ := hn
  have HK1 := Lib.hid (HK0.out.trans hk1)
  have HA1 := Lib.hid (kg_at hk1 HX0.out (by have := HBA.out; omega))
  have HR1 := Lib.hid hr1
  have p1 := fun o => cell_of HA1.out o
  have fp1 := fun o => frozen_of HA1.out o
  have lp1 : bA < w1.heap.size := (Array.getElem?_eq_some_iff.1 HA1.out).1
  have r1 := fun o => cell_of HR1.out o
  have fr1 := fun o => frozen_of HR1.out o
  have lr1 : rb < w1.heap.size := (Array.getElem?_eq_some_iff.1 HR1.out).1
  have n1 : rb ≠ bA := by have := HBA.out; omega
  have n2 : rb ≠ w1.heap.size := by omega
  have n3 : bA ≠ w1.heap.size := by omega
  clear hr1 hk1 HX0 HR0 HB0
  go_upto_region 2 with fail
  obtain ⟨w2, hw2⟩ : ∃ v, v = w1.alloc (.cells #[.int .i64 0, .bool false, .int .i64 0, .string { data := #[] }, .slice none 0 0] 33) := ⟨_, rfl⟩
  have hb2 : Below w1.heap.size w1 w2 := by rw [hw2]; exact (Below.refl _ _).alloc (Nat.le_refl _) _
  rw [← hw2]
  have HK2 := Lib.hid (HK1.out.below hb2)
  have HA2 := Lib.hid ((hb2.block bA lp1).trans HA1.out)
  have HR2 := Lib.hid ((hb2.block rb lr1).trans HR1.out)
  have p2 := fun o => cell_of HA2.out o
  have fp2 := fun o => frozen_of HA2.out o
  have lp2 : bA < w2.heap.size := (Array.getElem?_eq_some_iff.1 HA2.out).1
  have r2 := fun o => cell_of HR2.out o
  have fr2 := fun o => frozen_of HR2.out o
  have lr2 : rb < w2.heap.size := (Array.getElem?_eq_some_iff.1 HR2.out).1
  clear hw2 hb2 p1 fp1 lp1 r1 fr1 lr1 n2 n3 HA1 HR1 HK1
  go_upto_region 4 with fail
  obtain ⟨wz, hwz⟩ : ∃ v, v = w2.setCell ⟨rb, 1, none⟩ (.bool true) := ⟨_, rfl⟩
  rw [← hwz]
  have HRz : Hid (∃ a n c, wz.heap[rb]? = some (.cells #[.slice a n c, .bool true] 49 (0, 0))) := by rw [hwz]; exact ⟨_, _, _, heap_setCell2 HR2.out⟩
  have HAz : Hid (wz.heap[bA]? = some (.cells #[.int .i64 0, .bool false, .int .i64 0, .string { data := #[] }, .slice none 0 0] 33 (0, 0))) := by rw [Hid, hwz, Below.heap_setCell _ _ _ _ (show bA ≠ rb by have := HBA.out; omega)]; exact HA2.out
  have HKz : Hid (Kg rb w wz) := by rw [hwz]; exact Kg.set HK2.out
  have pz := fun o => cell_of HAz.out o
  have fz := fun o => frozen_of HAz.out o
  have lz : bA < wz.heap.size := (Array.getElem?_eq_some_iff.1 HAz.out).1
  clear hwz
  go_wp2_with fail
  refine bodyPost_ret (v := .agg #[.int .i64 0, .bool false, .int .i64 0, .string { data := #[] }, .slice none 0 0]) (by simp [results, Tryz.results21, go_sem, pz]) rfl ?_
  exact rd_end HKz.out (by have := HBA.out; omega) l0 hhi HRz.out
set_option maxHeartbeats 1600000 in
theorem rd_deep (k : Nat) (q : List Nat) (hk : k < 256) (rb hi : Nat) (a : Option Addr) (c : Nat) (w : World) (d : Nat) (hd : d = 31) (bs : List Nat) (hbs : bs = k :: q) (hh : w.heap[rb]? = some (.cells #[.slice a bs.length c, .bool false] 49 (0, 0))) (hhi : hi ≤ rb) (hB : isB w hi a bs) (hc : bs.length ≤ c) (hb : ∀ b ∈ bs, b < 256) (hl : bs.length ≤ 2147483647) : Calls Tryz.prog 21 #[.pointer (some ⟨rb, 0, none⟩), .int .i64 d] w (RdO w rb hi none) := by
  have d1 : decide (30 < d) = true := by simp; omega
  have kw : wrap64 (k : Int) = (k : Int) := by unfold wrap64; omega
  have kw2 : IntKind.i64.wrap (k : Int) = (k : Int) := IntWalk.i64_in _ (by omega)
  have l0 : rb < w.heap.size := (Array.getElem?_eq_some_iff.1 hh).1
  have HBY := Lib.hid hb
  have HBS := Lib.hid hbs
  have HH := Lib.hid hh
  have HB := Lib.hid hB
  clear hh hB hb hbs
  go_enter Tryz.func21, Tryz.ntmps21
  go_upto_region 1 with fail
  obtain ⟨w0, hw0⟩ : ∃ v, v = w.alloc (.cells #[.int .i64 0, .bool false, .int .i64 0, .string { data := #[] }, .slice none 0 0] 33) := ⟨_, rfl⟩
  have hb0 : Below w.heap.size w w0 := by rw [hw0]; exact (Below.refl _ _).alloc (Nat.le_refl _) _
  have hx0 : w0.heap[w.heap.size]? = some (.cells #[.int .i64 0, .bool false, .int .i64 0, .string { data := #[] }, .slice none 0 0] 33 (0, 0)) := by rw [hw0]; exact heap_last
  rw [← hw0]
  obtain ⟨bA, hbA⟩ : ∃ b, b = w.heap.size := ⟨_, rfl⟩
  rw [← hbA] at hx0 ⊢
  have HBA := Lib.hid hbA
  have HX0 := Lib.hid hx0
  have HK0 := Lib.hid ((Kg.refl rb w).below hb0)
  have HR0 := Lib.hid ((hb0.block rb l0).trans HH.out)
  have HB0 : Hid (isB w0 hi a bs) := isB_far HB.out (fun b hb => hb0.block b (by omega))
  have l1 : bA < w0.heap.size := (Array.getElem?_eq_some_iff.1 hx0).1
  clear hw0 hb0 hx0 hbA
  go_wp2_with fail
  refine (number_any rb hi a c bs 1 w0 HR0.out hhi HB0.out hc HBY.out hl (by omega)).mono ?_
  rintro e w1 ⟨hn, hk1⟩
  rw [HBS.out] at hn

  rw [show takeN 1 (k :: q) = some (k, q) from by simp [takeN, unBe]] at hn
  obtain ⟨rfl, a1, c1, hr1, hB1, hc1⟩ := hn
  have HK1 := Lib.hid (HK0.out.trans hk1)
  have hx1 := kg_at hk1 HX0.out (by have := HBA.out; omega)
  have l2 : bA < w1.heap.size := (Array.getElem?_eq_some_iff.1 hx1).1
  go_upto_region 2 with fail
  obtain ⟨w2, hw2⟩ : ∃ v, v = w1.alloc (.cells #[.int .i64 k, .bool false, .int .i64 0, .string { data := #[] }, .slice none 0 0] 33) := ⟨_, rfl⟩
  have hb2 : Below w1.heap.size w1 w2 := by rw [hw2]; exact (Below.refl _ _).alloc (Nat.le_refl _) _
  have hx2 : w2.heap[w1.heap.size]? = some (.cells #[.int .i64 k, .bool false, .int .i64 0, .string { data := #[] }, .slice none 0 0] 33 (0, 0)) := by rw [hw2]; exact heap_last
  rw [← hw2]
  obtain ⟨bX, hbX⟩ : ∃ b, b = w1.heap.size := ⟨_, rfl⟩
  rw [← hbX] at hx2 ⊢
  have HBX := Lib.hid (show bA < bX ∧ rb < bA by have := HBA.out; omega)
  have HK2 := Lib.hid (HK1.out.below hb2)
  have HA2 := Lib.hid ((hb2.block bA l2).trans hx1)
  have l3 : rb < w1.heap.size := (Array.getElem?_eq_some_iff.1 hr1).1
  have HR2 := Lib.hid ((hb2.block rb l3).trans hr1)
  have HB2 : Hid (isB w2 hi (some a1) q) := isB_far hB1 (fun b hb => hb2.block b (by omega))
  have HX2 := Lib.hid hx2
  have HC1 := Lib.hid hc1
  clear hw2 hb2 hx1 hr1 hB1 hbX hk1 hc1 l1 l2 l3 HK1 HK0 HX0 HR0 HB0

  have r2 := fun o => cell_of HR2.out o
  have fr2 := fun o => frozen_of HR2.out o
  have lr2 : rb < w2.heap.size := (Array.getElem?_eq_some_iff.1 HR2.out).1
  have p2 := fun o => cell_of HA2.out o
  have fp2 := fun o => frozen_of HA2.out o
  have lp2 : bA < w2.heap.size := (Array.getElem?_eq_some_iff.1 HA2.out).1
  have x2 := fun o => cell_of HX2.out o
  have fx2 := fun o => frozen_of HX2.out o
  have lx2 : bX < w2.heap.size := (Array.getElem?_eq_some_iff.1 HX2.out).1
  have nAX : bA ≠ bX := by have := HBX.out; omega
  have nRA : rb ≠ bA := by have := HBX.out; omega
  have nRX : rb ≠ bX := by have := HBX.out; omega
  have nXA : bX ≠ bA := by have := HBX.out; omega
  go_upto_region 4 with fail
  clear r2 fr2 lr2 p2 fp2 lp2 x2 fx2 lx2
  obtain ⟨wz, hwz⟩ : ∃ v, v = w2.setCell ⟨rb, 1, none⟩ (.bool true) := ⟨_, rfl⟩
  rw [← hwz]
  have HRz : Hid (∃ a n c, wz.heap[rb]? = some (.cells #[.slice a n c, .bool true] 49 (0, 0))) := by rw [hwz]; exact ⟨_, _, _, heap_setCell2 HR2.out⟩
  have HAz : Hid (wz.heap[bA]? = some (.cells #[.int .i64 0, .bool false, .int .i64 0, .string { data := #[] }, .slice none 0 0] 33 (0, 0))) := by rw [Hid, hwz, Below.heap_setCell _ _ _ _ (show bA ≠ rb by have := HBA.out; omega)]; exact HA2.out
  have HKz : Hid (Kg rb w wz) := by rw [hwz]; exact Kg.set HK2.out
  have pz := fun o => cell_of HAz.out o
  have fz := fun o => frozen_of HAz.out o
  have lz : bA < wz.heap.size := (Array.getElem?_eq_some_iff.1 HAz.out).1
  clear hwz
  go_wp2_with fail
  refine bodyPost_ret (v := .agg #[.int .i64 0, .bool false, .int .i64 0, .string { data := #[] }, .slice none 0 0]) (by simp [results, Tryz.results21, go_sem, pz]) rfl ?_
  exact rd_end HKz.out (by have := HBA.out; omega) l0 hhi HRz.out
set_option maxHeartbeats 1600000 in
theorem rd_flat (k : Nat) (q : List Nat) (rb hi : Nat) (a : Option Addr) (c : Nat) (w : World) (d : Nat) (hd : d ≤ 30) (hk : k < 256) (h1 : k ≠ 1) (h2 : k ≠ 2) (h3 : k ≠ 3) (h4 : k ≠ 4) (h5 : k ≠ 5) (bs : List Nat) (hbs : bs = k :: q) (hh : w.heap[rb]? = some (.cells #[.slice a bs.length c, .bool false] 49 (0, 0))) (hhi : hi ≤ rb) (hB : isB w hi a bs) (hc : bs.length ≤ c) (hb : ∀ b ∈ bs, b < 256) (hl : bs.length ≤ 2147483647) : Calls Tryz.prog 21 #[.pointer (some ⟨rb, 0, none⟩), .int .i64 d] w (RdO w rb hi (decBody true true (dec (30 - d)) k q)) := by
  have d1 : decide (30 < d) = false := by simp; omega
  have HD : Hid (decBody true true (dec (30 - d)) k q = some (⟨k, false, 0, ⟨#[]⟩, []⟩, q)) := by
    rw [Hid, decBody, if_neg h1, if_neg (by omega), if_neg h3, if_neg h4, if_pos (.inr rfl)]
  have kw : wrap64 (k : Int) = (k : Int) := by unfold wrap64; omega
  have kw2 : IntKind.i64.wrap (k : Int) = (k : Int) := IntWalk.i64_in _ (by omega)
  have e1 : ((k : Int) == 1) = false := by simp; omega
  have g1 : (k == 1) = false := by simp; omega
  have j1 : ¬ (k : Int) = 1 := by omega
  have e2 : ((k : Int) == 2) = false := by simp; omega
  have g2 : (k == 2) = false := by simp; omega
  have j2 : ¬ (k : Int) = 2 := by omega
  have e3 : ((k : Int) == 3) = false := by simp; omega
  have g3 : (k == 3) = false := by simp; omega
  have j3 : ¬ (k : Int) = 3 := by omega
  have e4 : ((k : Int) == 4) = false := by simp; omega
  have g4 : (k == 4) = false := by simp; omega
  have j4 : ¬ (k : Int) = 4 := by omega
  have e5 : ((k : Int) == 5) = false := by simp; omega
  have g5 : (k == 5) = false := by simp; omega
  have j5 : ¬ (k : Int) = 5 := by omega
  have l0 : rb < w.heap.size := (Array.getElem?_eq_some_iff.1 hh).1
  have HBY := Lib.hid hb
  have HBS := Lib.hid hbs
  have HH := Lib.hid hh
  have HB := Lib.hid hB
  clear hh hB hb hbs
  go_enter Tryz.func21, Tryz.ntmps21
  go_upto_region 1 with fail
  obtain ⟨w0, hw0⟩ : ∃ v, v = w.alloc (.cells #[.int .i64 0, .bool false, .int .i64 0, .string { data := #[] }, .slice none 0 0] 33) := ⟨_, rfl⟩
  have hb0 : Below w.heap.size w w0 := by rw [hw0]; exact (Below.refl _ _).alloc (Nat.le_refl _) _
  have hx0 : w0.heap[w.heap.size]? = some (.cells #[.int .i64 0, .bool false, .int .i64 0, .string { data := #[] }, .slice none 0 0] 33 (0, 0)) := by rw [hw0]; exact heap_last
  rw [← hw0]
  obtain ⟨bA, hbA⟩ : ∃ b, b = w.heap.size := ⟨_, rfl⟩
  rw [← hbA] at hx0 ⊢
  have HBA := Lib.hid hbA
  have HX0 := Lib.hid hx0
  have HK0 := Lib.hid ((Kg.refl rb w).below hb0)
  have HR0 := Lib.hid ((hb0.block rb l0).trans HH.out)
  have HB0 : Hid (isB w0 hi a bs) := isB_far HB.out (fun b hb => hb0.block b (by omega))
  have l1 : bA < w0.heap.size := (Array.getElem?_eq_some_iff.1 hx0).1
  clear hw0 hb0 hx0 hbA
  go_wp2_with fail
  refine (number_any rb hi a c bs 1 w0 HR0.out hhi HB0.out hc HBY.out hl (by omega)).mono ?_
  rintro e w1 ⟨hn, hk1⟩
  rw [HBS.out] at hn

  rw [show takeN 1 (k :: q) = some (k, q) from by simp [takeN, unBe]] at hn
  obtain ⟨rfl, a1, c1, hr1, hB1, hc1⟩ := hn
  have HK1 := Lib.hid (HK0.out.trans hk1)
  have hx1 := kg_at hk1 HX0.out (by have := HBA.out; omega)
  have l2 : bA < w1.heap.size := (Array.getElem?_eq_some_iff.1 hx1).1
  go_upto_region 2 with fail
  obtain ⟨w2, hw2⟩ : ∃ v, v = w1.alloc (.cells #[.int .i64 k, .bool false, .int .i64 0, .string { data := #[] }, .slice none 0 0] 33) := ⟨_, rfl⟩
  have hb2 : Below w1.heap.size w1 w2 := by rw [hw2]; exact (Below.refl _ _).alloc (Nat.le_refl _) _
  have hx2 : w2.heap[w1.heap.size]? = some (.cells #[.int .i64 k, .bool false, .int .i64 0, .string { data := #[] }, .slice none 0 0] 33 (0, 0)) := by rw [hw2]; exact heap_last
  rw [← hw2]
  obtain ⟨bX, hbX⟩ : ∃ b, b = w1.heap.size := ⟨_, rfl⟩
  rw [← hbX] at hx2 ⊢
  have HBX := Lib.hid (show bA < bX ∧ rb < bA by have := HBA.out; omega)
  have HK2 := Lib.hid (HK1.out.below hb2)
  have HA2 := Lib.hid ((hb2.block bA l2).trans hx1)
  have l3 : rb < w1.heap.size := (Array.getElem?_eq_some_iff.1 hr1).1
  have HR2 := Lib.hid ((hb2.block rb l3).trans hr1)
  have HB2 : Hid (isB w2 hi (some a1) q) := isB_far hB1 (fun b hb => hb2.block b (by omega))
  have HX2 := Lib.hid hx2
  have HC1 := Lib.hid hc1
  clear hw2 hb2 hx1 hr1 hB1 hbX hk1 hc1 l1 l2 l3 HK1 HK0 HX0 HR0 HB0

  have r2 := fun o => cell_of HR2.out o
  have fr2 := fun o => frozen_of HR2.out o
  have lr2 : rb < w2.heap.size := (Array.getElem?_eq_some_iff.1 HR2.out).1
  have p2 := fun o => cell_of HA2.out o
  have fp2 := fun o => frozen_of HA2.out o
  have lp2 : bA < w2.heap.size := (Array.getElem?_eq_some_iff.1 HA2.out).1
  have x2 := fun o => cell_of HX2.out o
  have fx2 := fun o => frozen_of HX2.out o
  have lx2 : bX < w2.heap.size := (Array.getElem?_eq_some_iff.1 HX2.out).1
  have nAX : bA ≠ bX := by have := HBX.out; omega
  have nRA : rb ≠ bA := by have := HBX.out; omega
  have nRX : rb ≠ bX := by have := HBX.out; omega
  have nXA : bX ≠ bA := by have := HBX.out; omega
  go_wp2_with fail
  refine bodyPost_ret (v := .agg #[.int .i64 k, .bool false, .int .i64 0, .string { data := #[] }, .slice none 0 0]) (by simp [results, Tryz.results21, go_sem, p2]) rfl ?_
  rw [HD.out]
  exact rd_end HK2.out (by have := HBA.out; omega) l0 hhi ⟨rfl, some a1, c1, HR2.out, HB2.out, HC1.out⟩
set_option maxHeartbeats 1600000 in
theorem rd_1none (q : List Nat) (rb hi : Nat) (a : Option Addr) (c : Nat) (w : World) (d : Nat) (hd : d ≤ 30) (hT : takeN 1 q = none) (bs : List Nat) (hbs : bs = 1 :: q) (hh : w.heap[rb]? = some (.cells #[.slice a bs.length c, .bool false] 49 (0, 0))) (hhi : hi ≤ rb) (hB : isB w hi a bs) (hc : bs.length ≤ c) (hb : ∀ b ∈ bs, b < 256) (hl : bs.length ≤ 2147483647) : Calls Tryz.prog 21 #[.pointer (some ⟨rb, 0, none⟩), .int .i64 d] w (RdO w rb hi (decBody true true (dec (30 - d)) 1 q)) := by
  have d1 : decide (30 < d) = false := by simp; omega
  have HT := Lib.hid hT
  have HD : Hid (decBody true true (dec (30 - d)) 1 q = none) := by
    rw [Hid, decBody, if_pos rfl, hT]
  clear hT
  have l0 : rb < w.heap.size := (Array.getElem?_eq_some_iff.1 hh).1
  have HBY := Lib.hid hb
  have HBS := Lib.hid hbs
  have HH := Lib.hid hh
  have HB := Lib.hid hB
  clear hh hB hb hbs
  go_enter Tryz.func21, Tryz.ntmps21
  go_upto_region 1 with fail
  obtain ⟨w0, hw0⟩ : ∃ v, v = w.alloc (.cells #[.int .i64 0, .bool false, .int .i64 0, .string { data := #[] }, .slice none 0 0] 33) := ⟨_, rfl⟩
  have hb0 : Below w.heap.size w w0 := by rw [hw0]; exact (Below.refl _ _).alloc (Nat.le_refl _) _
  have hx0 : w0.heap[w.heap.size]? = some (.cells #[.int .i64 0, .bool false, .int .i64 0, .string { data := #[] }, .slice none 0 0] 33 (0, 0)) := by rw [hw0]; exact heap_last
  rw [← hw0]
  obtain ⟨bA, hbA⟩ : ∃ b, b = w.heap.size := ⟨_, rfl⟩
  rw [← hbA] at hx0 ⊢
  have HBA := Lib.hid hbA
  have HX0 := Lib.hid hx0
  have HK0 := Lib.hid ((Kg.refl rb w).below hb0)
  have HR0 := Lib.hid ((hb0.block rb l0).trans HH.out)
  have HB0 : Hid (isB w0 hi a bs) := isB_far HB.out (fun b hb => hb0.block b (by omega))
  have l1 : bA < w0.heap.size := (Array.getElem?_eq_some_iff.1 hx0).1
  clear hw0 hb0 hx0 hbA
  go_wp2_with fail
  refine (number_any rb hi a c bs 1 w0 HR0.out hhi HB0.out hc HBY.out hl (by omega)).mono ?_
  rintro e w1 ⟨hn, hk1⟩
  rw [HBS.out] at hn

  rw [show takeN 1 (1 :: q) = some (1, q) from by simp [takeN, unBe]] at hn
  obtain ⟨rfl, a1, c1, hr1, hB1, hc1⟩ := hn
  have HK1 := Lib.hid (HK0.out.trans hk1)
  have hx1 := kg_at hk1 HX0.out (by have := HBA.out; omega)
  have l2 : bA < w1.heap.size := (Array.getElem?_eq_some_iff.1 hx1).1
  go_upto_region 2 with fail
  obtain ⟨w2, hw2⟩ : ∃ v, v = w1.alloc (.cells #[.int .i64 1, .bool false, .int .i64 0, .string { data := #[] }, .slice none 0 0] 33) := ⟨_, rfl⟩
  have hb2 : Below w1.heap.size w1 w2 := by rw [hw2]; exact (Below.refl _ _).alloc (Nat.le_refl _) _
  have hx2 : w2.heap[w1.heap.size]? = some (.cells #[.int .i64 1, .bool false, .int .i64 0, .string { data := #[] }, .slice none 0 0] 33 (0, 0)) := by rw [hw2]; exact heap_last
  rw [← hw2]
  obtain ⟨bX, hbX⟩ : ∃ b, b = w1.heap.size := ⟨_, rfl⟩
  rw [← hbX] at hx2 ⊢
  have HBX := Lib.hid (show bA < bX ∧ rb < bA by have := HBA.out; omega)
  have HK2 := Lib.hid (HK1.out.below hb2)
  have HA2 := Lib.hid ((hb2.block bA l2).trans hx1)
  have l3 : rb < w1.heap.size := (Array.getElem?_eq_some_iff.1 hr1).1
  have HR2 := Lib.hid ((hb2.block rb l3).trans hr1)
  have HB2 : Hid (isB w2 hi (some a1) q) := isB_far hB1 (fun b hb => hb2.block b (by omega))
  have HX2 := Lib.hid hx2
  have HC1 := Lib.hid hc1
  clear hw2 hb2 hx1 hr1 hB1 hbX hk1 hc1 l1 l2 l3 HK1 HK0 HX0 HR0 HB0

  have r2 := fun o => cell_of HR2.out o
  have fr2 := fun o => frozen_of HR2.out o
  have lr2 : rb < w2.heap.size := (Array.getElem?_eq_some_iff.1 HR2.out).1
  have p2 := fun o => cell_of HA2.out o
  have fp2 := fun o => frozen_of HA2.out o
  have lp2 : bA < w2.heap.size := (Array.getElem?_eq_some_iff.1 HA2.out).1
  have x2 := fun o => cell_of HX2.out o
  have fx2 := fun o => frozen_of HX2.out o
  have lx2 : bX < w2.heap.size := (Array.getElem?_eq_some_iff.1 HX2.out).1
  have nAX : bA ≠ bX := by have := HBX.out; omega
  have nRA : rb ≠ bA := by have := HBX.out; omega
  have nRX : rb ≠ bX := by have := HBX.out; omega
  have nXA : bX ≠ bA := by have := HBX.out; omega
  go_wp2_with fail
  refine (number_any rb hi (some a1) c1 q 1 w2 HR2.out hhi HB2.out HC1.out (fun b h => HBY.out b (by rw [HBS.out]; exact List.mem_cons_of_mem _ h)) (by have := HBS.out; rw [this] at hl; simp at hl; omega) (by omega)).mono ?_
  rintro e w3 ⟨hn, hk3⟩
  rw [HT.out] at hn
  obtain ⟨rfl, a3, n3, c3, hr3⟩ := hn
  have HR3 := Lib.hid hr3
  have HX3 := Lib.hid (kg_at hk3 HX2.out (by have := HBX.out; omega))
  have HA3 := Lib.hid (kg_at hk3 HA2.out (by have := HBX.out; omega))
  have HK3 := Lib.hid (HK2.out.trans hk3)
  clear hr3 hk3
  clear r2 fr2 lr2 p2 fp2 lp2 x2 fx2 lx2
  have r3 := fun o => cell_of HR3.out o
  have fr3 := fun o => frozen_of HR3.out o
  have lr3 : rb < w3.heap.size := (Array.getElem?_eq_some_iff.1 HR3.out).1
  have p3 := fun o => cell_of HA3.out o
  have fp3 := fun o => frozen_of HA3.out o
  have lp3 : bA < w3.heap.size := (Array.getElem?_eq_some_iff.1 HA3.out).1
  have x3 := fun o => cell_of HX3.out o
  have fx3 := fun o => frozen_of HX3.out o
  have lx3 : bX < w3.heap.size := (Array.getElem?_eq_some_iff.1 HX3.out).1
  have nAX : bA ≠ bX := by have := HBX.out; omega
  have nRA : rb ≠ bA := by have := HBX.out; omega
  have nRX : rb ≠ bX := by have := HBX.out; omega
  have nXA : bX ≠ bA := by have := HBX.out; omega
  go_upto_region 29 with fail
  clear r3 fr3 lr3 p3 fp3 lp3 x3 fx3 lx3
  obtain ⟨w5, hw5⟩ : ∃ v, v = ((w3.setCell ⟨bX, 1, none⟩ (.bool false)).setCell ⟨rb, 1, none⟩ (.bool true)) := ⟨_, rfl⟩
  rw [← hw5]
  have HX5 : Hid (w5.heap[bX]? = some (.cells #[.int .i64 1, .bool false, .int .i64 0, .string { data := #[] }, .slice none 0 0] 33 (0, 0))) := by rw [hw5]; exact ((Below.heap_setCell _ _ _ _ (show bX ≠ rb by have := HBX.out; omega)).trans (heap_setCell2 HX3.out))
  have HR5 : Hid (w5.heap[rb]? = some (.cells #[.slice a3 n3 c3, .bool true] 49 (0, 0))) := by rw [hw5]; exact (heap_setCell2 ((Below.heap_setCell _ _ _ _ (show rb ≠ bX by have := HBX.out; omega)).trans HR3.out))
  have HA5 : Hid (w5.heap[bA]? = some (.cells #[.int .i64 0, .bool false, .int .i64 0, .string { data := #[] }, .slice none 0 0] 33 (0, 0))) := by rw [hw5]; exact ((Below.heap_setCell _ _ _ _ (show bA ≠ rb by have := HBX.out; omega)).trans ((Below.heap_setCell _ _ _ _ (show bA ≠ bX by have := HBX.out; omega)).trans HA3.out))
  have HK5 : Hid (Kg rb w w5) := by rw [hw5]; exact (Kg.set (kg_new HK3.out (by have := HBX.out; have := HBA.out; omega) _))
  clear hw5
  have r5 := fun o => cell_of HR5.out o
  have fr5 := fun o => frozen_of HR5.out o
  have lr5 : rb < w5.heap.size := (Array.getElem?_eq_some_iff.1 HR5.out).1
  have p5 := fun o => cell_of HA5.out o
  have fp5 := fun o => frozen_of HA5.out o
  have lp5 : bA < w5.heap.size := (Array.getElem?_eq_some_iff.1 HA5.out).1
  have x5 := fun o => cell_of HX5.out o
  have fx5 := fun o => frozen_of HX5.out o
  have lx5 : bX < w5.heap.size := (Array.getElem?_eq_some_iff.1 HX5.out).1
  have nAX : bA ≠ bX := by have := HBX.out; omega
  have nRA : rb ≠ bA := by have := HBX.out; omega
  have nRX : rb ≠ bX := by have := HBX.out; omega
  have nXA : bX ≠ bA := by have := HBX.out; omega
  go_wp2_with fail
  refine bodyPost_ret (v := .agg #[.int .i64 1, .bool false, .int .i64 0, .string { data := #[] }, .slice none 0 0]) (by simp [results, Tryz.results21, go_sem, p5]) rfl ?_
  rw [HD.out]
  exact rd_end HK5.out (by have := HBA.out; omega) l0 hhi ⟨_, _, _, HR5.out⟩
set_option maxHeartbeats 1600000 in
theorem rd_10 (r : List Nat) (q : List Nat) (rb hi : Nat) (a : Option Addr) (c : Nat) (w : World) (d : Nat) (hd : d ≤ 30) (hT : takeN 1 q = some (0, r)) (bs : List Nat) (hbs : bs = 1 :: q) (hh : w.heap[rb]? = some (.cells #[.slice a bs.length c, .bool false] 49 (0, 0))) (hhi : hi ≤ rb) (hB : isB w hi a bs) (hc : bs.length ≤ c) (hb : ∀ b ∈ bs, b < 256) (hl : bs.length ≤ 2147483647) : Calls Tryz.prog 21 #[.pointer (some ⟨rb, 0, none⟩), .int .i64 d] w (RdO w rb hi (decBody true true (dec (30 - d)) 1 q)) := by
  have d1 : decide (30 < d) = false := by simp; omega
  have HT := Lib.hid hT
  have HD : Hid (decBody true true (dec (30 - d)) 1 q = some (⟨1, false, 0, ⟨#[]⟩, []⟩, r)) := by
    rw [Hid, decBody, if_pos rfl, hT]
    rfl
  clear hT
  have l0 : rb < w.heap.size := (Array.getElem?_eq_some_iff.1 hh).1
  have HBY := Lib.hid hb
  have HBS := Lib.hid hbs
  have HH := Lib.hid hh
  have HB := Lib.hid hB
  clear hh hB hb hbs
  go_enter Tryz.func21, Tryz.ntmps21
  go_upto_region 1 with fail
  obtain ⟨w0, hw0⟩ : ∃ v, v = w.alloc (.cells #[.int .i64 0, .bool false, .int .i64 0, .string { data := #[] }, .slice none 0 0] 33) := ⟨_, rfl⟩
  have hb0 : Below w.heap.size w w0 := by rw [hw0]; exact (Below.refl _ _).alloc (Nat.le_refl _) _
  have hx0 : w0.heap[w.heap.size]? = some (.cells #[.int .i64 0, .bool false, .int .i64 0, .string { data := #[] }, .slice none 0 0] 33 (0, 0)) := by rw [hw0]; exact heap_last
  rw [← hw0]
  obtain ⟨bA, hbA⟩ : ∃ b, b = w.heap.size := ⟨_, rfl⟩
  rw [← hbA] at hx0 ⊢
  have HBA := Lib.hid hbA
  have HX0 := Lib.hid hx0
  have HK0 := Lib.hid ((Kg.refl rb w).below hb0)
  have HR0 := Lib.hid ((hb0.block rb l0).trans HH.out)
  have HB0 : Hid (isB w0 hi a bs) := isB_far HB.out (fun b hb => hb0.block b (by omega))
  have l1 : bA < w0.heap.size := (Array.getElem?_eq_some_iff.1 hx0).1
  clear hw0 hb0 hx0 hbA
  go_wp2_with fail
  refine (number_any rb hi a c bs 1 w0 HR0.out hhi HB0.out hc HBY.out hl (by omega)).mono ?_
  rintro e w1 ⟨hn, hk1⟩
  rw [HBS.out] at hn

  rw [show takeN 1 (1 :: q) = some (1, q) from by simp [takeN, unBe]] at hn
  obtain ⟨rfl, a1, c1, hr1, hB1, hc1⟩ := hn
  have HK1 := Lib.hid (HK0.out.trans hk1)
  have hx1 := kg_at hk1 HX0.out (by have := HBA.out; omega)
  have l2 : bA < w1.heap.size := (Array.getElem?_eq_some_iff.1 hx1).1
  go_upto_region 2 with fail
  obtain ⟨w2, hw2⟩ : ∃ v, v = w1.alloc (.cells #[.int .i64 1, .bool false, .int .i64 0, .string { data := #[] }, .slice none 0 0] 33) := ⟨_, rfl⟩
  have hb2 : Below w1.heap.size w1 w2 := by rw [hw2]; exact (Below.refl _ _).alloc (Nat.le_refl _) _
  have hx2 : w2.heap[w1.heap.size]? = some (.cells #[.int .i64 1, .bool false, .int .i64 0, .string { data := #[] }, .slice none 0 0] 33 (0, 0)) := by rw [hw2]; exact heap_last
  rw [← hw2]
  obtain ⟨bX, hbX⟩ : ∃ b, b = w1.heap.size := ⟨_, rfl⟩
  rw [← hbX] at hx2 ⊢
  have HBX := Lib.hid (show bA < bX ∧ rb < bA by have := HBA.out; omega)
  have HK2 := Lib.hid (HK1.out.below hb2)
  have HA2 := Lib.hid ((hb2.block bA l2).trans hx1)
  have l3 : rb < w1.heap.size := (Array.getElem?_eq_some_iff.1 hr1).1
  have HR2 := Lib.hid ((hb2.block rb l3).trans hr1)
  have HB2 : Hid (isB w2 hi (some a1) q) := isB_far hB1 (fun b hb => hb2.block b (by omega))
  have HX2 := Lib.hid hx2
  have HC1 := Lib.hid hc1
  clear hw2 hb2 hx1 hr1 hB1 hbX hk1 hc1 l1 l2 l3 HK1 HK0 HX0 HR0 HB0

  have r2 := fun o => cell_of HR2.out o
  have fr2 := fun o => frozen_of HR2.out o
  have lr2 : rb < w2.heap.size := (Array.getElem?_eq_some_iff.1 HR2.out).1
  have p2 := fun o => cell_of HA2.out o
  have fp2 := fun o => frozen_of HA2.out o
  have lp2 : bA < w2.heap.size := (Array.getElem?_eq_some_iff.1 HA2.out).1
  have x2 := fun o => cell_of HX2.out o
  have fx2 := fun o => frozen_of HX2.out o
  have lx2 : bX < w2.heap.size := (Array.getElem?_eq_some_iff.1 HX2.out).1
  have nAX : bA ≠ bX := by have := HBX.out; omega
  have nRA : rb ≠ bA := by have := HBX.out; omega
  have nRX : rb ≠ bX := by have := HBX.out; omega
  have nXA : bX ≠ bA := by have := HBX.out; omega
  go_wp2_with fail
  refine (number_any rb hi (some a1) c1 q 1 w2 HR2.out hhi HB2.out HC1.out (fun b h => HBY.out b (by rw [HBS.out]; exact List.mem_cons_of_mem _ h)) (by have := HBS.out; rw [this] at hl; simp at hl; omega) (by omega)).mono ?_
  rintro e w3 ⟨hn, hk3⟩
  rw [HT.out] at hn
  obtain ⟨rfl, a3, c3, hr3, hB3, hc3⟩ := hn
  have HB3 := Lib.hid hB3
  have HC3 := Lib.hid hc3
  clear hB3 hc3
  have HR3 := Lib.hid hr3
  have HX3 := Lib.hid (kg_at hk3 HX2.out (by have := HBX.out; omega))
  have HA3 := Lib.hid (kg_at hk3 HA2.out (by have := HBX.out; omega))
  have HK3 := Lib.hid (HK2.out.trans hk3)
  clear hr3 hk3
  clear r2 fr2 lr2 p2 fp2 lp2 x2 fx2 lx2
  have r3 := fun o => cell_of HR3.out o
  have fr3 := fun o => frozen_of HR3.out o
  have lr3 : rb < w3.heap.size := (Array.getElem?_eq_some_iff.1 HR3.out).1
  have p3 := fun o => cell_of HA3.out o
  have fp3 := fun o => frozen_of HA3.out o
  have lp3 : bA < w3.heap.size := (Array.getElem?_eq_some_iff.1 HA3.out).1
  have x3 := fun o => cell_of HX3.out o
  have fx3 := fun o => frozen_of HX3.out o
  have lx3 : bX < w3.heap.size := (Array.getElem?_eq_some_iff.1 HX3.out).1
  have nAX : bA ≠ bX := by have := HBX.out; omega
  have nRA : rb ≠ bA := by have := HBX.out; omega
  have nRX : rb ≠ bX := by have := HBX.out; omega
  have nXA : bX ≠ bA := by have := HBX.out; omega
  go_upto_region 29 with fail
  clear r3 fr3 lr3 p3 fp3 lp3 x3 fx3 lx3
  obtain ⟨w5, hw5⟩ : ∃ v, v = ((w3.setCell ⟨bX, 1, none⟩ (.bool false)).setCell ⟨rb, 1, none⟩ (.bool false)) := ⟨_, rfl⟩
  rw [← hw5]
  have HX5 : Hid (w5.heap[bX]? = some (.cells #[.int .i64 1, .bool false, .int .i64 0, .string { data := #[] }, .slice none 0 0] 33 (0, 0))) := by rw [hw5]; exact ((Below.heap_setCell _ _ _ _ (show bX ≠ rb by have := HBX.out; omega)).trans (heap_setCell2 HX3.out))
  have HR5 : Hid (w5.heap[rb]? = some (.cells #[.slice (some a3) r.length c3, .bool false] 49 (0, 0))) := by rw [hw5]; exact (heap_setCell2 ((Below.heap_setCell _ _ _ _ (show rb ≠ bX by have := HBX.out; omega)).trans HR3.out))
  have HA5 : Hid (w5.heap[bA]? = some (.cells #[.int .i64 0, .bool false, .int .i64 0, .string { data := #[] }, .slice none 0 0] 33 (0, 0))) := by rw [hw5]; exact ((Below.heap_setCell _ _ _ _ (show bA ≠ rb by have := HBX.out; omega)).trans ((Below.heap_setCell _ _ _ _ (show bA ≠ bX by have := HBX.out; omega)).trans HA3.out))
  have HK5 : Hid (Kg rb w w5) := by rw [hw5]; exact (Kg.set (kg_new HK3.out (by have := HBX.out; have := HBA.out; omega) _))
  have HB5 : Hid (isB w5 hi (some a3) r) := by rw [hw5]; exact isB_far HB3.out (fun b hb => ((Below.heap_setCell _ _ _ _ (show b ≠ rb by have := HBX.out; omega)).trans ((Below.heap_setCell _ _ _ _ (show b ≠ bX by have := HBX.out; omega)).trans rfl)))
  clear hw5
  have r5 := fun o => cell_of HR5.out o
  have fr5 := fun o => frozen_of HR5.out o
  have lr5 : rb < w5.heap.size := (Array.getElem?_eq_some_iff.1 HR5.out).1
  have p5 := fun o => cell_of HA5.out o
  have fp5 := fun o => frozen_of HA5.out o
  have lp5 : bA < w5.heap.size := (Array.getElem?_eq_some_iff.1 HA5.out).1
  have x5 := fun o => cell_of HX5.out o
  have fx5 := fun o => frozen_of HX5.out o
  have lx5 : bX < w5.heap.size := (Array.getElem?_eq_some_iff.1 HX5.out).1
  have nAX : bA ≠ bX := by have := HBX.out; omega
  have nRA : rb ≠ bA := by have := HBX.out; omega
  have nRX : rb ≠ bX := by have := HBX.out; omega
  have nXA : bX ≠ bA := by have := HBX.out; omega
  go_wp2_with fail
  refine bodyPost_ret (v := .agg #[.int .i64 1, .bool false, .int .i64 0, .string { data := #[] }, .slice none 0 0]) (by simp [results, Tryz.results21, go_sem, p5]) rfl ?_
  rw [HD.out]
  exact rd_end HK5.out (by have := HBA.out; omega) l0 hhi ⟨rfl, some a3, c3, HR5.out, HB5.out, HC3.out⟩
set_option maxHeartbeats 1600000 in
theorem rd_11 (r : List Nat) (q : List Nat) (rb hi : Nat) (a : Option Addr) (c : Nat) (w : World) (d : Nat) (hd : d ≤ 30) (hT : takeN 1 q = some (1, r)) (bs : List Nat) (hbs : bs = 1 :: q) (hh : w.heap[rb]? = some (.cells #[.slice a bs.length c, .bool false] 49 (0, 0))) (hhi : hi ≤ rb) (hB : isB w hi a bs) (hc : bs.length ≤ c) (hb : ∀ b ∈ bs, b < 256) (hl : bs.length ≤ 2147483647) : Calls Tryz.prog 21 #[.pointer (some ⟨rb, 0, none⟩), .int .i64 d] w (RdO w rb hi (decBody true true (dec (30 - d)) 1 q)) := by
  have d1 : decide (30 < d) = false := by simp; omega
  have HT := Lib.hid hT
  have HD : Hid (decBody true true (dec (30 - d)) 1 q = some (⟨1, true, 0, ⟨#[]⟩, []⟩, r)) := by
    rw [Hid, decBody, if_pos rfl, hT]
    rfl
  clear hT
  have l0 : rb < w.heap.size := (Array.getElem?_eq_some_iff.1 hh).1
  have HBY := Lib.hid hb
  have HBS := Lib.hid hbs
  have HH := Lib.hid hh
  have HB := Lib.hid hB
  clear hh hB hb hbs
  go_enter Tryz.func21, Tryz.ntmps21
  go_upto_region 1 with fail
  obtain ⟨w0, hw0⟩ : ∃ v, v = w.alloc (.cells #[.int .i64 0, .bool false, .int .i64 0, .string { data := #[] }, .slice none 0 0] 33) := ⟨_, rfl⟩
  have hb0 : Below w.heap.size w w0 := by rw [hw0]; exact (Below.refl _ _).alloc (Nat.le_refl _) _
  have hx0 : w0.heap[w.heap.size]? = some (.cells #[.int .i64 0, .bool false, .int .i64 0, .string { data := #[] }, .slice none 0 0] 33 (0, 0)) := by rw [hw0]; exact heap_last
  rw [← hw0]
  obtain ⟨bA, hbA⟩ : ∃ b, b = w.heap.size := ⟨_, rfl⟩
  rw [← hbA] at hx0 ⊢
  have HBA := Lib.hid hbA
  have HX0 := Lib.hid hx0
  have HK0 := Lib.hid ((Kg.refl rb w).below hb0)
  have HR0 := Lib.hid ((hb0.block rb l0).trans HH.out)
  have HB0 : Hid (isB w0 hi a bs) := isB_far HB.out (fun b hb => hb0.block b (by omega))
  have l1 : bA < w0.heap.size := (Array.getElem?_eq_some_iff.1 hx0).1
  clear hw0 hb0 hx0 hbA
  go_wp2_with fail
  refine (number_any rb hi a c bs 1 w0 HR0.out hhi HB0.out hc HBY.out hl (by omega)).mono ?_
  rintro e w1 ⟨hn, hk1⟩
  rw [HBS.out] at hn

  rw [show takeN 1 (1 :: q) = some (1, q) from by simp [takeN, unBe]] at hn
  obtain ⟨rfl, a1, c1, hr1, hB1, hc1⟩ := hn
  have HK1 := Lib.hid (HK0.out.trans hk1)
  have hx1 := kg_at hk1 HX0.out (by have := HBA.out; omega)
  have l2 : bA < w1.heap.size := (Array.getElem?_eq_some_iff.1 hx1).1
  go_upto_region 2 with fail
  obtain ⟨w2, hw2⟩ : ∃ v, v = w1.alloc (.cells #[.int .i64 1, .bool false, .int .i64 0, .string { data := #[] }, .slice none 0 0] 33) := ⟨_, rfl⟩
  have hb2 : Below w1.heap.size w1 w2 := by rw [hw2]; exact (Below.refl _ _).alloc (Nat.le_refl _) _
  have hx2 : w2.heap[w1.heap.size]? = some (.cells #[.int .i64 1, .bool false, .int .i64 0, .string { data := #[] }, .slice none 0 0] 33 (0, 0)) := by rw [hw2]; exact heap_last
  rw [← hw2]
  obtain ⟨bX, hbX⟩ : ∃ b, b = w1.heap.size := ⟨_, rfl⟩
  rw [← hbX] at hx2 ⊢
  have HBX := Lib.hid (show bA < bX ∧ rb < bA by have := HBA.out; omega)
  have HK2 := Lib.hid (HK1.out.below hb2)
  have HA2 := Lib.hid ((hb2.block bA l2).trans hx1)
  have l3 : rb < w1.heap.size := (Array.getElem?_eq_some_iff.1 hr1).1
  have HR2 := Lib.hid ((hb2.block rb l3).trans hr1)
  have HB2 : Hid (isB w2 hi (some a1) q) := isB_far hB1 (fun b hb => hb2.block b (by omega))
  have HX2 := Lib.hid hx2
  have HC1 := Lib.hid hc1
  clear hw2 hb2 hx1 hr1 hB1 hbX hk1 hc1 l1 l2 l3 HK1 HK0 HX0 HR0 HB0

  have r2 := fun o => cell_of HR2.out o
  have fr2 := fun o => frozen_of HR2.out o
  have lr2 : rb < w2.heap.size := (Array.getElem?_eq_some_iff.1 HR2.out).1
  have p2 := fun o => cell_of HA2.out o
  have fp2 := fun o => frozen_of HA2.out o
  have lp2 : bA < w2.heap.size := (Array.getElem?_eq_some_iff.1 HA2.out).1
  have x2 := fun o => cell_of HX2.out o
  have fx2 := fun o => frozen_of HX2.out o
  have lx2 : bX < w2.heap.size := (Array.getElem?_eq_some_iff.1 HX2.out).1
  have nAX : bA ≠ bX := by have := HBX.out; omega
  have nRA : rb ≠ bA := by have := HBX.out; omega
  have nRX : rb ≠ bX := by have := HBX.out; omega
  have nXA : bX ≠ bA := by have := HBX.out; omega
  go_wp2_with fail
  refine (number_any rb hi (some a1) c1 q 1 w2 HR2.out hhi HB2.out HC1.out (fun b h => HBY.out b (by rw [HBS.out]; exact List.mem_cons_of_mem _ h)) (by have := HBS.out; rw [this] at hl; simp at hl; omega) (by omega)).mono ?_
  rintro e w3 ⟨hn, hk3⟩
  rw [HT.out] at hn
  obtain ⟨rfl, a3, c3, hr3, hB3, hc3⟩ := hn
  have HB3 := Lib.hid hB3
  have HC3 := Lib.hid hc3
  clear hB3 hc3
  have HR3 := Lib.hid hr3
  have HX3 := Lib.hid (kg_at hk3 HX2.out (by have := HBX.out; omega))
  have HA3 := Lib.hid (kg_at hk3 HA2.out (by have := HBX.out; omega))
  have HK3 := Lib.hid (HK2.out.trans hk3)
  clear hr3 hk3
  clear r2 fr2 lr2 p2 fp2 lp2 x2 fx2 lx2
  have r3 := fun o => cell_of HR3.out o
  have fr3 := fun o => frozen_of HR3.out o
  have lr3 : rb < w3.heap.size := (Array.getElem?_eq_some_iff.1 HR3.out).1
  have p3 := fun o => cell_of HA3.out o
  have fp3 := fun o => frozen_of HA3.out o
  have lp3 : bA < w3.heap.size := (Array.getElem?_eq_some_iff.1 HA3.out).1
  have x3 := fun o => cell_of HX3.out o
  have fx3 := fun o => frozen_of HX3.out o
  have lx3 : bX < w3.heap.size := (Array.getElem?_eq_some_iff.1 HX3.out).1
  have nAX : bA ≠ bX := by have := HBX.out; omega
  have nRA : rb ≠ bA := by have := HBX.out; omega
  have nRX : rb ≠ bX := by have := HBX.out; omega
  have nXA : bX ≠ bA := by have := HBX.out; omega
  go_upto_region 29 with fail
  clear r3 fr3 lr3 p3 fp3 lp3 x3 fx3 lx3
  obtain ⟨w5, hw5⟩ : ∃ v, v = ((w3.setCell ⟨bX, 1, none⟩ (.bool true)).setCell ⟨rb, 1, none⟩ (.bool false)) := ⟨_, rfl⟩
  rw [← hw5]
  have HX5 : Hid (w5.heap[bX]? = some (.cells #[.int .i64 1, .bool true, .int .i64 0, .string { data := #[] }, .slice none 0 0] 33 (0, 0))) := by rw [hw5]; exact ((Below.heap_setCell _ _ _ _ (show bX ≠ rb by have := HBX.out; omega)).trans (heap_setCell2 HX3.out))
  have HR5 : Hid (w5.heap[rb]? = some (.cells #[.slice (some a3) r.length c3, .bool false] 49 (0, 0))) := by rw [hw5]; exact (heap_setCell2 ((Below.heap_setCell _ _ _ _ (show rb ≠ bX by have := HBX.out; omega)).trans HR3.out))
  have HA5 : Hid (w5.heap[bA]? = some (.cells #[.int .i64 0, .bool false, .int .i64 0, .string { data := #[] }, .slice none 0 0] 33 (0, 0))) := by rw [hw5]; exact ((Below.heap_setCell _ _ _ _ (show bA ≠ rb by have := HBX.out; omega)).trans ((Below.heap_setCell _ _ _ _ (show bA ≠ bX by have := HBX.out; omega)).trans HA3.out))
  have HK5 : Hid (Kg rb w w5) := by rw [hw5]; exact (Kg.set (kg_new HK3.out (by have := HBX.out; have := HBA.out; omega) _))
  have HB5 : Hid (isB w5 hi (some a3) r) := by rw [hw5]; exact isB_far HB3.out (fun b hb => ((Below.heap_setCell _ _ _ _ (show b ≠ rb by have := HBX.out; omega)).trans ((Below.heap_setCell _ _ _ _ (show b ≠ bX by have := HBX.out; omega)).trans rfl)))
  clear hw5
  have r5 := fun o => cell_of HR5.out o
  have fr5 := fun o => frozen_of HR5.out o
  have lr5 : rb < w5.heap.size := (Array.getElem?_eq_some_iff.1 HR5.out).1
  have p5 := fun o => cell_of HA5.out o
  have fp5 := fun o => frozen_of HA5.out o
  have lp5 : bA < w5.heap.size := (Array.getElem?_eq_some_iff.1 HA5.out).1
  have x5 := fun o => cell_of HX5.out o
  have fx5 := fun o => frozen_of HX5.out o
  have lx5 : bX < w5.heap.size := (Array.getElem?_eq_some_iff.1 HX5.out).1
  have nAX : bA ≠ bX := by have := HBX.out; omega
  have nRA : rb ≠ bA := by have := HBX.out; omega
  have nRX : rb ≠ bX := by have := HBX.out; omega
  have nXA : bX ≠ bA := by have := HBX.out; omega
  go_wp2_with fail
  refine bodyPost_ret (v := .agg #[.int .i64 1, .bool true, .int .i64 0, .string { data := #[] }, .slice none 0 0]) (by simp [results, Tryz.results21, go_sem, p5]) rfl ?_
  rw [HD.out]
  exact rd_end HK5.out (by have := HBA.out; omega) l0 hhi ⟨rfl, some a3, c3, HR5.out, HB5.out, HC3.out⟩
set_option maxHeartbeats 1600000 in
theorem rd_1more (r : List Nat) (q : List Nat) (rb hi : Nat) (a : Option Addr) (c : Nat) (w : World) (d : Nat) (hd : d ≤ 30) (n : Nat) (h1n : 1 < n) (hn2 : n < 256) (hT : takeN 1 q = some (n, r)) (bs : List Nat) (hbs : bs = 1 :: q) (hh : w.heap[rb]? = some (.cells #[.slice a bs.length c, .bool false] 49 (0, 0))) (hhi : hi ≤ rb) (hB : isB w hi a bs) (hc : bs.length ≤ c) (hb : ∀ b ∈ bs, b < 256) (hl : bs.length ≤ 2147483647) : Calls Tryz.prog 21 #[.pointer (some ⟨rb, 0, none⟩), .int .i64 d] w (RdO w rb hi (decBody true true (dec (30 - d)) 1 q)) := by
  have d1 : decide (30 < d) = false := by simp; omega
  have HT := Lib.hid hT
  have HD : Hid (decBody true true (dec (30 - d)) 1 q = none) := by
    rw [Hid, decBody, if_pos rfl, hT]
    exact if_pos h1n
  have u1 : decide (1 < n) = true := by simp; omega
  have u2 : ((n : Int) == 1) = false := by simp; omega
  have u3 : (n == 1) = false := by simp; omega
  have u4 : ¬ n = 1 := by omega
  clear hT
  have l0 : rb < w.heap.size := (Array.getElem?_eq_some_iff.1 hh).1
  have HBY := Lib.hid hb
  have HBS := Lib.hid hbs
  have HH := Lib.hid hh
  have HB := Lib.hid hB
  clear hh hB hb hbs
  go_enter Tryz.func21, Tryz.ntmps21
  go_upto_region 1 with fail
  obtain ⟨w0, hw0⟩ : ∃ v, v = w.alloc (.cells #[.int .i64 0, .bool false, .int .i64 0, .string { data := #[] }, .slice none 0 0] 33) := ⟨_, rfl⟩
  have hb0 : Below w.heap.size w w0 := by rw [hw0]; exact (Below.refl _ _).alloc (Nat.le_refl _) _
  have hx0 : w0.heap[w.heap.size]? = some (.cells #[.int .i64 0, .bool false, .int .i64 0, .string { data := #[] }, .slice none 0 0] 33 (0, 0)) := by rw [hw0]; exact heap_last
  rw [← hw0]
  obtain ⟨bA, hbA⟩ : ∃ b, b = w.heap.size := ⟨_, rfl⟩
  rw [← hbA] at hx0 ⊢
  have HBA := Lib.hid hbA
  have HX0 := Lib.hid hx0
  have HK0 := Lib.hid ((Kg.refl rb w).below hb0)
  have HR0 := Lib.hid ((hb0.block rb l0).trans HH.out)
  have HB0 : Hid (isB w0 hi a bs) := isB_far HB.out (fun b hb => hb0.block b (by omega))
  have l1 : bA < w0.heap.size := (Array.getElem?_eq_some_iff.1 hx0).1
  clear hw0 hb0 hx0 hbA
  go_wp2_with fail
  refine (number_any rb hi a c bs 1 w0 HR0.out hhi HB0.out hc HBY.out hl (by omega)).mono ?_
  rintro e w1 ⟨hn, hk1⟩
  rw [HBS.out] at hn

  rw [show takeN 1 (1 :: q) = some (1, q) from by simp [takeN, unBe]] at hn
  obtain ⟨rfl, a1, c1, hr1, hB1, hc1⟩ := hn
  have HK1 := Lib.hid (HK0.out.trans hk1)
  have hx1 := kg_at hk1 HX0.out (by have := HBA.out; omega)
  have l2 : bA < w1.heap.size := (Array.getElem?_eq_some_iff.1 hx1).1
  go_upto_region 2 with fail
  obtain ⟨w2, hw2⟩ : ∃ v, v = w1.alloc (.cells #[.int .i64 1, .bool false, .int .i64 0, .string { data := #[] }, .slice none 0 0] 33) := ⟨_, rfl⟩
  have hb2 : Below w1.heap.size w1 w2 := by rw [hw2]; exact (Below.refl _ _).alloc (Nat.le_refl _) _
  have hx2 : w2.heap[w1.heap.size]? = some (.cells #[.int .i64 1, .bool false, .int .i64 0, .string { data := #[] }, .slice none 0 0] 33 (0, 0)) := by rw [hw2]; exact heap_last
  rw [← hw2]
  obtain ⟨bX, hbX⟩ : ∃ b, b = w1.heap.size := ⟨_, rfl⟩
  rw [← hbX] at hx2 ⊢
  have HBX := Lib.hid (show bA < bX ∧ rb < bA by have := HBA.out; omega)
  have HK2 := Lib.hid (HK1.out.below hb2)
  have HA2 := Lib.hid ((hb2.block bA l2).trans hx1)
  have l3 : rb < w1.heap.size := (Array.getElem?_eq_some_iff.1 hr1).1
  have HR2 := Lib.hid ((hb2.block rb l3).trans hr1)
  have HB2 : Hid (isB w2 hi (some a1) q) := isB_far hB1 (fun b hb => hb2.block b (by omega))
  have HX2 := Lib.hid hx2
  have HC1 := Lib.hid hc1
  clear hw2 hb2 hx1 hr1 hB1 hbX hk1 hc1 l1 l2 l3 HK1 HK0 HX0 HR0 HB0

  have r2 := fun o => cell_of HR2.out o
  have fr2 := fun o => frozen_of HR2.out o
  have lr2 : rb < w2.heap.size := (Array.getElem?_eq_some_iff.1 HR2.out).1
  have p2 := fun o => cell_of HA2.out o
  have fp2 := fun o => frozen_of HA2.out o
  have lp2 : bA < w2.heap.size := (Array.getElem?_eq_some_iff.1 HA2.out).1
  have x2 := fun o => cell_of HX2.out o
  have fx2 := fun o => frozen_of HX2.out o
  have lx2 : bX < w2.heap.size := (Array.getElem?_eq_some_iff.1 HX2.out).1
  have nAX : bA ≠ bX := by have := HBX.out; omega
  have nRA : rb ≠ bA := by have := HBX.out; omega
  have nRX : rb ≠ bX := by have := HBX.out; omega
  have nXA : bX ≠ bA := by have := HBX.out; omega
  go_wp2_with fail
  refine (number_any rb hi (some a1) c1 q 1 w2 HR2.out hhi HB2.out HC1.out (fun b h => HBY.out b (by rw [HBS.out]; exact List.mem_cons_of_mem _ h)) (by have := HBS.out; rw [this] at hl; simp at hl; omega) (by omega)).mono ?_
  rintro e w3 ⟨hn, hk3⟩
  rw [HT.out] at hn
  obtain ⟨rfl, a3, c3, hr3, hB3, hc3⟩ := hn
  have HB3 := Lib.hid hB3
  have HC3 := Lib.hid hc3
  clear hB3 hc3
  have HR3 := Lib.hid hr3
  have HX3 := Lib.hid (kg_at hk3 HX2.out (by have := HBX.out; omega))
  have HA3 := Lib.hid (kg_at hk3 HA2.out (by have := HBX.out; omega))
  have HK3 := Lib.hid (HK2.out.trans hk3)
  clear hr3 hk3
  clear r2 fr2 lr2 p2 fp2 lp2 x2 fx2 lx2
  have r3 := fun o => cell_of HR3.out o
  have fr3 := fun o => frozen_of HR3.out o
  have lr3 : rb < w3.heap.size := (Array.getElem?_eq_some_iff.1 HR3.out).1
  have p3 := fun o => cell_of HA3.out o
  have fp3 := fun o => frozen_of HA3.out o
  have lp3 : bA < w3.heap.size := (Array.getElem?_eq_some_iff.1 HA3.out).1
  have x3 := fun o => cell_of HX3.out o
  have fx3 := fun o => frozen_of HX3.out o
  have lx3 : bX < w3.heap.size := (Array.getElem?_eq_some_iff.1 HX3.out).1
  have nAX : bA ≠ bX := by have := HBX.out; omega
  have nRA : rb ≠ bA := by have := HBX.out; omega
  have nRX : rb ≠ bX := by have := HBX.out; omega
  have nXA : bX ≠ bA := by have := HBX.out; omega
  have u5 : decide ((1 : Int) < (n : Int)) = true := by simp; omega
  go_upto_region 29 with fail
  try rw [u5]
  clear r3 fr3 lr3 p3 fp3 lp3 x3 fx3 lx3
  obtain ⟨w5, hw5⟩ : ∃ v, v = ((w3.setCell ⟨bX, 1, none⟩ (.bool false)).setCell ⟨rb, 1, none⟩ (.bool true)) := ⟨_, rfl⟩
  rw [← hw5]
  have HX5 : Hid (w5.heap[bX]? = some (.cells #[.int .i64 1, .bool false, .int .i64 0, .string { data := #[] }, .slice none 0 0] 33 (0, 0))) := by rw [hw5]; exact ((Below.heap_setCell _ _ _ _ (show bX ≠ rb by have := HBX.out; omega)).trans (heap_setCell2 HX3.out))
  have HR5 : Hid (w5.heap[rb]? = some (.cells #[.slice (some a3) r.length c3, .bool true] 49 (0, 0))) := by rw [hw5]; exact (heap_setCell2 ((Below.heap_setCell _ _ _ _ (show rb ≠ bX by have := HBX.out; omega)).trans HR3.out))
  have HA5 : Hid (w5.heap[bA]? = some (.cells #[.int .i64 0, .bool false, .int .i64 0, .string { data := #[] }, .slice none 0 0] 33 (0, 0))) := by rw [hw5]; exact ((Below.heap_setCell _ _ _ _ (show bA ≠ rb by have := HBX.out; omega)).trans ((Below.heap_setCell _ _ _ _ (show bA ≠ bX by have := HBX.out; omega)).trans HA3.out))
  have HK5 : Hid (Kg rb w w5) := by rw [hw5]; exact (Kg.set (kg_new HK3.out (by have := HBX.out; have := HBA.out; omega) _))
  have HB5 : Hid (isB w5 hi (some a3) r) := by rw [hw5]; exact isB_far HB3.out (fun b hb => ((Below.heap_setCell _ _ _ _ (show b ≠ rb by have := HBX.out; omega)).trans ((Below.heap_setCell _ _ _ _ (show b ≠ bX by have := HBX.out; omega)).trans rfl)))
  clear hw5
  have r5 := fun o => cell_of HR5.out o
  have fr5 := fun o => frozen_of HR5.out o
  have lr5 : rb < w5.heap.size := (Array.getElem?_eq_some_iff.1 HR5.out).1
  have p5 := fun o => cell_of HA5.out o
  have fp5 := fun o => frozen_of HA5.out o
  have lp5 : bA < w5.heap.size := (Array.getElem?_eq_some_iff.1 HA5.out).1
  have x5 := fun o => cell_of HX5.out o
  have fx5 := fun o => frozen_of HX5.out o
  have lx5 : bX < w5.heap.size := (Array.getElem?_eq_some_iff.1 HX5.out).1
  have nAX : bA ≠ bX := by have := HBX.out; omega
  have nRA : rb ≠ bA := by have := HBX.out; omega
  have nRX : rb ≠ bX := by have := HBX.out; omega
  have nXA : bX ≠ bA := by have := HBX.out; omega
  go_wp2_with fail
  refine bodyPost_ret (v := .agg #[.int .i64 1, .bool false, .int .i64 0, .string { data := #[] }, .slice none 0 0]) (by simp [results, Tryz.results21, go_sem, p5]) rfl ?_
  rw [HD.out]
  exact rd_end HK5.out (by have := HBA.out; omega) l0 hhi ⟨_, _, _, HR5.out⟩
set_option maxHeartbeats 1600000 in
theorem rd_2none (q : List Nat) (rb hi : Nat) (a : Option Addr) (c : Nat) (w : World) (d : Nat) (hd : d ≤ 30) (hT : takeN 8 q = none) (bs : List Nat) (hbs : bs = 2 :: q) (hh : w.heap[rb]? = some (.cells #[.slice a bs.length c, .bool false] 49 (0, 0))) (hhi : hi ≤ rb) (hB : isB w hi a bs) (hc : bs.length ≤ c) (hb : ∀ b ∈ bs, b < 256) (hl : bs.length ≤ 2147483647) : Calls Tryz.prog 21 #[.pointer (some ⟨rb, 0, none⟩), .int .i64 d] w (RdO w rb hi (decBody true true (dec (30 - d)) 2 q)) := by
  have d1 : decide (30 < d) = false := by simp; omega
  have HT := Lib.hid hT
  have HD : Hid (decBody true true (dec (30 - d)) 2 q = none) := by
    rw [Hid, decBody, if_neg (by decide), if_pos (by decide), hT]
  clear hT
  have l0 : rb < w.heap.size := (Array.getElem?_eq_some_iff.1 hh).1
  have HBY := Lib.hid hb
  have HBS := Lib.hid hbs
  have HH := Lib.hid hh
  have HB := Lib.hid hB
  clear hh hB hb hbs
  go_enter Tryz.func21, Tryz.ntmps21
  go_upto_region 1 with fail
  obtain ⟨w0, hw0⟩ : ∃ v, v = w.alloc (.cells #[.int .i64 0, .bool false, .int .i64 0, .string { data := #[] }, .slice none 0 0] 33) := ⟨_, rfl⟩
  have hb0 : Below w.heap.size w w0 := by rw [hw0]; exact (Below.refl _ _).alloc (Nat.le_refl _) _
  have hx0 : w0.heap[w.heap.size]? = some (.cells #[.int .i64 0, .bool false, .int .i64 0, .string { data := #[] }, .slice none 0 0] 33 (0, 0)) := by rw [hw0]; exact heap_last
  rw [← hw0]
  obtain ⟨bA, hbA⟩ : ∃ b, b = w.heap.size := ⟨_, rfl⟩
  rw [← hbA] at hx0 ⊢
  have HBA := Lib.hid hbA
  have HX0 := Lib.hid hx0
  have HK0 := Lib.hid ((Kg.refl rb w).below hb0)
  have HR0 := Lib.hid ((hb0.block rb l0).trans HH.out)
  have HB0 : Hid (isB w0 hi a bs) := isB_far HB.out (fun b hb => hb0.block b (by omega))
  have l1 : bA < w0.heap.size := (Array.getElem?_eq_some_iff.1 hx0).1
  clear hw0 hb0 hx0 hbA
  go_wp2_with fail
  refine (number_any rb hi a c bs 1 w0 HR0.out hhi HB0.out hc HBY.out hl (by omega)).mono ?_
  rintro e w1 ⟨hn, hk1⟩
  rw [HBS.out] at hn

  rw [show takeN 1 (2 :: q) = some (2, q) from by simp [takeN, unBe]] at hn
  obtain ⟨rfl, a1, c1, hr1, hB1, hc1⟩ := hn
  have HK1 := Lib.hid (HK0.out.trans hk1)
  have hx1 := kg_at hk1 HX0.out (by have := HBA.out; omega)
  have l2 : bA < w1.heap.size := (Array.getElem?_eq_some_iff.1 hx1).1
  go_upto_region 2 with fail
  obtain ⟨w2, hw2⟩ : ∃ v, v = w1.alloc (.cells #[.int .i64 2, .bool false, .int .i64 0, .string { data := #[] }, .slice none 0 0] 33) := ⟨_, rfl⟩
  have hb2 : Below w1.heap.size w1 w2 := by rw [hw2]; exact (Below.refl _ _).alloc (Nat.le_refl _) _
  have hx2 : w2.heap[w1.heap.size]? = some (.cells #[.int .i64 2, .bool false, .int .i64 0, .string { data := #[] }, .slice none 0 0] 33 (0, 0)) := by rw [hw2]; exact heap_last
  rw [← hw2]
  obtain ⟨bX, hbX⟩ : ∃ b, b = w1.heap.size := ⟨_, rfl⟩
  rw [← hbX] at hx2 ⊢
  have HBX := Lib.hid (show bA < bX ∧ rb < bA by have := HBA.out; omega)
  have HK2 := Lib.hid (HK1.out.below hb2)
  have HA2 := Lib.hid ((hb2.block bA l2).trans hx1)
  have l3 : rb < w1.heap.size := (Array.getElem?_eq_some_iff.1 hr1).1
  have HR2 := Lib.hid ((hb2.block rb l3).trans hr1)
  have HB2 : Hid (isB w2 hi (some a1) q) := isB_far hB1 (fun b hb => hb2.block b (by omega))
  have HX2 := Lib.hid hx2
  have HC1 := Lib.hid hc1
  clear hw2 hb2 hx1 hr1 hB1 hbX hk1 hc1 l1 l2 l3 HK1 HK0 HX0 HR0 HB0

  have r2 := fun o => cell_of HR2.out o
  have fr2 := fun o => frozen_of HR2.out o
  have lr2 : rb < w2.heap.size := (Array.getElem?_eq_some_iff.1 HR2.out).1
  have p2 := fun o => cell_of HA2.out o
  have fp2 := fun o => frozen_of HA2.out o
  have lp2 : bA < w2.heap.size := (Array.getElem?_eq_some_iff.1 HA2.out).1
  have x2 := fun o => cell_of HX2.out o
  have fx2 := fun o => frozen_of HX2.out o
  have lx2 : bX < w2.heap.size := (Array.getElem?_eq_some_iff.1 HX2.out).1
  have nAX : bA ≠ bX := by have := HBX.out; omega
  have nRA : rb ≠ bA := by have := HBX.out; omega
  have nRX : rb ≠ bX := by have := HBX.out; omega
  have nXA : bX ≠ bA := by have := HBX.out; omega
  go_wp2_with fail
  refine (number_any rb hi (some a1) c1 q 8 w2 HR2.out hhi HB2.out HC1.out (fun b h => HBY.out b (by rw [HBS.out]; exact List.mem_cons_of_mem _ h)) (by have := HBS.out; rw [this] at hl; simp at hl; omega) (by omega)).mono ?_
  rintro e w3 ⟨hn, hk3⟩
  rw [HT.out] at hn
  obtain ⟨rfl, a3, n3, c3, hr3⟩ := hn
  have HR3 := Lib.hid hr3
  have HX3 := Lib.hid (kg_at hk3 HX2.out (by have := HBX.out; omega))
  have HA3 := Lib.hid (kg_at hk3 HA2.out (by have := HBX.out; omega))
  have HK3 := Lib.hid (HK2.out.trans hk3)
  clear hr3 hk3
  clear r2 fr2 lr2 p2 fp2 lp2 x2 fx2 lx2
  have r3 := fun o => cell_of HR3.out o
  have fr3 := fun o => frozen_of HR3.out o
  have lr3 : rb < w3.heap.size := (Array.getElem?_eq_some_iff.1 HR3.out).1
  have p3 := fun o => cell_of HA3.out o
  have fp3 := fun o => frozen_of HA3.out o
  have lp3 : bA < w3.heap.size := (Array.getElem?_eq_some_iff.1 HA3.out).1
  have x3 := fun o => cell_of HX3.out o
  have fx3 := fun o => frozen_of HX3.out o
  have lx3 : bX < w3.heap.size := (Array.getElem?_eq_some_iff.1 HX3.out).1
  have nAX : bA ≠ bX := by have := HBX.out; omega
  have nRA : rb ≠ bA := by have := HBX.out; omega
  have nRX : rb ≠ bX := by have := HBX.out; omega
  have nXA : bX ≠ bA := by have := HBX.out; omega
  go_upto_region 29 with fail
  clear r3 fr3 lr3 p3 fp3 lp3 x3 fx3 lx3
  obtain ⟨w5, hw5⟩ : ∃ v, v = (w3.setCell ⟨bX, 2, none⟩ (.int .i64 0)) := ⟨_, rfl⟩
  rw [← hw5]
  have HX5 : Hid (w5.heap[bX]? = some (.cells #[.int .i64 2, .bool false, .int .i64 0, .string { data := #[] }, .slice none 0 0] 33 (0, 0))) := by rw [hw5]; exact (heap_setCell2 HX3.out)
  have HR5 : Hid (w5.heap[rb]? = some (.cells #[.slice a3 n3 c3, .bool true] 49 (0, 0))) := by rw [hw5]; exact ((Below.heap_setCell _ _ _ _ (show rb ≠ bX by have := HBX.out; omega)).trans HR3.out)
  have HA5 : Hid (w5.heap[bA]? = some (.cells #[.int .i64 0, .bool false, .int .i64 0, .string { data := #[] }, .slice none 0 0] 33 (0, 0))) := by rw [hw5]; exact ((Below.heap_setCell _ _ _ _ (show bA ≠ bX by have := HBX.out; omega)).trans HA3.out)
  have HK5 : Hid (Kg rb w w5) := by rw [hw5]; exact (kg_new HK3.out (by have := HBX.out; have := HBA.out; omega) _)
  clear hw5
  have r5 := fun o => cell_of HR5.out o
  have fr5 := fun o => frozen_of HR5.out o
  have lr5 : rb < w5.heap.size := (Array.getElem?_eq_some_iff.1 HR5.out).1
  have p5 := fun o => cell_of HA5.out o
  have fp5 := fun o => frozen_of HA5.out o
  have lp5 : bA < w5.heap.size := (Array.getElem?_eq_some_iff.1 HA5.out).1
  have x5 := fun o => cell_of HX5.out o
  have fx5 := fun o => frozen_of HX5.out o
  have lx5 : bX < w5.heap.size := (Array.getElem?_eq_some_iff.1 HX5.out).1
  have nAX : bA ≠ bX := by have := HBX.out; omega
  have nRA : rb ≠ bA := by have := HBX.out; omega
  have nRX : rb ≠ bX := by have := HBX.out; omega
  have nXA : bX ≠ bA := by have := HBX.out; omega
  go_wp2_with fail
  refine bodyPost_ret (v := .agg #[.int .i64 2, .bool false, .int .i64 0, .string { data := #[] }, .slice none 0 0]) (by simp [results, Tryz.results21, go_sem, p5]) rfl ?_
  rw [HD.out]
  exact rd_end HK5.out (by have := HBA.out; omega) l0 hhi ⟨_, _, _, HR5.out⟩
set_option maxHeartbeats 1600000 in
theorem rd_2some (r : List Nat) (q : List Nat) (rb hi : Nat) (a : Option Addr) (c : Nat) (w : World) (d : Nat) (hd : d ≤ 30) (m : Nat) (hT : takeN 8 q = some (m, r)) (bs : List Nat) (hbs : bs = 2 :: q) (hh : w.heap[rb]? = some (.cells #[.slice a bs.length c, .bool false] 49 (0, 0))) (hhi : hi ≤ rb) (hB : isB w hi a bs) (hc : bs.length ≤ c) (hb : ∀ b ∈ bs, b < 256) (hl : bs.length ≤ 2147483647) : Calls Tryz.prog 21 #[.pointer (some ⟨rb, 0, none⟩), .int .i64 d] w (RdO w rb hi (decBody true true (dec (30 - d)) 2 q)) := by
  have d1 : decide (30 < d) = false := by simp; omega
  have HT := Lib.hid hT
  have HD : Hid (decBody true true (dec (30 - d)) 2 q = some (⟨2, false, ofU m, ⟨#[]⟩, []⟩, r)) := by
    rw [Hid, decBody, if_neg (by decide), if_pos (by decide), hT]
    rfl
  obtain ⟨V, hV⟩ : ∃ V, V = ofU m := ⟨_, rfl⟩
  have hv1 : wrap64 (m : Int) = V := hV.symm
  have hv2 : IntKind.i64.wrap (m : Int) = V := by rw [IntWalk.i64_left]; exact hv1
  rw [← hV] at HD
  clear hT hV
  have l0 : rb < w.heap.size := (Array.getElem?_eq_some_iff.1 hh).1
  have HBY := Lib.hid hb
  have HBS := Lib.hid hbs
  have HH := Lib.hid hh
  have HB := Lib.hid hB
  clear hh hB hb hbs
  go_enter Tryz.func21, Tryz.ntmps21
  go_upto_region 1 with fail
  obtain ⟨w0, hw0⟩ : ∃ v, v = w.alloc (.cells #[.int .i64 0, .bool false, .int .i64 0, .string { data := #[] }, .slice none 0 0] 33) := ⟨_, rfl⟩
  have hb0 : Below w.heap.size w w0 := by rw [hw0]; exact (Below.refl _ _).alloc (Nat.le_refl _) _
  have hx0 : w0.heap[w.heap.size]? = some (.cells #[.int .i64 0, .bool false, .int .i64 0, .string { data := #[] }, .slice none 0 0] 33 (0, 0)) := by rw [hw0]; exact heap_last
  rw [← hw0]
  obtain ⟨bA, hbA⟩ : ∃ b, b = w.heap.size := ⟨_, rfl⟩
  rw [← hbA] at hx0 ⊢
  have HBA := Lib.hid hbA
  have HX0 := Lib.hid hx0
  have HK0 := Lib.hid ((Kg.refl rb w).below hb0)
  have HR0 := Lib.hid ((hb0.block rb l0).trans HH.out)
  have HB0 : Hid (isB w0 hi a bs) := isB_far HB.out (fun b hb => hb0.block b (by omega))
  have l1 : bA < w0.heap.size := (Array.getElem?_eq_some_iff.1 hx0).1
  clear hw0 hb0 hx0 hbA
  go_wp2_with fail
  refine (number_any rb hi a c bs 1 w0 HR0.out hhi HB0.out hc HBY.out hl (by omega)).mono ?_
  rintro e w1 ⟨hn, hk1⟩
  rw [HBS.out] at hn

  rw [show takeN 1 (2 :: q) = some (2, q) from by simp [takeN, unBe]] at hn
  obtain ⟨rfl, a1, c1, hr1, hB1, hc1⟩ := hn
  have HK1 := Lib.hid (HK0.out.trans hk1)
  have hx1 := kg_at hk1 HX0.out (by have := HBA.out; omega)
  have l2 : bA < w1.heap.size := (Array.getElem?_eq_some_iff.1 hx1).1
  go_upto_region 2 with fail
  obtain ⟨w2, hw2⟩ : ∃ v, v = w1.alloc (.cells #[.int .i64 2, .bool false, .int .i64 0, .string { data := #[] }, .slice none 0 0] 33) := ⟨_, rfl⟩
  have hb2 : Below w1.heap.size w1 w2 := by rw [hw2]; exact (Below.refl _ _).alloc (Nat.le_refl _) _
  have hx2 : w2.heap[w1.heap.size]? = some (.cells #[.int .i64 2, .bool false, .int .i64 0, .string { data := #[] }, .slice none 0 0] 33 (0, 0)) := by rw [hw2]; exact heap_last
  rw [← hw2]
  obtain ⟨bX, hbX⟩ : ∃ b, b = w1.heap.size := ⟨_, rfl⟩
  rw [← hbX] at hx2 ⊢
  have HBX := Lib.hid (show bA < bX ∧ rb < bA by have := HBA.out; omega)
  have HK2 := Lib.hid (HK1.out.below hb2)
  have HA2 := Lib.hid ((hb2.block bA l2).trans hx1)
  have l3 : rb < w1.heap.size := (Array.getElem?_eq_some_iff.1 hr1).1
  have HR2 := Lib.hid ((hb2.block rb l3).trans hr1)
  have HB2 : Hid (isB w2 hi (some a1) q) := isB_far hB1 (fun b hb => hb2.block b (by omega))
  have HX2 := Lib.hid hx2
  have HC1 := Lib.hid hc1
  clear hw2 hb2 hx1 hr1 hB1 hbX hk1 hc1 l1 l2 l3 HK1 HK0 HX0 HR0 HB0

  have r2 := fun o => cell_of HR2.out o
  have fr2 := fun o => frozen_of HR2.out o
  have lr2 : rb < w2.heap.size := (Array.getElem?_eq_some_iff.1 HR2.out).1
  have p2 := fun o => cell_of HA2.out o
  have fp2 := fun o => frozen_of HA2.out o
  have lp2 : bA < w2.heap.size := (Array.getElem?_eq_some_iff.1 HA2.out).1
  have x2 := fun o => cell_of HX2.out o
  have fx2 := fun o => frozen_of HX2.out o
  have lx2 : bX < w2.heap.size := (Array.getElem?_eq_some_iff.1 HX2.out).1
  have nAX : bA ≠ bX := by have := HBX.out; omega
  have nRA : rb ≠ bA := by have := HBX.out; omega
  have nRX : rb ≠ bX := by have := HBX.out; omega
  have nXA : bX ≠ bA := by have := HBX.out; omega
  go_wp2_with fail
  refine (number_any rb hi (some a1) c1 q 8 w2 HR2.out hhi HB2.out HC1.out (fun b h => HBY.out b (by rw [HBS.out]; exact List.mem_cons_of_mem _ h)) (by have := HBS.out; rw [this] at hl; simp at hl; omega) (by omega)).mono ?_
  rintro e w3 ⟨hn, hk3⟩
  rw [HT.out] at hn
  obtain ⟨rfl, a3, c3, hr3, hB3, hc3⟩ := hn
  have HB3 := Lib.hid hB3
  have HC3 := Lib.hid hc3
  clear hB3 hc3
  have HR3 := Lib.hid hr3
  have HX3 := Lib.hid (kg_at hk3 HX2.out (by have := HBX.out; omega))
  have HA3 := Lib.hid (kg_at hk3 HA2.out (by have := HBX.out; omega))
  have HK3 := Lib.hid (HK2.out.trans hk3)
  clear hr3 hk3
  clear r2 fr2 lr2 p2 fp2 lp2 x2 fx2 lx2
  have r3 := fun o => cell_of HR3.out o
  have fr3 := fun o => frozen_of HR3.out o
  have lr3 : rb < w3.heap.size := (Array.getElem?_eq_some_iff.1 HR3.out).1
  have p3 := fun o => cell_of HA3.out o
  have fp3 := fun o => frozen_of HA3.out o
  have lp3 : bA < w3.heap.size := (Array.getElem?_eq_some_iff.1 HA3.out).1
  have x3 := fun o => cell_of HX3.out o
  have fx3 := fun o => frozen_of HX3.out o
  have lx3 : bX < w3.heap.size := (Array.getElem?_eq_some_iff.1 HX3.out).1
  have nAX : bA ≠ bX := by have := HBX.out; omega
  have nRA : rb ≠ bA := by have := HBX.out; omega
  have nRX : rb ≠ bX := by have := HBX.out; omega
  have nXA : bX ≠ bA := by have := HBX.out; omega
  go_upto_region 29 with fail
  clear r3 fr3 lr3 p3 fp3 lp3 x3 fx3 lx3
  obtain ⟨w5, hw5⟩ : ∃ v, v = (w3.setCell ⟨bX, 2, none⟩ (.int .i64 V)) := ⟨_, rfl⟩
  rw [← hw5]
  have HX5 : Hid (w5.heap[bX]? = some (.cells #[.int .i64 2, .bool false, .int .i64 V, .string { data := #[] }, .slice none 0 0] 33 (0, 0))) := by rw [hw5]; exact (heap_setCell2 HX3.out)
  have HR5 : Hid (w5.heap[rb]? = some (.cells #[.slice (some a3) r.length c3, .bool false] 49 (0, 0))) := by rw [hw5]; exact ((Below.heap_setCell _ _ _ _ (show rb ≠ bX by have := HBX.out; omega)).trans HR3.out)
  have HA5 : Hid (w5.heap[bA]? = some (.cells #[.int .i64 0, .bool false, .int .i64 0, .string { data := #[] }, .slice none 0 0] 33 (0, 0))) := by rw [hw5]; exact ((Below.heap_setCell _ _ _ _ (show bA ≠ bX by have := HBX.out; omega)).trans HA3.out)
  have HK5 : Hid (Kg rb w w5) := by rw [hw5]; exact (kg_new HK3.out (by have := HBX.out; have := HBA.out; omega) _)
  have HB5 : Hid (isB w5 hi (some a3) r) := by rw [hw5]; exact isB_far HB3.out (fun b hb => ((Below.heap_setCell _ _ _ _ (show b ≠ bX by have := HBX.out; omega)).trans rfl))
  clear hw5
  have r5 := fun o => cell_of HR5.out o
  have fr5 := fun o => frozen_of HR5.out o
  have lr5 : rb < w5.heap.size := (Array.getElem?_eq_some_iff.1 HR5.out).1
  have p5 := fun o => cell_of HA5.out o
  have fp5 := fun o => frozen_of HA5.out o
  have lp5 : bA < w5.heap.size := (Array.getElem?_eq_some_iff.1 HA5.out).1
  have x5 := fun o => cell_of HX5.out o
  have fx5 := fun o => frozen_of HX5.out o
  have lx5 : bX < w5.heap.size := (Array.getElem?_eq_some_iff.1 HX5.out).1
  have nAX : bA ≠ bX := by have := HBX.out; omega
  have nRA : rb ≠ bA := by have := HBX.out; omega
  have nRX : rb ≠ bX := by have := HBX.out; omega
  have nXA : bX ≠ bA := by have := HBX.out; omega
  go_wp2_with fail
  refine bodyPost_ret (v := .agg #[.int .i64 2, .bool false, .int .i64 V, .string { data := #[] }, .slice none 0 0]) (by simp [results, Tryz.results21, go_sem, p5]) rfl ?_
  rw [HD.out]
  exact rd_end HK5.out (by have := HBA.out; omega) l0 hhi ⟨rfl, some a3, c3, HR5.out, HB5.out, HC3.out⟩
set_option maxHeartbeats 1600000 in
theorem rd_5none (q : List Nat) (rb hi : Nat) (a : Option Addr) (c : Nat) (w : World) (d : Nat) (hd : d ≤ 30) (hT : takeN 8 q = none) (bs : List Nat) (hbs : bs = 5 :: q) (hh : w.heap[rb]? = some (.cells #[.slice a bs.length c, .bool false] 49 (0, 0))) (hhi : hi ≤ rb) (hB : isB w hi a bs) (hc : bs.length ≤ c) (hb : ∀ b ∈ bs, b < 256) (hl : bs.length ≤ 2147483647) : Calls Tryz.prog 21 #[.pointer (some ⟨rb, 0, none⟩), .int .i64 d] w (RdO w rb hi (decBody true true (dec (30 - d)) 5 q)) := by
  have d1 : decide (30 < d) = false := by simp; omega
  have HT := Lib.hid hT
  have HD : Hid (decBody true true (dec (30 - d)) 5 q = none) := by
    rw [Hid, decBody, if_neg (by decide), if_pos (by decide), hT]
  clear hT
  have l0 : rb < w.heap.size := (Array.getElem?_eq_some_iff.1 hh).1
  have HBY := Lib.hid hb
  have HBS := Lib.hid hbs
  have HH := Lib.hid hh
  have HB := Lib.hid hB
  clear hh hB hb hbs
  go_enter Tryz.func21, Tryz.ntmps21
  go_upto_region 1 with fail
  obtain ⟨w0, hw0⟩ : ∃ v, v = w.alloc (.cells #[.int .i64 0, .bool false, .int .i64 0, .string { data := #[] }, .slice none 0 0] 33) := ⟨_, rfl⟩
  have hb0 : Below w.heap.size w w0 := by rw [hw0]; exact (Below.refl _ _).alloc (Nat.le_refl _) _
  have hx0 : w0.heap[w.heap.size]? = some (.cells #[.int .i64 0, .bool false, .int .i64 0, .string { data := #[] }, .slice none 0 0] 33 (0, 0)) := by rw [hw0]; exact heap_last
  rw [← hw0]
  obtain ⟨bA, hbA⟩ : ∃ b, b = w.heap.size := ⟨_, rfl⟩
  rw [← hbA] at hx0 ⊢
  have HBA := Lib.hid hbA
  have HX0 := Lib.hid hx0
  have HK0 := Lib.hid ((Kg.refl rb w).below hb0)
  have HR0 := Lib.hid ((hb0.block rb l0).trans HH.out)
  have HB0 : Hid (isB w0 hi a bs) := isB_far HB.out (fun b hb => hb0.block b (by omega))
  have l1 : bA < w0.heap.size := (Array.getElem?_eq_some_iff.1 hx0).1
  clear hw0 hb0 hx0 hbA
  go_wp2_with fail
  refine (number_any rb hi a c bs 1 w0 HR0.out hhi HB0.out hc HBY.out hl (by omega)).mono ?_
  rintro e w1 ⟨hn, hk1⟩
  rw [HBS.out] at hn

  rw [show takeN 1 (5 :: q) = some (5, q) from by simp [takeN, unBe]] at hn
  obtain ⟨rfl, a1, c1, hr1, hB1, hc1⟩ := hn
  have HK1 := Lib.hid (HK0.out.trans hk1)
  have hx1 := kg_at hk1 HX0.out (by have := HBA.out; omega)
  have l2 : bA < w1.heap.size := (Array.getElem?_eq_some_iff.1 hx1).1
  go_upto_region 2 with fail
  obtain ⟨w2, hw2⟩ : ∃ v, v = w1.alloc (.cells #[.int .i64 5, .bool false, .int .i64 0, .string { data := #[] }, .slice none 0 0] 33) := ⟨_, rfl⟩
  have hb2 : Below w1.heap.size w1 w2 := by rw [hw2]; exact (Below.refl _ _).alloc (Nat.le_refl _) _
  have hx2 : w2.heap[w1.heap.size]? = some (.cells #[.int .i64 5, .bool false, .int .i64 0, .string { data := #[] }, .slice none 0 0] 33 (0, 0)) := by rw [hw2]; exact heap_last
  rw [← hw2]
  obtain ⟨bX, hbX⟩ : ∃ b, b = w1.heap.size := ⟨_, rfl⟩
  rw [← hbX] at hx2 ⊢
  have HBX := Lib.hid (show bA < bX ∧ rb < bA by have := HBA.out; omega)
  have HK2 := Lib.hid (HK1.out.below hb2)
  have HA2 := Lib.hid ((hb2.block bA l2).trans hx1)
  have l3 : rb < w1.heap.size := (Array.getElem?_eq_some_iff.1 hr1).1
  have HR2 := Lib.hid ((hb2.block rb l3).trans hr1)
  have HB2 : Hid (isB w2 hi (some a1) q) := isB_far hB1 (fun b hb => hb2.block b (by omega))
  have HX2 := Lib.hid hx2
  have HC1 := Lib.hid hc1
  clear hw2 hb2 hx1 hr1 hB1 hbX hk1 hc1 l1 l2 l3 HK1 HK0 HX0 HR0 HB0

  have r2 := fun o => cell_of HR2.out o
  have fr2 := fun o => frozen_of HR2.out o
  have lr2 : rb < w2.heap.size := (Array.getElem?_eq_some_iff.1 HR2.out).1
  have p2 := fun o => cell_of HA2.out o
  have fp2 := fun o => frozen_of HA2.out o
  have lp2 : bA < w2.heap.size := (Array.getElem?_eq_some_iff.1 HA2.out).1
  have x2 := fun o => cell_of HX2.out o
  have fx2 := fun o => frozen_of HX2.out o
  have lx2 : bX < w2.heap.size := (Array.getElem?_eq_some_iff.1 HX2.out).1
  have nAX : bA ≠ bX := by have := HBX.out; omega
  have nRA : rb ≠ bA := by have := HBX.out; omega
  have nRX : rb ≠ bX := by have := HBX.out; omega
  have nXA : bX ≠ bA := by have := HBX.out; omega
  go_wp2_with fail
  refine (number_any rb hi (some a1) c1 q 8 w2 HR2.out hhi HB2.out HC1.out (fun b h => HBY.out b (by rw [HBS.out]; exact List.mem_cons_of_mem _ h)) (by have := HBS.out; rw [this] at hl; simp at hl; omega) (by omega)).mono ?_
  rintro e w3 ⟨hn, hk3⟩
  rw [HT.out] at hn
  obtain ⟨rfl, a3, n3, c3, hr3⟩ := hn
  have HR3 := Lib.hid hr3
  have HX3 := Lib.hid (kg_at hk3 HX2.out (by have := HBX.out; omega))
  have HA3 := Lib.hid (kg_at hk3 HA2.out (by have := HBX.out; omega))
  have HK3 := Lib.hid (HK2.out.trans hk3)
  clear hr3 hk3
  clear r2 fr2 lr2 p2 fp2 lp2 x2 fx2 lx2
  have r3 := fun o => cell_of HR3.out o
  have fr3 := fun o => frozen_of HR3.out o
  have lr3 : rb < w3.heap.size := (Array.getElem?_eq_some_iff.1 HR3.out).1
  have p3 := fun o => cell_of HA3.out o
  have fp3 := fun o => frozen_of HA3.out o
  have lp3 : bA < w3.heap.size := (Array.getElem?_eq_some_iff.1 HA3.out).1
  have x3 := fun o => cell_of HX3.out o
  have fx3 := fun o => frozen_of HX3.out o
  have lx3 : bX < w3.heap.size := (Array.getElem?_eq_some_iff.1 HX3.out).1
  have nAX : bA ≠ bX := by have := HBX.out; omega
  have nRA : rb ≠ bA := by have := HBX.out; omega
  have nRX : rb ≠ bX := by have := HBX.out; omega
  have nXA : bX ≠ bA := by have := HBX.out; omega
  go_upto_region 29 with fail
  clear r3 fr3 lr3 p3 fp3 lp3 x3 fx3 lx3
  obtain ⟨w5, hw5⟩ : ∃ v, v = (w3.setCell ⟨bX, 2, none⟩ (.int .i64 0)) := ⟨_, rfl⟩
  rw [← hw5]
  have HX5 : Hid (w5.heap[bX]? = some (.cells #[.int .i64 5, .bool false, .int .i64 0, .string { data := #[] }, .slice none 0 0] 33 (0, 0))) := by rw [hw5]; exact (heap_setCell2 HX3.out)
  have HR5 : Hid (w5.heap[rb]? = some (.cells #[.slice a3 n3 c3, .bool true] 49 (0, 0))) := by rw [hw5]; exact ((Below.heap_setCell _ _ _ _ (show rb ≠ bX by have := HBX.out; omega)).trans HR3.out)
  have HA5 : Hid (w5.heap[bA]? = some (.cells #[.int .i64 0, .bool false, .int .i64 0, .string { data := #[] }, .slice none 0 0] 33 (0, 0))) := by rw [hw5]; exact ((Below.heap_setCell _ _ _ _ (show bA ≠ bX by have := HBX.out; omega)).trans HA3.out)
  have HK5 : Hid (Kg rb w w5) := by rw [hw5]; exact (kg_new HK3.out (by have := HBX.out; have := HBA.out; omega) _)
  clear hw5
  have r5 := fun o => cell_of HR5.out o
  have fr5 := fun o => frozen_of HR5.out o
  have lr5 : rb < w5.heap.size := (Array.getElem?_eq_some_iff.1 HR5.out).1
  have p5 := fun o => cell_of HA5.out o
  have fp5 := fun o => frozen_of HA5.out o
  have lp5 : bA < w5.heap.size := (Array.getElem?_eq_some_iff.1 HA5.out).1
  have x5 := fun o => cell_of HX5.out o
  have fx5 := fun o => frozen_of HX5.out o
  have lx5 : bX < w5.heap.size := (Array.getElem?_eq_some_iff.1 HX5.out).1
  have nAX : bA ≠ bX := by have := HBX.out; omega
  have nRA : rb ≠ bA := by have := HBX.out; omega
  have nRX : rb ≠ bX := by have := HBX.out; omega
  have nXA : bX ≠ bA := by have := HBX.out; omega
  go_wp2_with fail
  refine bodyPost_ret (v := .agg #[.int .i64 5, .bool false, .int .i64 0, .string { data := #[] }, .slice none 0 0]) (by simp [results, Tryz.results21, go_sem, p5]) rfl ?_
  rw [HD.out]
  exact rd_end HK5.out (by have := HBA.out; omega) l0 hhi ⟨_, _, _, HR5.out⟩
set_option maxHeartbeats 1600000 in
theorem rd_5some (r : List Nat) (q : List Nat) (rb hi : Nat) (a : Option Addr) (c : Nat) (w : World) (d : Nat) (hd : d ≤ 30) (m : Nat) (hT : takeN 8 q = some (m, r)) (bs : List Nat) (hbs : bs = 5 :: q) (hh : w.heap[rb]? = some (.cells #[.slice a bs.length c, .bool false] 49 (0, 0))) (hhi : hi ≤ rb) (hB : isB w hi a bs) (hc : bs.length ≤ c) (hb : ∀ b ∈ bs, b < 256) (hl : bs.length ≤ 2147483647) : Calls Tryz.prog 21 #[.pointer (some ⟨rb, 0, none⟩), .int .i64 d] w (RdO w rb hi (decBody true true (dec (30 - d)) 5 q)) := by
  have d1 : decide (30 < d) = false := by simp; omega
  have HT := Lib.hid hT
  have HD : Hid (decBody true true (dec (30 - d)) 5 q = some (⟨5, false, ofU m, ⟨#[]⟩, []⟩, r)) := by
    rw [Hid, decBody, if_neg (by decide), if_pos (by decide), hT]
    rfl
  obtain ⟨V, hV⟩ : ∃ V, V = ofU m := ⟨_, rfl⟩
  have hv1 : wrap64 (m : Int) = V := hV.symm
  have hv2 : IntKind.i64.wrap (m : Int) = V := by rw [IntWalk.i64_left]; exact hv1
  rw [← hV] at HD
  clear hT hV
  have l0 : rb < w.heap.size := (Array.getElem?_eq_some_iff.1 hh).1
  have HBY := Lib.hid hb
  have HBS := Lib.hid hbs
  have HH := Lib.hid hh
  have HB := Lib.hid hB
  clear hh hB hb hbs
  go_enter Tryz.func21, Tryz.ntmps21
  go_upto_region 1 with fail
  obtain ⟨w0, hw0⟩ : ∃ v, v = w.alloc (.cells #[.int .i64 0, .bool false, .int .i64 0, .string { data := #[] }, .slice none 0 0] 33) := ⟨_, rfl⟩
  have hb0 : Below w.heap.size w w0 := by rw [hw0]; exact (Below.refl _ _).alloc (Nat.le_refl _) _
  have hx0 : w0.heap[w.heap.size]? = some (.cells #[.int .i64 0, .bool false, .int .i64 0, .string { data := #[] }, .slice none 0 0] 33 (0, 0)) := by rw [hw0]; exact heap_last
  rw [← hw0]
  obtain ⟨bA, hbA⟩ : ∃ b, b = w.heap.size := ⟨_, rfl⟩
  rw [← hbA] at hx0 ⊢
  have HBA := Lib.hid hbA
  have HX0 := Lib.hid hx0
  have HK0 := Lib.hid ((Kg.refl rb w).below hb0)
  have HR0 := Lib.hid ((hb0.block rb l0).trans HH.out)
  have HB0 : Hid (isB w0 hi a bs) := isB_far HB.out (fun b hb => hb0.block b (by omega))
  have l1 : bA < w0.heap.size := (Array.getElem?_eq_some_iff.1 hx0).1
  clear hw0 hb0 hx0 hbA
  go_wp2_with fail
  refine (number_any rb hi a c bs 1 w0 HR0.out hhi HB0.out hc HBY.out hl (by omega)).mono ?_
  rintro e w1 ⟨hn, hk1⟩
  rw [HBS.out] at hn

  rw [show takeN 1 (5 :: q) = some (5, q) from by simp [takeN, unBe]] at hn
  obtain ⟨rfl, a1, c1, hr1, hB1, hc1⟩ := hn
  have HK1 := Lib.hid (HK0.out.trans hk1)
  have hx1 := kg_at hk1 HX0.out (by have := HBA.out; omega)
  have l2 : bA < w1.heap.size := (Array.getElem?_eq_some_iff.1 hx1).1
  go_upto_region 2 with fail
  obtain ⟨w2, hw2⟩ : ∃ v, v = w1.alloc (.cells #[.int .i64 5, .bool false, .int .i64 0, .string { data := #[] }, .slice none 0 0] 33) := ⟨_, rfl⟩
  have hb2 : Below w1.heap.size w1 w2 := by rw [hw2]; exact (Below.refl _ _).alloc (Nat.le_refl _) _
  have hx2 : w2.heap[w1.heap.size]? = some (.cells #[.int .i64 5, .bool false, .int .i64 0, .string { data := #[] }, .slice none 0 0] 33 (0, 0)) := by rw [hw2]; exact heap_last
  rw [← hw2]
  obtain ⟨bX, hbX⟩ : ∃ b, b = w1.heap.size := ⟨_, rfl⟩
  rw [← hbX] at hx2 ⊢
  have HBX := Lib.hid (show bA < bX ∧ rb < bA by have := HBA.out; omega)
  have HK2 := Lib.hid (HK1.out.below hb2)
  have HA2 := Lib.hid ((hb2.block bA l2).trans hx1)
  have l3 : rb < w1.heap.size := (Array.getElem?_eq_some_iff.1 hr1).1
  have HR2 := Lib.hid ((hb2.block rb l3).trans hr1)
  have HB2 : Hid (isB w2 hi (some a1) q) := isB_far hB1 (fun b hb => hb2.block b (by omega))
  have HX2 := Lib.hid hx2
  have HC1 := Lib.hid hc1
  clear hw2 hb2 hx1 hr1 hB1 hbX hk1 hc1 l1 l2 l3 HK1 HK0 HX0 HR0 HB0

  have r2 := fun o => cell_of HR2.out o
  have fr2 := fun o => frozen_of HR2.out o
  have lr2 : rb < w2.heap.size := (Array.getElem?_eq_some_iff.1 HR2.out).1
  have p2 := fun o => cell_of HA2.out o
  have fp2 := fun o => frozen_of HA2.out o
  have lp2 : bA < w2.heap.size := (Array.getElem?_eq_some_iff.1 HA2.out).1
  have x2 := fun o => cell_of HX2.out o
  have fx2 := fun o => frozen_of HX2.out o
  have lx2 : bX < w2.heap.size := (Array.getElem?_eq_some_iff.1 HX2.out).1
  have nAX : bA ≠ bX := by have := HBX.out; omega
  have nRA : rb ≠ bA := by have := HBX.out; omega
  have nRX : rb ≠ bX := by have := HBX.out; omega
  have nXA : bX ≠ bA := by have := HBX.out; omega
  go_wp2_with fail
  refine (number_any rb hi (some a1) c1 q 8 w2 HR2.out hhi HB2.out HC1.out (fun b h => HBY.out b (by rw [HBS.out]; exact List.mem_cons_of_mem _ h)) (by have := HBS.out; rw [this] at hl; simp at hl; omega) (by omega)).mono ?_
  rintro e w3 ⟨hn, hk3⟩
  rw [HT.out] at hn
  obtain ⟨rfl, a3, c3, hr3, hB3, hc3⟩ := hn
  have HB3 := Lib.hid hB3
  have HC3 := Lib.hid hc3
  clear hB3 hc3
  have HR3 := Lib.hid hr3
  have HX3 := Lib.hid (kg_at hk3 HX2.out (by have := HBX.out; omega))
  have HA3 := Lib.hid (kg_at hk3 HA2.out (by have := HBX.out; omega))
  have HK3 := Lib.hid (HK2.out.trans hk3)
  clear hr3 hk3
  clear r2 fr2 lr2 p2 fp2 lp2 x2 fx2 lx2
  have r3 := fun o => cell_of HR3.out o
  have fr3 := fun o => frozen_of HR3.out o
  have lr3 : rb < w3.heap.size := (Array.getElem?_eq_some_iff.1 HR3.out).1
  have p3 := fun o => cell_of HA3.out o
  have fp3 := fun o => frozen_of HA3.out o
  have lp3 : bA < w3.heap.size := (Array.getElem?_eq_some_iff.1 HA3.out).1
  have x3 := fun o => cell_of HX3.out o
  have fx3 := fun o => frozen_of HX3.out o
  have lx3 : bX < w3.heap.size := (Array.getElem?_eq_some_iff.1 HX3.out).1
  have nAX : bA ≠ bX := by have := HBX.out; omega
  have nRA : rb ≠ bA := by have := HBX.out; omega
  have nRX : rb ≠ bX := by have := HBX.out; omega
  have nXA : bX ≠ bA := by have := HBX.out; omega
  go_upto_region 29 with fail
  clear r3 fr3 lr3 p3 fp3 lp3 x3 fx3 lx3
  obtain ⟨w5, hw5⟩ : ∃ v, v = (w3.setCell ⟨bX, 2, none⟩ (.int .i64 V)) := ⟨_, rfl⟩
  rw [← hw5]
  have HX5 : Hid (w5.heap[bX]? = some (.cells #[.int .i64 5, .bool false, .int .i64 V, .string { data := #[] }, .slice none 0 0] 33 (0, 0))) := by rw [hw5]; exact (heap_setCell2 HX3.out)
  have HR5 : Hid (w5.heap[rb]? = some (.cells #[.slice (some a3) r.length c3, .bool false] 49 (0, 0))) := by rw [hw5]; exact ((Below.heap_setCell _ _ _ _ (show rb ≠ bX by have := HBX.out; omega)).trans HR3.out)
  have HA5 : Hid (w5.heap[bA]? = some (.cells #[.int .i64 0, .bool false, .int .i64 0, .string { data := #[] }, .slice none 0 0] 33 (0, 0))) := by rw [hw5]; exact ((Below.heap_setCell _ _ _ _ (show bA ≠ bX by have := HBX.out; omega)).trans HA3.out)
  have HK5 : Hid (Kg rb w w5) := by rw [hw5]; exact (kg_new HK3.out (by have := HBX.out; have := HBA.out; omega) _)
  have HB5 : Hid (isB w5 hi (some a3) r) := by rw [hw5]; exact isB_far HB3.out (fun b hb => ((Below.heap_setCell _ _ _ _ (show b ≠ bX by have := HBX.out; omega)).trans rfl))
  clear hw5
  have r5 := fun o => cell_of HR5.out o
  have fr5 := fun o => frozen_of HR5.out o
  have lr5 : rb < w5.heap.size := (Array.getElem?_eq_some_iff.1 HR5.out).1
  have p5 := fun o => cell_of HA5.out o
  have fp5 := fun o => frozen_of HA5.out o
  have lp5 : bA < w5.heap.size := (Array.getElem?_eq_some_iff.1 HA5.out).1
  have x5 := fun o => cell_of HX5.out o
  have fx5 := fun o => frozen_of HX5.out o
  have lx5 : bX < w5.heap.size := (Array.getElem?_eq_some_iff.1 HX5.out).1
  have nAX : bA ≠ bX := by have := HBX.out; omega
  have nRA : rb ≠ bA := by have := HBX.out; omega
  have nRX : rb ≠ bX := by have := HBX.out; omega
  have nXA : bX ≠ bA := by have := HBX.out; omega
  go_wp2_with fail
  refine bodyPost_ret (v := .agg #[.int .i64 5, .bool false, .int .i64 V, .string { data := #[] }, .slice none 0 0]) (by simp [results, Tryz.results21, go_sem, p5]) rfl ?_
  rw [HD.out]
  exact rd_end HK5.out (by have := HBA.out; omega) l0 hhi ⟨rfl, some a3, c3, HR5.out, HB5.out, HC3.out⟩
set_option maxHeartbeats 1600000 in
theorem rd_3none (q : List Nat) (rb hi : Nat) (a : Option Addr) (c : Nat) (w : World) (d : Nat) (hd : d ≤ 30) (hT : takeN 4 q = none) (bs : List Nat) (hbs : bs = 3 :: q) (hh : w.heap[rb]? = some (.cells #[.slice a bs.length c, .bool false] 49 (0, 0))) (hhi : hi ≤ rb) (hB : isB w hi a bs) (hc : bs.length ≤ c) (hb : ∀ b ∈ bs, b < 256) (hl : bs.length ≤ 2147483647) : Calls Tryz.prog 21 #[.pointer (some ⟨rb, 0, none⟩), .int .i64 d] w (RdO w rb hi (decBody true true (dec (30 - d)) 3 q)) := by
  have d1 : decide (30 < d) = false := by simp; omega
  have HT := Lib.hid hT
  have HD : Hid (decBody true true (dec (30 - d)) 3 q = none) := by
    rw [Hid, decBody, if_neg (by decide), if_neg (by decide), if_pos rfl, hT]
  clear hT
  have l0 : rb < w.heap.size := (Array.getElem?_eq_some_iff.1 hh).1
  have HBY := Lib.hid hb
  have HBS := Lib.hid hbs
  have HH := Lib.hid hh
  have HB := Lib.hid hB
  clear hh hB hb hbs
  go_enter Tryz.func21, Tryz.ntmps21
  go_upto_region 1 with fail
  obtain ⟨w0, hw0⟩ : ∃ v, v = w.alloc (.cells #[.int .i64 0, .bool false, .int .i64 0, .string { data := #[] }, .slice none 0 0] 33) := ⟨_, rfl⟩
  have hb0 : Below w.heap.size w w0 := by rw [hw0]; exact (Below.refl _ _).alloc (Nat.le_refl _) _
  have hx0 : w0.heap[w.heap.size]? = some (.cells #[.int .i64 0, .bool false, .int .i64 0, .string { data := #[] }, .slice none 0 0] 33 (0, 0)) := by rw [hw0]; exact heap_last
  rw [← hw0]
  obtain ⟨bA, hbA⟩ : ∃ b, b = w.heap.size := ⟨_, rfl⟩
  rw [← hbA] at hx0 ⊢
  have HBA := Lib.hid hbA
  have HX0 := Lib.hid hx0
  have HK0 := Lib.hid ((Kg.refl rb w).below hb0)
  have HR0 := Lib.hid ((hb0.block rb l0).trans HH.out)
  have HB0 : Hid (isB w0 hi a bs) := isB_far HB.out (fun b hb => hb0.block b (by omega))
  have l1 : bA < w0.heap.size := (Array.getElem?_eq_some_iff.1 hx0).1
  clear hw0 hb0 hx0 hbA
  go_wp2_with fail
  refine (number_any rb hi a c bs 1 w0 HR0.out hhi HB0.out hc HBY.out hl (by omega)).mono ?_
  rintro e w1 ⟨hn, hk1⟩
  rw [HBS.out] at hn

  rw [show takeN 1 (3 :: q) = some (3, q) from by simp [takeN, unBe]] at hn
  obtain ⟨rfl, a1, c1, hr1, hB1, hc1⟩ := hn
  have HK1 := Lib.hid (HK0.out.trans hk1)
  have hx1 := kg_at hk1 HX0.out (by have := HBA.out; omega)
  have l2 : bA < w1.heap.size := (Array.getElem?_eq_some_iff.1 hx1).1
  go_upto_region 2 with fail
  obtain ⟨w2, hw2⟩ : ∃ v, v = w1.alloc (.cells #[.int .i64 3, .bool false, .int .i64 0, .string { data := #[] }, .slice none 0 0] 33) := ⟨_, rfl⟩
  have hb2 : Below w1.heap.size w1 w2 := by rw [hw2]; exact (Below.refl _ _).alloc (Nat.le_refl _) _
  have hx2 : w2.heap[w1.heap.size]? = some (.cells #[.int .i64 3, .bool false, .int .i64 0, .string { data := #[] }, .slice none 0 0] 33 (0, 0)) := by rw [hw2]; exact heap_last
  rw [← hw2]
  obtain ⟨bX, hbX⟩ : ∃ b, b = w1.heap.size := ⟨_, rfl⟩
  rw [← hbX] at hx2 ⊢
  have HBX := Lib.hid (show bA < bX ∧ rb < bA by have := HBA.out; omega)
  have HK2 := Lib.hid (HK1.out.below hb2)
  have HA2 := Lib.hid ((hb2.block bA l2).trans hx1)
  have l3 : rb < w1.heap.size := (Array.getElem?_eq_some_iff.1 hr1).1
  have HR2 := Lib.hid ((hb2.block rb l3).trans hr1)
  have HB2 : Hid (isB w2 hi (some a1) q) := isB_far hB1 (fun b hb => hb2.block b (by omega))
  have HX2 := Lib.hid hx2
  have HC1 := Lib.hid hc1
  clear hw2 hb2 hx1 hr1 hB1 hbX hk1 hc1 l1 l2 l3 HK1 HK0 HX0 HR0 HB0

  have r2 := fun o => cell_of HR2.out o
  have fr2 := fun o => frozen_of HR2.out o
  have lr2 : rb < w2.heap.size := (Array.getElem?_eq_some_iff.1 HR2.out).1
  have p2 := fun o => cell_of HA2.out o
  have fp2 := fun o => frozen_of HA2.out o
  have lp2 : bA < w2.heap.size := (Array.getElem?_eq_some_iff.1 HA2.out).1
  have x2 := fun o => cell_of HX2.out o
  have fx2 := fun o => frozen_of HX2.out o
  have lx2 : bX < w2.heap.size := (Array.getElem?_eq_some_iff.1 HX2.out).1
  have nAX : bA ≠ bX := by have := HBX.out; omega
  have nRA : rb ≠ bA := by have := HBX.out; omega
  have nRX : rb ≠ bX := by have := HBX.out; omega
  have nXA : bX ≠ bA := by have := HBX.out; omega
  go_wp2_with fail
  refine (number_any rb hi (some a1) c1 q 4 w2 HR2.out hhi HB2.out HC1.out (fun b h => HBY.out b (by rw [HBS.out]; exact List.mem_cons_of_mem _ h)) (by have := HBS.out; rw [this] at hl; simp at hl; omega) (by omega)).mono ?_
  rintro e w3 ⟨hn, hk3⟩
  rw [HT.out] at hn
  obtain ⟨rfl, a3, n3, c3, hr3⟩ := hn
  have HR3 := Lib.hid hr3
  have HX3 := Lib.hid (kg_at hk3 HX2.out (by have := HBX.out; omega))
  have HA3 := Lib.hid (kg_at hk3 HA2.out (by have := HBX.out; omega))
  have HK3 := Lib.hid (HK2.out.trans hk3)
  clear hr3 hk3
  clear r2 fr2 lr2 p2 fp2 lp2 x2 fx2 lx2
  have r3 := fun o => cell_of HR3.out o
  have fr3 := fun o => frozen_of HR3.out o
  have lr3 : rb < w3.heap.size := (Array.getElem?_eq_some_iff.1 HR3.out).1
  have p3 := fun o => cell_of HA3.out o
  have fp3 := fun o => frozen_of HA3.out o
  have lp3 : bA < w3.heap.size := (Array.getElem?_eq_some_iff.1 HA3.out).1
  have x3 := fun o => cell_of HX3.out o
  have fx3 := fun o => frozen_of HX3.out o
  have lx3 : bX < w3.heap.size := (Array.getElem?_eq_some_iff.1 HX3.out).1
  have nAX : bA ≠ bX := by have := HBX.out; omega
  have nRA : rb ≠ bA := by have := HBX.out; omega
  have nRX : rb ≠ bX := by have := HBX.out; omega
  have nXA : bX ≠ bA := by have := HBX.out; omega
  go_upto_region 17 with fail
  clear r3 fr3 lr3 p3 fp3 lp3 x3 fx3 lx3
  obtain ⟨wz, hwz⟩ : ∃ v, v = w3.setCell ⟨rb, 1, none⟩ (.bool true) := ⟨_, rfl⟩
  rw [← hwz]
  have HRz : Hid (∃ a n c, wz.heap[rb]? = some (.cells #[.slice a n c, .bool true] 49 (0, 0))) := by rw [hwz]; exact ⟨_, _, _, heap_setCell2 HR3.out⟩
  have HAz : Hid (wz.heap[bA]? = some (.cells #[.int .i64 0, .bool false, .int .i64 0, .string { data := #[] }, .slice none 0 0] 33 (0, 0))) := by rw [Hid, hwz, Below.heap_setCell _ _ _ _ (show bA ≠ rb by have := HBA.out; omega)]; exact HA3.out
  have HKz : Hid (Kg rb w wz) := by rw [hwz]; exact Kg.set HK3.out
  have pz := fun o => cell_of HAz.out o
  have fz := fun o => frozen_of HAz.out o
  have lz : bA < wz.heap.size := (Array.getElem?_eq_some_iff.1 HAz.out).1
  clear hwz
  go_wp2_with fail
  refine bodyPost_ret (v := .agg #[.int .i64 0, .bool false, .int .i64 0, .string { data := #[] }, .slice none 0 0]) (by simp [results, Tryz.results21, go_sem, pz]) rfl ?_
  rw [HD.out]
  exact rd_end HKz.out (by have := HBA.out; omega) l0 hhi HRz.out
set_option maxHeartbeats 1600000 in
theorem rd_3long (r : List Nat) (q : List Nat) (rb hi : Nat) (a : Option Addr) (c : Nat) (w : World) (d : Nat) (hd : d ≤ 30) (m : Nat) (hm : r.length < m) (hm2 : m < 4294967296) (hT : takeN 4 q = some (m, r)) (bs : List Nat) (hbs : bs = 3 :: q) (hh : w.heap[rb]? = some (.cells #[.slice a bs.length c, .bool false] 49 (0, 0))) (hhi : hi ≤ rb) (hB : isB w hi a bs) (hc : bs.length ≤ c) (hb : ∀ b ∈ bs, b < 256) (hl : bs.length ≤ 2147483647) : Calls Tryz.prog 21 #[.pointer (some ⟨rb, 0, none⟩), .int .i64 d] w (RdO w rb hi (decBody true true (dec (30 - d)) 3 q)) := by
  have d1 : decide (30 < d) = false := by simp; omega
  have HT := Lib.hid hT
  have HD : Hid (decBody true true (dec (30 - d)) 3 q = none) := by
    rw [Hid, decBody, if_neg (by decide), if_neg (by decide), if_pos rfl, hT]
    exact if_pos hm
  have u1 : decide ((r.length : Int) < (m : Int)) = true := by simp; omega
  have u2 : decide (r.length < m) = true := by simp; omega
  have u3 : IntKind.u64.wrap (r.length : Int) = (r.length : Int) := by show (r.length : Int) % 18446744073709551616 = _; omega
  clear hT
  have l0 : rb < w.heap.size := (Array.getElem?_eq_some_iff.1 hh).1
  have HBY := Lib.hid hb
  have HBS := Lib.hid hbs
  have HH := Lib.hid hh
  have HB := Lib.hid hB
  clear hh hB hb hbs
  go_enter Tryz.func21, Tryz.ntmps21
  go_upto_region 1 with fail
  obtain ⟨w0, hw0⟩ : ∃ v, v = w.alloc (.cells #[.int .i64 0, .bool false, .int .i64 0, .string { data := #[] }, .slice none 0 0] 33) := ⟨_, rfl⟩
  have hb0 : Below w.heap.size w w0 := by rw [hw0]; exact (Below.refl _ _).alloc (Nat.le_refl _) _
  have hx0 : w0.heap[w.heap.size]? = some (.cells #[.int .i64 0, .bool false, .int .i64 0, .string { data := #[] }, .slice none 0 0] 33 (0, 0)) := by rw [hw0]; exact heap_last
  rw [← hw0]
  obtain ⟨bA, hbA⟩ : ∃ b, b = w.heap.size := ⟨_, rfl⟩
  rw [← hbA] at hx0 ⊢
  have HBA := Lib.hid hbA
  have HX0 := Lib.hid hx0
  have HK0 := Lib.hid ((Kg.refl rb w).below hb0)
  have HR0 := Lib.hid ((hb0.block rb l0).trans HH.out)
  have HB0 : Hid (isB w0 hi a bs) := isB_far HB.out (fun b hb => hb0.block b (by omega))
  have l1 : bA < w0.heap.size := (Array.getElem?_eq_some_iff.1 hx0).1
  clear hw0 hb0 hx0 hbA
  go_wp2_with fail
  refine (number_any rb hi a c bs 1 w0 HR0.out hhi HB0.out hc HBY.out hl (by omega)).mono ?_
  rintro e w1 ⟨hn, hk1⟩
  rw [HBS.out] at hn

  rw [show takeN 1 (3 :: q) = some (3, q) from by simp [takeN, unBe]] at hn
  obtain ⟨rfl, a1, c1, hr1, hB1, hc1⟩ := hn
  have HK1 := Lib.hid (HK0.out.trans hk1)
  have hx1 := kg_at hk1 HX0.out (by have := HBA.out; omega)
  have l2 : bA < w1.heap.size := (Array.getElem?_eq_some_iff.1 hx1).1
  go_upto_region 2 with fail
  obtain ⟨w2, hw2⟩ : ∃ v, v = w1.alloc (.cells #[.int .i64 3, .bool false, .int .i64 0, .string { data := #[] }, .slice none 0 0] 33) := ⟨_, rfl⟩
  have hb2 : Below w1.heap.size w1 w2 := by rw [hw2]; exact (Below.refl _ _).alloc (Nat.le_refl _) _
  have hx2 : w2.heap[w1.heap.size]? = some (.cells #[.int .i64 3, .bool false, .int .i64 0, .string { data := #[] }, .slice none 0 0] 33 (0, 0)) := by rw [hw2]; exact heap_last
  rw [← hw2]
  obtain ⟨bX, hbX⟩ : ∃ b, b = w1.heap.size := ⟨_, rfl⟩
  rw [← hbX] at hx2 ⊢
  have HBX := Lib.hid (show bA < bX ∧ rb < bA by have := HBA.out; omega)
  have HK2 := Lib.hid (HK1.out.below hb2)
  have HA2 := Lib.hid ((hb2.block bA l2).trans hx1)
  have l3 : rb < w1.heap.size := (Array.getElem?_eq_some_iff.1 hr1).1
  have HR2 := Lib.hid ((hb2.block rb l3).trans hr1)
  have HB2 : Hid (isB w2 hi (some a1) q) := isB_far hB1 (fun b hb => hb2.block b (by omega))
  have HX2 := Lib.hid hx2
  have HC1 := Lib.hid hc1
  clear hw2 hb2 hx1 hr1 hB1 hbX hk1 hc1 l1 l2 l3 HK1 HK0 HX0 HR0 HB0

  have r2 := fun o => cell_of HR2.out o
  have fr2 := fun o => frozen_of HR2.out o
  have lr2 : rb < w2.heap.size := (Array.getElem?_eq_some_iff.1 HR2.out).1
  have p2 := fun o => cell_of HA2.out o
  have fp2 := fun o => frozen_of HA2.out o
  have lp2 : bA < w2.heap.size := (Array.getElem?_eq_some_iff.1 HA2.out).1
  have x2 := fun o => cell_of HX2.out o
  have fx2 := fun o => frozen_of HX2.out o
  have lx2 : bX < w2.heap.size := (Array.getElem?_eq_some_iff.1 HX2.out).1
  have nAX : bA ≠ bX := by have := HBX.out; omega
  have nRA : rb ≠ bA := by have := HBX.out; omega
  have nRX : rb ≠ bX := by have := HBX.out; omega
  have nXA : bX ≠ bA := by have := HBX.out; omega
  go_wp2_with fail
  refine (number_any rb hi (some a1) c1 q 4 w2 HR2.out hhi HB2.out HC1.out (fun b h => HBY.out b (by rw [HBS.out]; exact List.mem_cons_of_mem _ h)) (by have := HBS.out; rw [this] at hl; simp at hl; omega) (by omega)).mono ?_
  rintro e w3 ⟨hn, hk3⟩
  rw [HT.out] at hn
  obtain ⟨rfl, a3, c3, hr3, hB3, hc3⟩ := hn
  have HB3 := Lib.hid hB3
  have HC3 := Lib.hid hc3
  clear hB3 hc3
  have HR3 := Lib.hid hr3
  have HX3 := Lib.hid (kg_at hk3 HX2.out (by have := HBX.out; omega))
  have HA3 := Lib.hid (kg_at hk3 HA2.out (by have := HBX.out; omega))
  have HK3 := Lib.hid (HK2.out.trans hk3)
  clear hr3 hk3
  clear r2 fr2 lr2 p2 fp2 lp2 x2 fx2 lx2
  have r3 := fun o => cell_of HR3.out o
  have fr3 := fun o => frozen_of HR3.out o
  have lr3 : rb < w3.heap.size := (Array.getElem?_eq_some_iff.1 HR3.out).1
  have p3 := fun o => cell_of HA3.out o
  have fp3 := fun o => frozen_of HA3.out o
  have lp3 : bA < w3.heap.size := (Array.getElem?_eq_some_iff.1 HA3.out).1
  have x3 := fun o => cell_of HX3.out o
  have fx3 := fun o => frozen_of HX3.out o
  have lx3 : bX < w3.heap.size := (Array.getElem?_eq_some_iff.1 HX3.out).1
  have nAX : bA ≠ bX := by have := HBX.out; omega
  have nRA : rb ≠ bA := by have := HBX.out; omega
  have nRX : rb ≠ bX := by have := HBX.out; omega
  have nXA : bX ≠ bA := by have := HBX.out; omega
  go_upto_region 17 with fail
  clear r3 fr3 lr3 p3 fp3 lp3 x3 fx3 lx3
  obtain ⟨wz, hwz⟩ : ∃ v, v = w3.setCell ⟨rb, 1, none⟩ (.bool true) := ⟨_, rfl⟩
  rw [← hwz]
  have HRz : Hid (∃ a n c, wz.heap[rb]? = some (.cells #[.slice a n c, .bool true] 49 (0, 0))) := by rw [hwz]; exact ⟨_, _, _, heap_setCell2 HR3.out⟩
  have HAz : Hid (wz.heap[bA]? = some (.cells #[.int .i64 0, .bool false, .int .i64 0, .string { data := #[] }, .slice none 0 0] 33 (0, 0))) := by rw [Hid, hwz, Below.heap_setCell _ _ _ _ (show bA ≠ rb by have := HBA.out; omega)]; exact HA3.out
  have HKz : Hid (Kg rb w wz) := by rw [hwz]; exact Kg.set HK3.out
  have pz := fun o => cell_of HAz.out o
  have fz := fun o => frozen_of HAz.out o
  have lz : bA < wz.heap.size := (Array.getElem?_eq_some_iff.1 HAz.out).1
  clear hwz
  go_wp2_with fail
  refine bodyPost_ret (v := .agg #[.int .i64 0, .bool false, .int .i64 0, .string { data := #[] }, .slice none 0 0]) (by simp [results, Tryz.results21, go_sem, pz]) rfl ?_
  rw [HD.out]
  exact rd_end HKz.out (by have := HBA.out; omega) l0 hhi HRz.out
end Go.Proofs.YtkpfaeodgjbodaaGreatDoor
