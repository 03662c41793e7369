/-
  The reference's reading of a list, of any value: what rdec tells. Conditions: fewer than 2^31 bytes.
-/
import Derived.Test.YtkpfaeodgjbodaaGreatDoorRRdV
import Derived.Test.YtkpfaeodgjbodaaGreatDoorRdA
namespace Go.Proofs.YtkpfaeodgjbodaaGreatDoor
open Go Go.RowKit
set_option maxRecDepth 100000
set_option linter.unusedVariables false
def LRt (wr : World) (rb hi : Nat) (D : List Nat → Option (GV × List Nat)) (m : Nat) (r : List Nat) (l : List GV) : Prop :=
  (∃ (r' : List Nat), RGood wr rb hi r' ∧ r'.length ≤ 2147483647 ∧ (∀ b ∈ r', b < 256) ∧ decL D m r = joinL l (decL D (m - l.length) r')) ∨
  (RBad wr rb ∧ decL D m r = none)
theorem rgood_far {w w' : World} {rb hi : Nat} {r : List Nat} (h : RGood w rb hi r) (h1 : w'.heap[rb]? = w.heap[rb]?) (h2 : ∀ b, b < hi → w'.heap[b]? = w.heap[b]?) : RGood w' rb hi r := by
  obtain ⟨a, c, g1, g2, g3⟩ := h
  exact ⟨a, c, h1.trans g1, isB_far g2 h2, g3⟩
theorem rbad_far {w w' : World} {rb : Nat} (h : RBad w rb) (h1 : w'.heap[rb]? = w.heap[rb]?) : RBad w' rb := by
  obtain ⟨a, n, c, g⟩ := h
  exact ⟨a, n, c, h1.trans g⟩
theorem lrt_step {w5 w7 : World} {rb hi : Nat} {D : List Nat → Option (GV × List Nat)} {m : Nat} {r r' : List Nat} {l : List GV} {y : GV} (hD : ∀ bs v r, bs.length ≤ 2147483647 → (∀ b ∈ bs, b < 256) → D bs = some (v, r) → r.length ≤ bs.length ∧ ∀ b ∈ r, b < 256)
    (hp : RrP w5 rb hi y (D r')) (hl : r'.length ≤ 2147483647) (hb : ∀ b ∈ r', b < 256) (he : decL D m r = joinL l (decL D (m - l.length) r')) (hlt : l.length < m) (h1 : w7.heap[rb]? = w5.heap[rb]?) (h2 : ∀ b, b < hi → w7.heap[b]? = w5.heap[b]?) : LRt w7 rb hi D m r (l ++ [y]) := by
  have e : m - l.length = (m - (l.length + 1)) + 1 := by omega
  rw [e] at he
  unfold RrP at hp
  cases hDr : D r' with
  | none =>
    rw [hDr] at hp
    refine .inr ⟨rbad_far hp h1, ?_⟩
    rw [he]
    simp only [decL, hDr, joinL]
  | some p =>
    obtain ⟨x, r2⟩ := p
    rw [hDr] at hp
    obtain ⟨rfl, g⟩ := hp
    obtain ⟨k1, k2⟩ := hD r' y r2 hl hb hDr
    refine .inl ⟨r2, rgood_far g h1 h2, by omega, k2, ?_⟩
    rw [he, List.length_append, List.length_singleton]
    simp only [decL, hDr]
    cases decL D (m - (l.length + 1)) r2 with
    | none => rfl
    | some p =>
      obtain ⟨l2, r3⟩ := p
      simp [joinL]
/-- a list's answer, the result's box written -/
theorem rr_endL {w w5 : World} {rb hi b base cp : Nat} {va : Option Addr} {l : List GV} {o : Option (GV × List Nat)} (hk : Kg rb w w5) (hb : w.heap.size ≤ b) (hrb : rb < w.heap.size) (hhi : hi ≤ rb) (hbase : b < base) (ho : ownL w5 base 33 (.slice va l.length cp) l) (hp : RrP w5 rb hi ⟨4, false, 0, ⟨#[]⟩, l⟩ o) :
    RrO w rb hi o (.returned (.agg #[.int .i64 4, .bool false, .int .i64 0, .string { data := #[] }, .slice va l.length cp])) (((((w5.setCell ⟨b, 0, none⟩ (.int .i64 4)).setCell ⟨b, 1, none⟩ (.bool false)).setCell ⟨b, 2, none⟩ (.int .i64 0)).setCell ⟨b, 3, none⟩ (.string { data := #[] })).setCell ⟨b, 4, none⟩ (.slice va l.length cp)) := by
  have hr := ownL_isR ho
  refine ⟨⟨4, false, 0, ⟨#[]⟩, l⟩, va, cp, rfl, ?_, kg_five hk hb _ _ _ _ _, ?_⟩
  · refine isR_sub (isR_setCell (isR_setCell (isR_setCell (isR_setCell (isR_setCell hr ?_ _) ?_ _) ?_ _) ?_ _) ?_ _) (S' := since w.heap.size _) (fun c hc => ⟨by have := hc.1; omega, by have := hc.2; simpa [World.setCell] using this⟩)
    all_goals (intro hx; have := hx.1; dsimp only at this; omega)
  · have hne : rb ≠ b := by omega
    unfold RrP at hp ⊢
    cases o with
    | none => exact rbad_far hp (far5R hne)
    | some p =>
      obtain ⟨v, r⟩ := p
      obtain ⟨e, g⟩ := hp
      exact ⟨e, rgood_far g (far5R hne) (fun b' hb' => far5R (by omega))⟩
theorem rdec_fit : ∀ (f : Nat) (bs : List Nat) (v : GV) (r : List Nat), bs.length ≤ 2147483647 → (∀ b ∈ bs, b < 256) → rdec f bs = some (v, r) → v.fit ∧ r.length ≤ bs.length ∧ ∀ b ∈ r, b < 256
  | 0, _, _, _, _, _, e => by cases e
  | f + 1, [], _, _, _, _, e => by cases e
  | f + 1, k :: q, v, r, hl, hb, e => by
    have hq : ∀ b ∈ q, b < 256 := fun b h => hb b (List.mem_cons_of_mem _ h)
    have hk := hb k (List.mem_cons_self ..)
    simp only [List.length_cons] at hl ⊢
    change decStep (f != 0) false (rdec f) (k :: q) = some (v, r) at e
    rw [decStep_cons] at e
    unfold decBody at e
    by_cases k1 : k = 1
    · rw [if_pos k1] at e
      cases h1 : takeN 1 q with
      | none => rw [h1] at e; cases e
      | some p =>
        obtain ⟨n, r2⟩ := p
        rw [h1] at e
        dsimp only at e
        split at e
        · cases e
        · cases e
          have := takeN_len h1
          exact ⟨fit_flat _ _ _ (by omega) (by unfold inB; omega), by omega, takeN_rest h1 hq⟩
    rw [if_neg k1] at e
    by_cases k2 : k = 2 ∨ k = 5
    · rw [if_pos k2] at e
      cases h1 : takeN 8 q with
      | none => rw [h1] at e; cases e
      | some p =>
        obtain ⟨n, r2⟩ := p
        rw [h1] at e
        dsimp only at e
        cases e
        have := takeN_len h1
        exact ⟨fit_flat _ _ _ (by omega) (ofU_in _), by omega, takeN_rest h1 hq⟩
    rw [if_neg k2] at e
    by_cases k3 : k = 3
    · rw [if_pos k3] at e
      cases h1 : takeN 4 q with
      | none => rw [h1] at e; cases e
      | some p =>
        obtain ⟨n, r2⟩ := p
        rw [h1] at e
        dsimp only at e
        split at e
        · cases e
        · cases e
          have := takeN_len h1
          refine ⟨?_, by simp; omega, fun b h => takeN_rest h1 hq b (List.mem_of_mem_drop h)⟩
          simp only [GV.fit]
          exact ⟨by omega, by omega, by omega, by omega, by rw [txOf_size, List.length_take]; omega, by simp, trivial⟩
    rw [if_neg k3] at e
    by_cases k4 : k = 4
    · rw [if_pos k4] at e
      cases h1 : takeN 4 q with
      | none => rw [h1] at e; cases e
      | some p =>
        obtain ⟨n, r2⟩ := p
        rw [h1] at e
        dsimp only at e
        split at e
        · cases e
        · rename_i hn
          have h5 := takeN_len h1
          cases h2 : decL (rdec f) n r2 with
          | none => rw [h2] at e; cases e
          | some u =>
            obtain ⟨l2, r3⟩ := u
            rw [h2] at e
            dsimp only at e
            cases e
            obtain ⟨g1, g2, g3, g4⟩ := decL_fit (rdec_fit f) n r2 l2 _ (by omega) (takeN_rest h1 hq) h2
            refine ⟨?_, by omega, g4⟩
            simp only [GV.fit]
            exact ⟨by omega, by omega, by omega, by omega, by decide, by omega, g1⟩
    rw [if_neg k4] at e
    split at e
    · cases e
      exact ⟨fit_flat _ _ _ (by omega) (by unfold inB; omega), by omega, hq⟩
    · cases e
set_option maxHeartbeats 1600000 in
theorem rr_4none (q : List Nat) (rb hi : Nat) (a : Option Addr) (c : Nat) (w : World) (d : Nat) (hd : d ≤ 31) (hT : takeN 4 q = none) (bs : List Nat) (hbs : bs = 4 :: q) (hh : w.heap[rb]? = some (.cells #[.slice a bs.length c, .bool false] 53 (0, 0))) (hhi : hi ≤ rb) (hB : isB w hi a bs) (hc : bs.length ≤ c) (hb : ∀ b ∈ bs, b < 256) (hl : bs.length ≤ 2147483647) : Calls Tryz.prog 22 #[.pointer (some ⟨rb, 0, none⟩), .int .i64 d] w (RrO w rb hi (decBody (31 - d != 0) false (rdec (31 - d)) 4 q)) := by
  have HT := Lib.hid hT
  have HD : Hid (decBody (31 - d != 0) false (rdec (31 - d)) 4 q = none) := by
    rw [Hid, decBody, if_neg (by decide), if_neg (by decide), if_neg (by decide), if_pos rfl, hT]
  clear hT
  have l0 : rb < w.heap.size := (Array.getElem?_eq_some_iff.1 hh).1
  have HBY := Lib.hid hb
  have HBS := Lib.hid hbs
  have HH := Lib.hid hh
  have HB := Lib.hid hB
  clear hh hB hb hbs
  go_enter Tryz.func22, Tryz.ntmps22
  go_upto_region 1 with fail
  obtain ⟨w0, hw0⟩ : ∃ v, v = w.alloc (.cells #[.int .i64 0, .bool false, .int .i64 0, .string { data := #[] }, .slice none 0 0] 33) := ⟨_, rfl⟩
  have hb0 : Below w.heap.size w w0 := by rw [hw0]; exact (Below.refl _ _).alloc (Nat.le_refl _) _
  have hx0 : w0.heap[w.heap.size]? = some (.cells #[.int .i64 0, .bool false, .int .i64 0, .string { data := #[] }, .slice none 0 0] 33 (0, 0)) := by rw [hw0]; exact heap_last
  rw [← hw0]
  obtain ⟨bA, hbA⟩ : ∃ b, b = w.heap.size := ⟨_, rfl⟩
  rw [← hbA] at hx0 ⊢
  have HBA := Lib.hid hbA
  have HX0 := Lib.hid hx0
  have HK0 := Lib.hid ((Kg.refl rb w).below hb0)
  have HR0 := Lib.hid ((hb0.block rb l0).trans HH.out)
  have HB0 : Hid (isB w0 hi a bs) := isB_far HB.out (fun b hb => hb0.block b (by omega))
  have l1 : bA < w0.heap.size := (Array.getElem?_eq_some_iff.1 hx0).1
  clear hw0 hb0 hx0 hbA
  go_wp2_with fail
  refine (rnum_any rb hi a c bs 1 w0 HR0.out hhi HB0.out hc HBY.out (by omega)).mono ?_
  rintro e w1 ⟨hn, hk1⟩
  rw [HBS.out] at hn
  rw [show takeN 1 (4 :: q) = some (4, q) from by simp [takeN, unBe]] at hn
  obtain ⟨rfl, a1, c1, hr1, hB1, hc1⟩ := hn
  rw [show ofU 4 = 4 from by unfold ofU wrap64; omega]
  have HK1 := Lib.hid (HK0.out.trans hk1)
  have hx1 := kg_at hk1 HX0.out (by have := HBA.out; omega)
  have l2 : bA < w1.heap.size := (Array.getElem?_eq_some_iff.1 hx1).1
  go_upto_region 2 with fail
  obtain ⟨w2, hw2⟩ : ∃ v, v = w1.alloc (.cells #[.int .i64 4, .bool false, .int .i64 0, .string { data := #[] }, .slice none 0 0] 33) := ⟨_, rfl⟩
  have hb2 : Below w1.heap.size w1 w2 := by rw [hw2]; exact (Below.refl _ _).alloc (Nat.le_refl _) _
  have hx2 : w2.heap[w1.heap.size]? = some (.cells #[.int .i64 4, .bool false, .int .i64 0, .string { data := #[] }, .slice none 0 0] 33 (0, 0)) := by rw [hw2]; exact heap_last
  rw [← hw2]
  obtain ⟨bX, hbX⟩ : ∃ b, b = w1.heap.size := ⟨_, rfl⟩
  rw [← hbX] at hx2 ⊢
  have HBX := Lib.hid (show bA < bX ∧ rb < bA by have := HBA.out; omega)
  have HK2 := Lib.hid (HK1.out.below hb2)
  have HA2 := Lib.hid ((hb2.block bA l2).trans hx1)
  have l3 : rb < w1.heap.size := (Array.getElem?_eq_some_iff.1 hr1).1
  have HR2 := Lib.hid ((hb2.block rb l3).trans hr1)
  have HB2 : Hid (isB w2 hi (some a1) q) := isB_far hB1 (fun b hb => hb2.block b (by omega))
  have HC1 := Lib.hid hc1
  have HX2 := Lib.hid hx2
  clear hw2 hb2 hx1 hr1 hbX hk1 l1 l2 l3 HK1 HK0 HX0 HR0 HB0 hB1 hc1
  have r2 := fun o => cell_of HR2.out o
  have fr2 := fun o => frozen_of HR2.out o
  have lr2 : rb < w2.heap.size := (Array.getElem?_eq_some_iff.1 HR2.out).1
  have p2 := fun o => cell_of HA2.out o
  have fp2 := fun o => frozen_of HA2.out o
  have lp2 : bA < w2.heap.size := (Array.getElem?_eq_some_iff.1 HA2.out).1
  have x2 := fun o => cell_of HX2.out o
  have fx2 := fun o => frozen_of HX2.out o
  have lx2 : bX < w2.heap.size := (Array.getElem?_eq_some_iff.1 HX2.out).1
  have nAX : bA ≠ bX := by have := HBX.out; omega
  have nRA : rb ≠ bA := by have := HBX.out; omega
  have nRX : rb ≠ bX := by have := HBX.out; omega
  have nXA : bX ≠ bA := by have := HBX.out; omega
  go_wp2_with fail
  refine (rnum_any rb hi (some a1) c1 q 4 w2 HR2.out hhi HB2.out HC1.out (fun b h => HBY.out b (by rw [HBS.out]; exact List.mem_cons_of_mem _ h)) (by omega)).mono ?_
  rintro e w3 ⟨hn, hk3⟩
  rw [HT.out] at hn
  obtain ⟨rfl, a3, n3, c3, hr3⟩ := hn
  have HR3 := Lib.hid hr3
  have HX3 := Lib.hid (kg_at hk3 HX2.out (by have := HBX.out; omega))
  have HA3 := Lib.hid (kg_at hk3 HA2.out (by have := HBX.out; omega))
  have HK3 := Lib.hid (HK2.out.trans hk3)
  clear hr3 hk3
  clear r2 fr2 lr2 p2 fp2 lp2 x2 fx2 lx2
  have r3 := fun o => cell_of HR3.out o
  have fr3 := fun o => frozen_of HR3.out o
  have lr3 : rb < w3.heap.size := (Array.getElem?_eq_some_iff.1 HR3.out).1
  have p3 := fun o => cell_of HA3.out o
  have fp3 := fun o => frozen_of HA3.out o
  have lp3 : bA < w3.heap.size := (Array.getElem?_eq_some_iff.1 HA3.out).1
  have x3 := fun o => cell_of HX3.out o
  have fx3 := fun o => frozen_of HX3.out o
  have lx3 : bX < w3.heap.size := (Array.getElem?_eq_some_iff.1 HX3.out).1
  have nAX : bA ≠ bX := by have := HBX.out; omega
  have nRA : rb ≠ bA := by have := HBX.out; omega
  have nRX : rb ≠ bX := by have := HBX.out; omega
  have nXA : bX ≠ bA := by have := HBX.out; omega
  go_upto_region 17 with fail
  clear r3 fr3 lr3 p3 fp3 lp3 x3 fx3 lx3
  obtain ⟨w5, hw5⟩ : ∃ v, v = (w3.setCell ⟨rb, 1, none⟩ (.bool true)) := ⟨_, rfl⟩
  rw [← hw5]
  have HX5 : Hid (w5.heap[bX]? = some (.cells #[.int .i64 4, .bool false, .int .i64 0, .string { data := #[] }, .slice none 0 0] 33 (0, 0))) := by rw [hw5]; exact ((Below.heap_setCell _ _ _ _ (show bX ≠ rb by have := HBX.out; omega)).trans HX3.out)
  have HR5 : Hid (w5.heap[rb]? = some (.cells #[.slice a3 n3 c3, .bool true] 53 (0, 0))) := by rw [hw5]; exact (heap_setCell2 HR3.out)
  have HA5 : Hid (w5.heap[bA]? = some (.cells #[.int .i64 0, .bool false, .int .i64 0, .string { data := #[] }, .slice none 0 0] 33 (0, 0))) := by rw [hw5]; exact ((Below.heap_setCell _ _ _ _ (show bA ≠ rb by have := HBX.out; omega)).trans HA3.out)
  have HK5 : Hid (Kg rb w w5) := by rw [hw5]; exact (Kg.set HK3.out)
  clear hw5
  have r5 := fun o => cell_of HR5.out o
  have fr5 := fun o => frozen_of HR5.out o
  have lr5 : rb < w5.heap.size := (Array.getElem?_eq_some_iff.1 HR5.out).1
  have p5 := fun o => cell_of HA5.out o
  have fp5 := fun o => frozen_of HA5.out o
  have lp5 : bA < w5.heap.size := (Array.getElem?_eq_some_iff.1 HA5.out).1
  have x5 := fun o => cell_of HX5.out o
  have fx5 := fun o => frozen_of HX5.out o
  have lx5 : bX < w5.heap.size := (Array.getElem?_eq_some_iff.1 HX5.out).1
  have nAX : bA ≠ bX := by have := HBX.out; omega
  have nRA : rb ≠ bA := by have := HBX.out; omega
  have nRX : rb ≠ bX := by have := HBX.out; omega
  have nXA : bX ≠ bA := by have := HBX.out; omega
  go_wp2_with fail
  go_loopw [8] (fun i wr => i = .int .i64 0 ∧ wr = w5) (fun i _ => 0)
  case atStart => exact ⟨rfl, rfl⟩
  case round =>
    obtain ⟨rfl, rfl⟩ := hrel
    go_wp2_with fail
    refine bodyPost_ret (v := .agg #[.int .i64 4, .bool false, .int .i64 0, .string { data := #[] }, .slice none 0 0]) (by simp [results, Tryz.results22, go_sem, p5]) rfl ?_
    rw [HD.out]
    exact rr_end HK5.out (by have := HBA.out; omega) l0 hhi ⟨_, _, _, HR5.out⟩
set_option maxHeartbeats 1600000 in
theorem rr_4long (r : List Nat) (q : List Nat) (rb hi : Nat) (a : Option Addr) (c : Nat) (w : World) (d : Nat) (hd : d ≤ 31) (m : Nat) (hm : 4096 < m) (hm2 : m < 4294967296) (hT : takeN 4 q = some (m, r)) (bs : List Nat) (hbs : bs = 4 :: q) (hh : w.heap[rb]? = some (.cells #[.slice a bs.length c, .bool false] 53 (0, 0))) (hhi : hi ≤ rb) (hB : isB w hi a bs) (hc : bs.length ≤ c) (hb : ∀ b ∈ bs, b < 256) (hl : bs.length ≤ 2147483647) : Calls Tryz.prog 22 #[.pointer (some ⟨rb, 0, none⟩), .int .i64 d] w (RrO w rb hi (decBody (31 - d != 0) false (rdec (31 - d)) 4 q)) := by
  have HT := Lib.hid hT
  have HD : Hid (decBody (31 - d != 0) false (rdec (31 - d)) 4 q = none) := by
    rw [Hid, decBody, if_neg (by decide), if_neg (by decide), if_neg (by decide), if_pos rfl, hT]
    exact if_pos (.inl hm)
  have HU : Hid (ofU m = (m : Int)) := by unfold ofU wrap64; rw [Hid]; omega
  have u1 : decide ((4096 : Int) < (m : Int)) = true := by simp; omega
  have u2 : decide (4096 < m) = true := by simp; omega
  have u3 : decide (0 < m) = true := by simp; omega
  have u4 : decide ((0 : Int) < (m : Int)) = true := by simp; omega
  have u5 : 0 < m := by omega
  clear hT
  have l0 : rb < w.heap.size := (Array.getElem?_eq_some_iff.1 hh).1
  have HBY := Lib.hid hb
  have HBS := Lib.hid hbs
  have HH := Lib.hid hh
  have HB := Lib.hid hB
  clear hh hB hb hbs
  go_enter Tryz.func22, Tryz.ntmps22
  go_upto_region 1 with fail
  obtain ⟨w0, hw0⟩ : ∃ v, v = w.alloc (.cells #[.int .i64 0, .bool false, .int .i64 0, .string { data := #[] }, .slice none 0 0] 33) := ⟨_, rfl⟩
  have hb0 : Below w.heap.size w w0 := by rw [hw0]; exact (Below.refl _ _).alloc (Nat.le_refl _) _
  have hx0 : w0.heap[w.heap.size]? = some (.cells #[.int .i64 0, .bool false, .int .i64 0, .string { data := #[] }, .slice none 0 0] 33 (0, 0)) := by rw [hw0]; exact heap_last
  rw [← hw0]
  obtain ⟨bA, hbA⟩ : ∃ b, b = w.heap.size := ⟨_, rfl⟩
  rw [← hbA] at hx0 ⊢
  have HBA := Lib.hid hbA
  have HX0 := Lib.hid hx0
  have HK0 := Lib.hid ((Kg.refl rb w).below hb0)
  have HR0 := Lib.hid ((hb0.block rb l0).trans HH.out)
  have HB0 : Hid (isB w0 hi a bs) := isB_far HB.out (fun b hb => hb0.block b (by omega))
  have l1 : bA < w0.heap.size := (Array.getElem?_eq_some_iff.1 hx0).1
  clear hw0 hb0 hx0 hbA
  go_wp2_with fail
  refine (rnum_any rb hi a c bs 1 w0 HR0.out hhi HB0.out hc HBY.out (by omega)).mono ?_
  rintro e w1 ⟨hn, hk1⟩
  rw [HBS.out] at hn
  rw [show takeN 1 (4 :: q) = some (4, q) from by simp [takeN, unBe]] at hn
  obtain ⟨rfl, a1, c1, hr1, hB1, hc1⟩ := hn
  rw [show ofU 4 = 4 from by unfold ofU wrap64; omega]
  have HK1 := Lib.hid (HK0.out.trans hk1)
  have hx1 := kg_at hk1 HX0.out (by have := HBA.out; omega)
  have l2 : bA < w1.heap.size := (Array.getElem?_eq_some_iff.1 hx1).1
  go_upto_region 2 with fail
  obtain ⟨w2, hw2⟩ : ∃ v, v = w1.alloc (.cells #[.int .i64 4, .bool false, .int .i64 0, .string { data := #[] }, .slice none 0 0] 33) := ⟨_, rfl⟩
  have hb2 : Below w1.heap.size w1 w2 := by rw [hw2]; exact (Below.refl _ _).alloc (Nat.le_refl _) _
  have hx2 : w2.heap[w1.heap.size]? = some (.cells #[.int .i64 4, .bool false, .int .i64 0, .string { data := #[] }, .slice none 0 0] 33 (0, 0)) := by rw [hw2]; exact heap_last
  rw [← hw2]
  obtain ⟨bX, hbX⟩ : ∃ b, b = w1.heap.size := ⟨_, rfl⟩
  rw [← hbX] at hx2 ⊢
  have HBX := Lib.hid (show bA < bX ∧ rb < bA by have := HBA.out; omega)
  have HK2 := Lib.hid (HK1.out.below hb2)
  have HA2 := Lib.hid ((hb2.block bA l2).trans hx1)
  have l3 : rb < w1.heap.size := (Array.getElem?_eq_some_iff.1 hr1).1
  have HR2 := Lib.hid ((hb2.block rb l3).trans hr1)
  have HB2 : Hid (isB w2 hi (some a1) q) := isB_far hB1 (fun b hb => hb2.block b (by omega))
  have HC1 := Lib.hid hc1
  have HX2 := Lib.hid hx2
  clear hw2 hb2 hx1 hr1 hbX hk1 l1 l2 l3 HK1 HK0 HX0 HR0 HB0 hB1 hc1
  have r2 := fun o => cell_of HR2.out o
  have fr2 := fun o => frozen_of HR2.out o
  have lr2 : rb < w2.heap.size := (Array.getElem?_eq_some_iff.1 HR2.out).1
  have p2 := fun o => cell_of HA2.out o
  have fp2 := fun o => frozen_of HA2.out o
  have lp2 : bA < w2.heap.size := (Array.getElem?_eq_some_iff.1 HA2.out).1
  have x2 := fun o => cell_of HX2.out o
  have fx2 := fun o => frozen_of HX2.out o
  have lx2 : bX < w2.heap.size := (Array.getElem?_eq_some_iff.1 HX2.out).1
  have nAX : bA ≠ bX := by have := HBX.out; omega
  have nRA : rb ≠ bA := by have := HBX.out; omega
  have nRX : rb ≠ bX := by have := HBX.out; omega
  have nXA : bX ≠ bA := by have := HBX.out; omega
  go_wp2_with fail
  refine (rnum_any rb hi (some a1) c1 q 4 w2 HR2.out hhi HB2.out HC1.out (fun b h => HBY.out b (by rw [HBS.out]; exact List.mem_cons_of_mem _ h)) (by omega)).mono ?_
  rintro e w3 ⟨hn, hk3⟩
  rw [HT.out] at hn
  obtain ⟨rfl, a3, c3, hr3, hB3, hc3⟩ := hn
  rw [HU.out]
  have HB3 := Lib.hid hB3
  have HC3 := Lib.hid hc3
  clear hB3 hc3
  have HR3 := Lib.hid hr3
  have HX3 := Lib.hid (kg_at hk3 HX2.out (by have := HBX.out; omega))
  have HA3 := Lib.hid (kg_at hk3 HA2.out (by have := HBX.out; omega))
  have HK3 := Lib.hid (HK2.out.trans hk3)
  clear hr3 hk3
  clear r2 fr2 lr2 p2 fp2 lp2 x2 fx2 lx2
  have r3 := fun o => cell_of HR3.out o
  have fr3 := fun o => frozen_of HR3.out o
  have lr3 : rb < w3.heap.size := (Array.getElem?_eq_some_iff.1 HR3.out).1
  have p3 := fun o => cell_of HA3.out o
  have fp3 := fun o => frozen_of HA3.out o
  have lp3 : bA < w3.heap.size := (Array.getElem?_eq_some_iff.1 HA3.out).1
  have x3 := fun o => cell_of HX3.out o
  have fx3 := fun o => frozen_of HX3.out o
  have lx3 : bX < w3.heap.size := (Array.getElem?_eq_some_iff.1 HX3.out).1
  have nAX : bA ≠ bX := by have := HBX.out; omega
  have nRA : rb ≠ bA := by have := HBX.out; omega
  have nRX : rb ≠ bX := by have := HBX.out; omega
  have nXA : bX ≠ bA := by have := HBX.out; omega
  go_upto_region 17 with fail
  clear r3 fr3 lr3 p3 fp3 lp3 x3 fx3 lx3
  obtain ⟨w5, hw5⟩ : ∃ v, v = (w3.setCell ⟨rb, 1, none⟩ (.bool true)) := ⟨_, rfl⟩
  rw [← hw5]
  have HX5 : Hid (w5.heap[bX]? = some (.cells #[.int .i64 4, .bool false, .int .i64 0, .string { data := #[] }, .slice none 0 0] 33 (0, 0))) := by rw [hw5]; exact ((Below.heap_setCell _ _ _ _ (show bX ≠ rb by have := HBX.out; omega)).trans HX3.out)
  have HR5 : Hid (w5.heap[rb]? = some (.cells #[.slice (some a3) r.length c3, .bool true] 53 (0, 0))) := by rw [hw5]; exact (heap_setCell2 HR3.out)
  have HA5 : Hid (w5.heap[bA]? = some (.cells #[.int .i64 0, .bool false, .int .i64 0, .string { data := #[] }, .slice none 0 0] 33 (0, 0))) := by rw [hw5]; exact ((Below.heap_setCell _ _ _ _ (show bA ≠ rb by have := HBX.out; omega)).trans HA3.out)
  have HK5 : Hid (Kg rb w w5) := by rw [hw5]; exact (Kg.set HK3.out)
  clear hw5
  have r5 := fun o => cell_of HR5.out o
  have fr5 := fun o => frozen_of HR5.out o
  have lr5 : rb < w5.heap.size := (Array.getElem?_eq_some_iff.1 HR5.out).1
  have p5 := fun o => cell_of HA5.out o
  have fp5 := fun o => frozen_of HA5.out o
  have lp5 : bA < w5.heap.size := (Array.getElem?_eq_some_iff.1 HA5.out).1
  have x5 := fun o => cell_of HX5.out o
  have fx5 := fun o => frozen_of HX5.out o
  have lx5 : bX < w5.heap.size := (Array.getElem?_eq_some_iff.1 HX5.out).1
  have nAX : bA ≠ bX := by have := HBX.out; omega
  have nRA : rb ≠ bA := by have := HBX.out; omega
  have nRX : rb ≠ bX := by have := HBX.out; omega
  have nXA : bX ≠ bA := by have := HBX.out; omega
  go_wp2_with fail
  go_loopw [8] (fun i wr => i = .int .i64 0 ∧ wr = w5) (fun i _ => 0)
  case atStart => exact ⟨rfl, rfl⟩
  case round =>
    obtain ⟨rfl, rfl⟩ := hrel
    go_wp2_with fail
    refine bodyPost_ret (v := .agg #[.int .i64 4, .bool false, .int .i64 0, .string { data := #[] }, .slice none 0 0]) (by simp [results, Tryz.results22, go_sem, p5]) rfl ?_
    rw [HD.out]
    exact rr_end HK5.out (by have := HBA.out; omega) l0 hhi ⟨_, _, _, HR5.out⟩
set_option maxHeartbeats 1600000 in
theorem rr_4deep (r : List Nat) (q : List Nat) (rb hi : Nat) (a : Option Addr) (c : Nat) (w : World) (d : Nat) (hd : d ≤ 31) (hd2 : d = 31) (m : Nat) (hm0 : 0 < m) (hm : m ≤ 4096) (hT : takeN 4 q = some (m, r)) (bs : List Nat) (hbs : bs = 4 :: q) (hh : w.heap[rb]? = some (.cells #[.slice a bs.length c, .bool false] 53 (0, 0))) (hhi : hi ≤ rb) (hB : isB w hi a bs) (hc : bs.length ≤ c) (hb : ∀ b ∈ bs, b < 256) (hl : bs.length ≤ 2147483647) : Calls Tryz.prog 22 #[.pointer (some ⟨rb, 0, none⟩), .int .i64 d] w (RrO w rb hi (decBody (31 - d != 0) false (rdec (31 - d)) 4 q)) := by
  have HT := Lib.hid hT
  have HD : Hid (decBody (31 - d != 0) false (rdec (31 - d)) 4 q = none) := by
    rw [Hid, decBody, if_neg (by decide), if_neg (by decide), if_neg (by decide), if_pos rfl, hT]
    exact if_pos (.inr (by rw [hd2]; rfl))
  have HU : Hid (ofU m = (m : Int)) := by unfold ofU wrap64; rw [Hid]; omega
  have u1 : decide ((4096 : Int) < (m : Int)) = false := by simp; omega
  have u2 : decide (4096 < m) = false := by simp; omega
  have u3 : decide (0 < m) = true := by simp; omega
  have u4 : decide ((0 : Int) < (m : Int)) = true := by simp; omega
  have u5 : 0 < m := by omega
  subst hd2
  clear hT
  have l0 : rb < w.heap.size := (Array.getElem?_eq_some_iff.1 hh).1
  have HBY := Lib.hid hb
  have HBS := Lib.hid hbs
  have HH := Lib.hid hh
  have HB := Lib.hid hB
  clear hh hB hb hbs
  go_enter Tryz.func22, Tryz.ntmps22
  go_upto_region 1 with fail
  obtain ⟨w0, hw0⟩ : ∃ v, v = w.alloc (.cells #[.int .i64 0, .bool false, .int .i64 0, .string { data := #[] }, .slice none 0 0] 33) := ⟨_, rfl⟩
  have hb0 : Below w.heap.size w w0 := by rw [hw0]; exact (Below.refl _ _).alloc (Nat.le_refl _) _
  have hx0 : w0.heap[w.heap.size]? = some (.cells #[.int .i64 0, .bool false, .int .i64 0, .string { data := #[] }, .slice none 0 0] 33 (0, 0)) := by rw [hw0]; exact heap_last
  rw [← hw0]
  obtain ⟨bA, hbA⟩ : ∃ b, b = w.heap.size := ⟨_, rfl⟩
  rw [← hbA] at hx0 ⊢
  have HBA := Lib.hid hbA
  have HX0 := Lib.hid hx0
  have HK0 := Lib.hid ((Kg.refl rb w).below hb0)
  have HR0 := Lib.hid ((hb0.block rb l0).trans HH.out)
  have HB0 : Hid (isB w0 hi a bs) := isB_far HB.out (fun b hb => hb0.block b (by omega))
  have l1 : bA < w0.heap.size := (Array.getElem?_eq_some_iff.1 hx0).1
  clear hw0 hb0 hx0 hbA
  go_wp2_with fail
  refine (rnum_any rb hi a c bs 1 w0 HR0.out hhi HB0.out hc HBY.out (by omega)).mono ?_
  rintro e w1 ⟨hn, hk1⟩
  rw [HBS.out] at hn
  rw [show takeN 1 (4 :: q) = some (4, q) from by simp [takeN, unBe]] at hn
  obtain ⟨rfl, a1, c1, hr1, hB1, hc1⟩ := hn
  rw [show ofU 4 = 4 from by unfold ofU wrap64; omega]
  have HK1 := Lib.hid (HK0.out.trans hk1)
  have hx1 := kg_at hk1 HX0.out (by have := HBA.out; omega)
  have l2 : bA < w1.heap.size := (Array.getElem?_eq_some_iff.1 hx1).1
  go_upto_region 2 with fail
  obtain ⟨w2, hw2⟩ : ∃ v, v = w1.alloc (.cells #[.int .i64 4, .bool false, .int .i64 0, .string { data := #[] }, .slice none 0 0] 33) := ⟨_, rfl⟩
  have hb2 : Below w1.heap.size w1 w2 := by rw [hw2]; exact (Below.refl _ _).alloc (Nat.le_refl _) _
  have hx2 : w2.heap[w1.heap.size]? = some (.cells #[.int .i64 4, .bool false, .int .i64 0, .string { data := #[] }, .slice none 0 0] 33 (0, 0)) := by rw [hw2]; exact heap_last
  rw [← hw2]
  obtain ⟨bX, hbX⟩ : ∃ b, b = w1.heap.size := ⟨_, rfl⟩
  rw [← hbX] at hx2 ⊢
  have HBX := Lib.hid (show bA < bX ∧ rb < bA by have := HBA.out; omega)
  have HK2 := Lib.hid (HK1.out.below hb2)
  have HA2 := Lib.hid ((hb2.block bA l2).trans hx1)
  have l3 : rb < w1.heap.size := (Array.getElem?_eq_some_iff.1 hr1).1
  have HR2 := Lib.hid ((hb2.block rb l3).trans hr1)
  have HB2 : Hid (isB w2 hi (some a1) q) := isB_far hB1 (fun b hb => hb2.block b (by omega))
  have HC1 := Lib.hid hc1
  have HX2 := Lib.hid hx2
  clear hw2 hb2 hx1 hr1 hbX hk1 l1 l2 l3 HK1 HK0 HX0 HR0 HB0 hB1 hc1
  have r2 := fun o => cell_of HR2.out o
  have fr2 := fun o => frozen_of HR2.out o
  have lr2 : rb < w2.heap.size := (Array.getElem?_eq_some_iff.1 HR2.out).1
  have p2 := fun o => cell_of HA2.out o
  have fp2 := fun o => frozen_of HA2.out o
  have lp2 : bA < w2.heap.size := (Array.getElem?_eq_some_iff.1 HA2.out).1
  have x2 := fun o => cell_of HX2.out o
  have fx2 := fun o => frozen_of HX2.out o
  have lx2 : bX < w2.heap.size := (Array.getElem?_eq_some_iff.1 HX2.out).1
  have nAX : bA ≠ bX := by have := HBX.out; omega
  have nRA : rb ≠ bA := by have := HBX.out; omega
  have nRX : rb ≠ bX := by have := HBX.out; omega
  have nXA : bX ≠ bA := by have := HBX.out; omega
  go_wp2_with fail
  refine (rnum_any rb hi (some a1) c1 q 4 w2 HR2.out hhi HB2.out HC1.out (fun b h => HBY.out b (by rw [HBS.out]; exact List.mem_cons_of_mem _ h)) (by omega)).mono ?_
  rintro e w3 ⟨hn, hk3⟩
  rw [HT.out] at hn
  obtain ⟨rfl, a3, c3, hr3, hB3, hc3⟩ := hn
  rw [HU.out]
  have HB3 := Lib.hid hB3
  have HC3 := Lib.hid hc3
  clear hB3 hc3
  have HR3 := Lib.hid hr3
  have HX3 := Lib.hid (kg_at hk3 HX2.out (by have := HBX.out; omega))
  have HA3 := Lib.hid (kg_at hk3 HA2.out (by have := HBX.out; omega))
  have HK3 := Lib.hid (HK2.out.trans hk3)
  clear hr3 hk3
  clear r2 fr2 lr2 p2 fp2 lp2 x2 fx2 lx2
  have r3 := fun o => cell_of HR3.out o
  have fr3 := fun o => frozen_of HR3.out o
  have lr3 : rb < w3.heap.size := (Array.getElem?_eq_some_iff.1 HR3.out).1
  have p3 := fun o => cell_of HA3.out o
  have fp3 := fun o => frozen_of HA3.out o
  have lp3 : bA < w3.heap.size := (Array.getElem?_eq_some_iff.1 HA3.out).1
  have x3 := fun o => cell_of HX3.out o
  have fx3 := fun o => frozen_of HX3.out o
  have lx3 : bX < w3.heap.size := (Array.getElem?_eq_some_iff.1 HX3.out).1
  have nAX : bA ≠ bX := by have := HBX.out; omega
  have nRA : rb ≠ bA := by have := HBX.out; omega
  have nRX : rb ≠ bX := by have := HBX.out; omega
  have nXA : bX ≠ bA := by have := HBX.out; omega
  go_upto_region 17 with fail
  clear r3 fr3 lr3 p3 fp3 lp3 x3 fx3 lx3
  obtain ⟨w5, hw5⟩ : ∃ v, v = (w3.setCell ⟨rb, 1, none⟩ (.bool true)) := ⟨_, rfl⟩
  rw [← hw5]
  have HX5 : Hid (w5.heap[bX]? = some (.cells #[.int .i64 4, .bool false, .int .i64 0, .string { data := #[] }, .slice none 0 0] 33 (0, 0))) := by rw [hw5]; exact ((Below.heap_setCell _ _ _ _ (show bX ≠ rb by have := HBX.out; omega)).trans HX3.out)
  have HR5 : Hid (w5.heap[rb]? = some (.cells #[.slice (some a3) r.length c3, .bool true] 53 (0, 0))) := by rw [hw5]; exact (heap_setCell2 HR3.out)
  have HA5 : Hid (w5.heap[bA]? = some (.cells #[.int .i64 0, .bool false, .int .i64 0, .string { data := #[] }, .slice none 0 0] 33 (0, 0))) := by rw [hw5]; exact ((Below.heap_setCell _ _ _ _ (show bA ≠ rb by have := HBX.out; omega)).trans HA3.out)
  have HK5 : Hid (Kg rb w w5) := by rw [hw5]; exact (Kg.set HK3.out)
  clear hw5
  have r5 := fun o => cell_of HR5.out o
  have fr5 := fun o => frozen_of HR5.out o
  have lr5 : rb < w5.heap.size := (Array.getElem?_eq_some_iff.1 HR5.out).1
  have p5 := fun o => cell_of HA5.out o
  have fp5 := fun o => frozen_of HA5.out o
  have lp5 : bA < w5.heap.size := (Array.getElem?_eq_some_iff.1 HA5.out).1
  have x5 := fun o => cell_of HX5.out o
  have fx5 := fun o => frozen_of HX5.out o
  have lx5 : bX < w5.heap.size := (Array.getElem?_eq_some_iff.1 HX5.out).1
  have nAX : bA ≠ bX := by have := HBX.out; omega
  have nRA : rb ≠ bA := by have := HBX.out; omega
  have nRX : rb ≠ bX := by have := HBX.out; omega
  have nXA : bX ≠ bA := by have := HBX.out; omega
  go_wp2_with fail
  go_loopw [8] (fun i wr => i = .int .i64 0 ∧ wr = w5) (fun i _ => 0)
  case atStart => exact ⟨rfl, rfl⟩
  case round =>
    obtain ⟨rfl, rfl⟩ := hrel
    go_wp2_with fail
    refine bodyPost_ret (v := .agg #[.int .i64 4, .bool false, .int .i64 0, .string { data := #[] }, .slice none 0 0]) (by simp [results, Tryz.results22, go_sem, p5]) rfl ?_
    rw [HD.out]
    exact rr_end HK5.out (by have := HBA.out; omega) l0 hhi ⟨_, _, _, HR5.out⟩
set_option maxHeartbeats 1600000 in
theorem rr_4deep0 (r : List Nat) (q : List Nat) (rb hi : Nat) (a : Option Addr) (c : Nat) (w : World) (d : Nat) (hd : d ≤ 31) (hd2 : d = 31) (m : Nat) (hm0 : m = 0) (hT : takeN 4 q = some (m, r)) (bs : List Nat) (hbs : bs = 4 :: q) (hh : w.heap[rb]? = some (.cells #[.slice a bs.length c, .bool false] 53 (0, 0))) (hhi : hi ≤ rb) (hB : isB w hi a bs) (hc : bs.length ≤ c) (hb : ∀ b ∈ bs, b < 256) (hl : bs.length ≤ 2147483647) : Calls Tryz.prog 22 #[.pointer (some ⟨rb, 0, none⟩), .int .i64 d] w (RrO w rb hi (decBody (31 - d != 0) false (rdec (31 - d)) 4 q)) := by
  have HT := Lib.hid hT
  have HD : Hid (decBody (31 - d != 0) false (rdec (31 - d)) 4 q = none) := by
    rw [Hid, decBody, if_neg (by decide), if_neg (by decide), if_neg (by decide), if_pos rfl, hT]
    exact if_pos (.inr (by rw [hd2]; rfl))
  have HU : Hid (ofU m = (m : Int)) := by unfold ofU wrap64; rw [Hid]; omega
  subst hm0
  subst hd2
  clear hT
  have l0 : rb < w.heap.size := (Array.getElem?_eq_some_iff.1 hh).1
  have HBY := Lib.hid hb
  have HBS := Lib.hid hbs
  have HH := Lib.hid hh
  have HB := Lib.hid hB
  clear hh hB hb hbs
  go_enter Tryz.func22, Tryz.ntmps22
  go_upto_region 1 with fail
  obtain ⟨w0, hw0⟩ : ∃ v, v = w.alloc (.cells #[.int .i64 0, .bool false, .int .i64 0, .string { data := #[] }, .slice none 0 0] 33) := ⟨_, rfl⟩
  have hb0 : Below w.heap.size w w0 := by rw [hw0]; exact (Below.refl _ _).alloc (Nat.le_refl _) _
  have hx0 : w0.heap[w.heap.size]? = some (.cells #[.int .i64 0, .bool false, .int .i64 0, .string { data := #[] }, .slice none 0 0] 33 (0, 0)) := by rw [hw0]; exact heap_last
  rw [← hw0]
  obtain ⟨bA, hbA⟩ : ∃ b, b = w.heap.size := ⟨_, rfl⟩
  rw [← hbA] at hx0 ⊢
  have HBA := Lib.hid hbA
  have HX0 := Lib.hid hx0
  have HK0 := Lib.hid ((Kg.refl rb w).below hb0)
  have HR0 := Lib.hid ((hb0.block rb l0).trans HH.out)
  have HB0 : Hid (isB w0 hi a bs) := isB_far HB.out (fun b hb => hb0.block b (by omega))
  have l1 : bA < w0.heap.size := (Array.getElem?_eq_some_iff.1 hx0).1
  clear hw0 hb0 hx0 hbA
  go_wp2_with fail
  refine (rnum_any rb hi a c bs 1 w0 HR0.out hhi HB0.out hc HBY.out (by omega)).mono ?_
  rintro e w1 ⟨hn, hk1⟩
  rw [HBS.out] at hn
  rw [show takeN 1 (4 :: q) = some (4, q) from by simp [takeN, unBe]] at hn
  obtain ⟨rfl, a1, c1, hr1, hB1, hc1⟩ := hn
  rw [show ofU 4 = 4 from by unfold ofU wrap64; omega]
  have HK1 := Lib.hid (HK0.out.trans hk1)
  have hx1 := kg_at hk1 HX0.out (by have := HBA.out; omega)
  have l2 : bA < w1.heap.size := (Array.getElem?_eq_some_iff.1 hx1).1
  go_upto_region 2 with fail
  obtain ⟨w2, hw2⟩ : ∃ v, v = w1.alloc (.cells #[.int .i64 4, .bool false, .int .i64 0, .string { data := #[] }, .slice none 0 0] 33) := ⟨_, rfl⟩
  have hb2 : Below w1.heap.size w1 w2 := by rw [hw2]; exact (Below.refl _ _).alloc (Nat.le_refl _) _
  have hx2 : w2.heap[w1.heap.size]? = some (.cells #[.int .i64 4, .bool false, .int .i64 0, .string { data := #[] }, .slice none 0 0] 33 (0, 0)) := by rw [hw2]; exact heap_last
  rw [← hw2]
  obtain ⟨bX, hbX⟩ : ∃ b, b = w1.heap.size := ⟨_, rfl⟩
  rw [← hbX] at hx2 ⊢
  have HBX := Lib.hid (show bA < bX ∧ rb < bA by have := HBA.out; omega)
  have HK2 := Lib.hid (HK1.out.below hb2)
  have HA2 := Lib.hid ((hb2.block bA l2).trans hx1)
  have l3 : rb < w1.heap.size := (Array.getElem?_eq_some_iff.1 hr1).1
  have HR2 := Lib.hid ((hb2.block rb l3).trans hr1)
  have HB2 : Hid (isB w2 hi (some a1) q) := isB_far hB1 (fun b hb => hb2.block b (by omega))
  have HC1 := Lib.hid hc1
  have HX2 := Lib.hid hx2
  clear hw2 hb2 hx1 hr1 hbX hk1 l1 l2 l3 HK1 HK0 HX0 HR0 HB0 hB1 hc1
  have r2 := fun o => cell_of HR2.out o
  have fr2 := fun o => frozen_of HR2.out o
  have lr2 : rb < w2.heap.size := (Array.getElem?_eq_some_iff.1 HR2.out).1
  have p2 := fun o => cell_of HA2.out o
  have fp2 := fun o => frozen_of HA2.out o
  have lp2 : bA < w2.heap.size := (Array.getElem?_eq_some_iff.1 HA2.out).1
  have x2 := fun o => cell_of HX2.out o
  have fx2 := fun o => frozen_of HX2.out o
  have lx2 : bX < w2.heap.size := (Array.getElem?_eq_some_iff.1 HX2.out).1
  have nAX : bA ≠ bX := by have := HBX.out; omega
  have nRA : rb ≠ bA := by have := HBX.out; omega
  have nRX : rb ≠ bX := by have := HBX.out; omega
  have nXA : bX ≠ bA := by have := HBX.out; omega
  go_wp2_with fail
  refine (rnum_any rb hi (some a1) c1 q 4 w2 HR2.out hhi HB2.out HC1.out (fun b h => HBY.out b (by rw [HBS.out]; exact List.mem_cons_of_mem _ h)) (by omega)).mono ?_
  rintro e w3 ⟨hn, hk3⟩
  rw [HT.out] at hn
  obtain ⟨rfl, a3, c3, hr3, hB3, hc3⟩ := hn
  rw [HU.out]
  have HB3 := Lib.hid hB3
  have HC3 := Lib.hid hc3
  clear hB3 hc3
  have HR3 := Lib.hid hr3
  have HX3 := Lib.hid (kg_at hk3 HX2.out (by have := HBX.out; omega))
  have HA3 := Lib.hid (kg_at hk3 HA2.out (by have := HBX.out; omega))
  have HK3 := Lib.hid (HK2.out.trans hk3)
  clear hr3 hk3
  clear r2 fr2 lr2 p2 fp2 lp2 x2 fx2 lx2
  have r3 := fun o => cell_of HR3.out o
  have fr3 := fun o => frozen_of HR3.out o
  have lr3 : rb < w3.heap.size := (Array.getElem?_eq_some_iff.1 HR3.out).1
  have p3 := fun o => cell_of HA3.out o
  have fp3 := fun o => frozen_of HA3.out o
  have lp3 : bA < w3.heap.size := (Array.getElem?_eq_some_iff.1 HA3.out).1
  have x3 := fun o => cell_of HX3.out o
  have fx3 := fun o => frozen_of HX3.out o
  have lx3 : bX < w3.heap.size := (Array.getElem?_eq_some_iff.1 HX3.out).1
  have nAX : bA ≠ bX := by have := HBX.out; omega
  have nRA : rb ≠ bA := by have := HBX.out; omega
  have nRX : rb ≠ bX := by have := HBX.out; omega
  have nXA : bX ≠ bA := by have := HBX.out; omega
  go_upto_region 17 with fail
  clear r3 fr3 lr3 p3 fp3 lp3 x3 fx3 lx3
  obtain ⟨w5, hw5⟩ : ∃ v, v = (w3.setCell ⟨rb, 1, none⟩ (.bool true)) := ⟨_, rfl⟩
  rw [← hw5]
  have HX5 : Hid (w5.heap[bX]? = some (.cells #[.int .i64 4, .bool false, .int .i64 0, .string { data := #[] }, .slice none 0 0] 33 (0, 0))) := by rw [hw5]; exact ((Below.heap_setCell _ _ _ _ (show bX ≠ rb by have := HBX.out; omega)).trans HX3.out)
  have HR5 : Hid (w5.heap[rb]? = some (.cells #[.slice (some a3) r.length c3, .bool true] 53 (0, 0))) := by rw [hw5]; exact (heap_setCell2 HR3.out)
  have HA5 : Hid (w5.heap[bA]? = some (.cells #[.int .i64 0, .bool false, .int .i64 0, .string { data := #[] }, .slice none 0 0] 33 (0, 0))) := by rw [hw5]; exact ((Below.heap_setCell _ _ _ _ (show bA ≠ rb by have := HBX.out; omega)).trans HA3.out)
  have HK5 : Hid (Kg rb w w5) := by rw [hw5]; exact (Kg.set HK3.out)
  clear hw5
  have r5 := fun o => cell_of HR5.out o
  have fr5 := fun o => frozen_of HR5.out o
  have lr5 : rb < w5.heap.size := (Array.getElem?_eq_some_iff.1 HR5.out).1
  have p5 := fun o => cell_of HA5.out o
  have fp5 := fun o => frozen_of HA5.out o
  have lp5 : bA < w5.heap.size := (Array.getElem?_eq_some_iff.1 HA5.out).1
  have x5 := fun o => cell_of HX5.out o
  have fx5 := fun o => frozen_of HX5.out o
  have lx5 : bX < w5.heap.size := (Array.getElem?_eq_some_iff.1 HX5.out).1
  have nAX : bA ≠ bX := by have := HBX.out; omega
  have nRA : rb ≠ bA := by have := HBX.out; omega
  have nRX : rb ≠ bX := by have := HBX.out; omega
  have nXA : bX ≠ bA := by have := HBX.out; omega
  go_wp2_with fail
  go_loopw [8] (fun i wr => i = .int .i64 0 ∧ wr = w5) (fun i _ => 0)
  case atStart => exact ⟨rfl, rfl⟩
  case round =>
    obtain ⟨rfl, rfl⟩ := hrel
    go_wp2_with fail
    refine bodyPost_ret (v := .agg #[.int .i64 4, .bool false, .int .i64 0, .string { data := #[] }, .slice none 0 0]) (by simp [results, Tryz.results22, go_sem, p5]) rfl ?_
    rw [HD.out]
    exact rr_end HK5.out (by have := HBA.out; omega) l0 hhi ⟨_, _, _, HR5.out⟩
set_option maxHeartbeats 6400000 in
theorem rr_4ok (r : List Nat) (q : List Nat) (rb hi : Nat) (a : Option Addr) (c : Nat) (w : World) (d : Nat) (hd : d ≤ 30) (m : Nat) (hm : m ≤ 4096) (hT : takeN 4 q = some (m, r)) (hih : RrC (d + 1)) (bs : List Nat) (hbs : bs = 4 :: q) (hh : w.heap[rb]? = some (.cells #[.slice a bs.length c, .bool false] 53 (0, 0))) (hhi : hi ≤ rb) (hB : isB w hi a bs) (hc : bs.length ≤ c) (hb : ∀ b ∈ bs, b < 256) (hl : bs.length ≤ 2147483647) : Calls Tryz.prog 22 #[.pointer (some ⟨rb, 0, none⟩), .int .i64 d] w (RrO w rb hi (decBody (31 - d != 0) false (rdec (31 - d)) 4 q)) := by
  have HT := Lib.hid hT
  obtain ⟨D, hDD⟩ : ∃ D, D = rdec (31 - d) := ⟨_, rfl⟩
  have HD : Hid (decBody (31 - d != 0) false (rdec (31 - d)) 4 q = catD (decL D m r)) := by
    rw [Hid, decBody, if_neg (by decide), if_neg (by decide), if_neg (by decide), if_pos rfl, hT, hDD]
    dsimp only
    rw [if_neg (by simp; omega)]
    rfl
  obtain ⟨d', hd'⟩ : ∃ x, x = d + 1 := ⟨_, rfl⟩
  have hdd : (d : Int) + 1 = (d' : Int) := by omega
  have hdw : IntKind.i64.wrap (d' : Int) = (d' : Int) := IntWalk.i64_in _ (by omega)
  have d1 : decide (30 < d) = false := by simp; omega
  have d2 : decide ((30 : Int) < (d : Int)) = false := by simp; omega
  have HU : Hid (ofU m = (m : Int)) := by unfold ofU wrap64; rw [Hid]; omega
  have HIH : Hid (∀ (rb hi : Nat) (a : Option Addr) (c : Nat) (bs : List Nat) (w : World), w.heap[rb]? = some (.cells #[.slice a bs.length c, .bool false] 53 (0, 0)) → hi ≤ rb → isB w hi a bs → bs.length ≤ c → (∀ b ∈ bs, b < 256) → bs.length ≤ 2147483647 → Calls Tryz.prog 22 #[.pointer (some ⟨rb, 0, none⟩), .int .i64 d'] w (RrO w rb hi (D bs))) := by
    rw [hd', hDD, show 31 - d = 32 - (d + 1) by omega]
    exact hih
  have HDF : Hid (∀ bs v r, bs.length ≤ 2147483647 → (∀ b ∈ bs, b < 256) → D bs = some (v, r) → r.length ≤ bs.length ∧ ∀ b ∈ r, b < 256) := fun bs v r h1 h2 h3 => by
    rw [hDD] at h3
    exact (rdec_fit _ bs v r h1 h2 h3).2
  have HRL : Hid (r.length ≤ 2147483647 ∧ ∀ b ∈ r, b < 256) := ⟨by have := takeN_len hT; rw [hbs] at hl; simp at hl; omega, takeN_rest hT (fun b h => hb b (by rw [hbs]; exact List.mem_cons_of_mem _ h))⟩
  have u1 : decide ((4096 : Int) < (m : Int)) = false := by simp; omega
  have u2 : decide (4096 < m) = false := by simp; omega
  clear hT hDD hih hd'
  have l0 : rb < w.heap.size := (Array.getElem?_eq_some_iff.1 hh).1
  have HBY := Lib.hid hb
  have HBS := Lib.hid hbs
  have HH := Lib.hid hh
  have HB := Lib.hid hB
  clear hh hB hb hbs
  go_enter Tryz.func22, Tryz.ntmps22
  go_upto_region 1 with fail
  obtain ⟨w0, hw0⟩ : ∃ v, v = w.alloc (.cells #[.int .i64 0, .bool false, .int .i64 0, .string { data := #[] }, .slice none 0 0] 33) := ⟨_, rfl⟩
  have hb0 : Below w.heap.size w w0 := by rw [hw0]; exact (Below.refl _ _).alloc (Nat.le_refl _) _
  have hx0 : w0.heap[w.heap.size]? = some (.cells #[.int .i64 0, .bool false, .int .i64 0, .string { data := #[] }, .slice none 0 0] 33 (0, 0)) := by rw [hw0]; exact heap_last
  rw [← hw0]
  obtain ⟨bA, hbA⟩ : ∃ b, b = w.heap.size := ⟨_, rfl⟩
  rw [← hbA] at hx0 ⊢
  have HBA := Lib.hid hbA
  have HX0 := Lib.hid hx0
  have HK0 := Lib.hid ((Kg.refl rb w).below hb0)
  have HR0 := Lib.hid ((hb0.block rb l0).trans HH.out)
  have HB0 : Hid (isB w0 hi a bs) := isB_far HB.out (fun b hb => hb0.block b (by omega))
  have l1 : bA < w0.heap.size := (Array.getElem?_eq_some_iff.1 hx0).1
  clear hw0 hb0 hx0 hbA
  go_wp2_with fail
  refine (rnum_any rb hi a c bs 1 w0 HR0.out hhi HB0.out hc HBY.out (by omega)).mono ?_
  rintro e w1 ⟨hn, hk1⟩
  rw [HBS.out] at hn
  rw [show takeN 1 (4 :: q) = some (4, q) from by simp [takeN, unBe]] at hn
  obtain ⟨rfl, a1, c1, hr1, hB1, hc1⟩ := hn
  rw [show ofU 4 = 4 from by unfold ofU wrap64; omega]
  have HK1 := Lib.hid (HK0.out.trans hk1)
  have hx1 := kg_at hk1 HX0.out (by have := HBA.out; omega)
  have l2 : bA < w1.heap.size := (Array.getElem?_eq_some_iff.1 hx1).1
  go_upto_region 2 with fail
  obtain ⟨w2, hw2⟩ : ∃ v, v = w1.alloc (.cells #[.int .i64 4, .bool false, .int .i64 0, .string { data := #[] }, .slice none 0 0] 33) := ⟨_, rfl⟩
  have hb2 : Below w1.heap.size w1 w2 := by rw [hw2]; exact (Below.refl _ _).alloc (Nat.le_refl _) _
  have hx2 : w2.heap[w1.heap.size]? = some (.cells #[.int .i64 4, .bool false, .int .i64 0, .string { data := #[] }, .slice none 0 0] 33 (0, 0)) := by rw [hw2]; exact heap_last
  rw [← hw2]
  obtain ⟨bX, hbX⟩ : ∃ b, b = w1.heap.size := ⟨_, rfl⟩
  rw [← hbX] at hx2 ⊢
  have HBX := Lib.hid (show bA < bX ∧ rb < bA by have := HBA.out; omega)
  have HK2 := Lib.hid (HK1.out.below hb2)
  have HA2 := Lib.hid ((hb2.block bA l2).trans hx1)
  have l3 : rb < w1.heap.size := (Array.getElem?_eq_some_iff.1 hr1).1
  have HR2 := Lib.hid ((hb2.block rb l3).trans hr1)
  have HB2 : Hid (isB w2 hi (some a1) q) := isB_far hB1 (fun b hb => hb2.block b (by omega))
  have HC1 := Lib.hid hc1
  have HX2 := Lib.hid hx2
  clear hw2 hb2 hx1 hr1 hbX hk1 l1 l2 l3 HK1 HK0 HX0 HR0 HB0 hB1 hc1
  have r2 := fun o => cell_of HR2.out o
  have fr2 := fun o => frozen_of HR2.out o
  have lr2 : rb < w2.heap.size := (Array.getElem?_eq_some_iff.1 HR2.out).1
  have p2 := fun o => cell_of HA2.out o
  have fp2 := fun o => frozen_of HA2.out o
  have lp2 : bA < w2.heap.size := (Array.getElem?_eq_some_iff.1 HA2.out).1
  have x2 := fun o => cell_of HX2.out o
  have fx2 := fun o => frozen_of HX2.out o
  have lx2 : bX < w2.heap.size := (Array.getElem?_eq_some_iff.1 HX2.out).1
  have nAX : bA ≠ bX := by have := HBX.out; omega
  have nRA : rb ≠ bA := by have := HBX.out; omega
  have nRX : rb ≠ bX := by have := HBX.out; omega
  have nXA : bX ≠ bA := by have := HBX.out; omega
  go_wp2_with fail
  refine (rnum_any rb hi (some a1) c1 q 4 w2 HR2.out hhi HB2.out HC1.out (fun b h => HBY.out b (by rw [HBS.out]; exact List.mem_cons_of_mem _ h)) (by omega)).mono ?_
  rintro e w3 ⟨hn, hk3⟩
  rw [HT.out] at hn
  obtain ⟨rfl, a3, c3, hr3, hB3, hc3⟩ := hn
  rw [HU.out]
  have HB3 := Lib.hid hB3
  have HC3 := Lib.hid hc3
  clear hB3 hc3
  have HR3 := Lib.hid hr3
  have HX3 := Lib.hid (kg_at hk3 HX2.out (by have := HBX.out; omega))
  have HA3 := Lib.hid (kg_at hk3 HA2.out (by have := HBX.out; omega))
  have HK3 := Lib.hid (HK2.out.trans hk3)
  clear hr3 hk3
  clear r2 fr2 lr2 p2 fp2 lp2 x2 fx2 lx2
  have r3 := fun o => cell_of HR3.out o
  have fr3 := fun o => frozen_of HR3.out o
  have lr3 : rb < w3.heap.size := (Array.getElem?_eq_some_iff.1 HR3.out).1
  have p3 := fun o => cell_of HA3.out o
  have fp3 := fun o => frozen_of HA3.out o
  have lp3 : bA < w3.heap.size := (Array.getElem?_eq_some_iff.1 HA3.out).1
  have x3 := fun o => cell_of HX3.out o
  have fx3 := fun o => frozen_of HX3.out o
  have lx3 : bX < w3.heap.size := (Array.getElem?_eq_some_iff.1 HX3.out).1
  have nAX : bA ≠ bX := by have := HBX.out; omega
  have nRA : rb ≠ bA := by have := HBX.out; omega
  have nRX : rb ≠ bX := by have := HBX.out; omega
  have nXA : bX ≠ bA := by have := HBX.out; omega
  go_upto_region 17 with fail
  clear r3 fr3 lr3 p3 fp3 lp3 x3 fx3 lx3
  obtain ⟨w5, hw5⟩ : ∃ v, v = (w3.setCell ⟨rb, 1, none⟩ (.bool false)) := ⟨_, rfl⟩
  rw [← hw5]
  have HX5 : Hid (w5.heap[bX]? = some (.cells #[.int .i64 4, .bool false, .int .i64 0, .string { data := #[] }, .slice none 0 0] 33 (0, 0))) := by rw [hw5]; exact ((Below.heap_setCell _ _ _ _ (show bX ≠ rb by have := HBX.out; omega)).trans HX3.out)
  have HR5 : Hid (w5.heap[rb]? = some (.cells #[.slice (some a3) r.length c3, .bool false] 53 (0, 0))) := by rw [hw5]; exact (heap_setCell2 HR3.out)
  have HA5 : Hid (w5.heap[bA]? = some (.cells #[.int .i64 0, .bool false, .int .i64 0, .string { data := #[] }, .slice none 0 0] 33 (0, 0))) := by rw [hw5]; exact ((Below.heap_setCell _ _ _ _ (show bA ≠ rb by have := HBX.out; omega)).trans HA3.out)
  have HK5 : Hid (Kg rb w w5) := by rw [hw5]; exact (Kg.set HK3.out)
  have HB5 : Hid (isB w5 hi (some a3) r) := by rw [hw5]; exact isB_far HB3.out (fun b hb => ((Below.heap_setCell _ _ _ _ (show b ≠ rb by have := HBX.out; omega)).trans rfl))
  clear hw5
  obtain ⟨base, hbase⟩ : ∃ b, b = w5.heap.size := ⟨_, rfl⟩
  have lx5 : bX < w5.heap.size := (Array.getElem?_eq_some_iff.1 HX5.out).1
  have HBS3 := Lib.hid (show bX < base ∧ w.heap.size ≤ base by have := HK5.out.2.2.2.1; omega)
  clear lx5
  have HO5 : Hid (ownL w5 base 33 (.slice none 0 0) []) := ownL_nil _ _ _
  have HS5 : Hid (LRt w5 rb hi D m r []) := .inl ⟨r, ⟨a3, c3, HR5.out, HB5.out, HC3.out⟩, HRL.out.1, HRL.out.2, by
    simp only [List.length_nil, Nat.sub_zero]
    cases decL D m r with
    | none => rfl
    | some p => rfl⟩
  have HB5' : Hid (base ≤ w5.heap.size) := Nat.le_of_eq hbase
  clear hbase
  go_wp2_with fail
  go_loopw [8] (fun i wr => ∃ (l : List GV) (va : Option Addr) (cp : Nat), Hid (l.length ≤ m) ∧ i = .int .i64 ((l.length : Nat) : Int) ∧ Hid (wr.heap[bX]? = some (.cells #[.int .i64 4, .bool false, .int .i64 0, .string { data := #[] }, .slice va l.length cp] 33 (0, 0))) ∧ Hid (wr.heap[bA]? = some (.cells #[.int .i64 0, .bool false, .int .i64 0, .string { data := #[] }, .slice none 0 0] 33 (0, 0))) ∧ Hid (Kg rb w wr) ∧ Hid (base ≤ wr.heap.size) ∧ Hid (ownL wr base 33 (.slice va l.length cp) l) ∧ Hid (LRt wr rb hi D m r l)) (fun i _ => m - (intOf i).toNat)
  case atStart => exact ⟨[], none, 0, Lib.hid (Nat.zero_le _), rfl, HX5, HA5, HK5, HB5', HO5, HS5⟩
  case round =>
    obtain ⟨l, va, cp, HLM, rfl, HX4, HA4, HK4, HB4, HO4, HS4⟩ := hrel
    have p4 := fun o => cell_of HA4.out o
    have fp4 := fun o => frozen_of HA4.out o
    have lp4 : bA < wr.heap.size := (Array.getElem?_eq_some_iff.1 HA4.out).1
    have x4 := fun o => cell_of HX4.out o
    have fx4 := fun o => frozen_of HX4.out o
    have lx4 : bX < wr.heap.size := (Array.getElem?_eq_some_iff.1 HX4.out).1
    have nAX : bA ≠ bX := by have := HBX.out; omega
    have nRA : rb ≠ bA := by have := HBX.out; omega
    have nRX : rb ≠ bX := by have := HBX.out; omega
    have nXA : bX ≠ bA := by have := HBX.out; omega
    by_cases hlt : l.length < m
    rotate_left
    · have e1 : decide (l.length < m) = false := by simp; omega
      have HEQ := Lib.hid (show m - l.length = 0 by have := HLM.out; omega)
      have HRP : Hid (RrP wr rb hi ⟨4, false, 0, ⟨#[]⟩, l⟩ (catD (decL D m r))) := by
        rcases HS4.out with ⟨r', h1, _, _, h6⟩ | ⟨h1, h2⟩
        · rw [h6, HEQ.out]
          simp only [decL, joinL, List.append_nil, catD]
          exact ⟨rfl, h1⟩
        · rw [h2]
          exact h1
      have lr4 : rb < wr.heap.size := by have := HBX.out; omega
      go_wp2_with fail
      refine bodyPost_ret (v := .agg #[.int .i64 4, .bool false, .int .i64 0, .string { data := #[] }, .slice va l.length cp]) (by simp [results, Tryz.results22, go_sem, p4]) rfl ?_
      rw [HD.out]
      exact rr_endL HK4.out (by have := HBA.out; omega) l0 hhi (by have := HBS3.out; have := HBX.out; omega) HO4.out HRP.out
    · have e1 : decide (l.length < m) = true := by simp; omega
      rcases HS4.out with ⟨r', ⟨a', c', h1, h2, h3⟩, h4, h5, h6⟩ | ⟨⟨a', n', c', h1⟩, h2⟩
      rotate_left
      · have HRP : Hid (RrP wr rb hi ⟨4, false, 0, ⟨#[]⟩, l⟩ (catD (decL D m r))) := by
          rw [h2]
          exact ⟨a', n', c', h1⟩
        have r4 := fun o => cell_of h1 o
        have lr4 : rb < wr.heap.size := (Array.getElem?_eq_some_iff.1 h1).1
        clear h2
        go_wp2_with fail
        refine bodyPost_ret (v := .agg #[.int .i64 4, .bool false, .int .i64 0, .string { data := #[] }, .slice va l.length cp]) (by simp [results, Tryz.results22, go_sem, p4]) rfl ?_
        rw [HD.out]
        exact rr_endL HK4.out (by have := HBA.out; omega) l0 hhi (by have := HBS3.out; have := HBX.out; omega) HO4.out HRP.out
      · have r4 := fun o => cell_of h1 o
        have lr4 : rb < wr.heap.size := (Array.getElem?_eq_some_iff.1 h1).1
        have H1 := Lib.hid h1
        have H2 := Lib.hid h2
        have H3 := Lib.hid h3
        have H4 := Lib.hid h4
        have H5 := Lib.hid h5
        have H6 := Lib.hid h6
        have HLT := Lib.hid hlt
        obtain ⟨i0, hi0, hz0, hz1, hz2⟩ := info_parts vinfo
        have HI := Lib.hid (And.intro hi0 (And.intro hz0 (And.intro hz1 hz2)))
        have HSL := Lib.hid Tryz.underlying22
        have HOB : Hid (∀ g, (Value.slice va l.length cp).ownBlock = some g → base ≤ g ∧ g < wr.heap.size) := by
          obtain ⟨ss, _, hown, _⟩ := HO4.out
          exact fun g hg => ownBlock_lt hown hg
        have HCALL : Hid (Calls Tryz.prog 22 #[.pointer (some ⟨rb, 0, none⟩), .int .i64 d'] wr.drew (RrO wr.drew rb hi (D r'))) := HIH.out rb hi (some a') c' r' wr.drew h1 hhi (isB_far h2 (fun _ _ => rfl)) h3 h5 h4
        clear h1 h2 h3 h4 h5 h6 hi0 hz0 hz1 hz2
        go_upto_region 20 with fail
        go_region_law (first
          | (refine step_append_own_at rfl _ _ 22 rfl base 33 i0 (.agg #[.int .i64 0, .bool false, .int .i64 0, .string { data := #[] }, .slice none 0 0]) 5 64 HSL.out HI.out.1 HI.out.2.1 HI.out.2.2.1 HI.out.2.2.2 rfl (by decide) (.slice va l.length cp) l.length (flat l ss) rfl (World.ownsRow.alloc HOWN.out _) ⟨w5.heap.size, 0, none⟩ 1 1 [.int .i64 y.k, .bool y.b, .int .i64 y.n, .string y.t, .slice ay y.l.length cy] rfl rfl ?c1 ?c2 ?c3 ?c4 ?c5 ?_
             case c1 => exact fun j u hj => news_last hj
             case c2 => intro u hu; simp only [List.mem_cons, List.not_mem_nil, or_false] at hu; rcases hu with rfl | rfl | rfl | rfl | rfl <;> rfl
             case c3 => have := HLM.out; unfold maxLen; omega
             case c4 => have := HLM.out; omega
             case c5 => exact Nat.le_trans HB5.out (Nat.le_of_lt (by simp))
             intro v' w6 hown6 hgrow6 hat6
             have HO6 : Hid (ownL w6 base 33 v' (l ++ [y])) := ownL_push rfl HLS.out HIN.out rfl HRY.out hown6 hgrow6 (by simpa using hat6)
             have hfar : ∀ b, b < base → w6.heap[b]? = w5.heap[b]? := fun b hb => (hgrow6.block b (by have := HB5.out; simp; omega) (fun e => by have := HOB.out b e.symm; omega)).trans (Below.heap_alloc _ _ _ (by have := HB5.out; omega))
             have HX6 : Hid (w6.heap[bX]? = some (.cells #[.int .i64 4, .bool false, .int .i64 0, .string { data := #[] }, .slice va l.length cp] 33 (0, 0))) := (hfar bX (by have := HBS3.out; omega)).trans HX5.out
             have HA6 : Hid (w6.heap[bA]? = some (.cells #[.int .i64 0, .bool false, .int .i64 0, .string { data := #[] }, .slice none 0 0] 33 (0, 0))) := (hfar bA (by have := HBS3.out; have := HBX.out; omega)).trans HA5.out
             have HK6 : Hid (Kg rb w w6) := ⟨hgrow6.os.trans HK5.out.1, hgrow6.tape.trans HK5.out.2.1, hgrow6.output.trans HK5.out.2.2.1, Nat.le_trans HK5.out.2.2.2.1 (Nat.le_trans (by simp) hgrow6.size), fun b hb hne => (hfar b (by have := HBS3.out; omega)).trans (HK5.out.2.2.2.2 b hb hne)⟩
             have HF6 := Lib.hid hfar
             obtain ⟨g, cap, hv⟩ := owns_form (n := l.length) hown6
             have HVV := Lib.hid hv
             have HB6 : Hid (base ≤ w6.heap.size) := Nat.le_trans HB5.out (Nat.le_trans (by simp) hgrow6.size)
             have x6 := fun o => cell_of HX6.out o
             have fx6 := fun o => frozen_of HX6.out o
             have lx6 : bX < w6.heap.size := (Array.getElem?_eq_some_iff.1 HX6.out).1
             clear hown6 hgrow6 hat6 hfar
             rw [hv]
             clear hv)
          | (go_simp
             go_at_call 22
             refine HCALL.out.mono ?_
             rintro e w5 ⟨y, ay, cy, rfl, hry, hky, hpy⟩
             have hkk : Kg rb wr w5 := (Kg.drew (Kg.refl rb wr)).trans hky
             have HX5 := Lib.hid (kg_at hkk HX4.out (by have := HBX.out; omega))
             have HA5 := Lib.hid (kg_at hkk HA4.out (by have := HBX.out; omega))
             have HK5 := Lib.hid (HK4.out.trans hkk)
             have HB5 : Hid (base ≤ w5.heap.size) := Nat.le_trans HB4.out hkk.2.2.2.1
             obtain ⟨ss, hls, hown, hin⟩ := ownL_kg HO4.out hkk (by have := HBS3.out; have := HBX.out; omega)
             have HLS := Lib.hid hls
             have HOWN := Lib.hid hown
             have HIN := Lib.hid hin
             have HRY : Hid (isR w5 (fun b => since base w5 b ∧ some b ≠ (Value.slice va l.length cp).ownBlock) (.slice ay y.l.length cy) y.l) := isR_sub hry (fun b hb => ⟨⟨Nat.le_trans HB4.out hb.1, hb.2⟩, fun e => by
               have h1 := (HOB.out b e.symm).2
               have h2 : wr.heap.size ≤ b := hb.1
               omega⟩)
             have HPY := Lib.hid hpy
             have x5 := fun o => cell_of HX5.out o
             have lx5 : bX < w5.heap.size := (Array.getElem?_eq_some_iff.1 HX5.out).1
             have nx5 : bX ≠ w5.heap.size := by omega
             simp only [GV.agg]
             clear hry hky hpy hkk hls hown hin))
        all_goals
          go_wp2_with fail
          go_roundw
          case rel =>
            have hbs3 := HBS3.out
            have hbx := HBX.out
            have hle := HLT.out
            have e1 : (l ++ [y]).length = l.length + 1 := by simp
            refine ⟨l ++ [y], some ⟨g, 0, none⟩, cap, ?_, ?_, ?_, ?_, kg_new HK6.out (by have := HBA.out; omega) _, ?_, ?_, ?_⟩
            · rw [Hid, e1]; omega
            · rw [e1]; first | rfl | go_num | (simp; done)
            · rw [Hid, e1]; exact heap_setCell2 HX6.out
            · exact (Below.heap_setCell _ _ _ _ (show bA ≠ bX by omega)).trans HA6.out
            · have := HB6.out
              rw [Hid]; simpa [World.setCell] using this
            · have := HO6.out
              rw [HVV.out] at this
              rw [Hid, e1]
              exact ownL_setCell this (show bX < base by omega) _
            · exact lrt_step HDF.out HPY.out H4.out H5.out H6.out HLT.out ((Below.heap_setCell _ _ _ _ (show rb ≠ bX by omega)).trans (HF6.out rb (by omega))) (fun b hb => (Below.heap_setCell _ _ _ _ (show b ≠ bX by omega)).trans (HF6.out b (by omega)))
          case measure => have := HLT.out; simp [intOf]; omega
theorem rdec_eq (d : Nat) (hd : d ≤ 31) (bs : List Nat) : rdec (32 - d) bs = decStep (31 - d != 0) false (rdec (31 - d)) bs := by
  rw [show 32 - d = (31 - d) + 1 by omega]; rfl
theorem rr_all : ∀ (f d : Nat), f + d = 31 → RrC d := by
  intro f
  induction f
  all_goals
    intro d hd rb hi a c bs w hh hhi hB hc hb hl
    have hd31 : d ≤ 31 := by omega
    rw [rdec_eq d hd31]
    cases bs with
    | nil => exact rr_none rb hi a c w d hd31 [] rfl hh hhi hB hc hb hl
    | cons k q =>
      have hk := hb k (List.mem_cons_self ..)
      have hq : ∀ b ∈ q, b < 256 := fun b h => hb b (List.mem_cons_of_mem _ h)
      rw [decStep_cons]
      by_cases h0 : k = 0
      · subst h0; exact rr_0 q rb hi a c w d hd31 _ rfl hh hhi hB hc hb hl
      by_cases h1 : k = 1
      · subst h1
        cases hT : takeN 1 q with
        | none => exact rr_1none q rb hi a c w d hd31 hT _ rfl hh hhi hB hc hb hl
        | some p =>
          obtain ⟨n, r⟩ := p
          have hn := takeN_lt hT hq
          by_cases n0 : n = 0
          · subst n0; exact rr_10 r q rb hi a c w d hd31 hT _ rfl hh hhi hB hc hb hl
          · by_cases n1 : n = 1
            · subst n1; exact rr_11 r q rb hi a c w d hd31 hT _ rfl hh hhi hB hc hb hl
            · exact rr_1more r q rb hi a c w d hd31 n (by omega) (by simpa using hn) hT _ rfl hh hhi hB hc hb hl
      by_cases h2 : k = 2
      · subst h2
        cases hT : takeN 8 q with
        | none => exact rr_2none q rb hi a c w d hd31 hT _ rfl hh hhi hB hc hb hl
        | some p => exact rr_2some p.2 q rb hi a c w d hd31 p.1 hT _ rfl hh hhi hB hc hb hl
      by_cases h5 : k = 5
      · subst h5
        cases hT : takeN 8 q with
        | none => exact rr_5none q rb hi a c w d hd31 hT _ rfl hh hhi hB hc hb hl
        | some p => exact rr_5some p.2 q rb hi a c w d hd31 p.1 hT _ rfl hh hhi hB hc hb hl
      by_cases h3 : k = 3
      · subst h3
        cases hT : takeN 4 q with
        | none => exact rr_3none q rb hi a c w d hd31 hT _ rfl hh hhi hB hc hb hl
        | some p =>
          obtain ⟨m, r⟩ := p
          have hm := takeN_lt hT hq
          by_cases hmr : m ≤ r.length
          · exact rr_3ok r q rb hi a c w d hd31 m hmr (by simpa using hm) hT _ rfl hh hhi hB hc hb hl
          · exact rr_3long r q rb hi a c w d hd31 m (by omega) (by simpa using hm) hT _ rfl hh hhi hB hc hb hl
      by_cases h4 : k = 4
      · subst h4
        cases hT : takeN 4 q with
        | none => exact rr_4none q rb hi a c w d hd31 hT _ rfl hh hhi hB hc hb hl
        | some p =>
          obtain ⟨m, r⟩ := p
          have hm2 := takeN_lt hT hq
          by_cases hm : m ≤ 4096
          · by_cases hdd : d = 31
            · by_cases hm0 : m = 0
              · exact rr_4deep0 r q rb hi a c w d hd31 hdd m hm0 hT _ rfl hh hhi hB hc hb hl
              · exact rr_4deep r q rb hi a c w d hd31 hdd m (by omega) hm hT _ rfl hh hhi hB hc hb hl
            · first
                | (exfalso; omega; done)
                | (rename_i ih; exact rr_4ok r q rb hi a c w d (by omega) m hm hT (ih (d + 1) (by omega)) _ rfl hh hhi hB hc hb hl)
          · exact rr_4long r q rb hi a c w d hd31 m (by omega) (by simpa using hm2) hT _ rfl hh hhi hB hc hb hl
      exact rr_odd k q rb hi a c w d hd31 hk h0 h1 h2 h3 h4 h5 _ rfl hh hhi hB hc hb hl
end Go.Proofs.YtkpfaeodgjbodaaGreatDoor
