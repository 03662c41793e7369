/-
  The program's reading of a text, of a list, of any value: it tells what dec tells, or the reader is bad. Conditions: fewer than 2^31 bytes.
-/
import Derived.Test.YtkpfaeodgjbodaaGreatDoorRdV
import Derived.Test.YtkpfaeodgjbodaaGreatDoorMO
import Derived.Deep.DeepCutAuto
namespace Go.Proofs.YtkpfaeodgjbodaaGreatDoor
open Go Go.RowKit
set_option maxRecDepth 100000
set_option linter.unusedVariables false
theorem addr_add (b off j : Nat) : (⟨b, off, none⟩ : Addr).add j = ⟨b, off + j, none⟩ := by
  unfold Addr.add
  split
  · rename_i h0; subst h0; rfl
  · simp
theorem text_of {w : World} {hi : Nat} {A : Addr} {r : List Nat} (h : isB w hi (some A) r) (hb : ∀ b ∈ r, b < 256) (m c : Nat) (hm : m ≤ r.length) : (convert 28 9 (.slice (some A) m c)).run Tryz.prog w = .ok (.string (txOf (r.take m))) w := by
  have hl : ((r.take m).map UInt8.ofNat).length = m := by simp; omega
  have := run_convert_bytes_back (P := Tryz.prog) w 28 9 5 A c ((r.take m).map UInt8.ofNat) Tryz.underlying28 Tryz.underlying5 Tryz.underlying9 (fun j hj => by
    have hj' : j < r.length := by omega
    obtain ⟨b, off, e, _, hc⟩ := h (by omega)
    cases e
    have hb' := hb _ (List.getElem_mem hj')
    rw [addr_add, hc j hj']
    have e2 : ((r.take m).map UInt8.ofNat)[j] = UInt8.ofNat r[j] := by rw [List.getElem_map, List.getElem_take]
    rw [e2, UInt8.toNat_ofNat_of_lt' hb'])
  rw [hl] at this
  exact this
theorem isR_kg {w w' : World} {g : Nat} {S : Nat → Prop} {s : Value} {l : List GV} (h : isR w S s l) (hk : Kg g w w') (hS : ∀ b, S b → b < w.heap.size ∧ b ≠ g) : isR w' S s l := isR_mono h (fun b hb => hk.2.2.2.2 b (hS b hb).1 (hS b hb).2) (fun _ h => h)
theorem ownL_kg {w w' : World} {g base : Nat} {T : TypeId} {v : Value} {l : List GV} (h : ownL w base T v l) (hk : Kg g w w') (hg : g < base) : ownL w' base T v l := by
  obtain ⟨ss, hl, hown, hin⟩ := h
  refine ⟨ss, hl, ?_, fun i h h' => isR_sub (isR_kg (hin i h h') hk (fun b hb => ⟨hb.1.2, by have := hb.1.1; omega⟩)) (fun b hb => ⟨⟨hb.1.1, Nat.lt_of_lt_of_le hb.1.2 hk.2.2.2.1⟩, hb.2⟩)⟩
  obtain ⟨h1, h2⟩ := hown
  refine ⟨h1, ?_⟩
  rcases h2 with h2 | ⟨q, cap, cur, e, hq, hh, r⟩
  · exact .inl h2
  · exact .inr ⟨q, cap, cur, e, hq, (hk.2.2.2.2 q (Array.getElem?_eq_some_iff.1 hh).1 (by omega)).trans hh, r⟩
theorem owns_form {w : World} {base : Nat} {T : TypeId} {n : Nat} {v : Value} {xs : List Value} (h : w.ownsRow base T 5 v (n + 1) xs) : ∃ g cap, v = .slice (some ⟨g, 0, none⟩) (n + 1) cap := by
  obtain ⟨h1, h2 | ⟨g, cap, cur, e, _⟩⟩ := h
  · omega
  · exact ⟨g, cap, e⟩
set_option maxHeartbeats 3200000 in
theorem rd_3ok (r : List Nat) (q : List Nat) (rb hi : Nat) (a : Option Addr) (c : Nat) (w : World) (d : Nat) (hd : d ≤ 30) (m : Nat) (hm : m ≤ r.length) (hT : takeN 4 q = some (m, r)) (bs : List Nat) (hbs : bs = 3 :: q) (hh : w.heap[rb]? = some (.cells #[.slice a bs.length c, .bool false] 49 (0, 0))) (hhi : hi ≤ rb) (hB : isB w hi a bs) (hc : bs.length ≤ c) (hb : ∀ b ∈ bs, b < 256) (hl : bs.length ≤ 2147483647) : Calls Tryz.prog 21 #[.pointer (some ⟨rb, 0, none⟩), .int .i64 d] w (RdO w rb hi (decBody true true (dec (30 - d)) 3 q)) := by
  have d1 : decide (30 < d) = false := by simp; omega
  have HT := Lib.hid hT
  obtain ⟨t, ht⟩ : ∃ t, t = txOf (r.take m) := ⟨_, rfl⟩
  have HD : Hid (decBody true true (dec (30 - d)) 3 q = some (⟨3, false, 0, t, []⟩, r.drop m)) := by
    rw [Hid, decBody, if_neg (by decide), if_neg (by decide), if_pos rfl, hT, ht]
    exact if_neg (by omega)
  have HTX := Lib.hid ht
  have u1 : decide ((r.length : Int) < (m : Int)) = false := by simp; omega
  have u2 : decide (r.length < m) = false := by simp; omega
  have HRL : Hid (r.length ≤ 2147483647 ∧ ∀ b ∈ r, b < 256) := ⟨by have := takeN_len hT; rw [hbs] at hl; simp at hl; omega, takeN_rest hT (fun b h => hb b (by rw [hbs]; exact List.mem_cons_of_mem _ h))⟩
  have u3 : IntKind.u64.wrap (r.length : Int) = (r.length : Int) := by have := HRL.out.1; show (r.length : Int) % 18446744073709551616 = _; omega
  clear hT ht
  have l0 : rb < w.heap.size := (Array.getElem?_eq_some_iff.1 hh).1
  have HBY := Lib.hid hb
  have HBS := Lib.hid hbs
  have HH := Lib.hid hh
  have HB := Lib.hid hB
  clear hh hB hb hbs
  go_enter Tryz.func21, Tryz.ntmps21
  go_upto_region 1 with fail
  obtain ⟨w0, hw0⟩ : ∃ v, v = w.alloc (.cells #[.int .i64 0, .bool false, .int .i64 0, .string { data := #[] }, .slice none 0 0] 33) := ⟨_, rfl⟩
  have hb0 : Below w.heap.size w w0 := by rw [hw0]; exact (Below.refl _ _).alloc (Nat.le_refl _) _
  have hx0 : w0.heap[w.heap.size]? = some (.cells #[.int .i64 0, .bool false, .int .i64 0, .string { data := #[] }, .slice none 0 0] 33 (0, 0)) := by rw [hw0]; exact heap_last
  rw [← hw0]
  obtain ⟨bA, hbA⟩ : ∃ b, b = w.heap.size := ⟨_, rfl⟩
  rw [← hbA] at hx0 ⊢
  have HBA := Lib.hid hbA
  have HX0 := Lib.hid hx0
  have HK0 := Lib.hid ((Kg.refl rb w).below hb0)
  have HR0 := Lib.hid ((hb0.block rb l0).trans HH.out)
  have HB0 : Hid (isB w0 hi a bs) := isB_far HB.out (fun b hb => hb0.block b (by omega))
  have l1 : bA < w0.heap.size := (Array.getElem?_eq_some_iff.1 hx0).1
  clear hw0 hb0 hx0 hbA
  go_wp2_with fail
  refine (number_any rb hi a c bs 1 w0 HR0.out hhi HB0.out hc HBY.out hl (by omega)).mono ?_
  rintro e w1 ⟨hn, hk1⟩
  rw [HBS.out] at hn

  rw [show takeN 1 (3 :: q) = some (3, q) from by simp [takeN, unBe]] at hn
  obtain ⟨rfl, a1, c1, hr1, hB1, hc1⟩ := hn
  have HK1 := Lib.hid (HK0.out.trans hk1)
  have hx1 := kg_at hk1 HX0.out (by have := HBA.out; omega)
  have l2 : bA < w1.heap.size := (Array.getElem?_eq_some_iff.1 hx1).1
  go_upto_region 2 with fail
  obtain ⟨w2, hw2⟩ : ∃ v, v = w1.alloc (.cells #[.int .i64 3, .bool false, .int .i64 0, .string { data := #[] }, .slice none 0 0] 33) := ⟨_, rfl⟩
  have hb2 : Below w1.heap.size w1 w2 := by rw [hw2]; exact (Below.refl _ _).alloc (Nat.le_refl _) _
  have hx2 : w2.heap[w1.heap.size]? = some (.cells #[.int .i64 3, .bool false, .int .i64 0, .string { data := #[] }, .slice none 0 0] 33 (0, 0)) := by rw [hw2]; exact heap_last
  rw [← hw2]
  obtain ⟨bX, hbX⟩ : ∃ b, b = w1.heap.size := ⟨_, rfl⟩
  rw [← hbX] at hx2 ⊢
  have HBX := Lib.hid (show bA < bX ∧ rb < bA by have := HBA.out; omega)
  have HK2 := Lib.hid (HK1.out.below hb2)
  have HA2 := Lib.hid ((hb2.block bA l2).trans hx1)
  have l3 : rb < w1.heap.size := (Array.getElem?_eq_some_iff.1 hr1).1
  have HR2 := Lib.hid ((hb2.block rb l3).trans hr1)
  have HB2 : Hid (isB w2 hi (some a1) q) := isB_far hB1 (fun b hb => hb2.block b (by omega))
  have HX2 := Lib.hid hx2
  have HC1 := Lib.hid hc1
  clear hw2 hb2 hx1 hr1 hB1 hbX hk1 hc1 l1 l2 l3 HK1 HK0 HX0 HR0 HB0

  have r2 := fun o => cell_of HR2.out o
  have fr2 := fun o => frozen_of HR2.out o
  have lr2 : rb < w2.heap.size := (Array.getElem?_eq_some_iff.1 HR2.out).1
  have p2 := fun o => cell_of HA2.out o
  have fp2 := fun o => frozen_of HA2.out o
  have lp2 : bA < w2.heap.size := (Array.getElem?_eq_some_iff.1 HA2.out).1
  have x2 := fun o => cell_of HX2.out o
  have fx2 := fun o => frozen_of HX2.out o
  have lx2 : bX < w2.heap.size := (Array.getElem?_eq_some_iff.1 HX2.out).1
  have nAX : bA ≠ bX := by have := HBX.out; omega
  have nRA : rb ≠ bA := by have := HBX.out; omega
  have nRX : rb ≠ bX := by have := HBX.out; omega
  have nXA : bX ≠ bA := by have := HBX.out; omega
  go_wp2_with fail
  refine (number_any rb hi (some a1) c1 q 4 w2 HR2.out hhi HB2.out HC1.out (fun b h => HBY.out b (by rw [HBS.out]; exact List.mem_cons_of_mem _ h)) (by have := HBS.out; rw [this] at hl; simp at hl; omega) (by omega)).mono ?_
  rintro e w3 ⟨hn, hk3⟩
  rw [HT.out] at hn
  obtain ⟨rfl, a3, c3, hr3, hB3, hc3⟩ := hn
  have HB3 := Lib.hid hB3
  have HC3 := Lib.hid hc3
  clear hB3 hc3
  have HR3 := Lib.hid hr3
  have HX3 := Lib.hid (kg_at hk3 HX2.out (by have := HBX.out; omega))
  have HA3 := Lib.hid (kg_at hk3 HA2.out (by have := HBX.out; omega))
  have HK3 := Lib.hid (HK2.out.trans hk3)
  clear hr3 hk3
  clear r2 fr2 lr2 p2 fp2 lp2 x2 fx2 lx2
  have r3 := fun o => cell_of HR3.out o
  have fr3 := fun o => frozen_of HR3.out o
  have lr3 : rb < w3.heap.size := (Array.getElem?_eq_some_iff.1 HR3.out).1
  have p3 := fun o => cell_of HA3.out o
  have fp3 := fun o => frozen_of HA3.out o
  have lp3 : bA < w3.heap.size := (Array.getElem?_eq_some_iff.1 HA3.out).1
  have x3 := fun o => cell_of HX3.out o
  have fx3 := fun o => frozen_of HX3.out o
  have lx3 : bX < w3.heap.size := (Array.getElem?_eq_some_iff.1 HX3.out).1
  have nAX : bA ≠ bX := by have := HBX.out; omega
  have nRA : rb ≠ bA := by have := HBX.out; omega
  have nRX : rb ≠ bX := by have := HBX.out; omega
  have nXA : bX ≠ bA := by have := HBX.out; omega
  have hcv := text_of HB3.out HRL.out.2 m c3 hm
  rw [← HTX.out] at hcv
  have v1 : (m : Int) ≤ (c3 : Int) := by have := HC3.out; omega
  have v2 : m ≤ c3 := by have := HC3.out; omega
  obtain ⟨A, C, hAC, hdr⟩ : ∃ (A : Addr) (C : Nat), (A = (if c3 - m = 0 then a3 else a3.add m) ∧ C = c3 - m) ∧ ∀ w', isB w' hi (some a3) r → isB w' hi (some A) (r.drop m) := by
    by_cases e : c3 - m = 0
    · exact ⟨_, _, ⟨rfl, rfl⟩, fun w' h h0 => by have := HC3.out; simp at h0; omega⟩
    · refine ⟨_, _, ⟨rfl, rfl⟩, fun w' h => ?_⟩
      rw [if_neg e]
      by_cases hr0 : 0 < r.length
      · obtain ⟨b, off, e2, _⟩ := h hr0
        cases e2
        rw [addr_add]
        exact isB_drop h m
      · exact fun h0 => by simp at h0; omega
  have HAC := Lib.hid hAC
  have HDR : Hid (∀ w', isB w' hi (some a3) r → isB w' hi (some A) (r.drop m)) := hdr
  clear hAC hdr
  have hcz : c3 - m = 0 ∨ ¬ c3 - m = 0 := by omega
  rcases hcz with hcz | hcz
  · go_upto_region 29 with fail
    clear r3 fr3 lr3 p3 fp3 lp3 x3 fx3 lx3
    obtain ⟨w5, hw5⟩ : ∃ v, v = ((w3.setCell ⟨bX, 3, none⟩ (.string t)).setCell ⟨rb, 0, none⟩ (.slice (some a3) (r.length - m) 0)) := ⟨_, rfl⟩
    rw [← hw5]
    have HX5 : Hid (w5.heap[bX]? = some (.cells #[.int .i64 3, .bool false, .int .i64 0, .string t, .slice none 0 0] 33 (0, 0))) := by rw [hw5]; exact ((Below.heap_setCell _ _ _ _ (show bX ≠ rb by have := HBX.out; omega)).trans (heap_setCell2 HX3.out))
    have HR5 : Hid (w5.heap[rb]? = some (.cells #[.slice (some a3) (r.length - m) 0, .bool false] 49 (0, 0))) := by rw [hw5]; exact (heap_setCell2 ((Below.heap_setCell _ _ _ _ (show rb ≠ bX by have := HBX.out; omega)).trans HR3.out))
    have HA5 : Hid (w5.heap[bA]? = some (.cells #[.int .i64 0, .bool false, .int .i64 0, .string { data := #[] }, .slice none 0 0] 33 (0, 0))) := by rw [hw5]; exact ((Below.heap_setCell _ _ _ _ (show bA ≠ rb by have := HBX.out; omega)).trans ((Below.heap_setCell _ _ _ _ (show bA ≠ bX by have := HBX.out; omega)).trans HA3.out))
    have HK5 : Hid (Kg rb w w5) := by rw [hw5]; exact (Kg.set (kg_new HK3.out (by have := HBX.out; have := HBA.out; omega) _))
    have HB5 : Hid (isB w5 hi (some a3) r) := by rw [hw5]; exact isB_far HB3.out (fun b hb => ((Below.heap_setCell _ _ _ _ (show b ≠ rb by have := HBX.out; omega)).trans ((Below.heap_setCell _ _ _ _ (show b ≠ bX by have := HBX.out; omega)).trans rfl)))
    clear hw5
    have r5 := fun o => cell_of HR5.out o
    have fr5 := fun o => frozen_of HR5.out o
    have lr5 : rb < w5.heap.size := (Array.getElem?_eq_some_iff.1 HR5.out).1
    have p5 := fun o => cell_of HA5.out o
    have fp5 := fun o => frozen_of HA5.out o
    have lp5 : bA < w5.heap.size := (Array.getElem?_eq_some_iff.1 HA5.out).1
    have x5 := fun o => cell_of HX5.out o
    have fx5 := fun o => frozen_of HX5.out o
    have lx5 : bX < w5.heap.size := (Array.getElem?_eq_some_iff.1 HX5.out).1
    have nAX : bA ≠ bX := by have := HBX.out; omega
    have nRA : rb ≠ bA := by have := HBX.out; omega
    have nRX : rb ≠ bX := by have := HBX.out; omega
    have nXA : bX ≠ bA := by have := HBX.out; omega
    have hac := HAC.out
    rw [if_pos hcz] at hac
    have HB6 : Hid (isB w5 hi (some a3) (r.drop m)) := by
      have := HDR.out w5 HB5.out
      rw [hac.1] at this
      exact this
    have HR6 : Hid (w5.heap[rb]? = some (.cells #[.slice (some a3) (r.drop m).length 0, .bool false] 49 (0, 0))) := by rw [List.length_drop]; exact HR5.out
    have HL6 : Hid ((r.drop m).length ≤ 0) := by have := HC3.out; rw [Hid, List.length_drop]; omega
    clear hac
    go_wp2_with fail
    refine bodyPost_ret (v := .agg #[.int .i64 3, .bool false, .int .i64 0, .string t, .slice none 0 0]) (by simp [results, Tryz.results21, go_sem, p5]) rfl ?_
    rw [HD.out]
    exact rd_end HK5.out (by have := HBA.out; omega) l0 hhi ⟨rfl, some a3, 0, HR6.out, HB6.out, HL6.out⟩
  · go_upto_region 29 with fail
    clear r3 fr3 lr3 p3 fp3 lp3 x3 fx3 lx3
    obtain ⟨w5, hw5⟩ : ∃ v, v = ((w3.setCell ⟨bX, 3, none⟩ (.string t)).setCell ⟨rb, 0, none⟩ (.slice (some (a3.add m)) (r.length - m) (c3 - m))) := ⟨_, rfl⟩
    rw [← hw5]
    have HX5 : Hid (w5.heap[bX]? = some (.cells #[.int .i64 3, .bool false, .int .i64 0, .string t, .slice none 0 0] 33 (0, 0))) := by rw [hw5]; exact ((Below.heap_setCell _ _ _ _ (show bX ≠ rb by have := HBX.out; omega)).trans (heap_setCell2 HX3.out))
    have HR5 : Hid (w5.heap[rb]? = some (.cells #[.slice (some (a3.add m)) (r.length - m) (c3 - m), .bool false] 49 (0, 0))) := by rw [hw5]; exact (heap_setCell2 ((Below.heap_setCell _ _ _ _ (show rb ≠ bX by have := HBX.out; omega)).trans HR3.out))
    have HA5 : Hid (w5.heap[bA]? = some (.cells #[.int .i64 0, .bool false, .int .i64 0, .string { data := #[] }, .slice none 0 0] 33 (0, 0))) := by rw [hw5]; exact ((Below.heap_setCell _ _ _ _ (show bA ≠ rb by have := HBX.out; omega)).trans ((Below.heap_setCell _ _ _ _ (show bA ≠ bX by have := HBX.out; omega)).trans HA3.out))
    have HK5 : Hid (Kg rb w w5) := by rw [hw5]; exact (Kg.set (kg_new HK3.out (by have := HBX.out; have := HBA.out; omega) _))
    have HB5 : Hid (isB w5 hi (some a3) r) := by rw [hw5]; exact isB_far HB3.out (fun b hb => ((Below.heap_setCell _ _ _ _ (show b ≠ rb by have := HBX.out; omega)).trans ((Below.heap_setCell _ _ _ _ (show b ≠ bX by have := HBX.out; omega)).trans rfl)))
    clear hw5
    have r5 := fun o => cell_of HR5.out o
    have fr5 := fun o => frozen_of HR5.out o
    have lr5 : rb < w5.heap.size := (Array.getElem?_eq_some_iff.1 HR5.out).1
    have p5 := fun o => cell_of HA5.out o
    have fp5 := fun o => frozen_of HA5.out o
    have lp5 : bA < w5.heap.size := (Array.getElem?_eq_some_iff.1 HA5.out).1
    have x5 := fun o => cell_of HX5.out o
    have fx5 := fun o => frozen_of HX5.out o
    have lx5 : bX < w5.heap.size := (Array.getElem?_eq_some_iff.1 HX5.out).1
    have nAX : bA ≠ bX := by have := HBX.out; omega
    have nRA : rb ≠ bA := by have := HBX.out; omega
    have nRX : rb ≠ bX := by have := HBX.out; omega
    have nXA : bX ≠ bA := by have := HBX.out; omega
    have hac := HAC.out
    rw [if_neg hcz] at hac
    have HB6 : Hid (isB w5 hi (some (a3.add m)) (r.drop m)) := by
      have := HDR.out w5 HB5.out
      rw [hac.1] at this
      exact this
    have HR6 : Hid (w5.heap[rb]? = some (.cells #[.slice (some (a3.add m)) (r.drop m).length (c3 - m), .bool false] 49 (0, 0))) := by rw [List.length_drop]; exact HR5.out
    have HL6 : Hid ((r.drop m).length ≤ (c3 - m)) := by have := HC3.out; rw [Hid, List.length_drop]; omega
    clear hac
    go_wp2_with fail
    refine bodyPost_ret (v := .agg #[.int .i64 3, .bool false, .int .i64 0, .string t, .slice none 0 0]) (by simp [results, Tryz.results21, go_sem, p5]) rfl ?_
    rw [HD.out]
    exact rd_end HK5.out (by have := HBA.out; omega) l0 hhi ⟨rfl, some (a3.add m), (c3 - m), HR6.out, HB6.out, HL6.out⟩
set_option maxHeartbeats 1600000 in
theorem rd_4none (q : List Nat) (rb hi : Nat) (a : Option Addr) (c : Nat) (w : World) (d : Nat) (hd : d ≤ 30) (hT : takeN 4 q = none) (bs : List Nat) (hbs : bs = 4 :: q) (hh : w.heap[rb]? = some (.cells #[.slice a bs.length c, .bool false] 49 (0, 0))) (hhi : hi ≤ rb) (hB : isB w hi a bs) (hc : bs.length ≤ c) (hb : ∀ b ∈ bs, b < 256) (hl : bs.length ≤ 2147483647) : Calls Tryz.prog 21 #[.pointer (some ⟨rb, 0, none⟩), .int .i64 d] w (RdO w rb hi (decBody true true (dec (30 - d)) 4 q)) := by
  have d1 : decide (30 < d) = false := by simp; omega
  have HT := Lib.hid hT
  have HD : Hid (decBody true true (dec (30 - d)) 4 q = none) := by
    rw [Hid, decBody, if_neg (by decide), if_neg (by decide), if_neg (by decide), if_pos rfl, hT]
  clear hT
  have l0 : rb < w.heap.size := (Array.getElem?_eq_some_iff.1 hh).1
  have HBY := Lib.hid hb
  have HBS := Lib.hid hbs
  have HH := Lib.hid hh
  have HB := Lib.hid hB
  clear hh hB hb hbs
  go_enter Tryz.func21, Tryz.ntmps21
  go_upto_region 1 with fail
  obtain ⟨w0, hw0⟩ : ∃ v, v = w.alloc (.cells #[.int .i64 0, .bool false, .int .i64 0, .string { data := #[] }, .slice none 0 0] 33) := ⟨_, rfl⟩
  have hb0 : Below w.heap.size w w0 := by rw [hw0]; exact (Below.refl _ _).alloc (Nat.le_refl _) _
  have hx0 : w0.heap[w.heap.size]? = some (.cells #[.int .i64 0, .bool false, .int .i64 0, .string { data := #[] }, .slice none 0 0] 33 (0, 0)) := by rw [hw0]; exact heap_last
  rw [← hw0]
  obtain ⟨bA, hbA⟩ : ∃ b, b = w.heap.size := ⟨_, rfl⟩
  rw [← hbA] at hx0 ⊢
  have HBA := Lib.hid hbA
  have HX0 := Lib.hid hx0
  have HK0 := Lib.hid ((Kg.refl rb w).below hb0)
  have HR0 := Lib.hid ((hb0.block rb l0).trans HH.out)
  have HB0 : Hid (isB w0 hi a bs) := isB_far HB.out (fun b hb => hb0.block b (by omega))
  have l1 : bA < w0.heap.size := (Array.getElem?_eq_some_iff.1 hx0).1
  clear hw0 hb0 hx0 hbA
  go_wp2_with fail
  refine (number_any rb hi a c bs 1 w0 HR0.out hhi HB0.out hc HBY.out hl (by omega)).mono ?_
  rintro e w1 ⟨hn, hk1⟩
  rw [HBS.out] at hn

  rw [show takeN 1 (4 :: q) = some (4, q) from by simp [takeN, unBe]] at hn
  obtain ⟨rfl, a1, c1, hr1, hB1, hc1⟩ := hn
  have HK1 := Lib.hid (HK0.out.trans hk1)
  have hx1 := kg_at hk1 HX0.out (by have := HBA.out; omega)
  have l2 : bA < w1.heap.size := (Array.getElem?_eq_some_iff.1 hx1).1
  go_upto_region 2 with fail
  obtain ⟨w2, hw2⟩ : ∃ v, v = w1.alloc (.cells #[.int .i64 4, .bool false, .int .i64 0, .string { data := #[] }, .slice none 0 0] 33) := ⟨_, rfl⟩
  have hb2 : Below w1.heap.size w1 w2 := by rw [hw2]; exact (Below.refl _ _).alloc (Nat.le_refl _) _
  have hx2 : w2.heap[w1.heap.size]? = some (.cells #[.int .i64 4, .bool false, .int .i64 0, .string { data := #[] }, .slice none 0 0] 33 (0, 0)) := by rw [hw2]; exact heap_last
  rw [← hw2]
  obtain ⟨bX, hbX⟩ : ∃ b, b = w1.heap.size := ⟨_, rfl⟩
  rw [← hbX] at hx2 ⊢
  have HBX := Lib.hid (show bA < bX ∧ rb < bA by have := HBA.out; omega)
  have HK2 := Lib.hid (HK1.out.below hb2)
  have HA2 := Lib.hid ((hb2.block bA l2).trans hx1)
  have l3 : rb < w1.heap.size := (Array.getElem?_eq_some_iff.1 hr1).1
  have HR2 := Lib.hid ((hb2.block rb l3).trans hr1)
  have HB2 : Hid (isB w2 hi (some a1) q) := isB_far hB1 (fun b hb => hb2.block b (by omega))
  have HX2 := Lib.hid hx2
  have HC1 := Lib.hid hc1
  clear hw2 hb2 hx1 hr1 hB1 hbX hk1 hc1 l1 l2 l3 HK1 HK0 HX0 HR0 HB0

  have r2 := fun o => cell_of HR2.out o
  have fr2 := fun o => frozen_of HR2.out o
  have lr2 : rb < w2.heap.size := (Array.getElem?_eq_some_iff.1 HR2.out).1
  have p2 := fun o => cell_of HA2.out o
  have fp2 := fun o => frozen_of HA2.out o
  have lp2 : bA < w2.heap.size := (Array.getElem?_eq_some_iff.1 HA2.out).1
  have x2 := fun o => cell_of HX2.out o
  have fx2 := fun o => frozen_of HX2.out o
  have lx2 : bX < w2.heap.size := (Array.getElem?_eq_some_iff.1 HX2.out).1
  have nAX : bA ≠ bX := by have := HBX.out; omega
  have nRA : rb ≠ bA := by have := HBX.out; omega
  have nRX : rb ≠ bX := by have := HBX.out; omega
  have nXA : bX ≠ bA := by have := HBX.out; omega
  go_wp2_with fail
  refine (number_any rb hi (some a1) c1 q 4 w2 HR2.out hhi HB2.out HC1.out (fun b h => HBY.out b (by rw [HBS.out]; exact List.mem_cons_of_mem _ h)) (by have := HBS.out; rw [this] at hl; simp at hl; omega) (by omega)).mono ?_
  rintro e w3 ⟨hn, hk3⟩
  rw [HT.out] at hn
  obtain ⟨rfl, a3, n3, c3, hr3⟩ := hn
  have HR3 := Lib.hid hr3
  have HX3 := Lib.hid (kg_at hk3 HX2.out (by have := HBX.out; omega))
  have HA3 := Lib.hid (kg_at hk3 HA2.out (by have := HBX.out; omega))
  have HK3 := Lib.hid (HK2.out.trans hk3)
  clear hr3 hk3
  clear r2 fr2 lr2 p2 fp2 lp2 x2 fx2 lx2
  have r3 := fun o => cell_of HR3.out o
  have fr3 := fun o => frozen_of HR3.out o
  have lr3 : rb < w3.heap.size := (Array.getElem?_eq_some_iff.1 HR3.out).1
  have p3 := fun o => cell_of HA3.out o
  have fp3 := fun o => frozen_of HA3.out o
  have lp3 : bA < w3.heap.size := (Array.getElem?_eq_some_iff.1 HA3.out).1
  have x3 := fun o => cell_of HX3.out o
  have fx3 := fun o => frozen_of HX3.out o
  have lx3 : bX < w3.heap.size := (Array.getElem?_eq_some_iff.1 HX3.out).1
  have nAX : bA ≠ bX := by have := HBX.out; omega
  have nRA : rb ≠ bA := by have := HBX.out; omega
  have nRX : rb ≠ bX := by have := HBX.out; omega
  have nXA : bX ≠ bA := by have := HBX.out; omega
  go_wp2_with fail
  go_loopw [101] (fun i wr => i = .int .u64 0 ∧ wr = w3) (fun i _ => 0)
  case atStart => exact ⟨rfl, rfl⟩
  case round =>
    obtain ⟨rfl, rfl⟩ := hrel
    go_upto_region 29 with fail
    go_wp2_with fail
    refine bodyPost_ret (v := .agg #[.int .i64 4, .bool false, .int .i64 0, .string { data := #[] }, .slice none 0 0]) (by simp [results, Tryz.results21, go_sem, p3]) rfl ?_
    rw [HD.out]
    exact rd_end HK3.out (by have := HBA.out; omega) l0 hhi ⟨_, _, _, HR3.out⟩
set_option maxHeartbeats 1600000 in
theorem rd_4long (r : List Nat) (q : List Nat) (rb hi : Nat) (a : Option Addr) (c : Nat) (w : World) (d : Nat) (hd : d ≤ 30) (m : Nat) (hm : 4096 < m) (hT : takeN 4 q = some (m, r)) (bs : List Nat) (hbs : bs = 4 :: q) (hh : w.heap[rb]? = some (.cells #[.slice a bs.length c, .bool false] 49 (0, 0))) (hhi : hi ≤ rb) (hB : isB w hi a bs) (hc : bs.length ≤ c) (hb : ∀ b ∈ bs, b < 256) (hl : bs.length ≤ 2147483647) : Calls Tryz.prog 21 #[.pointer (some ⟨rb, 0, none⟩), .int .i64 d] w (RdO w rb hi (decBody true true (dec (30 - d)) 4 q)) := by
  have d1 : decide (30 < d) = false := by simp; omega
  have HT := Lib.hid hT
  have HD : Hid (decBody true true (dec (30 - d)) 4 q = none) := by
    rw [Hid, decBody, if_neg (by decide), if_neg (by decide), if_neg (by decide), if_pos rfl, hT]
    exact if_pos (.inl hm)
  have u1 : decide ((4096 : Int) < (m : Int)) = true := by simp; omega
  have u2 : decide (4096 < m) = true := by simp; omega
  have u3 : decide (0 < m) = true := by simp; omega
  have u4 : 0 < m := by omega
  clear hT
  have l0 : rb < w.heap.size := (Array.getElem?_eq_some_iff.1 hh).1
  have HBY := Lib.hid hb
  have HBS := Lib.hid hbs
  have HH := Lib.hid hh
  have HB := Lib.hid hB
  clear hh hB hb hbs
  go_enter Tryz.func21, Tryz.ntmps21
  go_upto_region 1 with fail
  obtain ⟨w0, hw0⟩ : ∃ v, v = w.alloc (.cells #[.int .i64 0, .bool false, .int .i64 0, .string { data := #[] }, .slice none 0 0] 33) := ⟨_, rfl⟩
  have hb0 : Below w.heap.size w w0 := by rw [hw0]; exact (Below.refl _ _).alloc (Nat.le_refl _) _
  have hx0 : w0.heap[w.heap.size]? = some (.cells #[.int .i64 0, .bool false, .int .i64 0, .string { data := #[] }, .slice none 0 0] 33 (0, 0)) := by rw [hw0]; exact heap_last
  rw [← hw0]
  obtain ⟨bA, hbA⟩ : ∃ b, b = w.heap.size := ⟨_, rfl⟩
  rw [← hbA] at hx0 ⊢
  have HBA := Lib.hid hbA
  have HX0 := Lib.hid hx0
  have HK0 := Lib.hid ((Kg.refl rb w).below hb0)
  have HR0 := Lib.hid ((hb0.block rb l0).trans HH.out)
  have HB0 : Hid (isB w0 hi a bs) := isB_far HB.out (fun b hb => hb0.block b (by omega))
  have l1 : bA < w0.heap.size := (Array.getElem?_eq_some_iff.1 hx0).1
  clear hw0 hb0 hx0 hbA
  go_wp2_with fail
  refine (number_any rb hi a c bs 1 w0 HR0.out hhi HB0.out hc HBY.out hl (by omega)).mono ?_
  rintro e w1 ⟨hn, hk1⟩
  rw [HBS.out] at hn

  rw [show takeN 1 (4 :: q) = some (4, q) from by simp [takeN, unBe]] at hn
  obtain ⟨rfl, a1, c1, hr1, hB1, hc1⟩ := hn
  have HK1 := Lib.hid (HK0.out.trans hk1)
  have hx1 := kg_at hk1 HX0.out (by have := HBA.out; omega)
  have l2 : bA < w1.heap.size := (Array.getElem?_eq_some_iff.1 hx1).1
  go_upto_region 2 with fail
  obtain ⟨w2, hw2⟩ : ∃ v, v = w1.alloc (.cells #[.int .i64 4, .bool false, .int .i64 0, .string { data := #[] }, .slice none 0 0] 33) := ⟨_, rfl⟩
  have hb2 : Below w1.heap.size w1 w2 := by rw [hw2]; exact (Below.refl _ _).alloc (Nat.le_refl _) _
  have hx2 : w2.heap[w1.heap.size]? = some (.cells #[.int .i64 4, .bool false, .int .i64 0, .string { data := #[] }, .slice none 0 0] 33 (0, 0)) := by rw [hw2]; exact heap_last
  rw [← hw2]
  obtain ⟨bX, hbX⟩ : ∃ b, b = w1.heap.size := ⟨_, rfl⟩
  rw [← hbX] at hx2 ⊢
  have HBX := Lib.hid (show bA < bX ∧ rb < bA by have := HBA.out; omega)
  have HK2 := Lib.hid (HK1.out.below hb2)
  have HA2 := Lib.hid ((hb2.block bA l2).trans hx1)
  have l3 : rb < w1.heap.size := (Array.getElem?_eq_some_iff.1 hr1).1
  have HR2 := Lib.hid ((hb2.block rb l3).trans hr1)
  have HB2 : Hid (isB w2 hi (some a1) q) := isB_far hB1 (fun b hb => hb2.block b (by omega))
  have HX2 := Lib.hid hx2
  have HC1 := Lib.hid hc1
  clear hw2 hb2 hx1 hr1 hB1 hbX hk1 hc1 l1 l2 l3 HK1 HK0 HX0 HR0 HB0

  have r2 := fun o => cell_of HR2.out o
  have fr2 := fun o => frozen_of HR2.out o
  have lr2 : rb < w2.heap.size := (Array.getElem?_eq_some_iff.1 HR2.out).1
  have p2 := fun o => cell_of HA2.out o
  have fp2 := fun o => frozen_of HA2.out o
  have lp2 : bA < w2.heap.size := (Array.getElem?_eq_some_iff.1 HA2.out).1
  have x2 := fun o => cell_of HX2.out o
  have fx2 := fun o => frozen_of HX2.out o
  have lx2 : bX < w2.heap.size := (Array.getElem?_eq_some_iff.1 HX2.out).1
  have nAX : bA ≠ bX := by have := HBX.out; omega
  have nRA : rb ≠ bA := by have := HBX.out; omega
  have nRX : rb ≠ bX := by have := HBX.out; omega
  have nXA : bX ≠ bA := by have := HBX.out; omega
  go_wp2_with fail
  refine (number_any rb hi (some a1) c1 q 4 w2 HR2.out hhi HB2.out HC1.out (fun b h => HBY.out b (by rw [HBS.out]; exact List.mem_cons_of_mem _ h)) (by have := HBS.out; rw [this] at hl; simp at hl; omega) (by omega)).mono ?_
  rintro e w3 ⟨hn, hk3⟩
  rw [HT.out] at hn
  obtain ⟨rfl, a3, c3, hr3, hB3, hc3⟩ := hn
  have HB3 := Lib.hid hB3
  have HC3 := Lib.hid hc3
  clear hB3 hc3
  have HR3 := Lib.hid hr3
  have HX3 := Lib.hid (kg_at hk3 HX2.out (by have := HBX.out; omega))
  have HA3 := Lib.hid (kg_at hk3 HA2.out (by have := HBX.out; omega))
  have HK3 := Lib.hid (HK2.out.trans hk3)
  clear hr3 hk3
  clear r2 fr2 lr2 p2 fp2 lp2 x2 fx2 lx2
  have r3 := fun o => cell_of HR3.out o
  have fr3 := fun o => frozen_of HR3.out o
  have lr3 : rb < w3.heap.size := (Array.getElem?_eq_some_iff.1 HR3.out).1
  have p3 := fun o => cell_of HA3.out o
  have fp3 := fun o => frozen_of HA3.out o
  have lp3 : bA < w3.heap.size := (Array.getElem?_eq_some_iff.1 HA3.out).1
  have x3 := fun o => cell_of HX3.out o
  have fx3 := fun o => frozen_of HX3.out o
  have lx3 : bX < w3.heap.size := (Array.getElem?_eq_some_iff.1 HX3.out).1
  have nAX : bA ≠ bX := by have := HBX.out; omega
  have nRA : rb ≠ bA := by have := HBX.out; omega
  have nRX : rb ≠ bX := by have := HBX.out; omega
  have nXA : bX ≠ bA := by have := HBX.out; omega
  go_upto_region 24 with fail
  clear r3 fr3 lr3 p3 fp3 lp3 x3 fx3 lx3
  obtain ⟨w5, hw5⟩ : ∃ v, v = (w3.setCell ⟨rb, 1, none⟩ (.bool true)) := ⟨_, rfl⟩
  rw [← hw5]
  have HX5 : Hid (w5.heap[bX]? = some (.cells #[.int .i64 4, .bool false, .int .i64 0, .string { data := #[] }, .slice none 0 0] 33 (0, 0))) := by rw [hw5]; exact ((Below.heap_setCell _ _ _ _ (show bX ≠ rb by have := HBX.out; omega)).trans HX3.out)
  have HR5 : Hid (w5.heap[rb]? = some (.cells #[.slice (some a3) r.length c3, .bool true] 49 (0, 0))) := by rw [hw5]; exact (heap_setCell2 HR3.out)
  have HA5 : Hid (w5.heap[bA]? = some (.cells #[.int .i64 0, .bool false, .int .i64 0, .string { data := #[] }, .slice none 0 0] 33 (0, 0))) := by rw [hw5]; exact ((Below.heap_setCell _ _ _ _ (show bA ≠ rb by have := HBX.out; omega)).trans HA3.out)
  have HK5 : Hid (Kg rb w w5) := by rw [hw5]; exact (Kg.set HK3.out)
  clear hw5
  have r5 := fun o => cell_of HR5.out o
  have fr5 := fun o => frozen_of HR5.out o
  have lr5 : rb < w5.heap.size := (Array.getElem?_eq_some_iff.1 HR5.out).1
  have p5 := fun o => cell_of HA5.out o
  have fp5 := fun o => frozen_of HA5.out o
  have lp5 : bA < w5.heap.size := (Array.getElem?_eq_some_iff.1 HA5.out).1
  have x5 := fun o => cell_of HX5.out o
  have fx5 := fun o => frozen_of HX5.out o
  have lx5 : bX < w5.heap.size := (Array.getElem?_eq_some_iff.1 HX5.out).1
  have nAX : bA ≠ bX := by have := HBX.out; omega
  have nRA : rb ≠ bA := by have := HBX.out; omega
  have nRX : rb ≠ bX := by have := HBX.out; omega
  have nXA : bX ≠ bA := by have := HBX.out; omega
  go_wp2_with fail
  go_loopw [101] (fun i wr => i = .int .u64 0 ∧ wr = w5) (fun i _ => 0)
  case atStart => exact ⟨rfl, rfl⟩
  case round =>
    obtain ⟨rfl, rfl⟩ := hrel
    go_wp2_with fail
    go_wp2_with fail
    refine bodyPost_ret (v := .agg #[.int .i64 4, .bool false, .int .i64 0, .string { data := #[] }, .slice none 0 0]) (by simp [results, Tryz.results21, go_sem, p5]) rfl ?_
    rw [HD.out]
    exact rd_end HK5.out (by have := HBA.out; omega) l0 hhi ⟨_, _, _, HR5.out⟩
end Go.Proofs.YtkpfaeodgjbodaaGreatDoor
