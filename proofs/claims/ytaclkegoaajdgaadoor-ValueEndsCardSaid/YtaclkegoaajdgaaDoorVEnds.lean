/-
  ValueEnds returns true. Conditions: the table of the tests lies.
-/
import Derived.Test.YtaclkegoaajdgaaDoorEndsC
import Derived.Deep.RegionHeld3
import Derived.Deep.DeepCutAuto
import Derived.Deep.CutBlock
import Derived.Deep.CutRange
namespace Go.Proofs.YtaclkegoaajdgaaDoor
open Go Go.RowKit
set_option maxRecDepth 100000
set_option linter.unusedVariables false
attribute [local go_sem ↓] Go.wp_at_zero Go.wp_at_succ
theorem far3a {w wC : World} {o o2 o3 : Obj} (h : Below (((w.alloc o).alloc o2).alloc o3).drew.heap.size (((w.alloc o).alloc o2).alloc o3).drew wC) : wC.heap[w.heap.size]? = some o :=
  (h.block w.heap.size (by show _ < (((w.alloc o).alloc o2).alloc o3).heap.size; simp; omega)).trans heap_3a
theorem far3b {w wC : World} {o o2 o3 : Obj} (h : Below (((w.alloc o).alloc o2).alloc o3).drew.heap.size (((w.alloc o).alloc o2).alloc o3).drew wC) : wC.heap[w.heap.size + 1]? = some o2 :=
  (h.block (w.heap.size + 1) (by show _ < (((w.alloc o).alloc o2).alloc o3).heap.size; simp)).trans heap_3b
theorem far3c {w wC : World} {o o2 o3 : Obj} (h : Below (((w.alloc o).alloc o2).alloc o3).drew.heap.size (((w.alloc o).alloc o2).alloc o3).drew wC) : wC.heap[w.heap.size + 2]? = some o3 :=
  (h.block (w.heap.size + 2) (by show _ < (((w.alloc o).alloc o2).alloc o3).heap.size; simp)).trans heap_3c
theorem nest_world {w : World} {b : Nat} {v0 v1 v2 v3 v4 : Value} {o : Obj} (h : b < w.heap.size) : (((((w.setCell ⟨b, 0, none⟩ v0).setCell ⟨b, 1, none⟩ v1).setCell ⟨b, 2, none⟩ v2).setCell ⟨b, 3, none⟩ v3).setCell ⟨b, 4, none⟩ v4).alloc o = ((((((w.alloc o).setCell ⟨b, 0, none⟩ v0).setCell ⟨b, 1, none⟩ v1).setCell ⟨b, 2, none⟩ v2).setCell ⟨b, 3, none⟩ v3).setCell ⟨b, 4, none⟩ v4) := by
  have hs : ∀ (w : World) (p : Addr) (v : Value), (w.setCell p v).heap.size = w.heap.size := fun w p v => by simp [World.setCell]
  rw [World.setCell_alloc_past _ _ _ _ h, World.setCell_alloc_past _ _ _ _ (by rw [hs]; exact h), World.setCell_alloc_past _ _ _ _ (by rw [hs, hs]; exact h), World.setCell_alloc_past _ _ _ _ (by rw [hs, hs, hs]; exact h), World.setCell_alloc_past _ _ _ _ (by rw [hs, hs, hs, hs]; exact h)]
set_option maxHeartbeats 12800000 in
theorem vends_any (w : World) (ht : tabOk w) : Calls Tryd.prog 3 #[] w fun e w' => e = .returned (.bool true) ∧ Below w.heap.size w w' := by
  have HT := Lib.hid ht
  have HNEG : Hid (∀ (g : Nat) (w : World), w.heap[g]? = some (.cells #[.int .i64 2, .bool false, .int .i64 (-9223372036854775808), .string { data := #[] }, .slice none 0 0] 24 (0, 0)) → Calls Tryd.prog 5 #[.int .i64 6, .slice (some ⟨g, 0, none⟩) 1 1] w fun e w' => ∃ s c, e = .returned (.tuple #[.agg #[.int .i64 0, .bool false, .int .i64 0, .string { data := #[] }, .slice s 0 c], .int .i64 2]) ∧ Below w.heap.size w w') := neg_end
  have H19 := Lib.hid (two_end 19 divK 0 0 2 apply_div div_end)
  have H20 := Lib.hid (two_end 20 modK 2 0 0 apply_mod mod_end)
  have H18 := Lib.hid (two_end 18 (fun a b => boundK (a * b)) 0 0 2 apply_mul mul_end)
  have HSUM := Lib.hid agg_sum_end
  obtain ⟨Z, hZ⟩ : ∃ Z, Z = madeCells (Value.agg #[.int .i64 0, .bool false, .int .i64 0, .string { data := #[] }, .slice none 0 0]).cells (4096 * 5) := ⟨_, rfl⟩
  obtain ⟨Y, hY⟩ : ∃ Y, Y = madeCells (Value.int .u8 0).cells 65536 := ⟨_, rfl⟩
  obtain ⟨tx, htx⟩ : ∃ tx, tx = zerosT := ⟨_, rfl⟩
  have HP0 : Hid (∀ (g gL : Nat) (w : World), w.heap[g]? = some (.cells #[.int .i64 4, .bool false, .int .i64 0, .string { data := #[] }, .slice (some ⟨gL, 0, none⟩) 4096 4096, .int .i64 4, .bool false, .int .i64 0, .string { data := #[] }, .slice none 0 0] 24 (0, 0)) → w.heap[gL]? = some (.cells Z 24 (0, 0)) → Calls Tryd.prog 5 #[.int .i64 16, .slice (some ⟨g, 0, none⟩) 2 2] w fun e w' => ∃ K N t s n c, e = .returned (.tuple #[.agg #[.int .i64 K, .bool false, .int .i64 N, .string t, .slice s n c], .int .i64 0]) ∧ Below w.heap.size w w') := fun g gL w h1 h2 => list_end 0 (by omega) g gL 0 0 none 0 w h1 (by rw [← hZ]; exact h2) (isL_nil _ _) rfl
  have HP1 : Hid (∀ (g h gL : Nat) (w : World), w.heap[g]? = some (.cells #[.int .i64 4, .bool false, .int .i64 0, .string { data := #[] }, .slice (some ⟨gL, 0, none⟩) 4096 4096, .int .i64 4, .bool false, .int .i64 0, .string { data := #[] }, .slice (some ⟨h, 0, none⟩) 1 1] 24 (0, 0)) → w.heap[h]? = some (.cells #[.int .i64 0, .bool false, .int .i64 0, .string { data := #[] }, .slice none 0 0] 24 (0, 0)) → w.heap[gL]? = some (.cells Z 24 (0, 0)) → Calls Tryd.prog 5 #[.int .i64 16, .slice (some ⟨g, 0, none⟩) 2 2] w fun e w' => ∃ K N t s n c, e = .returned (.tuple #[.agg #[.int .i64 K, .bool false, .int .i64 N, .string t, .slice s n c], .int .i64 2]) ∧ Below w.heap.size w w') := fun g h gL w h1 h2 h3 => list_end 1 (by omega) g gL 0 1 (some ⟨h, 0, none⟩) 2 w h1 (by rw [← hZ]; exact h3) (one_isL w h h2) rfl
  have HT0 : Hid (∀ (g : Nat) (w : World), w.heap[g]? = some (.cells #[.int .i64 3, .bool false, .int .i64 0, .string tx, .slice none 0 0, .int .i64 3, .bool false, .int .i64 0, .string { data := #[] }, .slice none 0 0] 24 (0, 0)) → Calls Tryd.prog 5 #[.int .i64 16, .slice (some ⟨g, 0, none⟩) 2 2] w fun e w' => ∃ K N t s n c, e = .returned (.tuple #[.agg #[.int .i64 K, .bool false, .int .i64 N, .string t, .slice s n c], .int .i64 0]) ∧ Below w.heap.size w w') := fun g w h => text_end g { data := #[] } (by decide) 0 w (by rw [← htx]; exact h) rfl
  have HT1 : Hid (∀ (g : Nat) (w : World), w.heap[g]? = some (.cells #[.int .i64 3, .bool false, .int .i64 0, .string tx, .slice none 0 0, .int .i64 3, .bool false, .int .i64 0, .string { data := #[97] }, .slice none 0 0] 24 (0, 0)) → Calls Tryd.prog 5 #[.int .i64 16, .slice (some ⟨g, 0, none⟩) 2 2] w fun e w' => ∃ K N t s n c, e = .returned (.tuple #[.agg #[.int .i64 K, .bool false, .int .i64 N, .string t, .slice s n c], .int .i64 2]) ∧ Below w.heap.size w w') := fun g w h => text_end g { data := #[97] } (by decide) 2 w (by rw [← htx]; exact h) rfl
  have hfin : Hid (∀ w2, Below w.heap.size w w2 → Calls Tryd.prog 8 #[] w2 fun e w' => e = .returned (.bool true) ∧ Below w2.heap.size w2 w') := fun w2 h2 => wakesV_any w2 (tabOk_below HT.out h2)
  have HZz := Lib.hid hZ
  have HYy := Lib.hid hY
  have HTx := Lib.hid htx
  clear ht hZ hY htx
  go_enter Tryd.func3, Tryd.ntmps3
  go_wp2_with fail
  refine (num_any _ w).mono ?_
  rintro e v0 ⟨rfl, hb⟩
  have HZ0 := Lib.hid hb
  clear hb
  unfold numA
  go_upto_region 2 with fail
  obtain ⟨b1, hb1⟩ : ∃ g, g = v0.heap.size := ⟨_, rfl⟩
  obtain ⟨v1, hv⟩ : ∃ v, v = v0.alloc (.cells #[.int .i64 2, .bool false, .int .i64 (-9223372036854775808), .string { data := #[] }, .slice none 0 0] 24) := ⟨_, rfl⟩
  have hsv : v1.heap.size = v0.heap.size + 1 := by rw [hv]; simp
  have hx : v1.heap[b1]? = some (.cells #[.int .i64 2, .bool false, .int .i64 (-9223372036854775808), .string { data := #[] }, .slice none 0 0] 24 (0, 0)) := by rw [hv, hb1]; exact heap_last
  have hb : Below v0.heap.size v0 v1 := by rw [hv]; exact (Below.refl _ _).alloc (Nat.le_refl _) _
  rw [← hv]
  have HZ1 := Lib.hid (below_down HZ0.out hb (Nat.le_refl _))
  clear HZ0 
  have Hb1_1 := Lib.hid hx
  clear hv hx hb
  rw [← hb1]
  clear hsv hb1
  have qb1 := fun o => cell_of Hb1_1.out o
  have lb1 := blk_lt Hb1_1.out
  have nb1 : b1 ≠ v1.heap.size := by omega
  go_wp2_with fail
  clear qb1 lb1 nb1
  obtain ⟨g2, hg2⟩ : ∃ g, g = v1.heap.size := ⟨_, rfl⟩
  obtain ⟨v2, hv⟩ : ∃ v, v = v1.alloc (.cells #[.int .i64 2, .bool false, .int .i64 (-9223372036854775808), .string { data := #[] }, .slice none 0 0] 24) := ⟨_, rfl⟩
  have hsv : v2.heap.size = v1.heap.size + 1 := by rw [hv]; simp
  have hx : v2.heap[g2]? = some (.cells #[.int .i64 2, .bool false, .int .i64 (-9223372036854775808), .string { data := #[] }, .slice none 0 0] 24 (0, 0)) := by rw [hv, hg2]; exact heap_last
  have hb : Below v1.heap.size v1 v2 := by rw [hv]; exact (Below.refl _ _).alloc (Nat.le_refl _) _
  rw [← hv]
  have HZ2 := Lib.hid (below_down HZ1.out hb (Nat.le_refl _))
  have Hb1_2 := Lib.hid (blk_below Hb1_1.out hb)
  clear HZ1 Hb1_1
  have Hg2_2 := Lib.hid hx
  clear hv hx hb
  rw [← hg2]
  clear hsv hg2
  refine (HNEG.out g2 v2 Hg2_2.out).mono ?_
  rintro e v3 ⟨s1, c1, rfl, hb⟩
  have HZ3 := Lib.hid (below_down HZ2.out hb (Nat.le_refl _))
  have Hb1_3 := Lib.hid (blk_below Hb1_2.out hb)
  have Hg2_3 := Lib.hid (blk_below Hg2_2.out hb)
  clear HZ2 Hb1_2 Hg2_2
  clear hb
  clear Hg2_3
  go_upto_region 3 with fail
  obtain ⟨b2, hb2⟩ : ∃ g, g = v3.heap.size := ⟨_, rfl⟩
  obtain ⟨v4, hv⟩ : ∃ v, v = v3.alloc (.cells #[.int .i64 0, .bool false, .int .i64 0, .string { data := #[] }, .slice s1 0 c1] 24) := ⟨_, rfl⟩
  have hsv : v4.heap.size = v3.heap.size + 1 := by rw [hv]; simp
  have hx : v4.heap[b2]? = some (.cells #[.int .i64 0, .bool false, .int .i64 0, .string { data := #[] }, .slice s1 0 c1] 24 (0, 0)) := by rw [hv, hb2]; exact heap_last
  have hb : Below v3.heap.size v3 v4 := by rw [hv]; exact (Below.refl _ _).alloc (Nat.le_refl _) _
  rw [← hv]
  have HZ4 := Lib.hid (below_down HZ3.out hb (Nat.le_refl _))
  have Hb1_4 := Lib.hid (blk_below Hb1_3.out hb)
  clear HZ3 Hb1_3
  have Hb2_4 := Lib.hid hx
  clear hv hx hb
  rw [← hb2]
  clear hsv hb2
  clear Hb2_4
  have hlb := blk_lt Hb1_4.out
  have SH : Hid (∀ w' : World, Below v4.heap.size v4 w' → (w'.cell? ⟨b1, 0, none⟩ = some (.int .i64 2) ∧ w'.cell? ⟨b1, 1, none⟩ = some (.bool false) ∧ w'.cell? ⟨b1, 2, none⟩ = some (.int .i64 (-9223372036854775808)) ∧ w'.cell? ⟨b1, 3, none⟩ = some (.string { data := #[] }) ∧ w'.cell? ⟨b1, 4, none⟩ = some (.slice none 0 0) ∧ b1 < w'.heap.size)) := fun w' hb => ⟨(hb.cell (p := ⟨b1, 0, none⟩) hlb).trans (cell_of Hb1_4.out 0), (hb.cell (p := ⟨b1, 1, none⟩) hlb).trans (cell_of Hb1_4.out 1), (hb.cell (p := ⟨b1, 2, none⟩) hlb).trans (cell_of Hb1_4.out 2), (hb.cell (p := ⟨b1, 3, none⟩) hlb).trans (cell_of Hb1_4.out 3), (hb.cell (p := ⟨b1, 4, none⟩) hlb).trans (cell_of Hb1_4.out 4), Nat.lt_of_lt_of_le hlb hb.size⟩
  have HAP : Hid (∀ (g : Nat) (w : World), w.heap[g]? = some (.cells #[.int .i64 2, .bool false, .int .i64 (-9223372036854775808), .string { data := #[] }, .slice none 0 0, .int .i64 2, .bool false, .int .i64 (-1), .string { data := #[] }, .slice none 0 0] 24 (0, 0)) → Calls Tryd.prog 5 #[.int .i64 19, .slice (some ⟨g, 0, none⟩) 2 2] w fun e w' => ∃ s c, e = .returned (.tuple #[.agg #[.int .i64 0, .bool false, .int .i64 0, .string { data := #[] }, .slice s 0 c], .int .i64 2]) ∧ Below w.heap.size w w') := H19
  have hw0 : v4.heap.size ≤ v4.heap.size := Nat.le_refl _
  obtain ⟨x0, x1, x2, x3, x4, lx⟩ := SH.out v4 (Below.refl _ _)
  go_cut [4, 5] (fun s1 s2 wx => s2 = .int .i64 2 ∧ Hid (Below v4.heap.size v4 wx))
  case first =>
    go_region_held3 (fun w' => w'.cell? ⟨b1, 0, none⟩ = some (.int .i64 2) ∧ w'.cell? ⟨b1, 1, none⟩ = some (.bool false) ∧ w'.cell? ⟨b1, 2, none⟩ = some (.int .i64 (-9223372036854775808)) ∧ w'.cell? ⟨b1, 3, none⟩ = some (.string { data := #[] }) ∧ w'.cell? ⟨b1, 4, none⟩ = some (.slice none 0 0) ∧ b1 < w'.heap.size)
      (first
        | (with_reducible refine SH.out _ ?_
           repeat (with_reducible first | exact HBc.out | exact HBa.out | exact Below.refl _ _ | refine Below.setCell (p := ⟨v4.heap.size, _, none⟩) ?_ hw0 _ | refine Below.setCell (p := ⟨wA.heap.size, _, none⟩) ?_ hwa _ | refine Below.setCell (p := ⟨wA.heap.size + 1, _, none⟩) ?_ hwa1 _ | refine Below.setCell (p := ⟨wC.heap.size, _, none⟩) ?_ hwc _ | refine Below.alloc ?_ hw0 _ | refine Below.alloc ?_ hwa _ | refine Below.alloc ?_ (le_allocE hwa) _ | refine Below.alloc ?_ hwc _ | refine Below.drew ?_)))
      (first
        | (have hguard := HBa
           clear hguard
           go_simp
           go_at_call 5
           refine (HAP.out _ _ ?hh).mono ?_
           case hh => first | exact heap_last | exact heap_two | exact heap_second
           rintro e wC ⟨s3, c3, rfl, hbC⟩
           have hbc : Below v4.heap.size v4 wC := by
             first
               | exact (HBa.out.alloc hwa _).trans (hbC.mono (le_allocE hwa))
               | exact ((HBa.out.alloc hwa _).alloc (le_allocE hwa) _).trans (hbC.mono (le_allocE (le_allocE hwa)))
           have HBc := Lib.hid hbc
           have hwc : v4.heap.size ≤ wC.heap.size := hbc.size
           have lc : b1 < wC.heap.size := Nat.lt_of_lt_of_le hlb hwc
           first
             | (have hz := (hbC.block v4.heap.size (by first | exact lt2E hwra | exact lt3E hwra)).trans ((far2E hwra).trans HZ0'.out)
                have HZq := Lib.hid hz
                have qz := fun o => cell_of hz o
                have fz := fun o => frozen_of hz o
                have lz : v4.heap.size < wC.heap.size := (Array.getElem?_eq_some_iff.1 hz).1
                clear hz)
             | (have hz : wC.heap[wA.heap.size + 1]? = some (.cells #[.int .i64 0, .bool false, .int .i64 0, .string { data := #[] }, .slice none 0 0] 24 (0, 0)) := (hbC.block (wA.heap.size + 1) (by show _ < ((wA.alloc _).alloc _).heap.size; simp)).trans heap_second
                have HZq := Lib.hid hz
                have qz := fun o => cell_of hz o
                have fz := fun o => frozen_of hz o
                have lz : wA.heap.size + 1 < wC.heap.size := (Array.getElem?_eq_some_iff.1 hz).1
                clear hz)
             | (have hz : wC.heap[wA.heap.size]? = some (.cells #[.int .i64 0, .bool false, .int .i64 0, .string { data := #[] }, .slice none 0 0] 24 (0, 0)) := (hbC.block wA.heap.size (by show _ < ((wA.alloc _).alloc _).heap.size; simp; omega)).trans heap_two
                have HZq := Lib.hid hz
                have qz := fun o => cell_of hz o
                have fz := fun o => frozen_of hz o
                have lz : wA.heap.size < wC.heap.size := (Array.getElem?_eq_some_iff.1 hz).1
                clear hz)
             | skip
           clear hbC hbc)
        | (go_simp
           go_at_call 4
           refine (num_any (-1) _).mono ?_
           rintro e wA ⟨rfl, hbA⟩
           have hba : Below v4.heap.size v4 wA := by
             first
               | exact (Below.refl _ v4).drew.trans (hbA.mono hw0)
               | exact ((Below.refl _ v4).alloc hw0 _).drew.trans (hbA.mono (le_allocE hw0))
           have HBa := Lib.hid hba
           have hwa : v4.heap.size ≤ wA.heap.size := hba.size
           have hwa1 : v4.heap.size ≤ wA.heap.size + 1 := Nat.le_trans hwa (Nat.le_succ _)
           have la : b1 < wA.heap.size := Nat.lt_of_lt_of_le hlb hwa
           have la' : b1 < wA.heap.size + 1 := by omega
           have na : b1 ≠ wA.heap.size := by omega
           first
             | (have hz : wA.heap[v4.heap.size]? = some (.cells #[.int .i64 0, .bool false, .int .i64 0, .string { data := #[] }, .slice none 0 0] 24 (0, 0)) := (hbA.block v4.heap.size (by show _ < (v4.alloc _).heap.size; simp)).trans heap_last
                have HZ0' := Lib.hid hz
                have hwra : v4.heap.size < wA.heap.size := (Array.getElem?_eq_some_iff.1 hz).1
                clear hz)
             | skip
           unfold numA
           clear hbA hba))
    all_goals
      clear SH HAP
      go_wp2_with fail
      go_meet
      refine ⟨rfl, Lib.hid ?_⟩
      repeat (with_reducible first | exact HBc.out | refine Below.setCell (p := ⟨v4.heap.size, _, none⟩) ?_ hw0 _ | refine Below.setCell (p := ⟨wA.heap.size, _, none⟩) ?_ hwa _ | refine Below.setCell (p := ⟨wA.heap.size + 1, _, none⟩) ?_ hwa1 _ | refine Below.setCell (p := ⟨wC.heap.size, _, none⟩) ?_ hwc _ | refine Below.alloc ?_ hwc _ | refine Below.drew ?_)
  case rest =>
    obtain ⟨rfl, HBC⟩ := hcut
    clear SH HAP x0 x1 x2 x3 x4 lx hw0 hlb
    obtain ⟨v5, hvm⟩ : ∃ v, v = wc := ⟨_, rfl⟩
    rw [← hvm] at HBC ⊢
    clear hvm
    have hb := HBC.out
    have HZ5 := Lib.hid (below_down HZ4.out hb (Nat.le_refl _))
    have Hb1_5 := Lib.hid (blk_below Hb1_4.out hb)
    clear HZ4 Hb1_4
    clear hb HBC
    go_upto_region 4 with fail
    have hlb := blk_lt Hb1_5.out
    have SH : Hid (∀ w' : World, Below v5.heap.size v5 w' → (w'.cell? ⟨b1, 0, none⟩ = some (.int .i64 2) ∧ w'.cell? ⟨b1, 1, none⟩ = some (.bool false) ∧ w'.cell? ⟨b1, 2, none⟩ = some (.int .i64 (-9223372036854775808)) ∧ w'.cell? ⟨b1, 3, none⟩ = some (.string { data := #[] }) ∧ w'.cell? ⟨b1, 4, none⟩ = some (.slice none 0 0) ∧ b1 < w'.heap.size)) := fun w' hb => ⟨(hb.cell (p := ⟨b1, 0, none⟩) hlb).trans (cell_of Hb1_5.out 0), (hb.cell (p := ⟨b1, 1, none⟩) hlb).trans (cell_of Hb1_5.out 1), (hb.cell (p := ⟨b1, 2, none⟩) hlb).trans (cell_of Hb1_5.out 2), (hb.cell (p := ⟨b1, 3, none⟩) hlb).trans (cell_of Hb1_5.out 3), (hb.cell (p := ⟨b1, 4, none⟩) hlb).trans (cell_of Hb1_5.out 4), Nat.lt_of_lt_of_le hlb hb.size⟩
    have HAP : Hid (∀ (g : Nat) (w : World), w.heap[g]? = some (.cells #[.int .i64 2, .bool false, .int .i64 (-9223372036854775808), .string { data := #[] }, .slice none 0 0, .int .i64 2, .bool false, .int .i64 (-1), .string { data := #[] }, .slice none 0 0] 24 (0, 0)) → Calls Tryd.prog 5 #[.int .i64 20, .slice (some ⟨g, 0, none⟩) 2 2] w fun e w' => ∃ s c, e = .returned (.tuple #[.agg #[.int .i64 2, .bool false, .int .i64 0, .string { data := #[] }, .slice s 0 c], .int .i64 0]) ∧ Below w.heap.size w w') := H20
    have hw0 : v5.heap.size ≤ v5.heap.size := Nat.le_refl _
    obtain ⟨x0, x1, x2, x3, x4, lx⟩ := SH.out v5 (Below.refl _ _)
    go_cut [6, 7] (fun s1 s2 wx => s2 = .int .i64 0 ∧ ∃ p s c, s1 = .pointer (some ⟨p, 0, none⟩) ∧ Hid (wx.heap[p]? = some (.cells #[.int .i64 2, .bool false, .int .i64 0, .string { data := #[] }, .slice s 0 c] 24 (0, 0))) ∧ Hid (Below v5.heap.size v5 wx))
    case first =>
      go_region_held3 (fun w' => w'.cell? ⟨b1, 0, none⟩ = some (.int .i64 2) ∧ w'.cell? ⟨b1, 1, none⟩ = some (.bool false) ∧ w'.cell? ⟨b1, 2, none⟩ = some (.int .i64 (-9223372036854775808)) ∧ w'.cell? ⟨b1, 3, none⟩ = some (.string { data := #[] }) ∧ w'.cell? ⟨b1, 4, none⟩ = some (.slice none 0 0) ∧ b1 < w'.heap.size)
        (first
          | (with_reducible refine SH.out _ ?_
             repeat (with_reducible first | exact HBc.out | exact HBa.out | exact Below.refl _ _ | refine Below.setCell (p := ⟨v5.heap.size, _, none⟩) ?_ hw0 _ | refine Below.setCell (p := ⟨wA.heap.size, _, none⟩) ?_ hwa _ | refine Below.setCell (p := ⟨wA.heap.size + 1, _, none⟩) ?_ hwa1 _ | refine Below.setCell (p := ⟨wC.heap.size, _, none⟩) ?_ hwc _ | refine Below.alloc ?_ hw0 _ | refine Below.alloc ?_ hwa _ | refine Below.alloc ?_ (le_allocE hwa) _ | refine Below.alloc ?_ hwc _ | refine Below.drew ?_)))
        (first
          | (have hguard := HBa
             clear hguard
             go_simp
             go_at_call 5
             refine (HAP.out _ _ ?hh).mono ?_
             case hh => first | exact heap_last | exact heap_two | exact heap_second
             rintro e wC ⟨s3, c3, rfl, hbC⟩
             have hbc : Below v5.heap.size v5 wC := by
               first
                 | exact (HBa.out.alloc hwa _).trans (hbC.mono (le_allocE hwa))
                 | exact ((HBa.out.alloc hwa _).alloc (le_allocE hwa) _).trans (hbC.mono (le_allocE (le_allocE hwa)))
             have HBc := Lib.hid hbc
             have hwc : v5.heap.size ≤ wC.heap.size := hbc.size
             have lc : b1 < wC.heap.size := Nat.lt_of_lt_of_le hlb hwc
             first
               | (have hz := (hbC.block v5.heap.size (by first | exact lt2E hwra | exact lt3E hwra)).trans ((far2E hwra).trans HZ0'.out)
                  have HZq := Lib.hid hz
                  have qz := fun o => cell_of hz o
                  have fz := fun o => frozen_of hz o
                  have lz : v5.heap.size < wC.heap.size := (Array.getElem?_eq_some_iff.1 hz).1
                  clear hz)
               | (have hz : wC.heap[wA.heap.size + 1]? = some (.cells #[.int .i64 0, .bool false, .int .i64 0, .string { data := #[] }, .slice none 0 0] 24 (0, 0)) := (hbC.block (wA.heap.size + 1) (by show _ < ((wA.alloc _).alloc _).heap.size; simp)).trans heap_second
                  have HZq := Lib.hid hz
                  have qz := fun o => cell_of hz o
                  have fz := fun o => frozen_of hz o
                  have lz : wA.heap.size + 1 < wC.heap.size := (Array.getElem?_eq_some_iff.1 hz).1
                  clear hz)
               | (have hz : wC.heap[wA.heap.size]? = some (.cells #[.int .i64 0, .bool false, .int .i64 0, .string { data := #[] }, .slice none 0 0] 24 (0, 0)) := (hbC.block wA.heap.size (by show _ < ((wA.alloc _).alloc _).heap.size; simp; omega)).trans heap_two
                  have HZq := Lib.hid hz
                  have qz := fun o => cell_of hz o
                  have fz := fun o => frozen_of hz o
                  have lz : wA.heap.size < wC.heap.size := (Array.getElem?_eq_some_iff.1 hz).1
                  clear hz)
               | skip
             clear hbC hbc)
          | (go_simp
             go_at_call 4
             refine (num_any (-1) _).mono ?_
             rintro e wA ⟨rfl, hbA⟩
             have hba : Below v5.heap.size v5 wA := by
               first
                 | exact (Below.refl _ v5).drew.trans (hbA.mono hw0)
                 | exact ((Below.refl _ v5).alloc hw0 _).drew.trans (hbA.mono (le_allocE hw0))
             have HBa := Lib.hid hba
             have hwa : v5.heap.size ≤ wA.heap.size := hba.size
             have hwa1 : v5.heap.size ≤ wA.heap.size + 1 := Nat.le_trans hwa (Nat.le_succ _)
             have la : b1 < wA.heap.size := Nat.lt_of_lt_of_le hlb hwa
             have la' : b1 < wA.heap.size + 1 := by omega
             have na : b1 ≠ wA.heap.size := by omega
             first
               | (have hz : wA.heap[v5.heap.size]? = some (.cells #[.int .i64 0, .bool false, .int .i64 0, .string { data := #[] }, .slice none 0 0] 24 (0, 0)) := (hbA.block v5.heap.size (by show _ < (v5.alloc _).heap.size; simp)).trans heap_last
                  have HZ0' := Lib.hid hz
                  have hwra : v5.heap.size < wA.heap.size := (Array.getElem?_eq_some_iff.1 hz).1
                  clear hz)
               | skip
             unfold numA
             clear hbA hba))
      all_goals
        clear SH HAP
        go_wp2_with fail
        go_meet
        refine ⟨rfl, _, s3, c3, rfl, ?_, Lib.hid ?_⟩
        · first | exact set5E HZq.out _ _ _ _ _ | exact heap_last
        · repeat (with_reducible first | exact HBc.out | refine Below.setCell (p := ⟨v5.heap.size, _, none⟩) ?_ hw0 _ | refine Below.setCell (p := ⟨wA.heap.size, _, none⟩) ?_ hwa _ | refine Below.setCell (p := ⟨wA.heap.size + 1, _, none⟩) ?_ hwa1 _ | refine Below.setCell (p := ⟨wC.heap.size, _, none⟩) ?_ hwc _ | refine Below.alloc ?_ hwc _ | refine Below.drew ?_)
    case rest =>
      obtain ⟨rfl, b6, s6, c6, rfl, HQ, HBC⟩ := hcut
      clear SH HAP x0 x1 x2 x3 x4 lx hw0 hlb
      obtain ⟨v6, hvm⟩ : ∃ v, v = wc := ⟨_, rfl⟩
      rw [← hvm] at HBC HQ ⊢
      clear hvm
      have hb := HBC.out
      have HZ6 := Lib.hid (below_down HZ5.out hb (Nat.le_refl _))
      have Hb1_6 := Lib.hid (blk_below Hb1_5.out hb)
      clear HZ5 Hb1_5
      have Hb6_6 := HQ
      clear HQ
      clear hb HBC
      go_upto_region 5 with fail
      have hlb := blk_lt Hb1_6.out
      have SH : Hid (∀ w' : World, Below v6.heap.size v6 w' → (w'.cell? ⟨b1, 0, none⟩ = some (.int .i64 2) ∧ w'.cell? ⟨b1, 1, none⟩ = some (.bool false) ∧ w'.cell? ⟨b1, 2, none⟩ = some (.int .i64 (-9223372036854775808)) ∧ w'.cell? ⟨b1, 3, none⟩ = some (.string { data := #[] }) ∧ w'.cell? ⟨b1, 4, none⟩ = some (.slice none 0 0) ∧ b1 < w'.heap.size)) := fun w' hb => ⟨(hb.cell (p := ⟨b1, 0, none⟩) hlb).trans (cell_of Hb1_6.out 0), (hb.cell (p := ⟨b1, 1, none⟩) hlb).trans (cell_of Hb1_6.out 1), (hb.cell (p := ⟨b1, 2, none⟩) hlb).trans (cell_of Hb1_6.out 2), (hb.cell (p := ⟨b1, 3, none⟩) hlb).trans (cell_of Hb1_6.out 3), (hb.cell (p := ⟨b1, 4, none⟩) hlb).trans (cell_of Hb1_6.out 4), Nat.lt_of_lt_of_le hlb hb.size⟩
      have HAP : Hid (∀ (g : Nat) (w : World), w.heap[g]? = some (.cells #[.int .i64 2, .bool false, .int .i64 (-9223372036854775808), .string { data := #[] }, .slice none 0 0, .int .i64 2, .bool false, .int .i64 (-1), .string { data := #[] }, .slice none 0 0] 24 (0, 0)) → Calls Tryd.prog 5 #[.int .i64 18, .slice (some ⟨g, 0, none⟩) 2 2] w fun e w' => ∃ s c, e = .returned (.tuple #[.agg #[.int .i64 0, .bool false, .int .i64 0, .string { data := #[] }, .slice s 0 c], .int .i64 2]) ∧ Below w.heap.size w w') := H18
      have hw0 : v6.heap.size ≤ v6.heap.size := Nat.le_refl _
      obtain ⟨x0, x1, x2, x3, x4, lx⟩ := SH.out v6 (Below.refl _ _)
      go_cut [8, 9] (fun s1 s2 wx => s2 = .int .i64 2 ∧ Hid (Below v6.heap.size v6 wx))
      case first =>
        go_region_held3 (fun w' => w'.cell? ⟨b1, 0, none⟩ = some (.int .i64 2) ∧ w'.cell? ⟨b1, 1, none⟩ = some (.bool false) ∧ w'.cell? ⟨b1, 2, none⟩ = some (.int .i64 (-9223372036854775808)) ∧ w'.cell? ⟨b1, 3, none⟩ = some (.string { data := #[] }) ∧ w'.cell? ⟨b1, 4, none⟩ = some (.slice none 0 0) ∧ b1 < w'.heap.size)
          (first
            | (with_reducible refine SH.out _ ?_
               repeat (with_reducible first | exact HBc.out | exact HBa.out | exact Below.refl _ _ | refine Below.setCell (p := ⟨v6.heap.size, _, none⟩) ?_ hw0 _ | refine Below.setCell (p := ⟨wA.heap.size, _, none⟩) ?_ hwa _ | refine Below.setCell (p := ⟨wA.heap.size + 1, _, none⟩) ?_ hwa1 _ | refine Below.setCell (p := ⟨wC.heap.size, _, none⟩) ?_ hwc _ | refine Below.alloc ?_ hw0 _ | refine Below.alloc ?_ hwa _ | refine Below.alloc ?_ (le_allocE hwa) _ | refine Below.alloc ?_ hwc _ | refine Below.drew ?_)))
          (first
            | (have hguard := HBa
               clear hguard
               go_simp
               go_at_call 5
               refine (HAP.out _ _ ?hh).mono ?_
               case hh => first | exact heap_last | exact heap_two | exact heap_second
               rintro e wC ⟨s3, c3, rfl, hbC⟩
               have hbc : Below v6.heap.size v6 wC := by
                 first
                   | exact (HBa.out.alloc hwa _).trans (hbC.mono (le_allocE hwa))
                   | exact ((HBa.out.alloc hwa _).alloc (le_allocE hwa) _).trans (hbC.mono (le_allocE (le_allocE hwa)))
               have HBc := Lib.hid hbc
               have hwc : v6.heap.size ≤ wC.heap.size := hbc.size
               have lc : b1 < wC.heap.size := Nat.lt_of_lt_of_le hlb hwc
               first
                 | (have hz := (hbC.block v6.heap.size (by first | exact lt2E hwra | exact lt3E hwra)).trans ((far2E hwra).trans HZ0'.out)
                    have HZq := Lib.hid hz
                    have qz := fun o => cell_of hz o
                    have fz := fun o => frozen_of hz o
                    have lz : v6.heap.size < wC.heap.size := (Array.getElem?_eq_some_iff.1 hz).1
                    clear hz)
                 | (have hz : wC.heap[wA.heap.size + 1]? = some (.cells #[.int .i64 0, .bool false, .int .i64 0, .string { data := #[] }, .slice none 0 0] 24 (0, 0)) := (hbC.block (wA.heap.size + 1) (by show _ < ((wA.alloc _).alloc _).heap.size; simp)).trans heap_second
                    have HZq := Lib.hid hz
                    have qz := fun o => cell_of hz o
                    have fz := fun o => frozen_of hz o
                    have lz : wA.heap.size + 1 < wC.heap.size := (Array.getElem?_eq_some_iff.1 hz).1
                    clear hz)
                 | (have hz : wC.heap[wA.heap.size]? = some (.cells #[.int .i64 0, .bool false, .int .i64 0, .string { data := #[] }, .slice none 0 0] 24 (0, 0)) := (hbC.block wA.heap.size (by show _ < ((wA.alloc _).alloc _).heap.size; simp; omega)).trans heap_two
                    have HZq := Lib.hid hz
                    have qz := fun o => cell_of hz o
                    have fz := fun o => frozen_of hz o
                    have lz : wA.heap.size < wC.heap.size := (Array.getElem?_eq_some_iff.1 hz).1
                    clear hz)
                 | skip
               clear hbC hbc)
            | (go_simp
               go_at_call 4
               refine (num_any (-1) _).mono ?_
               rintro e wA ⟨rfl, hbA⟩
               have hba : Below v6.heap.size v6 wA := by
                 first
                   | exact (Below.refl _ v6).drew.trans (hbA.mono hw0)
                   | exact ((Below.refl _ v6).alloc hw0 _).drew.trans (hbA.mono (le_allocE hw0))
               have HBa := Lib.hid hba
               have hwa : v6.heap.size ≤ wA.heap.size := hba.size
               have hwa1 : v6.heap.size ≤ wA.heap.size + 1 := Nat.le_trans hwa (Nat.le_succ _)
               have la : b1 < wA.heap.size := Nat.lt_of_lt_of_le hlb hwa
               have la' : b1 < wA.heap.size + 1 := by omega
               have na : b1 ≠ wA.heap.size := by omega
               first
                 | (have hz : wA.heap[v6.heap.size]? = some (.cells #[.int .i64 0, .bool false, .int .i64 0, .string { data := #[] }, .slice none 0 0] 24 (0, 0)) := (hbA.block v6.heap.size (by show _ < (v6.alloc _).heap.size; simp)).trans heap_last
                    have HZ0' := Lib.hid hz
                    have hwra : v6.heap.size < wA.heap.size := (Array.getElem?_eq_some_iff.1 hz).1
                    clear hz)
                 | skip
               unfold numA
               clear hbA hba))
        all_goals
          clear SH HAP
          go_wp2_with fail
          go_meet
          refine ⟨rfl, Lib.hid ?_⟩
          repeat (with_reducible first | exact HBc.out | refine Below.setCell (p := ⟨v6.heap.size, _, none⟩) ?_ hw0 _ | refine Below.setCell (p := ⟨wA.heap.size, _, none⟩) ?_ hwa _ | refine Below.setCell (p := ⟨wA.heap.size + 1, _, none⟩) ?_ hwa1 _ | refine Below.setCell (p := ⟨wC.heap.size, _, none⟩) ?_ hwc _ | refine Below.alloc ?_ hwc _ | refine Below.drew ?_)
      case rest =>
        obtain ⟨rfl, HBC⟩ := hcut
        clear SH HAP x0 x1 x2 x3 x4 lx hw0 hlb
        obtain ⟨v7, hvm⟩ : ∃ v, v = wc := ⟨_, rfl⟩
        rw [← hvm] at HBC ⊢
        clear hvm
        have hb := HBC.out
        have HZ7 := Lib.hid (below_down HZ6.out hb (Nat.le_refl _))
        have Hb1_7 := Lib.hid (blk_below Hb1_6.out hb)
        have Hb6_7 := Lib.hid (blk_below Hb6_6.out hb)
        clear HZ6 Hb1_6 Hb6_6
        clear hb HBC
        clear Hb1_7
        go_wp2_with fail
        refine (num_any 9223372036854775807 v7).mono ?_
        rintro e v8 ⟨rfl, hb⟩
        have HZ8 := Lib.hid (below_down HZ7.out hb (Nat.le_refl _))
        have Hb6_8 := Lib.hid (blk_below Hb6_7.out hb)
        clear HZ7 Hb6_7
        clear hb
        unfold numA
        go_wp2_with fail
        refine (num_any 1 v8).mono ?_
        rintro e v9 ⟨rfl, hb⟩
        have HZ9 := Lib.hid (below_down HZ8.out hb (Nat.le_refl _))
        have Hb6_9 := Lib.hid (blk_below Hb6_8.out hb)
        clear HZ8 Hb6_8
        clear hb
        unfold numA
        go_wp2_with fail
        refine (num_any (-1) v9).mono ?_
        rintro e v10 ⟨rfl, hb⟩
        have HZ10 := Lib.hid (below_down HZ9.out hb (Nat.le_refl _))
        have Hb6_10 := Lib.hid (blk_below Hb6_9.out hb)
        clear HZ9 Hb6_9
        clear hb
        unfold numA
        go_wp2_with fail
        obtain ⟨g6, hg6⟩ : ∃ g, g = v10.heap.size := ⟨_, rfl⟩
        obtain ⟨v11, hv⟩ : ∃ v, v = v10.alloc (.cells #[.int .i64 2, .bool false, .int .i64 9223372036854775807, .string { data := #[] }, .slice none 0 0, .int .i64 2, .bool false, .int .i64 1, .string { data := #[] }, .slice none 0 0, .int .i64 2, .bool false, .int .i64 (-1), .string { data := #[] }, .slice none 0 0] 24) := ⟨_, rfl⟩
        have hsv : v11.heap.size = v10.heap.size + 1 := by rw [hv]; simp
        have hx : v11.heap[g6]? = some (.cells #[.int .i64 2, .bool false, .int .i64 9223372036854775807, .string { data := #[] }, .slice none 0 0, .int .i64 2, .bool false, .int .i64 1, .string { data := #[] }, .slice none 0 0, .int .i64 2, .bool false, .int .i64 (-1), .string { data := #[] }, .slice none 0 0] 24 (0, 0)) := by rw [hv, hg6]; exact heap_last
        have hb : Below v10.heap.size v10 v11 := by rw [hv]; exact (Below.refl _ _).alloc (Nat.le_refl _) _
        rw [← hv]
        have HZ11 := Lib.hid (below_down HZ10.out hb (Nat.le_refl _))
        have Hb6_11 := Lib.hid (blk_below Hb6_10.out hb)
        clear HZ10 Hb6_10
        have Hg6_11 := Lib.hid hx
        clear hv hx hb
        rw [← hg6]
        clear hsv hg6
        refine (HSUM.out g6 v11 Hg6_11.out).mono ?_
        rintro e v12 ⟨s6, c6, rfl, hb⟩
        have HZ12 := Lib.hid (below_down HZ11.out hb (Nat.le_refl _))
        have Hb6_12 := Lib.hid (blk_below Hb6_11.out hb)
        have Hg6_12 := Lib.hid (blk_below Hg6_11.out hb)
        clear HZ11 Hb6_11 Hg6_11
        clear hb
        clear Hg6_12
        go_upto_region 7 with fail
        obtain ⟨b10, hb10⟩ : ∃ g, g = v12.heap.size := ⟨_, rfl⟩
        obtain ⟨v13, hv⟩ : ∃ v, v = v12.alloc (.cells #[.int .i64 2, .bool false, .int .i64 9223372036854775807, .string { data := #[] }, .slice s6 0 c6] 24) := ⟨_, rfl⟩
        have hsv : v13.heap.size = v12.heap.size + 1 := by rw [hv]; simp
        have hx : v13.heap[b10]? = some (.cells #[.int .i64 2, .bool false, .int .i64 9223372036854775807, .string { data := #[] }, .slice s6 0 c6] 24 (0, 0)) := by rw [hv, hb10]; exact heap_last
        have hb : Below v12.heap.size v12 v13 := by rw [hv]; exact (Below.refl _ _).alloc (Nat.le_refl _) _
        rw [← hv]
        have HZ13 := Lib.hid (below_down HZ12.out hb (Nat.le_refl _))
        have Hb6_13 := Lib.hid (blk_below Hb6_12.out hb)
        clear HZ12 Hb6_12
        have Hb10_13 := Lib.hid hx
        clear hv hx hb
        rw [← hb10]
        clear hsv hb10
        have qb6 := fun o => cell_of Hb6_13.out o
        have lb6 := blk_lt Hb6_13.out
        have nb6 : b6 ≠ v13.heap.size := by omega
        have qb10 := fun o => cell_of Hb10_13.out o
        have lb10 := blk_lt Hb10_13.out
        have nb10 : b10 ≠ v13.heap.size := by omega
        go_upto_region 9 with fail
        clear qb6 lb6 nb6 qb10 lb10 nb10
        clear Hb6_13
        clear Hb10_13
        have hmk := made_long v13
        rw [← HZz.out] at hmk
        go_upto_region 10 with fail
        clear hmk
        obtain ⟨gL, hgL⟩ : ∃ g, g = v13.heap.size := ⟨_, rfl⟩
        obtain ⟨v14, hv⟩ : ∃ v, v = v13.alloc (.cells Z 24) := ⟨_, rfl⟩
        have hsv : v14.heap.size = v13.heap.size + 1 := by rw [hv]; simp
        have hx : v14.heap[gL]? = some (.cells Z 24 (0, 0)) := by rw [hv, hgL]; exact heap_last
        have hb : Below v13.heap.size v13 v14 := by rw [hv]; exact (Below.refl _ _).alloc (Nat.le_refl _) _
        rw [← hv]
        have HZ14 := Lib.hid (below_down HZ13.out hb (Nat.le_refl _))
        clear HZ13 
        have HgL_14 := Lib.hid hx
        clear hv hx hb
        rw [← hgL] at hsv ⊢
        rw [← hsv]
        clear hsv
        obtain ⟨b12, hb12⟩ : ∃ g, g = v14.heap.size := ⟨_, rfl⟩
        obtain ⟨v15, hv⟩ : ∃ v, v = v14.alloc (.cells #[.int .i64 4, .bool false, .int .i64 0, .string { data := #[] }, .slice (some ⟨gL, 0, none⟩) 4096 4096] 24) := ⟨_, rfl⟩
        have hsv : v15.heap.size = v14.heap.size + 1 := by rw [hv]; simp
        have hx : v15.heap[b12]? = some (.cells #[.int .i64 4, .bool false, .int .i64 0, .string { data := #[] }, .slice (some ⟨gL, 0, none⟩) 4096 4096] 24 (0, 0)) := by rw [hv, hb12]; exact heap_last
        have hb : Below v14.heap.size v14 v15 := by rw [hv]; exact (Below.refl _ _).alloc (Nat.le_refl _) _
        rw [← hv]
        have HZ15 := Lib.hid (below_down HZ14.out hb (Nat.le_refl _))
        have HgL_15 := Lib.hid (blk_below HgL_14.out hb)
        clear HZ14 HgL_14
        have Hb12_15 := Lib.hid hx
        clear hv hx hb
        rw [← hb12]
        clear hsv hgL hb12
        have hmk := made_bytes v15
        rw [← HYy.out] at hmk
        have hcv := bytes_text (v15.alloc (.cells Y 5)) v15.heap.size (by rw [HYy.out]; exact heap_last)
        rw [← HTx.out] at hcv
        go_upto_region 11 with fail
        clear hmk hcv
        obtain ⟨gT, hgT⟩ : ∃ g, g = v15.heap.size := ⟨_, rfl⟩
        obtain ⟨v16, hv⟩ : ∃ v, v = v15.alloc (.cells Y 5) := ⟨_, rfl⟩
        have hsv : v16.heap.size = v15.heap.size + 1 := by rw [hv]; simp
        have hx : v16.heap[gT]? = some (.cells Y 5 (0, 0)) := by rw [hv, hgT]; exact heap_last
        have hb : Below v15.heap.size v15 v16 := by rw [hv]; exact (Below.refl _ _).alloc (Nat.le_refl _) _
        rw [← hv]
        have HZ16 := Lib.hid (below_down HZ15.out hb (Nat.le_refl _))
        have HgL_16 := Lib.hid (blk_below HgL_15.out hb)
        have Hb12_16 := Lib.hid (blk_below Hb12_15.out hb)
        clear HZ15 HgL_15 Hb12_15
        have HgT_16 := Lib.hid hx
        clear hv hx hb
        rw [← hgT] at hsv ⊢
        rw [← hsv]
        clear hsv
        obtain ⟨b13, hb13⟩ : ∃ g, g = v16.heap.size := ⟨_, rfl⟩
        obtain ⟨v17, hv⟩ : ∃ v, v = v16.alloc (.cells #[.int .i64 3, .bool false, .int .i64 0, .string tx, .slice none 0 0] 24) := ⟨_, rfl⟩
        have hsv : v17.heap.size = v16.heap.size + 1 := by rw [hv]; simp
        have hx : v17.heap[b13]? = some (.cells #[.int .i64 3, .bool false, .int .i64 0, .string tx, .slice none 0 0] 24 (0, 0)) := by rw [hv, hb13]; exact heap_last
        have hb : Below v16.heap.size v16 v17 := by rw [hv]; exact (Below.refl _ _).alloc (Nat.le_refl _) _
        rw [← hv]
        have HZ17 := Lib.hid (below_down HZ16.out hb (Nat.le_refl _))
        have HgL_17 := Lib.hid (blk_below HgL_16.out hb)
        have Hb12_17 := Lib.hid (blk_below Hb12_16.out hb)
        have HgT_17 := Lib.hid (blk_below HgT_16.out hb)
        clear HZ16 HgL_16 Hb12_16 HgT_16
        have Hb13_17 := Lib.hid hx
        clear hv hx hb
        rw [← hb13]
        clear hsv hgT hb13
        clear HgT_17
        have qb12 := fun o => cell_of Hb12_17.out o
        have lb12 := blk_lt Hb12_17.out
        have nb12 : b12 ≠ v17.heap.size := by omega
        go_wp2_with fail
        clear qb12 lb12 nb12
        obtain ⟨g11, hg11⟩ : ∃ g, g = v17.heap.size := ⟨_, rfl⟩
        obtain ⟨v18, hv⟩ : ∃ v, v = v17.alloc (.cells #[.int .i64 4, .bool false, .int .i64 0, .string { data := #[] }, .slice (some ⟨gL, 0, none⟩) 4096 4096, .int .i64 4, .bool false, .int .i64 0, .string { data := #[] }, .slice none 0 0] 24) := ⟨_, rfl⟩
        have hsv : v18.heap.size = v17.heap.size + 1 := by rw [hv]; simp
        have hx : v18.heap[g11]? = some (.cells #[.int .i64 4, .bool false, .int .i64 0, .string { data := #[] }, .slice (some ⟨gL, 0, none⟩) 4096 4096, .int .i64 4, .bool false, .int .i64 0, .string { data := #[] }, .slice none 0 0] 24 (0, 0)) := by rw [hv, hg11]; exact heap_last
        have hb : Below v17.heap.size v17 v18 := by rw [hv]; exact (Below.refl _ _).alloc (Nat.le_refl _) _
        rw [← hv]
        have HZ18 := Lib.hid (below_down HZ17.out hb (Nat.le_refl _))
        have HgL_18 := Lib.hid (blk_below HgL_17.out hb)
        have Hb12_18 := Lib.hid (blk_below Hb12_17.out hb)
        have Hb13_18 := Lib.hid (blk_below Hb13_17.out hb)
        clear HZ17 HgL_17 Hb12_17 Hb13_17
        have Hg11_18 := Lib.hid hx
        clear hv hx hb
        rw [← hg11]
        clear hsv hg11
        refine (HP0.out g11 gL v18 Hg11_18.out HgL_18.out).mono ?_
        rintro e v19 ⟨K1, N1, t1, s1, n1, c1, rfl, hb⟩
        have HZ19 := Lib.hid (below_down HZ18.out hb (Nat.le_refl _))
        have HgL_19 := Lib.hid (blk_below HgL_18.out hb)
        have Hb12_19 := Lib.hid (blk_below Hb12_18.out hb)
        have Hb13_19 := Lib.hid (blk_below Hb13_18.out hb)
        have Hg11_19 := Lib.hid (blk_below Hg11_18.out hb)
        clear HZ18 HgL_18 Hb12_18 Hb13_18 Hg11_18
        clear hb
        clear Hg11_19
        go_upto_region 12 with fail
        obtain ⟨b14, hb14⟩ : ∃ g, g = v19.heap.size := ⟨_, rfl⟩
        obtain ⟨v20, hv⟩ : ∃ v, v = v19.alloc (.cells #[.int .i64 K1, .bool false, .int .i64 N1, .string t1, .slice s1 n1 c1] 24) := ⟨_, rfl⟩
        have hsv : v20.heap.size = v19.heap.size + 1 := by rw [hv]; simp
        have hx : v20.heap[b14]? = some (.cells #[.int .i64 K1, .bool false, .int .i64 N1, .string t1, .slice s1 n1 c1] 24 (0, 0)) := by rw [hv, hb14]; exact heap_last
        have hb : Below v19.heap.size v19 v20 := by rw [hv]; exact (Below.refl _ _).alloc (Nat.le_refl _) _
        rw [← hv]
        have HZ20 := Lib.hid (below_down HZ19.out hb (Nat.le_refl _))
        have HgL_20 := Lib.hid (blk_below HgL_19.out hb)
        have Hb12_20 := Lib.hid (blk_below Hb12_19.out hb)
        have Hb13_20 := Lib.hid (blk_below Hb13_19.out hb)
        clear HZ19 HgL_19 Hb12_19 Hb13_19
        have Hb14_20 := Lib.hid hx
        clear hv hx hb
        rw [← hb14]
        clear hsv hb14
        clear Hb14_20
        have hlb := blk_lt Hb12_20.out
        have SH : Hid (∀ w' : World, Below v20.heap.size v20 w' → (w'.cell? ⟨b12, 0, none⟩ = some (.int .i64 4) ∧ w'.cell? ⟨b12, 1, none⟩ = some (.bool false) ∧ w'.cell? ⟨b12, 2, none⟩ = some (.int .i64 0) ∧ w'.cell? ⟨b12, 3, none⟩ = some (.string { data := #[] }) ∧ w'.cell? ⟨b12, 4, none⟩ = some (.slice (some ⟨gL, 0, none⟩) 4096 4096) ∧ b12 < w'.heap.size)) := fun w' hb => ⟨(hb.cell (p := ⟨b12, 0, none⟩) hlb).trans (cell_of Hb12_20.out 0), (hb.cell (p := ⟨b12, 1, none⟩) hlb).trans (cell_of Hb12_20.out 1), (hb.cell (p := ⟨b12, 2, none⟩) hlb).trans (cell_of Hb12_20.out 2), (hb.cell (p := ⟨b12, 3, none⟩) hlb).trans (cell_of Hb12_20.out 3), (hb.cell (p := ⟨b12, 4, none⟩) hlb).trans (cell_of Hb12_20.out 4), Nat.lt_of_lt_of_le hlb hb.size⟩
        have HAP : Hid (∀ (g h : Nat) (w : World), Below v20.heap.size v20 w → w.heap[g]? = some (.cells #[.int .i64 4, .bool false, .int .i64 0, .string { data := #[] }, .slice (some ⟨gL, 0, none⟩) 4096 4096, .int .i64 4, .bool false, .int .i64 0, .string { data := #[] }, .slice (some ⟨h, 0, none⟩) 1 1] 24 (0, 0)) → w.heap[h]? = some (.cells #[.int .i64 0, .bool false, .int .i64 0, .string { data := #[] }, .slice none 0 0] 24 (0, 0)) → Calls Tryd.prog 5 #[.int .i64 16, .slice (some ⟨g, 0, none⟩) 2 2] w fun e w' => ∃ K N t s n c, e = .returned (.tuple #[.agg #[.int .i64 K, .bool false, .int .i64 N, .string t, .slice s n c], .int .i64 2]) ∧ Below w.heap.size w w') := fun g h w hb h1 h2 => HP1.out g h gL w h1 h2 (blk_below HgL_20.out hb)
        have hw0 : v20.heap.size ≤ v20.heap.size := Nat.le_refl _
        obtain ⟨x0, x1, x2, x3, x4, lx⟩ := SH.out v20 (Below.refl _ _)
        go_cut [16, 17] (fun s1 s2 wx => s2 = .int .i64 2 ∧ Hid (Below v20.heap.size v20 wx))
        case first =>
          have hmk1 := made_one
          go_region_held3 (fun w' => w'.cell? ⟨b12, 0, none⟩ = some (.int .i64 4) ∧ w'.cell? ⟨b12, 1, none⟩ = some (.bool false) ∧ w'.cell? ⟨b12, 2, none⟩ = some (.int .i64 0) ∧ w'.cell? ⟨b12, 3, none⟩ = some (.string { data := #[] }) ∧ w'.cell? ⟨b12, 4, none⟩ = some (.slice (some ⟨gL, 0, none⟩) 4096 4096) ∧ b12 < w'.heap.size)
            (first
              | (with_reducible refine SH.out _ ?_
                 repeat (with_reducible first | exact HBc.out | exact Below.refl _ _ | refine Below.setCell (p := ⟨v20.heap.size, _, none⟩) ?_ hw0 _ | refine Below.setCell (p := ⟨v20.heap.size + 1, _, none⟩) ?_ (Nat.le_succ _) _ | refine Below.setCell (p := ⟨v20.heap.size + 1 + 1, _, none⟩) ?_ (Nat.le_add_right _ 2) _ | refine Below.setCell (p := ⟨v20.heap.size + 2, _, none⟩) ?_ (Nat.le_add_right _ 2) _ | refine Below.setCell (p := ⟨wC.heap.size, _, none⟩) ?_ hwc _ | refine Below.alloc ?_ hw0 _ | refine Below.alloc ?_ (le_allocE hw0) _ | refine Below.alloc ?_ (le_allocE (le_allocE hw0)) _ | refine Below.alloc ?_ hwc _ | refine Below.drew ?_)))
            (first
              | (go_simp
                 go_at_call 5
                 apply Calls.mono
                 · apply HAP.out
                   · repeat (with_reducible first | exact Below.refl _ _ | refine Below.alloc ?_ hw0 _ | refine Below.alloc ?_ (le_allocE hw0) _ | refine Below.alloc ?_ (le_allocE (le_allocE hw0)) _ | refine Below.drew ?_)
                   · first | exact heap_last | exact heap_two | exact heap_second | exact heap_3a | exact heap_3b | exact heap_3c
                   · first | exact heap_last | exact heap_two | exact heap_second | exact heap_3a | exact heap_3b | exact heap_3c
                 rintro e wC ⟨K3, N3, t3, s3, n3, c3, rfl, hbC⟩
                 have hbc : Below v20.heap.size v20 wC := by
                   refine below_down ?_ hbC (by first | exact hw0 | exact le_allocE hw0 | exact le_allocE (le_allocE hw0) | exact le_allocE (le_allocE (le_allocE hw0)) | (simp; done))
                   repeat (with_reducible first | exact Below.refl _ _ | refine Below.alloc ?_ hw0 _ | refine Below.alloc ?_ (le_allocE hw0) _ | refine Below.alloc ?_ (le_allocE (le_allocE hw0)) _ | refine Below.drew ?_)
                 have HBc := Lib.hid hbc
                 have hwc : v20.heap.size ≤ wC.heap.size := hbc.size
                 have lc : b12 < wC.heap.size := Nat.lt_of_lt_of_le hlb hwc
                 first
                   | (with_reducible have hz := far3a hbC
                      have qz := fun o => cell_of hz o
                      have fz := fun o => frozen_of hz o
                      have lz : v20.heap.size < wC.heap.size := (Array.getElem?_eq_some_iff.1 hz).1
                      clear hz)
                   | skip
                 first
                   | (with_reducible have hz := far3b hbC
                      have qz1 := fun o => cell_of hz o
                      have fz1 := fun o => frozen_of hz o
                      have lz1 : v20.heap.size + 1 < wC.heap.size := (Array.getElem?_eq_some_iff.1 hz).1
                      clear hz)
                   | skip
                 first
                   | (with_reducible have hz := far3c hbC
                      have qz2 := fun o => cell_of hz o
                      have fz2 := fun o => frozen_of hz o
                      have lz2 : v20.heap.size + 2 < wC.heap.size := (Array.getElem?_eq_some_iff.1 hz).1
                      clear hz)
                   | skip
                 clear hbC hbc))
          all_goals
            clear SH HAP
            go_wp2_with fail
            go_meet
            refine ⟨rfl, Lib.hid ?_⟩
            repeat (with_reducible first | exact HBc.out | refine Below.setCell (p := ⟨v20.heap.size, _, none⟩) ?_ hw0 _ | refine Below.setCell (p := ⟨v20.heap.size + 1, _, none⟩) ?_ (Nat.le_succ _) _ | refine Below.setCell (p := ⟨v20.heap.size + 1 + 1, _, none⟩) ?_ (Nat.le_add_right _ 2) _ | refine Below.setCell (p := ⟨v20.heap.size + 2, _, none⟩) ?_ (Nat.le_add_right _ 2) _ | refine Below.setCell (p := ⟨wC.heap.size, _, none⟩) ?_ hwc _ | refine Below.alloc ?_ hwc _ | refine Below.drew ?_)
        case rest =>
          obtain ⟨rfl, HBC⟩ := hcut
          clear SH HAP x0 x1 x2 x3 x4 lx hw0 hlb
          obtain ⟨v21, hvm⟩ : ∃ v, v = wc := ⟨_, rfl⟩
          rw [← hvm] at HBC ⊢
          clear hvm
          have hb := HBC.out
          have HZ21 := Lib.hid (below_down HZ20.out hb (Nat.le_refl _))
          have HgL_21 := Lib.hid (blk_below HgL_20.out hb)
          have Hb12_21 := Lib.hid (blk_below Hb12_20.out hb)
          have Hb13_21 := Lib.hid (blk_below Hb13_20.out hb)
          clear HZ20 HgL_20 Hb12_20 Hb13_20
          clear hb HBC
          clear HgL_21
          clear Hb12_21
          have qb13 := fun o => cell_of Hb13_21.out o
          have lb13 := blk_lt Hb13_21.out
          have nb13 : b13 ≠ v21.heap.size := by omega
          go_wp2_with fail
          clear qb13 lb13 nb13
          obtain ⟨g13, hg13⟩ : ∃ g, g = v21.heap.size := ⟨_, rfl⟩
          obtain ⟨v22, hv⟩ : ∃ v, v = v21.alloc (.cells #[.int .i64 3, .bool false, .int .i64 0, .string tx, .slice none 0 0, .int .i64 3, .bool false, .int .i64 0, .string { data := #[] }, .slice none 0 0] 24) := ⟨_, rfl⟩
          have hsv : v22.heap.size = v21.heap.size + 1 := by rw [hv]; simp
          have hx : v22.heap[g13]? = some (.cells #[.int .i64 3, .bool false, .int .i64 0, .string tx, .slice none 0 0, .int .i64 3, .bool false, .int .i64 0, .string { data := #[] }, .slice none 0 0] 24 (0, 0)) := by rw [hv, hg13]; exact heap_last
          have hb : Below v21.heap.size v21 v22 := by rw [hv]; exact (Below.refl _ _).alloc (Nat.le_refl _) _
          rw [← hv]
          have HZ22 := Lib.hid (below_down HZ21.out hb (Nat.le_refl _))
          have Hb13_22 := Lib.hid (blk_below Hb13_21.out hb)
          clear HZ21 Hb13_21
          have Hg13_22 := Lib.hid hx
          clear hv hx hb
          rw [← hg13]
          clear hsv hg13
          refine (HT0.out g13 v22 Hg13_22.out).mono ?_
          rintro e v23 ⟨K5, N5, t5, s5, n5, c5, rfl, hb⟩
          have HZ23 := Lib.hid (below_down HZ22.out hb (Nat.le_refl _))
          have Hb13_23 := Lib.hid (blk_below Hb13_22.out hb)
          have Hg13_23 := Lib.hid (blk_below Hg13_22.out hb)
          clear HZ22 Hb13_22 Hg13_22
          clear hb
          clear Hg13_23
          go_upto_region 14 with fail
          obtain ⟨b18, hb18⟩ : ∃ g, g = v23.heap.size := ⟨_, rfl⟩
          obtain ⟨v24, hv⟩ : ∃ v, v = v23.alloc (.cells #[.int .i64 K5, .bool false, .int .i64 N5, .string t5, .slice s5 n5 c5] 24) := ⟨_, rfl⟩
          have hsv : v24.heap.size = v23.heap.size + 1 := by rw [hv]; simp
          have hx : v24.heap[b18]? = some (.cells #[.int .i64 K5, .bool false, .int .i64 N5, .string t5, .slice s5 n5 c5] 24 (0, 0)) := by rw [hv, hb18]; exact heap_last
          have hb : Below v23.heap.size v23 v24 := by rw [hv]; exact (Below.refl _ _).alloc (Nat.le_refl _) _
          rw [← hv]
          have HZ24 := Lib.hid (below_down HZ23.out hb (Nat.le_refl _))
          have Hb13_24 := Lib.hid (blk_below Hb13_23.out hb)
          clear HZ23 Hb13_23
          have Hb18_24 := Lib.hid hx
          clear hv hx hb
          rw [← hb18]
          clear hsv hb18
          clear Hb18_24
          have qb13 := fun o => cell_of Hb13_24.out o
          have lb13 := blk_lt Hb13_24.out
          have nb13 : b13 ≠ v24.heap.size := by omega
          go_wp2_with fail
          clear qb13 lb13 nb13
          clear Hb13_24
          obtain ⟨g14, hg14⟩ : ∃ g, g = v24.heap.size := ⟨_, rfl⟩
          obtain ⟨v25, hv⟩ : ∃ v, v = v24.alloc (.cells #[.int .i64 3, .bool false, .int .i64 0, .string tx, .slice none 0 0, .int .i64 3, .bool false, .int .i64 0, .string { data := #[97] }, .slice none 0 0] 24) := ⟨_, rfl⟩
          have hsv : v25.heap.size = v24.heap.size + 1 := by rw [hv]; simp
          have hx : v25.heap[g14]? = some (.cells #[.int .i64 3, .bool false, .int .i64 0, .string tx, .slice none 0 0, .int .i64 3, .bool false, .int .i64 0, .string { data := #[97] }, .slice none 0 0] 24 (0, 0)) := by rw [hv, hg14]; exact heap_last
          have hb : Below v24.heap.size v24 v25 := by rw [hv]; exact (Below.refl _ _).alloc (Nat.le_refl _) _
          rw [← hv]
          have HZ25 := Lib.hid (below_down HZ24.out hb (Nat.le_refl _))
          clear HZ24 
          have Hg14_25 := Lib.hid hx
          clear hv hx hb
          rw [← hg14]
          clear hsv hg14
          refine (HT1.out g14 v25 Hg14_25.out).mono ?_
          rintro e v26 ⟨K7, N7, t7, s7, n7, c7, rfl, hb⟩
          have HZ26 := Lib.hid (below_down HZ25.out hb (Nat.le_refl _))
          have Hg14_26 := Lib.hid (blk_below Hg14_25.out hb)
          clear HZ25 Hg14_25
          clear hb
          clear Hg14_26
          go_upto_region 15 with fail
          obtain ⟨b20, hb20⟩ : ∃ g, g = v26.heap.size := ⟨_, rfl⟩
          obtain ⟨v27, hv⟩ : ∃ v, v = v26.alloc (.cells #[.int .i64 K7, .bool false, .int .i64 N7, .string t7, .slice s7 n7 c7] 24) := ⟨_, rfl⟩
          have hsv : v27.heap.size = v26.heap.size + 1 := by rw [hv]; simp
          have hx : v27.heap[b20]? = some (.cells #[.int .i64 K7, .bool false, .int .i64 N7, .string t7, .slice s7 n7 c7] 24 (0, 0)) := by rw [hv, hb20]; exact heap_last
          have hb : Below v26.heap.size v26 v27 := by rw [hv]; exact (Below.refl _ _).alloc (Nat.le_refl _) _
          rw [← hv]
          have HZ27 := Lib.hid (below_down HZ26.out hb (Nat.le_refl _))
          clear HZ26 
          have Hb20_27 := Lib.hid hx
          clear hv hx hb
          rw [← hb20]
          clear hsv hb20
          clear Hb20_27
          go_upto_region 16 with fail
          have hge := HZ27.out.size
          obtain ⟨b22, hb22⟩ : ∃ g, g = v27.heap.size := ⟨_, rfl⟩
          obtain ⟨v28, hv⟩ : ∃ v, v = v27.alloc (.cells #[.int .i64 4, .bool false, .int .i64 0, .string { data := #[] }, .slice none 0 0] 24) := ⟨_, rfl⟩
          have hsv : v28.heap.size = v27.heap.size + 1 := by rw [hv]; simp
          have hx : v28.heap[b22]? = some (.cells #[.int .i64 4, .bool false, .int .i64 0, .string { data := #[] }, .slice none 0 0] 24 (0, 0)) := by rw [hv, hb22]; exact heap_last
          have hb : Below v27.heap.size v27 v28 := by rw [hv]; exact (Below.refl _ _).alloc (Nat.le_refl _) _
          rw [← hv]
          have HZ28 := Lib.hid (below_down HZ27.out hb (Nat.le_refl _))
          clear HZ27 
          have Hb22_28 := Lib.hid hx
          clear hv hx hb
          rw [← hb22] at hge
          have HGE := Lib.hid hge
          clear hge
          rw [← hb22]
          clear hsv hb22
          have hlb := blk_lt Hb22_28.out
          go_wp2_with fail
          go_loopw [23] (fun i wr => ∃ (k ca n : Nat) (aa : Option Addr), k ≤ 29 ∧ i = .int .i64 ((k : Int) + 1) ∧ Hid (Below w.heap.size w wr) ∧ b22 < wr.heap.size ∧ n = (nestG k).l.length ∧ Hid (wr.heap[b22]? = some (.cells #[.int .i64 4, .bool false, .int .i64 0, .string { data := #[] }, .slice aa n ca] 24 (0, 0))) ∧ Hid (isL wr (b22 + 1) wr.heap.size (.slice aa n ca) (nestG k).l)) (fun i _ => 30 - (intOf i).toNat)
          case atStart => exact ⟨0, 0, 0, none, by omega, rfl, HZ28, hlb, rfl, Hb22_28, isL_nil _ _⟩
          case round =>
            obtain ⟨k, ca, n, aa, hk, rfl, HB, hsz, hn, HE, HX⟩ := hrel
            have q1 := fun o => cell_of HE.out o
            have f1 := fun o => frozen_of HE.out o
            have hne : b22 ≠ wr.heap.size := by omega
            have HN := Lib.hid hn
            clear hn
            by_cases hlt : k < 29
            · have hd : decide ((k : Int) + 1 < 30) = true := by simp; omega
              have hd2 : decide ((k : Int) < 29) = true := by simp; omega
              have hd3 : decide (k < 29) = true := by simp; omega
              go_wp2_with fail
              go_roundw
              case rel => exact nest_round HB.out HGE.out hsz HE.out HN.out HX.out hlt _ (by go_num) _ (nest_world hsz)
              case measure => simp [intOf]; omega
            · obtain rfl : k = 29 := by omega
              clear hlt hk
              have e30 : ((29 : Nat) : Int) + 1 = 30 := rfl
              rw [e30]
              clear e30
              obtain ⟨v100, hv100⟩ : ∃ v, v = wr := ⟨_, rfl⟩
              rw [← hv100] at HB HE HX ⊢
              clear q1 f1 hne hsz hv100 HGE
              have HZ100 := HB
              have Hb22_100 := HE
              have HX_100 : Hid (isL v100 0 v100.heap.size (.slice aa n ca) (nestG 29).l) := Lib.hid (isL_wide HX.out (Nat.zero_le _) (Nat.le_refl _))
              clear HB HE HX
              have qb22 := fun o => cell_of Hb22_100.out o
              have lb22 := blk_lt Hb22_100.out
              have nb22 : b22 ≠ v100.heap.size := by omega
              go_wp2_with fail
              clear qb22 lb22 nb22
              obtain ⟨g20, hg20⟩ : ∃ g, g = v100.heap.size := ⟨_, rfl⟩
              obtain ⟨v101, hv⟩ : ∃ v, v = v100.alloc (.cells #[.int .i64 4, .bool false, .int .i64 0, .string { data := #[] }, .slice aa n ca] 24) := ⟨_, rfl⟩
              have hsv : v101.heap.size = v100.heap.size + 1 := by rw [hv]; simp
              have hx : v101.heap[g20]? = some (.cells #[.int .i64 4, .bool false, .int .i64 0, .string { data := #[] }, .slice aa n ca] 24 (0, 0)) := by rw [hv, hg20]; exact heap_last
              have hb : Below v100.heap.size v100 v101 := by rw [hv]; exact (Below.refl _ _).alloc (Nat.le_refl _) _
              rw [← hv]
              have HZ101 := Lib.hid (below_down HZ100.out hb (Nat.le_refl _))
              have Hb22_101 := Lib.hid (blk_below Hb22_100.out hb)
              have HX_101 := Lib.hid (isL_wide (isL_below HX_100.out hb (Nat.le_refl _)) (Nat.le_refl _) hb.size)
              clear HX_100
              clear HZ100 Hb22_100
              have Hg20_101 := Lib.hid hx
              clear hv hx hb
              rw [← hg20]
              clear hsv hg20
              refine (agg_end g20 n ca aa HN.out v101 Hg20_101.out HX_101.out).mono ?_
              rintro e v102 ⟨s8, c8, rfl, hb⟩
              have HZ102 := Lib.hid (below_down HZ101.out hb (Nat.le_refl _))
              have Hb22_102 := Lib.hid (blk_below Hb22_101.out hb)
              have Hg20_102 := Lib.hid (blk_below Hg20_101.out hb)
              have HX_102 := Lib.hid (isL_wide (isL_below HX_101.out hb (Nat.le_refl _)) (Nat.le_refl _) hb.size)
              clear HX_101
              clear HZ101 Hb22_101 Hg20_101
              clear hb
              clear Hg20_102
              go_upto_region 21 with fail
              obtain ⟨b24, hb24⟩ : ∃ g, g = v102.heap.size := ⟨_, rfl⟩
              obtain ⟨v103, hv⟩ : ∃ v, v = v102.alloc (.cells #[.int .i64 0, .bool false, .int .i64 0, .string { data := #[] }, .slice s8 0 c8] 24) := ⟨_, rfl⟩
              have hsv : v103.heap.size = v102.heap.size + 1 := by rw [hv]; simp
              have hx : v103.heap[b24]? = some (.cells #[.int .i64 0, .bool false, .int .i64 0, .string { data := #[] }, .slice s8 0 c8] 24 (0, 0)) := by rw [hv, hb24]; exact heap_last
              have hb : Below v102.heap.size v102 v103 := by rw [hv]; exact (Below.refl _ _).alloc (Nat.le_refl _) _
              rw [← hv]
              have HZ103 := Lib.hid (below_down HZ102.out hb (Nat.le_refl _))
              have Hb22_103 := Lib.hid (blk_below Hb22_102.out hb)
              have HX_103 := Lib.hid (isL_wide (isL_below HX_102.out hb (Nat.le_refl _)) (Nat.le_refl _) hb.size)
              clear HX_102
              clear HZ102 Hb22_102
              have Hb24_103 := Lib.hid hx
              clear hv hx hb
              rw [← hb24]
              clear hsv hb24
              clear Hb24_103
              have qb22 := fun o => cell_of Hb22_103.out o
              have lb22 := blk_lt Hb22_103.out
              have nb22 : b22 ≠ v103.heap.size := by omega
              go_wp2_with fail
              clear qb22 lb22 nb22
              refine (check_end n ca aa HN.out v103 HX_103.out).mono ?_
              rintro e v104 ⟨rfl, hb⟩
              have HZ104 := Lib.hid (below_down HZ103.out hb (Nat.le_refl _))
              have Hb22_104 := Lib.hid (blk_below Hb22_103.out hb)
              have HX_104 := Lib.hid (isL_wide (isL_below HX_103.out hb (Nat.le_refl _)) (Nat.le_refl _) hb.size)
              clear HX_103
              clear HZ103 Hb22_103
              clear hb
              go_wp2_with fail
              refine (hfin.out v104 HZ104.out).mono ?_
              rintro e v105 ⟨rfl, hb⟩
              have HZ105 := Lib.hid (below_down HZ104.out hb (Nat.le_refl _))
              have Hb22_105 := Lib.hid (blk_below Hb22_104.out hb)
              have HX_105 := Lib.hid (isL_wide (isL_below HX_104.out hb (Nat.le_refl _)) (Nat.le_refl _) hb.size)
              clear HX_104
              clear HZ104 Hb22_104
              clear hb
              go_wp2_with fail
              go_ret
              exact ⟨rfl, HZ105.out⟩
end Go.Proofs.YtaclkegoaajdgaaDoor
