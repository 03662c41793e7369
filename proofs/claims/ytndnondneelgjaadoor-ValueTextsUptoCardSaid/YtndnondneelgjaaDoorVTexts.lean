/-
  ValueTexts returns true, whatever values it is handed. Conditions: lists and texts shorter than 2^31, values of bulk at most 2^40; the table of the tests lies.
-/
import Derived.Test.YtndnondneelgjaaDoorVExact
import Derived.Test.YtndnondneelgjaaDoorTextUniq
import Derived.Deep.DeepCutAuto
import Derived.Deep.CutBlock
import Derived.Deep.CutRange
namespace Go.Proofs.YtndnondneelgjaaDoor
open Go Go.RowKit
set_option maxRecDepth 100000
set_option linter.unusedVariables false
/-- the text as it grows -/
def stT (l : List GV) (k : Nat) : ByteArray := ⟨(91 :: Lib.join (vtxL (l.take k)) [44, 32]).toArray⟩
def fineT (l : List GV) (k : Nat) : Bool := decide (l.length ≤ 4096) && (l.take k).all vmay
theorem fineT_succ (l : List GV) (k : Nat) (h : k < l.length) : fineT l (k + 1) = (fineT l k && vmay l[k]) := by
  unfold fineT
  rw [List.take_succ_eq_append_getElem h, List.all_append, ← Bool.and_assoc]
  simp only [List.all_cons, List.all_nil, Bool.and_true]
theorem vtext_nil {x : GV} : (vtext x).toList.isEmpty = !vmay x := by
  rw [ByteArray.toList_eq]
  cases h : vmay x
  · simp [vtext, vtx_no h]
  · simp [vtext, vtx_ne h]
theorem stT_size (l : List GV) (k : Nat) (h : fitL l) : (stT l k).size ≤ 24 * bulkL l + 1 := by
  have h1 := join_take_len (vtxL l) k
  have h2 := vtxL_len l h
  have e : (vtxL l).take k = vtxL (l.take k) := by rw [vtxL_map, vtxL_map, List.map_take]
  rw [e] at h1
  simp only [stT, ByteArray.size, List.size_toArray, List.length_cons]
  omega
theorem bytes_append (a b : List UInt8) : (⟨a.toArray⟩ : ByteArray) ++ ⟨b.toArray⟩ = ⟨(a ++ b).toArray⟩ := by
  apply text_eq
  simp
theorem stT_zero (l : List GV) (h : 0 < l.length) : stT l 0 ++ vtext l[0] = stT l 1 := by
  unfold stT vtext
  rw [bytes_append]
  cases l with
  | nil => simp at h
  | cons x r => simp [vtxL, Lib.join_nil, Lib.join_one]
theorem stT_succ (l : List GV) (k : Nat) (h0 : 0 < k) (h : k < l.length) : stT l k ++ ⟨#[44, 32]⟩ ++ vtext l[k] = stT l (k + 1) := by
  unfold stT vtext
  have e : (⟨#[44, 32]⟩ : ByteArray) = ⟨([44, 32] : List UInt8).toArray⟩ := rfl
  have hne : (vtxL (l.take k)) ≠ [] := by
    rw [vtxL_map]
    intro e
    have := congrArg List.length e
    rw [List.length_map, List.length_take, List.length_nil] at this
    omega
  have e2 : vtxL (l.take (k + 1)) = vtxL (l.take k) ++ [vtx l[k]] := by
    rw [List.take_succ_eq_append_getElem h, vtxL_map, vtxL_map, List.map_append]; rfl
  rw [e, bytes_append, bytes_append, e2, join_snoc _ _ _ hne]
  simp
theorem vtext_eq (x y : GV) (hx : vmay x = true) : ((vtext x).toList == (vtext y).toList) = same x y := by
  rw [← vtx_same x y hx, ByteArray.toList_eq, ByteArray.toList_eq]
  simp only [vtext]
  rw [Bool.eq_iff_iff]; simp
theorem below_drewN' {B : Nat} {w w' : World} (h : Below B w w') (n : Nat) : Below B w (w'.drewN n) := ⟨h.os, h.tape, h.output, h.size, fun b hb => h.block b hb⟩
theorem listText (l : List GV) (h : vmay ⟨4, false, 0, ⟨#[]⟩, l⟩ = true) : vtext ⟨4, false, 0, ⟨#[]⟩, l⟩ = stT l l.length ++ ⟨#[93]⟩ := by
  have e : (⟨#[93]⟩ : ByteArray) = ⟨([93] : List UInt8).toArray⟩ := rfl
  unfold vtext stT
  rw [e, bytes_append, vtx_may h, List.take_length]
  rfl
attribute [local go_sem ↓] Go.wp_at_zero Go.wp_at_succ
set_option maxHeartbeats 1600000 in
theorem vtexts_any (l : List GV) (fl : fitL l) (hbk : bulkL l ≤ 549755813888) (hll : l.length ≤ 2147483647) (s : Value) (w : World) (B : Nat) (hB : B ≤ w.heap.size) (ht : tabOk w) (hs : isL w 0 B s l) :
    Calls Tryd.prog 5 #[.agg #[s]] w fun e w' => e = .returned (.bool true) ∧ Below w.heap.size w w' := by
  obtain ⟨a, c, bb, off, rfl, hc, ha, hA⟩ := isL_open hs
  have HS := Lib.hid hs
  have HFL := Lib.hid fl
  have HBK := Lib.hid hbk
  have HT := Lib.hid ht
  have HA := Lib.hid hA
  have Ha := Lib.hid ha
  have hb0 := (Below.refl w.heap.size w).alloc (Nat.le_refl _) (.cells #[.slice a l.length c] 24)
  have HLT := Lib.hid (light_any l (by omega) (.slice a l.length c) _ B (Nat.le_trans hB hb0.size) (isL_below hs hb0 hB))
  have HB0 := Lib.hid hb0
  clear fl ht hs hA ha hbk hb0
  have hfin : Hid (∀ w2, Below w.heap.size w w2 → Calls Tryd.prog 9 #[] w2 fun e w' => e = .returned (.bool true) ∧ Below w2.heap.size w2 w') := fun w2 h2 => wakesV_any w2 (tabOk_below HT.out h2)
  go_enter Tryd.func5, Tryd.ntmps5
  go_wp2_with fail
  refine HLT.out.mono ?_
  rintro e w1 ⟨rfl, hb1⟩
  have HB1 := Lib.hid (below_down HB0.out hb1 (Nat.le_refl _))
  have HX1 := Lib.hid ((hb1.block w.heap.size (by simp)).trans (heap_last (w := w)))
  have hs1 : w.heap.size + 1 ≤ w1.heap.size := by have := hb1.size; simpa using this
  clear hb1
  cases hd0 : decide (vsize l ≤ 9000)
  · go_wp2_with fail
    refine (hfin.out _ HB1.out).mono ?_
    rintro e w2 ⟨rfl, hb2⟩
    go_wp2_with fail
    go_ret
    exact ⟨rfl, below_down HB1.out hb2 (Nat.le_refl _)⟩
  have q1 := fun o => cell_of HX1.out o
  go_wp2_with fail
  clear hd0 q1
  go_loopw [3, 4, 5] (fun s3 s4 i wr => ∃ (k : Nat) (F : Bool) (S : ByteArray), k ≤ l.length ∧ s3 = .string S ∧ s4 = .bool F ∧ i = .int .i64 k ∧ Below w.heap.size w wr ∧ w.heap.size + 1 ≤ wr.heap.size ∧ Hid (wr.heap[w.heap.size]? = some (.cells #[.slice a l.length c] 24 (0, 0))) ∧ Hid (F = fineT l k) ∧ Hid (S = stT l k)) (fun _ _ i _ => l.length - (intOf i).toNat)
  case atStart => exact ⟨0, _, _, Nat.zero_le _, rfl, rfl, rfl, HB1.out, hs1, HX1, by simp [Hid, fineT]; omega, rfl⟩
  case round =>
    obtain ⟨k, F, S, hk, rfl, rfl, rfl, hbel, hsz, hbox, hF, hS⟩ := hrel
    have q1 := fun o => cell_of hbox.out o
    by_cases hlt : k < l.length
    rotate_left
    · obtain rfl : k = l.length := by omega
      have HQ := Lib.hid q1
      have hb4 : Below w.heap.size w (wr.alloc (.cells #[.int .i64 4, .bool false, .int .i64 0, .string { data := #[] }, .slice a l.length c] 28)) := hbel.alloc (by omega) _
      obtain ⟨x, hx⟩ : ∃ x : GV, x = ⟨4, false, 0, ⟨#[]⟩, l⟩ := ⟨_, rfl⟩
      have fx : x.fit := by rw [hx]; simp only [GV.fit]; exact ⟨by decide, by decide, by decide, by decide, by decide, hll, HFL.out⟩
      have bx : x.bulk ≤ 1099511627776 := by have h1 := HBK.out; rw [hx, bulk_eq]; dsimp only; have h2 : (⟨#[]⟩ : ByteArray).size = 0 := rfl; omega
      have HC1 := Lib.hid (vCheck_any x fx (.slice a l.length c) _ B (Nat.le_trans hB hb4.size) (by rw [hx]; exact isL_below HS.out hb4 hB))
      rw [hx] at HC1
      simp only [GV.agg] at HC1
      have HB4 := Lib.hid hb4
      have HBL := Lib.hid hbel
      have hcc := fun o => cell_of (heap_last (w := wr) (o := .cells #[.int .i64 4, .bool false, .int .i64 0, .string { data := #[] }, .slice a l.length c] 28)) o
      cases F
      · go_wp2_with fail
        refine (hfin.out _ HB4.out).mono ?_
        rintro e w2 ⟨rfl, hb2⟩
        go_wp2_with fail
        go_ret
        exact ⟨rfl, below_down HB4.out hb2 (Nat.le_refl _)⟩
      go_wp2_with fail
      refine HC1.out.mono ?_
      rintro e w2 ⟨rfl, hb2⟩
      have HB2 := Lib.hid (below_down HB4.out hb2 (Nat.le_refl _))
      have hc2 := fun o => (hb2.cell (p := ⟨wr.heap.size, o, none⟩) (by simp)).trans (hcc o)
      clear hb2 hcc
      cases hvm : vmay ⟨4, false, 0, ⟨#[]⟩, l⟩
      · go_wp2_with fail
        refine (hfin.out _ HB2.out).mono ?_
        rintro e w3 ⟨rfl, hb3⟩
        go_wp2_with fail
        go_ret
        exact ⟨rfl, below_down HB2.out hb3 (Nat.le_refl _)⟩
      have HC2 := Lib.hid (vText_any x fx bx (.slice a l.length c) w2 B (Nat.le_trans hB HB2.out.size) (tabOk_below HT.out HB2.out) (by rw [hx]; exact isL_below HS.out HB2.out hB))
      rw [hx, listText l hvm, ← hS.out] at HC2
      simp only [GV.agg] at HC2
      have hsl : S.size ≤ 26388279066625 := by
        have h1 := stT_size l l.length HFL.out
        have h2 := HBK.out
        rw [hS.out]; omega
      clear hvm hx
      go_wp2_with fail
      refine HC2.out.mono ?_
      rintro e w3 ⟨rfl, hb3⟩
      have HB3 := Lib.hid (below_down HB2.out hb3 (Nat.le_refl _))
      clear hb3
      go_wp2_with fail
      refine (hfin.out _ HB3.out).mono ?_
      rintro e w4 ⟨rfl, hb4⟩
      go_wp2_with fail
      go_ret
      exact ⟨rfl, below_down HB3.out hb4 (Nat.le_refl _)⟩
    obtain ⟨rfl, hb2, hb2'⟩ := Ha.out (by omega)
    obtain ⟨ax, cx, x0, x1, x2, x3, x4, hsx⟩ := cellsV_slice (HA.out k hlt)
    have HB := Lib.hid hbel
    have hgr : ∀ o, wr.cell? ⟨bb, o, none⟩ = w.cell? ⟨bb, o, none⟩ := fun o => HB.out.cell (p := ⟨bb, o, none⟩) (Nat.lt_of_lt_of_le hb2' hB)
    have Hsx := Lib.hid hsx
    have HFX := Lib.hid (fitL_mem HFL.out _ (List.getElem_mem hlt))
    have HBX := Lib.hid (Nat.le_trans (bulkL_mem (List.getElem_mem hlt)) (Nat.le_trans HBK.out (by decide : 549755813888 ≤ 1099511627776)))
    have X0 := Lib.hid x0
    have X1 := Lib.hid x1
    have X2 := Lib.hid x2
    have X3 := Lib.hid x3
    have X4 := Lib.hid x4
    clear hsx hbel Ha
    go_wp2_with fail
    refine (vText_any l[k] HFX.out HBX.out (.slice ax l[k].l.length cx) wr B (Nat.le_trans hB HB.out.size) (tabOk_below HT.out HB.out) (isL_below Hsx.out HB.out hB)).mono ?_
    rintro e w2 ⟨rfl, hb2⟩
    have HB2 := Lib.hid (below_down HB.out hb2 (Nat.le_refl _))
    have HX2 := Lib.hid ((hb2.block w.heap.size (by omega)).trans hbox.out)
    have hs2 := hb2.size
    clear hb2 q1 hgr
    have hnil := @vtext_nil l[k]
    have htl : (vtext l[k]).size ≤ 26388279066624 := by
      have h1 := vtx_len l[k] HFX.out
      have h2 := HBX.out
      rw [vtext_size]; omega
    have hsl : S.size ≤ 26388279066625 := by
      have h1 := stT_size l k HFL.out
      have h2 := HBK.out
      rw [hS.out]; omega
    obtain ⟨tx, htx⟩ : ∃ t, t = vtext l[k] := ⟨_, rfl⟩
    rw [← htx] at hnil htl ⊢
    have HTX := Lib.hid htx
    clear htx
    have q1 := fun o => cell_of HX2.out o
    have hgr : ∀ o, w2.cell? ⟨bb, o, none⟩ = w.cell? ⟨bb, o, none⟩ := fun o => HB2.out.cell (p := ⟨bb, o, none⟩) (Nat.lt_of_lt_of_le hb2' hB)
    go_wp2_with fail
    refine (vCheck_any l[k] HFX.out (.slice ax l[k].l.length cx) w2 B (Nat.le_trans hB HB2.out.size) (isL_below Hsx.out HB2.out hB)).mono ?_
    rintro e w3 ⟨rfl, hb3⟩
    have HB3 := Lib.hid (below_down HB2.out hb3 (Nat.le_refl _))
    have HX3 := Lib.hid ((hb3.block w.heap.size (by omega)).trans HX2.out)
    have hs3 := hb3.size
    clear hb3 q1 hgr x0 x1 x2 x3 x4
    have HFS := Lib.hid (fineT_succ l k hlt)
    obtain ⟨V, hV⟩ : ∃ V, V = vmay l[k] := ⟨_, rfl⟩
    rw [← hV] at hnil ⊢
    rw [← hV] at HFS
    have HV := Lib.hid hV
    clear hV
    have hxx : (!V == V) = false := by cases V <;> rfl
    have hne2 : (!tx.toList.isEmpty) = V := by rw [hnil]; simp
    go_upto_region 11 with fail
    go_cut [4] (fun s4 wx => s4 = .bool (F && V) ∧ wx = w3)
    case first =>
      cases F
      all_goals
        go_wp2_with fail
        go_meet
        exact ⟨rfl, rfl⟩
    case rest =>
      obtain ⟨rfl, rfl⟩ := hcut
      have HFN : Hid ((F && V) = fineT l (k + 1)) := by rw [Hid, HFS.out, hF.out]
      have HSN : Hid (if k = 0 then S ++ tx = stT l (k + 1) else S ++ ⟨#[44, 32]⟩ ++ tx = stT l (k + 1)) := by
        rw [Hid, HTX.out, hS.out]
        split
        · next h => subst h; exact stT_zero l hlt
        · next h => exact stT_succ l k (by omega) hlt
      obtain ⟨G, hG⟩ : ∃ G, G = (F && V) := ⟨_, rfl⟩
      rw [← hG] at HFN ⊢
      clear HFS hF hS hG
      cases V
      · simp only [Bool.not_false] at hnil
        rcases Nat.eq_zero_or_pos k with hk0 | hk0
        · rw [if_pos hk0] at HSN
          go_wp2_with fail
          go_loopw [7] (fun i wr => ∃ j : Nat, j ≤ k ∧ j ≤ 10 ∧ i = .int .i64 j ∧ Below wc.heap.size wc wr) (fun i _ => 10 - (intOf i).toNat)
          case atStart => exact ⟨0, Nat.zero_le _, by omega, rfl, Below.refl _ _⟩
          case round =>
            obtain ⟨j, hj, hj10, rfl, hbel⟩ := hrel
            obtain rfl : j = 0 := by omega
            have HW := Lib.hid (below_down HB3.out hbel (Nat.le_refl _))
            have hwr := hbel.size
            have HXr := Lib.hid ((hbel.block w.heap.size (by omega)).trans HX3.out)
            clear hbel
            go_wp2_with fail
            go_roundw
            case rel => exact ⟨1, _, _, by omega, rfl, rfl, by go_num, HW.out, by omega, HXr, by rw [hk0] at HFN; exact HFN, by rw [hk0] at HSN; exact HSN⟩
            case measure => simp [intOf, hk0]; omega
        rw [if_neg (by omega)] at HSN
        go_wp2_with fail
        go_loopw [7] (fun i wr => ∃ j : Nat, j ≤ k ∧ j ≤ 10 ∧ i = .int .i64 j ∧ Below wc.heap.size wc wr) (fun i _ => 10 - (intOf i).toNat)
        case atStart => exact ⟨0, Nat.zero_le _, by omega, rfl, Below.refl _ _⟩
        case round =>
          obtain ⟨j, hj, hj10, rfl, hbel⟩ := hrel
          have HW := Lib.hid (below_down HB3.out hbel (Nat.le_refl _))
          have hwr := hbel.size
          have HXr := Lib.hid ((hbel.block w.heap.size (by omega)).trans HX3.out)
          have HK := Lib.hid hbel
          clear hbel
          by_cases hjl : j < k
          rotate_left
          · obtain rfl : j = k := by omega
            go_wp2_with fail
            go_roundw
            case rel => exact ⟨j + 1, _, _, by omega, rfl, rfl, by go_num, HW.out, by omega, HXr, HFN, HSN⟩
            case measure => simp [intOf]; omega
          by_cases hj6 : j < 10
          rotate_left
          · obtain rfl : j = 10 := by omega
            go_wp2_with fail
            go_roundw
            case rel => exact ⟨k + 1, _, _, by omega, rfl, rfl, by go_num, HW.out, by omega, HXr, HFN, HSN⟩
            case measure => simp [intOf]; omega
          go_wp2_with fail
          go_quiet (fail)
          go_wp2_with fail
          go_roundw
          case rel => exact ⟨j + 1, by omega, by omega, by go_num, below_drewN' HK.out _⟩
          case measure => simp [intOf]; omega
      · simp only [Bool.not_true] at hnil
        rcases Nat.eq_zero_or_pos k with hk0 | hk0
        · rw [if_pos hk0] at HSN
          go_wp2_with fail
          go_loopw [7] (fun i wr => ∃ j : Nat, j ≤ k ∧ j ≤ 10 ∧ i = .int .i64 j ∧ Below wc.heap.size wc wr) (fun i _ => 10 - (intOf i).toNat)
          case atStart => exact ⟨0, Nat.zero_le _, by omega, rfl, Below.refl _ _⟩
          case round =>
            obtain ⟨j, hj, hj10, rfl, hbel⟩ := hrel
            obtain rfl : j = 0 := by omega
            have HW := Lib.hid (below_down HB3.out hbel (Nat.le_refl _))
            have hwr := hbel.size
            have HXr := Lib.hid ((hbel.block w.heap.size (by omega)).trans HX3.out)
            clear hbel
            go_wp2_with fail
            go_roundw
            case rel => exact ⟨1, _, _, by omega, rfl, rfl, by go_num, HW.out, by omega, HXr, by rw [hk0] at HFN; exact HFN, by rw [hk0] at HSN; exact HSN⟩
            case measure => simp [intOf, hk0]; omega
        rw [if_neg (by omega)] at HSN
        go_wp2_with fail
        go_loopw [7] (fun i wr => ∃ j : Nat, j ≤ k ∧ j ≤ 10 ∧ i = .int .i64 j ∧ Below wc.heap.size wc wr) (fun i _ => 10 - (intOf i).toNat)
        case atStart => exact ⟨0, Nat.zero_le _, by omega, rfl, Below.refl _ _⟩
        case round =>
          obtain ⟨j, hj, hj10, rfl, hbel⟩ := hrel
          have HW := Lib.hid (below_down HB3.out hbel (Nat.le_refl _))
          have hwr := hbel.size
          have HXr := Lib.hid ((hbel.block w.heap.size (by omega)).trans HX3.out)
          have HK := Lib.hid hbel
          clear hbel
          by_cases hjl : j < k
          rotate_left
          · obtain rfl : j = k := by omega
            go_wp2_with fail
            go_roundw
            case rel => exact ⟨j + 1, _, _, by omega, rfl, rfl, by go_num, HW.out, by omega, HXr, HFN, HSN⟩
            case measure => simp [intOf]; omega
          by_cases hj6 : j < 10
          rotate_left
          · obtain rfl : j = 10 := by omega
            go_wp2_with fail
            go_roundw
            case rel => exact ⟨k + 1, _, _, by omega, rfl, rfl, by go_num, HW.out, by omega, HXr, HFN, HSN⟩
            case measure => simp [intOf]; omega
          have hjn : j < l.length := by omega
          obtain ⟨ay, cy, y0, y1, y2, y3, y4, hsy⟩ := cellsV_slice (HA.out j hjn)
          have Hsy := Lib.hid hsy
          have HFY := Lib.hid (fitL_mem HFL.out _ (List.getElem_mem hjn))
          have HBY := Lib.hid (Nat.le_trans (bulkL_mem (List.getElem_mem hjn)) (Nat.le_trans HBK.out (by decide : 549755813888 ≤ 1099511627776)))
          have q1 := fun o => cell_of HXr.out o
          have hgr : ∀ o, wr.cell? ⟨bb, o, none⟩ = w.cell? ⟨bb, o, none⟩ := fun o => HW.out.cell (p := ⟨bb, o, none⟩) (Nat.lt_of_lt_of_le hb2' hB)
          have x0 := X0.out
          have x1 := X1.out
          have x2 := X2.out
          have x3 := X3.out
          have x4 := X4.out
          have hbw := HB.out.size
          have ga := cell_grow (Below.refl wr.heap.size wr) (Nat.le_refl _) (show w.heap.size < wr.heap.size by omega)
          have gl := cell_grow (Below.refl wr.heap.size wr) (Nat.le_refl _) (show bb < wr.heap.size by omega)
          have HBG := Lib.hid (fun d os => below_grow HW.out (Nat.le_refl _) d os)
          obtain ⟨E, hE⟩ : ∃ E, E = same l[k] l[j] := ⟨_, rfl⟩
          obtain ⟨ty, hty⟩ : ∃ E, E = vtext l[j] := ⟨_, rfl⟩
          have hne : (tx.toList == ty.toList) = E := by rw [hE, hty, HTX.out]; exact vtext_eq _ _ HV.out.symm
          have hne2 : (E != E) = false := by simp
          have HC1 : Hid (∀ d os, Calls Tryd.prog 13 #[l[j].agg (.slice ay l[j].l.length cy)] (Go.Sort.grow (redrawn wr d) os) fun e w' => e = .returned (.string ty) ∧ Below (Go.Sort.grow (redrawn wr d) os).heap.size (Go.Sort.grow (redrawn wr d) os) w') := fun d os => by
            rw [hty]
            exact vText_any l[j] HFY.out HBY.out (.slice ay l[j].l.length cy) _ B (Nat.le_trans hB (HBG.out d os).size) (tabOk_below HT.out (HBG.out d os)) (isL_below Hsy.out (HBG.out d os) hB)
          have HC2 : Hid (∀ d os, Calls Tryd.prog 16 #[l[k].agg (.slice ax l[k].l.length cx), l[j].agg (.slice ay l[j].l.length cy)] (Go.Sort.grow (redrawn wr d) os) fun e w' => e = .returned (.bool E) ∧ Below (Go.Sort.grow (redrawn wr d) os).heap.size (Go.Sort.grow (redrawn wr d) os) w') := fun d os => by
            rw [hE]
            exact zSame_any l[k] l[j] HFX.out HFY.out (.slice ax l[k].l.length cx) (.slice ay l[j].l.length cy) _ B (Nat.le_trans hB (HBG.out d os).size) (isL_below Hsx.out (HBG.out d os) hB) (isL_below Hsy.out (HBG.out d os) hB)
          simp only [GV.agg] at HC1 HC2
          clear hsy hE hty
          go_wp2_with fail
          refine wp_region_quiet_below (by kernel_rfl) (by kernel_rfl) ?_
          repeat (quiet_step (fail))
          quiet_step (exact Calls.regrown_of (HC1.out _ _))
          repeat (quiet_step (fail))
          quiet_step (exact Calls.regrown_of (HC2.out _ _))
          repeat (quiet_step (fail))
          refine wpQuiet_nil ?_
          intro w6 hw6
          have hb6 : Below wr.heap.size wr w6 := by
            obtain ⟨p, hp⟩ := hw6
            rw [hp]
            exact below_grow (Below.refl wr.heap.size wr) (Nat.le_refl _) _ _
          have HK6 := Lib.hid (below_down HK.out hb6 (Nat.le_refl _))
          clear hw6 hb6 ga gl q1 hgr x0 x1 x2 x3 x4 y0 y1 y2 y3 y4 HC1 HC2
          go_wp2_with fail
          go_roundw
          case rel => exact ⟨j + 1, by omega, by omega, by go_num, HK6.out⟩
          case measure => simp [intOf]; omega
end Go.Proofs.YtndnondneelgjaaDoor
