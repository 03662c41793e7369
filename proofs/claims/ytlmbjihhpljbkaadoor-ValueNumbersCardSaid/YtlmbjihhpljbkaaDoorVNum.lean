/-
  ValueNumbers returns true, whatever numbers it is handed. Conditions: the table of the tests lies.
-/
import Derived.Test.YtlmbjihhpljbkaaDoorNumQ
import Derived.Deep.RegionHeld3
import Derived.Deep.DeepCutAuto
import Derived.Deep.CutBlock
import Derived.Deep.CutRange
namespace Go.Proofs.YtlmbjihhpljbkaaDoor
open Go Go.RowKit
set_option maxRecDepth 100000
set_option linter.unusedVariables false
/-- a slice of whole numbers -/
def isI (w : World) (B : Nat) (s : Value) (ns : List Int) : Prop := ∃ a c bb off, s = .slice a ns.length c ∧ ns.length ≤ c ∧ (0 < ns.length → a = some ⟨bb, off, none⟩ ∧ bb < B) ∧ ∀ i (h : i < ns.length), w.cell? ⟨bb, off + i, none⟩ = some (.int .i64 ns[i])
def GivesN (w : World) (p : Int × Int) (e : Ending) (w' : World) : Prop := ∃ s c, e = .returned (.tuple #[.agg #[.int .i64 (kOf p), .bool false, .int .i64 (nOf p), .string { data := #[] }, .slice s 0 c], .int .i64 p.2]) ∧ Below w.heap.size w w'
theorem blk_lt {w : World} {b : Nat} {o : Obj} (h : w.heap[b]? = some o) : b < w.heap.size := (Array.getElem?_eq_some_iff.1 h).1
theorem blk_below {w w' : World} {b : Nat} {o : Obj} (h : w.heap[b]? = some o) (hb : Below w.heap.size w w') : w'.heap[b]? = some o := (hb.block b (blk_lt h)).trans h
theorem le_allocN {n : Nat} {w : World} {o : Obj} (h : n ≤ w.heap.size) : n ≤ (w.alloc o).heap.size := by simp; omega
attribute [local go_sem ↓] Go.wp_at_zero Go.wp_at_succ
set_option maxHeartbeats 1600000 in
theorem vnumbers_any (ns : List Int) (hin : ∀ n ∈ ns, inI n) (s : Value) (w : World) (B : Nat) (hB : B ≤ w.heap.size) (ht : tabOk w) (hs : isI w B s ns) :
    Calls Tryd.prog 3 #[.agg #[s]] w fun e w' => e = .returned (.bool true) ∧ Below w.heap.size w w' := by
  obtain ⟨a, c, bb, off, rfl, hc, ha, hA⟩ := hs
  have HT := Lib.hid ht
  have HA := Lib.hid hA
  have Ha := Lib.hid ha
  have HIN := Lib.hid hin
  obtain ⟨wD, hwD⟩ : ∃ wD, wD = w.alloc (.cells #[.slice a ns.length c] 24) := ⟨_, rfl⟩
  have hb0 : Below w.heap.size w wD := by rw [hwD]; exact (Below.refl w.heap.size w).alloc (Nat.le_refl _) _
  have hx0 : wD.heap[w.heap.size]? = some (.cells #[.slice a ns.length c] 24 (0, 0)) := by rw [hwD]; exact heap_last
  have hs0 : wD.heap.size = w.heap.size + 1 := by rw [hwD]; simp
  have HB0 := Lib.hid hb0
  have HX0 := Lib.hid hx0
  have hfin : Hid (∀ w2, Below w.heap.size w w2 → Calls Tryd.prog 8 #[] w2 fun e w' => e = .returned (.bool true) ∧ Below w2.heap.size w2 w') := fun w2 h2 => wakesV_any w2 (tabOk_below HT.out h2)
  clear ht hA ha hin hb0 hx0
  go_enter Tryd.func3, Tryd.ntmps3
  go_upto_block 0 with fail
  rw [← hwD]
  clear hwD
  go_cut [3, 4, 5] from 26 to 54 (fun s3 s4 s5 wx => Hid (ownN wx wD.heap.size s3 (ns.take 12)) ∧ Hid (ownN wx wD.heap.size s4 (ns.take 12).reverse) ∧ Hid (Below wD.heap.size wD wx))
  case first =>
    go_wp2_with fail
    go_loopw [3, 4, 5] (fun v3 v4 i wr => ∃ k : Nat, k ≤ 12 ∧ k ≤ ns.length ∧ i = .int .i64 k ∧ Hid (ownN wr wD.heap.size v3 (ns.take k)) ∧ Hid (ownN wr wD.heap.size v4 (ns.take k).reverse) ∧ Hid (∀ g, v3.ownBlock = some g → v4.ownBlock ≠ some g) ∧ Hid (Below wD.heap.size wD wr)) (fun _ _ i _ => 12 - (intOf i).toNat)
    case atStart => exact ⟨0, by omega, Nat.zero_le _, rfl, World.ownsRow_nil _ _ _ _, World.ownsRow_nil _ _ _ _, (fun g h => by cases h), Below.refl _ _⟩
    case round =>
      obtain ⟨k, hk12, hkl, rfl, H3, H4, H34, HBR⟩ := hrel
      have HXR := Lib.hid ((HBR.out.block w.heap.size (by omega)).trans HX0.out)
      have q1 := fun o => cell_of HXR.out o
      have hszr := HBR.out.size
      have l0 : w.heap.size < wr.heap.size := by omega
      by_cases hgo : k < ns.length ∧ k < 12
      · obtain ⟨hlt, h12⟩ := hgo
        obtain ⟨rfl, hbB⟩ := Ha.out (by omega)
        have hd : decide ((k : Int) < (ns.length : Int)) = true := by simp; omega
        have hd2 : decide (k < ns.length) = true := by simp; omega
        have hd3 : decide ((k : Int) < 12) = true := by simp; omega
        have hd4 : decide (k < 12) = true := by simp; omega
        have hbR : Below w.heap.size w wr := below_down HB0.out HBR.out (by omega)
        have z0 : wr.cell? ⟨bb, off + k, none⟩ = some (.int .i64 ns[k]) := (hbR.cell (p := ⟨bb, off + k, none⟩) (Nat.lt_of_lt_of_le hbB hB)).trans (HA.out k hlt)
        have hzb : bb < wr.heap.size := by omega
        have j0 : (0 : Int) ≤ (k : Int) := by omega
        have j1 : (k : Int) < (ns.length : Int) := by omega
        obtain ⟨n, hn⟩ : ∃ n, n = ns[k] := ⟨_, rfl⟩
        rw [← hn] at z0
        have HN := Lib.hid hn
        have H4096 : (ns.take k).length ≤ 4096 := by simp; omega
        clear hn
        go_wp2_with fail
        refine (num_any n wr).mono ?_
        rintro e w1 ⟨rfl, hb1⟩
        have H31 := Lib.hid (ownN_below H3.out hb1)
        have H41 := Lib.hid (ownN_below H4.out hb1)
        have hbw1 : Below wD.heap.size wD w1 := below_down HBR.out hb1 (Nat.le_refl _)
        have hs1 := hb1.size
        have HXR1 := Lib.hid ((hb1.block w.heap.size l0).trans HXR.out)
        obtain ⟨v3', w2, hr2, ho2, hb2, hk2, hg2⟩ := app_last 25 H31.out H4096 (Nat.le_trans hszr hs1) n
        have H32 := Lib.hid ho2
        have hb02 : Below wD.heap.size wD w2 := hbw1.trans hb2
        have H42 := Lib.hid (ownN_keep H41.out (fun g hg => hk2 g ((H41.out).lt g hg).2 (fun e => H34.out g e hg)))
        have H342 : Hid (∀ g, v3'.ownBlock = some g → u4.ownBlock ≠ some g) := fun g h1 h2 => by
          rcases hg2 g h1 with h | h
          · exact H34.out g h h2
          · have := ((H41.out).lt g h2).2; omega
        have hs2 := hb02.size
        have hbR2 : Below w.heap.size w w2 := below_down HB0.out hb02 (by omega)
        have HXR2 := Lib.hid ((hb02.block w.heap.size (by omega)).trans HX0.out)
        have q2 := fun o => cell_of HXR2.out o
        have l2 : w.heap.size < w2.heap.size := by omega
        have z2 : w2.cell? ⟨bb, off + k, none⟩ = some (.int .i64 ns[k]) := (hbR2.cell (p := ⟨bb, off + k, none⟩) (Nat.lt_of_lt_of_le hbB hB)).trans (HA.out k hlt)
        rw [← HN.out] at z2
        have hzb2 : bb < w2.heap.size := by omega
        have HB2 := Lib.hid hb02
        unfold numA
        clear hb1 ho2 hb2 hk2 hg2 H31 H41 HXR1 HXR hbw1 hs1 hbR hbR2 hb02
        go_wp2_with (at_builtin; refine Lib.wpList_append_run _ rfl _ _ _ _ rfl _ _ rfl rfl _ _ hr2 ?_)
        clear q1 z0 hr2
        refine (num_any n w2).mono ?_
        rintro e w3 ⟨rfl, hb3⟩
        have H33 := Lib.hid (ownN_below H32.out hb3)
        have H43 := Lib.hid (ownN_below H42.out hb3)
        have hs3 := hb3.size
        obtain ⟨v4', w4, hr4, ho4, hb4, hg4⟩ := app_first 25 H43.out (by simp; omega) (Nat.le_trans hs2 hs3) n
        have H34' := Lib.hid (ownN_below H33.out hb4)
        have H44 := Lib.hid ho4
        have H344 : Hid (∀ g, v3'.ownBlock = some g → v4'.ownBlock ≠ some g) := fun g h1 h2 => by
          have h3 := ((H33.out).lt g h1).2
          have h4 := hg4 g h2
          omega
        have HB4 := Lib.hid ((below_down HB2.out hb3 (Nat.le_refl _)).trans (hb4.mono (Nat.le_trans hs2 hs3)))
        have HTK : Hid (ns.take (k + 1) = ns.take k ++ [n]) := by
          rw [Hid, HN.out, List.take_succ_eq_append_getElem hlt]
        unfold numA
        clear hb3 ho4 hb4 hg4 hs3
        go_wp2_with (at_builtin; refine Lib.wpList_append_run _ rfl _ _ _ _ rfl _ _ rfl rfl _ _ hr4 ?_)
        go_roundw
        case rel => exact ⟨k + 1, by omega, by omega, by go_num, by rw [Hid, HTK.out]; exact H34'.out, by rw [Hid, HTK.out, List.reverse_append]; exact H44.out, H344, HB4⟩
        case measure => simp [intOf]; omega
      · have hfin3 : Hid (ns.take k = ns.take 12) := by
          rw [Hid]
          by_cases h : k < 12
          · rw [List.take_of_length_le (by omega), List.take_of_length_le (by omega)]
          · rw [show k = 12 by omega]
        rw [hfin3.out] at H3 H4
        by_cases hlt : k < ns.length
        · have hd : decide ((k : Int) < (ns.length : Int)) = true := by simp; omega
          have hd2 : decide (k < ns.length) = true := by simp; omega
          have hd3 : decide ((k : Int) < 12) = false := by simp; omega
          have hd4 : decide (k < 12) = false := by simp; omega
          go_wp2_with fail
          go_meet
          exact ⟨H3, H4, HBR⟩
        · have hd : decide ((k : Int) < (ns.length : Int)) = false := by simp; omega
          have hd2 : decide (k < ns.length) = false := by simp; omega
          go_wp2_with fail
          go_meet
          exact ⟨H3, H4, HBR⟩
  case rest =>
    obtain ⟨H3, H4, HBR⟩ := hcut
    have hmi : ∀ n ∈ ns.take 12, inI n := fun n hn => HIN.out n (List.mem_of_mem_take hn)
    have hml : (ns.take 12).length ≤ 12 := by simp; omega
    obtain ⟨ms, hms⟩ : ∃ ms, ms = ns.take 12 := ⟨_, rfl⟩
    rw [← hms] at H3 H4 hmi hml
    have HMI := Lib.hid hmi
    have hml0 := Lib.hid hml
    have hsc := HBR.out.size
    have HBC := Lib.hid (below_down HB0.out HBR.out (by omega))
    obtain ⟨P, hP⟩ : ∃ P, P = boundK (sumI ms) := ⟨_, rfl⟩
    have hS3 := sum_own H3.out (by omega) hmi wc (Below.refl _ _)
    have hS4 : Hid (∀ w', Below wc.heap.size wc w' → Calls Tryd.prog 5 #[.string { data := #[115, 117, 109] }, u4] w' fun e w'' => ∃ s c, e = .returned (.tuple #[.agg #[.int .i64 (kOf P), .bool false, .int .i64 (nOf P), .string { data := #[] }, .slice s 0 c], .int .i64 P.2]) ∧ Below w'.heap.size w' w'') := fun w' hb => by
      have := sum_own H4.out (by simp; omega) (fun n hn => hmi n (by simpa using hn)) w' hb
      rw [sum_back, ← hP] at this
      exact this
    rw [← hP] at hS3
    have HS3 := Lib.hid hS3
    have HSM : Hid (∀ w' a1 c1 a2 c2, Calls Tryd.prog 6 #[.agg #[.int .i64 (kOf P), .bool false, .int .i64 (nOf P), .string { data := #[] }, .slice a1 0 c1], .agg #[.int .i64 (kOf P), .bool false, .int .i64 (nOf P), .string { data := #[] }, .slice a2 0 c2]] w' fun e w'' => e = .returned (.bool true) ∧ Below w'.heap.size w' w'') := fun w' a1 c1 a2 c2 => same_flat _ _ (kOf_two P) (by rw [hP]; exact bound_inI _) a1 a2 c1 c2 w'
    obtain ⟨K, hK⟩ : ∃ K, K = kOf P := ⟨_, rfl⟩
    obtain ⟨N, hN⟩ : ∃ N, N = nOf P := ⟨_, rfl⟩
    obtain ⟨E, hE⟩ : ∃ E, E = P.2 := ⟨_, rfl⟩
    rw [← hK, ← hN, ← hE] at HS3 hS4
    rw [← hK, ← hN] at HSM
    clear hmi hms hP hK hN hE hS3 Ha HA HX0 H4
    go_wp2_with fail
    refine HS3.out.mono ?_
    rintro e w1 ⟨a1, c1, rfl, hb1⟩
    have HB1 := Lib.hid (hb1.alloc hb1.size (.cells #[.int .i64 K, .bool false, .int .i64 N, .string { data := #[] }, .slice a1 0 c1] 27))
    clear hb1 HS3
    go_wp2_with fail
    obtain ⟨w2, hw2⟩ : ∃ w2, w2 = w1.alloc (.cells #[.int .i64 K, .bool false, .int .i64 N, .string { data := #[] }, .slice a1 0 c1] 27) := ⟨_, rfl⟩
    have hx2 : w2.heap[w1.heap.size]? = some (.cells #[.int .i64 K, .bool false, .int .i64 N, .string { data := #[] }, .slice a1 0 c1] 27 (0, 0)) := by rw [hw2]; exact heap_last
    have hs2 : w1.heap.size < w2.heap.size := by rw [hw2]; simp
    rw [← hw2] at HB1 ⊢
    clear hw2
    refine (hS4.out w2 HB1.out).mono ?_
    rintro e w3 ⟨a2, c2, rfl, hb3⟩
    have hb34 := hb3.alloc hb3.size (.cells #[.int .i64 K, .bool false, .int .i64 N, .string { data := #[] }, .slice a2 0 c2] 27)
    have HB3 := Lib.hid (below_down HB1.out hb34 (Nat.le_refl _))
    have hx3 := (hb3.block w1.heap.size hs2).trans hx2
    have hs3 := hb3.size
    have l3 : w1.heap.size < w3.heap.size := by omega
    have n3 : w1.heap.size ≠ w3.heap.size := by omega
    have q3 := fun o => cell_of hx3 o
    clear hb3 hb34 hS4 hx2
    have dE : (E != E) = false := by simp
    go_wp2_with fail
    refine (HSM.out _ a1 c1 a2 c2).mono ?_
    rintro e w5 ⟨rfl, hb5⟩
    have HB5 := Lib.hid (below_down HB3.out hb5 (Nat.le_refl _))
    clear hb5 HB3 HSM q3 hx3 dE
    have H35 := Lib.hid (ownN_below H3.out HB5.out)
    obtain ⟨a3, c3, rfl, ha3⟩ := ownN_form H3.out
    have HBW5 := Lib.hid (below_down HBC.out HB5.out (Nat.le_refl _))
    clear H3 HBC hml
    have hml : ms.length ≤ 12 := hml0.out
    go_upto_block 2 with fail
    go_wp2_with fail
    go_loopw [10] (fun i wr => ∃ k : Nat, 1 ≤ k ∧ k ≤ 13 ∧ i = .int .i64 k ∧ Hid (Below w5.heap.size w5 wr)) (fun i _ => 13 - (intOf i).toNat)
    case atStart => exact ⟨1, Nat.le_refl _, by omega, rfl, Below.refl _ _⟩
    case round =>
      obtain ⟨k, hk1, hk13, rfl, HR⟩ := hrel
      have HBW := Lib.hid (below_down HBW5.out HR.out (Nat.le_refl _))
      by_cases hlt : k < ms.length
      rotate_left
      · have hd : decide ((k : Int) < (ms.length : Int)) = false := by simp; omega
        have hd2 : decide (k < ms.length) = false := by simp; omega
        go_wp2_with fail
        refine (hfin.out _ HBW.out).mono ?_
        rintro e w6 ⟨rfl, hb6⟩
        go_wp2_with fail
        go_ret
        exact ⟨rfl, below_down HBW.out hb6 (Nat.le_refl _)⟩
      have hd : decide ((k : Int) < (ms.length : Int)) = true := by simp; omega
      have hd2 : decide (k < ms.length) = true := by simp; omega
      obtain ⟨j, hj⟩ : ∃ j, j = k - 1 := ⟨_, rfl⟩
      have hj0 : j < ms.length := by omega
      have hg3 : ∃ g, a3 = some ⟨g, 0, none⟩ := by
        rcases H35.out.2 with ⟨_, h⟩ | ⟨g, cap, cur, h, _⟩
        · omega
        · cases h; exact ⟨g, rfl⟩
      obtain ⟨g3, rfl⟩ := hg3
      have HX := Lib.hid (ownN_cell H35.out j hj0)
      have HY := Lib.hid (ownN_cell H35.out k hlt)
      obtain ⟨x, hx⟩ : ∃ x, x = ms[j] := ⟨_, rfl⟩
      obtain ⟨y, hy⟩ : ∃ y, y = ms[k] := ⟨_, rfl⟩
      have hix : inI x := by rw [hx]; exact HMI.out _ (List.getElem_mem hj0)
      have hiy : inI y := by rw [hy]; exact HMI.out _ (List.getElem_mem hlt)
      rw [← hx] at HX
      rw [← hy] at HY
      have hz3 : g3 < wr.heap.size := Nat.lt_of_lt_of_le HX.out.1 HR.out.size
      have hc3 := HX.out.2.1
      have i3 : (k : Int) - 1 = (j : Int) := by omega
      have i4 : IntKind.i64.wrap (j : Int) = (j : Int) := IntWalk.i64_in _ (by omega)
      have j0 : (0 : Int) ≤ (j : Int) := by omega
      have j1 : (j : Int) < (ms.length : Int) := by omega
      have k0 : (0 : Int) ≤ (k : Int) := by omega
      have k1 : (k : Int) < (ms.length : Int) := by omega
      have HIX := Lib.hid hix
      have HIY := Lib.hid hiy
      have HJ := Lib.hid hj
      have HK1 := Lib.hid hk1
      have SH : Hid (∀ w' : World, Below wr.heap.size wr w' → (w'.cell? ⟨g3, j * 5, none⟩ = some (.int .i64 2) ∧ w'.cell? ⟨g3, j * 5 + 1, none⟩ = some (.bool false) ∧ w'.cell? ⟨g3, j * 5 + 2, none⟩ = some (.int .i64 x) ∧ w'.cell? ⟨g3, j * 5 + 3, none⟩ = some (.string { data := #[] }) ∧ w'.cell? ⟨g3, j * 5 + 4, none⟩ = some (.slice none 0 0) ∧ w'.cell? ⟨g3, k * 5, none⟩ = some (.int .i64 2) ∧ w'.cell? ⟨g3, k * 5 + 1, none⟩ = some (.bool false) ∧ w'.cell? ⟨g3, k * 5 + 2, none⟩ = some (.int .i64 y) ∧ w'.cell? ⟨g3, k * 5 + 3, none⟩ = some (.string { data := #[] }) ∧ w'.cell? ⟨g3, k * 5 + 4, none⟩ = some (.slice none 0 0))) := fun w' hb => by
        have t : ∀ o, w'.cell? ⟨g3, o, none⟩ = w5.cell? ⟨g3, o, none⟩ := fun o => (hb.cell (p := ⟨g3, o, none⟩) hz3).trans (HR.out.cell (p := ⟨g3, o, none⟩) HX.out.1)
        obtain ⟨_, _, x0, x1, x2, x3, x4⟩ := HX.out
        obtain ⟨_, _, y0, y1, y2, y3, y4⟩ := HY.out
        exact ⟨(t _).trans x0, (t _).trans x1, (t _).trans x2, (t _).trans x3, (t _).trans x4, (t _).trans y0, (t _).trans y1, (t _).trans y2, (t _).trans y3, (t _).trans y4⟩
      have s0 := SH.out wr (Below.refl _ _)
      have hle1 : wr.heap.size ≤ wr.heap.size + 1 := Nat.le_succ _
      obtain ⟨x0, x1, x2, x3, x4, y0, y1, y2, y3, y4⟩ := s0
      clear hx hy hix hiy HX HY hj hk1
      go_upto_region 14 with fail
      go_cut [11, 12] (fun s11 s12 wx => ∃ p q, s11 = .pointer (some ⟨p, 0, none⟩) ∧ s12 = .pointer (some ⟨q, 0, none⟩) ∧ p ≠ q ∧ Hid (wr.heap.size ≤ p) ∧ Hid (wr.heap.size ≤ q) ∧ Hid (Below wr.heap.size wr wx) ∧ Hid (wx.heap[p]? = some (.cells #[.int .i64 2, .bool false, .int .i64 x, .string { data := #[] }, .slice none 0 0] 27 (0, 0))) ∧ Hid (wx.heap[q]? = some (.cells #[.int .i64 2, .bool false, .int .i64 y, .string { data := #[] }, .slice none 0 0] 27 (0, 0))))
      case first =>
        go_region_held3 (fun w' => w'.cell? ⟨g3, j * 5, none⟩ = some (.int .i64 2) ∧ w'.cell? ⟨g3, j * 5 + 1, none⟩ = some (.bool false) ∧ w'.cell? ⟨g3, j * 5 + 2, none⟩ = some (.int .i64 x) ∧ w'.cell? ⟨g3, j * 5 + 3, none⟩ = some (.string { data := #[] }) ∧ w'.cell? ⟨g3, j * 5 + 4, none⟩ = some (.slice none 0 0) ∧ w'.cell? ⟨g3, k * 5, none⟩ = some (.int .i64 2) ∧ w'.cell? ⟨g3, k * 5 + 1, none⟩ = some (.bool false) ∧ w'.cell? ⟨g3, k * 5 + 2, none⟩ = some (.int .i64 y) ∧ w'.cell? ⟨g3, k * 5 + 3, none⟩ = some (.string { data := #[] }) ∧ w'.cell? ⟨g3, k * 5 + 4, none⟩ = some (.slice none 0 0))
          (first
            | (with_reducible refine SH.out _ ?_
               repeat (with_reducible first | exact Below.refl _ _ | refine Below.setCell (p := ⟨wr.heap.size, _, none⟩) ?_ (Nat.le_refl _) _ | refine Below.setCell (p := ⟨wr.heap.size + 1, _, none⟩) ?_ hle1 _ | refine Below.alloc ?_ (Nat.le_refl _) _ | refine Below.alloc ?_ (le_allocN (Nat.le_refl _)) _ | refine Below.drew ?_)))
          (fail)
        all_goals
          go_wp2_with fail
          go_meet
          first
            | exact ⟨_, _, rfl, rfl, by omega, Nat.le_refl _, hle1, (((Below.refl _ _).alloc (Nat.le_refl _) _).alloc (le_allocN (Nat.le_refl _)) _).drew, heap_two, heap_second⟩
            | exact ⟨_, _, rfl, rfl, by omega, hle1, Nat.le_refl _, (((Below.refl _ _).alloc (Nat.le_refl _) _).alloc (le_allocN (Nat.le_refl _)) _).drew, heap_second, heap_two⟩
      case rest =>
        obtain ⟨p, q, rfl, rfl, hpq, HP0, HQ0, HBC, HP, HQ⟩ := hcut
        clear SH x0 x1 x2 x3 x4 y0 y1 y2 y3 y4 i3 i4 j0 j1 k0 k1 hd hd2 hle1 HJ hc3 hz3
        obtain ⟨v0, hv0⟩ : ∃ v, v = wc := ⟨_, rfl⟩
        rw [← hv0] at HBC HP HQ ⊢
        clear hv0
        have HZ0 := Lib.hid (below_down HR.out HBC.out (Nat.le_refl _))
        have qp := fun o => cell_of HP.out o
        have qq := fun o => cell_of HQ.out o
        have lp := blk_lt HP.out
        have lq := blk_lt HQ.out
        obtain ⟨A, hA⟩ : ∃ A, A = boundK (x + y) := ⟨_, rfl⟩
        obtain ⟨M, hM⟩ : ∃ M, M = boundK (x * y) := ⟨_, rfl⟩
        have HAA : Hid (∀ g w, twoN w g x y → Calls Tryd.prog 7 #[.int .i64 16, .slice (some ⟨g, 0, none⟩) 2 2] w (GivesN w A)) := fun g w h => by rw [hA]; exact opN_add x y HIX.out HIY.out g w h
        have HAB : Hid (∀ g w, twoN w g y x → Calls Tryd.prog 7 #[.int .i64 16, .slice (some ⟨g, 0, none⟩) 2 2] w (GivesN w A)) := fun g w h => by rw [hA, Int.add_comm]; exact opN_add y x HIY.out HIX.out g w h
        have HMA : Hid (∀ g w, twoN w g x y → Calls Tryd.prog 7 #[.int .i64 18, .slice (some ⟨g, 0, none⟩) 2 2] w (GivesN w M)) := fun g w h => by rw [hM]; exact opN_mul x y HIX.out HIY.out g w h
        have HMB : Hid (∀ g w, twoN w g y x → Calls Tryd.prog 7 #[.int .i64 18, .slice (some ⟨g, 0, none⟩) 2 2] w (GivesN w M)) := fun g w h => by rw [hM, Int.mul_comm]; exact opN_mul y x HIY.out HIX.out g w h
        have HSA : Hid (∀ w' a1 c1 a2 c2, Calls Tryd.prog 6 #[.agg #[.int .i64 (kOf A), .bool false, .int .i64 (nOf A), .string { data := #[] }, .slice a1 0 c1], .agg #[.int .i64 (kOf A), .bool false, .int .i64 (nOf A), .string { data := #[] }, .slice a2 0 c2]] w' fun e w'' => e = .returned (.bool true) ∧ Below w'.heap.size w' w'') := fun w' a1 c1 a2 c2 => same_flat _ _ (kOf_two A) (by rw [hA]; exact bound_inI _) a1 a2 c1 c2 w'
        have HSM : Hid (∀ w' a1 c1 a2 c2, Calls Tryd.prog 6 #[.agg #[.int .i64 (kOf M), .bool false, .int .i64 (nOf M), .string { data := #[] }, .slice a1 0 c1], .agg #[.int .i64 (kOf M), .bool false, .int .i64 (nOf M), .string { data := #[] }, .slice a2 0 c2]] w' fun e w'' => e = .returned (.bool true) ∧ Below w'.heap.size w' w'') := fun w' a1 c1 a2 c2 => same_flat _ _ (kOf_two M) (by rw [hM]; exact bound_inI _) a1 a2 c1 c2 w'
        have HA' := Lib.hid hA
        unfold GivesN at HAA HAB HMA HMB
        obtain ⟨kA, hkA⟩ : ∃ K, K = kOf A := ⟨_, rfl⟩
        obtain ⟨nA, hnA⟩ : ∃ K, K = nOf A := ⟨_, rfl⟩
        obtain ⟨eA, heA⟩ : ∃ K, K = A.2 := ⟨_, rfl⟩
        obtain ⟨kM, hkM⟩ : ∃ K, K = kOf M := ⟨_, rfl⟩
        obtain ⟨nM, hnM⟩ : ∃ K, K = nOf M := ⟨_, rfl⟩
        obtain ⟨eM, heM⟩ : ∃ K, K = M.2 := ⟨_, rfl⟩
        rw [← hkA, ← hnA, ← heA] at HAA HAB
        rw [← hkA, ← hnA] at HSA
        rw [← hkM, ← hnM, ← heM] at HMA HMB
        rw [← hkM, ← hnM] at HSM
        have HKA := Lib.hid hkA
        have HNA := Lib.hid hnA
        have HEA := Lib.hid heA
        clear hA hM hkA hnA heA hkM hnM heM
        go_wp2_with fail
        clear qp qq
        obtain ⟨g, hg⟩ : ∃ g, g = v0.heap.size := ⟨_, rfl⟩
        obtain ⟨v1, hv1⟩ : ∃ v, v = v0.alloc (.cells #[.int .i64 2, .bool false, .int .i64 x, .string { data := #[] }, .slice none 0 0, .int .i64 2, .bool false, .int .i64 y, .string { data := #[] }, .slice none 0 0] 27) := ⟨_, rfl⟩
        have h1 : v1.heap[g]? = some (.cells #[.int .i64 2, .bool false, .int .i64 x, .string { data := #[] }, .slice none 0 0, .int .i64 2, .bool false, .int .i64 y, .string { data := #[] }, .slice none 0 0] 27 (0, 0)) := by rw [hv1, hg]; exact heap_last
        have hb1 : Below v0.heap.size v0 v1 := by rw [hv1]; exact (Below.refl _ _).alloc (Nat.le_refl _) _
        rw [← hv1, ← hg]
        have hgp : p ≠ g := by omega
        have hgq : q ≠ g := by omega
        clear hv1 hg
        have HZ1 := Lib.hid (below_down HZ0.out hb1 (Nat.le_refl _))
        have HG1 := Lib.hid h1
        have HP1 := Lib.hid (blk_below HP.out hb1)
        have HQ1 := Lib.hid (blk_below HQ.out hb1)
        clear h1 hb1 HP HQ lp lq HZ0
        refine (HAA.out g v1 ⟨_, _, _, _, HG1.out⟩).mono ?_
        rintro e v2 ⟨s1, d1, rfl, hb2⟩
        have HZ2 := Lib.hid (below_down HZ1.out hb2 (Nat.le_refl _))
        have HG2 := Lib.hid (blk_below HG1.out hb2)
        have HP2 := Lib.hid (blk_below HP1.out hb2)
        have HQ2 := Lib.hid (blk_below HQ1.out hb2)
        clear hb2 HG1 HP1 HQ1 HZ1
        have Hp_2 := HP2
        have Hq_2 := HQ2
        have Hg_2 := HG2
        clear HP2 HQ2 HG2
        have qp := fun o => cell_of Hp_2.out o
        have lp := blk_lt Hp_2.out
        have np : p ≠ v2.heap.size := by omega
        have qq := fun o => cell_of Hq_2.out o
        have lq := blk_lt Hq_2.out
        have nq : q ≠ v2.heap.size := by omega
        go_wp2_with fail
        clear qp lp np qq lq nq
        obtain ⟨b14, hb14⟩ : ∃ g, g = v2.heap.size := ⟨_, rfl⟩
        obtain ⟨v3, hv⟩ : ∃ v, v = v2.alloc (.cells #[.int .i64 kA, .bool false, .int .i64 nA, .string { data := #[] }, .slice s1 0 d1] 27) := ⟨_, rfl⟩
        have hsv : v3.heap.size = v2.heap.size + 1 := by rw [hv]; simp
        have hx : v3.heap[b14]? = some (.cells #[.int .i64 kA, .bool false, .int .i64 nA, .string { data := #[] }, .slice s1 0 d1] 27 (0, 0)) := by rw [hv, hb14]; exact heap_last
        have hb : Below v2.heap.size v2 v3 := by rw [hv]; exact (Below.refl _ _).alloc (Nat.le_refl _) _
        rw [← hv]
        have HZ3 := Lib.hid (below_down HZ2.out hb (Nat.le_refl _))
        have Hp_3 := Lib.hid (blk_below Hp_2.out hb)
        have Hq_3 := Lib.hid (blk_below Hq_2.out hb)
        have Hg_3 := Lib.hid (blk_below Hg_2.out hb)
        clear HZ2 Hp_2 Hq_2 Hg_2
        have Hb14_3 := Lib.hid hx
        clear hv hx hb
        rw [← hb14] at hsv ⊢
        rw [← hsv]
        clear hsv
        obtain ⟨g2, hg2⟩ : ∃ g, g = v3.heap.size := ⟨_, rfl⟩
        obtain ⟨v4, hv⟩ : ∃ v, v = v3.alloc (.cells #[.int .i64 2, .bool false, .int .i64 y, .string { data := #[] }, .slice none 0 0, .int .i64 2, .bool false, .int .i64 x, .string { data := #[] }, .slice none 0 0] 27) := ⟨_, rfl⟩
        have hsv : v4.heap.size = v3.heap.size + 1 := by rw [hv]; simp
        have hx : v4.heap[g2]? = some (.cells #[.int .i64 2, .bool false, .int .i64 y, .string { data := #[] }, .slice none 0 0, .int .i64 2, .bool false, .int .i64 x, .string { data := #[] }, .slice none 0 0] 27 (0, 0)) := by rw [hv, hg2]; exact heap_last
        have hb : Below v3.heap.size v3 v4 := by rw [hv]; exact (Below.refl _ _).alloc (Nat.le_refl _) _
        rw [← hv]
        have HZ4 := Lib.hid (below_down HZ3.out hb (Nat.le_refl _))
        have Hp_4 := Lib.hid (blk_below Hp_3.out hb)
        have Hq_4 := Lib.hid (blk_below Hq_3.out hb)
        have Hg_4 := Lib.hid (blk_below Hg_3.out hb)
        have Hb14_4 := Lib.hid (blk_below Hb14_3.out hb)
        clear HZ3 Hp_3 Hq_3 Hg_3 Hb14_3
        have Hg2_4 := Lib.hid hx
        clear hv hx hb
        rw [← hg2]
        clear hsv hb14 hg2
        refine (HAB.out g2 v4 ⟨_, _, _, _, Hg2_4.out⟩).mono ?_
        rintro e v5 ⟨s2, d2, rfl, hb⟩
        have HZ5 := Lib.hid (below_down HZ4.out hb (Nat.le_refl _))
        have Hp_5 := Lib.hid (blk_below Hp_4.out hb)
        have Hq_5 := Lib.hid (blk_below Hq_4.out hb)
        have Hg_5 := Lib.hid (blk_below Hg_4.out hb)
        have Hb14_5 := Lib.hid (blk_below Hb14_4.out hb)
        have Hg2_5 := Lib.hid (blk_below Hg2_4.out hb)
        clear HZ4 Hp_4 Hq_4 Hg_4 Hb14_4 Hg2_4
        clear hb
        go_wp2_with fail
        obtain ⟨b16, hb16⟩ : ∃ g, g = v5.heap.size := ⟨_, rfl⟩
        obtain ⟨v6, hv⟩ : ∃ v, v = v5.alloc (.cells #[.int .i64 kA, .bool false, .int .i64 nA, .string { data := #[] }, .slice s2 0 d2] 27) := ⟨_, rfl⟩
        have hsv : v6.heap.size = v5.heap.size + 1 := by rw [hv]; simp
        have hx : v6.heap[b16]? = some (.cells #[.int .i64 kA, .bool false, .int .i64 nA, .string { data := #[] }, .slice s2 0 d2] 27 (0, 0)) := by rw [hv, hb16]; exact heap_last
        have hb : Below v5.heap.size v5 v6 := by rw [hv]; exact (Below.refl _ _).alloc (Nat.le_refl _) _
        rw [← hv]
        have HZ6 := Lib.hid (below_down HZ5.out hb (Nat.le_refl _))
        have Hp_6 := Lib.hid (blk_below Hp_5.out hb)
        have Hq_6 := Lib.hid (blk_below Hq_5.out hb)
        have Hg_6 := Lib.hid (blk_below Hg_5.out hb)
        have Hb14_6 := Lib.hid (blk_below Hb14_5.out hb)
        clear HZ5 Hp_5 Hq_5 Hg_5 Hb14_5
        have Hb16_6 := Lib.hid hx
        clear hv hx hb
        rw [← hb16]
        clear hsv hb16
        refine (HMA.out g v6 ⟨_, _, _, _, Hg_6.out⟩).mono ?_
        rintro e v7 ⟨s3, d3, rfl, hb⟩
        have HZ7 := Lib.hid (below_down HZ6.out hb (Nat.le_refl _))
        have Hp_7 := Lib.hid (blk_below Hp_6.out hb)
        have Hq_7 := Lib.hid (blk_below Hq_6.out hb)
        have Hg_7 := Lib.hid (blk_below Hg_6.out hb)
        have Hb14_7 := Lib.hid (blk_below Hb14_6.out hb)
        have Hb16_7 := Lib.hid (blk_below Hb16_6.out hb)
        clear HZ6 Hp_6 Hq_6 Hg_6 Hb14_6 Hb16_6
        clear hb
        have qp := fun o => cell_of Hp_7.out o
        have lp := blk_lt Hp_7.out
        have np : p ≠ v7.heap.size := by omega
        have qq := fun o => cell_of Hq_7.out o
        have lq := blk_lt Hq_7.out
        have nq : q ≠ v7.heap.size := by omega
        go_wp2_with fail
        clear qp lp np qq lq nq
        obtain ⟨b18, hb18⟩ : ∃ g, g = v7.heap.size := ⟨_, rfl⟩
        obtain ⟨v8, hv⟩ : ∃ v, v = v7.alloc (.cells #[.int .i64 kM, .bool false, .int .i64 nM, .string { data := #[] }, .slice s3 0 d3] 27) := ⟨_, rfl⟩
        have hsv : v8.heap.size = v7.heap.size + 1 := by rw [hv]; simp
        have hx : v8.heap[b18]? = some (.cells #[.int .i64 kM, .bool false, .int .i64 nM, .string { data := #[] }, .slice s3 0 d3] 27 (0, 0)) := by rw [hv, hb18]; exact heap_last
        have hb : Below v7.heap.size v7 v8 := by rw [hv]; exact (Below.refl _ _).alloc (Nat.le_refl _) _
        rw [← hv]
        have HZ8 := Lib.hid (below_down HZ7.out hb (Nat.le_refl _))
        have Hp_8 := Lib.hid (blk_below Hp_7.out hb)
        have Hq_8 := Lib.hid (blk_below Hq_7.out hb)
        have Hg_8 := Lib.hid (blk_below Hg_7.out hb)
        have Hb14_8 := Lib.hid (blk_below Hb14_7.out hb)
        have Hb16_8 := Lib.hid (blk_below Hb16_7.out hb)
        clear HZ7 Hp_7 Hq_7 Hg_7 Hb14_7 Hb16_7
        have Hb18_8 := Lib.hid hx
        clear hv hx hb
        rw [← hb18] at hsv ⊢
        rw [← hsv]
        clear hsv
        obtain ⟨g4, hg4⟩ : ∃ g, g = v8.heap.size := ⟨_, rfl⟩
        obtain ⟨v9, hv⟩ : ∃ v, v = v8.alloc (.cells #[.int .i64 2, .bool false, .int .i64 y, .string { data := #[] }, .slice none 0 0, .int .i64 2, .bool false, .int .i64 x, .string { data := #[] }, .slice none 0 0] 27) := ⟨_, rfl⟩
        have hsv : v9.heap.size = v8.heap.size + 1 := by rw [hv]; simp
        have hx : v9.heap[g4]? = some (.cells #[.int .i64 2, .bool false, .int .i64 y, .string { data := #[] }, .slice none 0 0, .int .i64 2, .bool false, .int .i64 x, .string { data := #[] }, .slice none 0 0] 27 (0, 0)) := by rw [hv, hg4]; exact heap_last
        have hb : Below v8.heap.size v8 v9 := by rw [hv]; exact (Below.refl _ _).alloc (Nat.le_refl _) _
        rw [← hv]
        have HZ9 := Lib.hid (below_down HZ8.out hb (Nat.le_refl _))
        have Hp_9 := Lib.hid (blk_below Hp_8.out hb)
        have Hq_9 := Lib.hid (blk_below Hq_8.out hb)
        have Hg_9 := Lib.hid (blk_below Hg_8.out hb)
        have Hb14_9 := Lib.hid (blk_below Hb14_8.out hb)
        have Hb16_9 := Lib.hid (blk_below Hb16_8.out hb)
        have Hb18_9 := Lib.hid (blk_below Hb18_8.out hb)
        clear HZ8 Hp_8 Hq_8 Hg_8 Hb14_8 Hb16_8 Hb18_8
        have Hg4_9 := Lib.hid hx
        clear hv hx hb
        rw [← hg4]
        clear hsv hb18 hg4
        refine (HMB.out g4 v9 ⟨_, _, _, _, Hg4_9.out⟩).mono ?_
        rintro e v10 ⟨s4, d4, rfl, hb⟩
        have HZ10 := Lib.hid (below_down HZ9.out hb (Nat.le_refl _))
        have Hp_10 := Lib.hid (blk_below Hp_9.out hb)
        have Hq_10 := Lib.hid (blk_below Hq_9.out hb)
        have Hg_10 := Lib.hid (blk_below Hg_9.out hb)
        have Hb14_10 := Lib.hid (blk_below Hb14_9.out hb)
        have Hb16_10 := Lib.hid (blk_below Hb16_9.out hb)
        have Hb18_10 := Lib.hid (blk_below Hb18_9.out hb)
        have Hg4_10 := Lib.hid (blk_below Hg4_9.out hb)
        clear HZ9 Hp_9 Hq_9 Hg_9 Hb14_9 Hb16_9 Hb18_9 Hg4_9
        clear hb
        have qb14 := fun o => cell_of Hb14_10.out o
        have lb14 := blk_lt Hb14_10.out
        have nb14 : b14 ≠ v10.heap.size := by omega
        have qb16 := fun o => cell_of Hb16_10.out o
        have lb16 := blk_lt Hb16_10.out
        have nb16 : b16 ≠ v10.heap.size := by omega
        have dA : (eA != eA) = false := by simp
        have dM : (eM != eM) = false := by simp
        go_wp2_with fail
        clear qb14 lb14 nb14 qb16 lb16 nb16
        obtain ⟨b20, hb20⟩ : ∃ g, g = v10.heap.size := ⟨_, rfl⟩
        obtain ⟨v11, hv⟩ : ∃ v, v = v10.alloc (.cells #[.int .i64 kM, .bool false, .int .i64 nM, .string { data := #[] }, .slice s4 0 d4] 27) := ⟨_, rfl⟩
        have hsv : v11.heap.size = v10.heap.size + 1 := by rw [hv]; simp
        have hx : v11.heap[b20]? = some (.cells #[.int .i64 kM, .bool false, .int .i64 nM, .string { data := #[] }, .slice s4 0 d4] 27 (0, 0)) := by rw [hv, hb20]; exact heap_last
        have hb : Below v10.heap.size v10 v11 := by rw [hv]; exact (Below.refl _ _).alloc (Nat.le_refl _) _
        rw [← hv]
        have HZ11 := Lib.hid (below_down HZ10.out hb (Nat.le_refl _))
        have Hp_11 := Lib.hid (blk_below Hp_10.out hb)
        have Hq_11 := Lib.hid (blk_below Hq_10.out hb)
        have Hg_11 := Lib.hid (blk_below Hg_10.out hb)
        have Hb14_11 := Lib.hid (blk_below Hb14_10.out hb)
        have Hb16_11 := Lib.hid (blk_below Hb16_10.out hb)
        have Hb18_11 := Lib.hid (blk_below Hb18_10.out hb)
        clear HZ10 Hp_10 Hq_10 Hg_10 Hb14_10 Hb16_10 Hb18_10
        have Hb20_11 := Lib.hid hx
        clear hv hx hb
        rw [← hb20]
        clear hsv hb20
        refine (HSA.out v11 s1 d1 s2 d2).mono ?_
        rintro e v12 ⟨rfl, hb⟩
        have HZ12 := Lib.hid (below_down HZ11.out hb (Nat.le_refl _))
        have Hp_12 := Lib.hid (blk_below Hp_11.out hb)
        have Hq_12 := Lib.hid (blk_below Hq_11.out hb)
        have Hg_12 := Lib.hid (blk_below Hg_11.out hb)
        have Hb14_12 := Lib.hid (blk_below Hb14_11.out hb)
        have Hb16_12 := Lib.hid (blk_below Hb16_11.out hb)
        have Hb18_12 := Lib.hid (blk_below Hb18_11.out hb)
        have Hb20_12 := Lib.hid (blk_below Hb20_11.out hb)
        clear HZ11 Hp_11 Hq_11 Hg_11 Hb14_11 Hb16_11 Hb18_11 Hb20_11
        clear hb
        have qb18 := fun o => cell_of Hb18_12.out o
        have lb18 := blk_lt Hb18_12.out
        have nb18 : b18 ≠ v12.heap.size := by omega
        have qb20 := fun o => cell_of Hb20_12.out o
        have lb20 := blk_lt Hb20_12.out
        have nb20 : b20 ≠ v12.heap.size := by omega
        go_wp2_with fail
        clear qb18 lb18 nb18 qb20 lb20 nb20
        refine (HSM.out v12 s3 d3 s4 d4).mono ?_
        rintro e v13 ⟨rfl, hb⟩
        have HZ13 := Lib.hid (below_down HZ12.out hb (Nat.le_refl _))
        have Hp_13 := Lib.hid (blk_below Hp_12.out hb)
        have Hq_13 := Lib.hid (blk_below Hq_12.out hb)
        have Hg_13 := Lib.hid (blk_below Hg_12.out hb)
        have Hb14_13 := Lib.hid (blk_below Hb14_12.out hb)
        have Hb16_13 := Lib.hid (blk_below Hb16_12.out hb)
        have Hb18_13 := Lib.hid (blk_below Hb18_12.out hb)
        have Hb20_13 := Lib.hid (blk_below Hb20_12.out hb)
        clear HZ12 Hp_12 Hq_12 Hg_12 Hb14_12 Hb16_12 Hb18_12 Hb20_12
        clear hb
        clear dA dM HSA HSM HAA HAB HMA HMB
        clear Hb16_13
        clear Hb18_13
        clear Hb20_13
        have hcase : (eA = 0 ∧ kA = 2 ∧ nA = x + y ∧ inI (x + y)) ∨ eA = 2 := by
          rw [HEA.out, HKA.out, HNA.out, HA'.out]
          rcases bound_two (x + y) with ⟨h, hi⟩ | h
          · left; rw [bound_yes hi]; exact ⟨rfl, rfl, rfl, hi⟩
          · right; exact h
        have HDV : Hid (∀ g w, twoN w g x y → Calls Tryd.prog 7 #[.int .i64 19, .slice (some ⟨g, 0, none⟩) 2 2] w (GivesN w (divK x y))) := fun g w h => opN_div x y HIX.out HIY.out g w h
        have HMD : Hid (∀ g w, twoN w g x y → Calls Tryd.prog 7 #[.int .i64 20, .slice (some ⟨g, 0, none⟩) 2 2] w (GivesN w (modK x y))) := fun g w h => opN_mod x y HIX.out HIY.out g w h
        unfold GivesN at HDV HMD
        have hcaseD : Hid ((y = 0 ∧ (divK x y).2 = 3 ∧ (modK x y).2 = 3) ∨ (y ≠ 0 ∧ kOf (divK x y) = 2 ∧ nOf (divK x y) = x.tdiv y ∧ (divK x y).2 = 0 ∧ nOf (modK x y) = x.tmod y ∧ (modK x y).2 = 0) ∨ (y = -1 ∧ x = -9223372036854775808 ∧ (divK x y).2 = 2 ∧ (modK x y).2 = 0)) := by
          by_cases h0 : y = 0
          · left; subst h0; exact ⟨rfl, rfl, rfl⟩
          · right
            have hm : modK x y = (x.tmod y, 0) := if_neg h0
            rcases div_two x y HIX.out HIY.out h0 with ⟨h, _⟩ | ⟨h, h1, h2⟩
            · left; rw [h, hm]; exact ⟨h0, rfl, rfl, rfl, rfl, rfl⟩
            · right; rw [h, hm]; exact ⟨h2, h1, rfl, rfl⟩
        obtain ⟨kD, hkD⟩ : ∃ K, K = kOf (divK x y) := ⟨_, rfl⟩
        obtain ⟨nD, hnD⟩ : ∃ K, K = nOf (divK x y) := ⟨_, rfl⟩
        obtain ⟨eD, heD⟩ : ∃ K, K = (divK x y).2 := ⟨_, rfl⟩
        obtain ⟨kR, hkR⟩ : ∃ K, K = kOf (modK x y) := ⟨_, rfl⟩
        obtain ⟨nR, hnR⟩ : ∃ K, K = nOf (modK x y) := ⟨_, rfl⟩
        obtain ⟨eR, heR⟩ : ∃ K, K = (modK x y).2 := ⟨_, rfl⟩
        rw [← hkD, ← hnD, ← heD] at HDV hcaseD
        rw [← hnR, ← heR] at HMD hcaseD
        rw [← hkR] at HMD
        clear hkD hnD heD hkR hnR heR HEA HKA HNA HA'
        rcases hcase with ⟨rfl, rfl, rfl, hixy⟩ | rfl
        · have HSB : Hid (∀ g w, twoN w g (x + y) y → Calls Tryd.prog 7 #[.int .i64 17, .slice (some ⟨g, 0, none⟩) 2 2] w fun e w' => ∃ s c, e = .returned (.tuple #[.agg #[.int .i64 2, .bool false, .int .i64 x, .string { data := #[] }, .slice s 0 c], .int .i64 0]) ∧ Below w.heap.size w w') := fun g w h => by
            have := opN_sub (x + y) y hixy HIY.out g w h
            have hh : (fun a b => boundK (a - b)) (x + y) y = (x, 0) := by
              show boundK (x + y - y) = _
              rw [Int.add_sub_cancel, bound_yes HIX.out]
            rw [hh] at this
            exact this
          have HSX : Hid (∀ w' a1 c1 a2 c2, Calls Tryd.prog 6 #[.agg #[.int .i64 2, .bool false, .int .i64 x, .string { data := #[] }, .slice a1 0 c1], .agg #[.int .i64 2, .bool false, .int .i64 x, .string { data := #[] }, .slice a2 0 c2]] w' fun e w'' => e = .returned (.bool true) ∧ Below w'.heap.size w' w'') := fun w' a1 c1 a2 c2 => same_flat 2 x (.inr rfl) HIX.out a1 a2 c1 c2 w'
          clear hixy
          have qb14 := fun o => cell_of Hb14_13.out o
          have lb14 := blk_lt Hb14_13.out
          have nb14 : b14 ≠ v13.heap.size := by omega
          have qq := fun o => cell_of Hq_13.out o
          have lq := blk_lt Hq_13.out
          have nq : q ≠ v13.heap.size := by omega
          go_wp2_with fail
          clear qb14 lb14 nb14 qq lq nq
          obtain ⟨g5, hg5⟩ : ∃ g, g = v13.heap.size := ⟨_, rfl⟩
          obtain ⟨v14, hv⟩ : ∃ v, v = v13.alloc (.cells #[.int .i64 2, .bool false, .int .i64 (x + y), .string { data := #[] }, .slice s1 0 d1, .int .i64 2, .bool false, .int .i64 y, .string { data := #[] }, .slice none 0 0] 27) := ⟨_, rfl⟩
          have hsv : v14.heap.size = v13.heap.size + 1 := by rw [hv]; simp
          have hx : v14.heap[g5]? = some (.cells #[.int .i64 2, .bool false, .int .i64 (x + y), .string { data := #[] }, .slice s1 0 d1, .int .i64 2, .bool false, .int .i64 y, .string { data := #[] }, .slice none 0 0] 27 (0, 0)) := by rw [hv, hg5]; exact heap_last
          have hb : Below v13.heap.size v13 v14 := by rw [hv]; exact (Below.refl _ _).alloc (Nat.le_refl _) _
          rw [← hv]
          have HZ14 := Lib.hid (below_down HZ13.out hb (Nat.le_refl _))
          have Hp_14 := Lib.hid (blk_below Hp_13.out hb)
          have Hq_14 := Lib.hid (blk_below Hq_13.out hb)
          have Hg_14 := Lib.hid (blk_below Hg_13.out hb)
          have Hb14_14 := Lib.hid (blk_below Hb14_13.out hb)
          clear HZ13 Hp_13 Hq_13 Hg_13 Hb14_13
          have Hg5_14 := Lib.hid hx
          clear hv hx hb
          rw [← hg5]
          clear hsv hg5
          refine (HSB.out g5 v14 ⟨_, _, _, _, Hg5_14.out⟩).mono ?_
          rintro e v15 ⟨s5, d5, rfl, hb⟩
          have HZ15 := Lib.hid (below_down HZ14.out hb (Nat.le_refl _))
          have Hp_15 := Lib.hid (blk_below Hp_14.out hb)
          have Hq_15 := Lib.hid (blk_below Hq_14.out hb)
          have Hg_15 := Lib.hid (blk_below Hg_14.out hb)
          have Hb14_15 := Lib.hid (blk_below Hb14_14.out hb)
          have Hg5_15 := Lib.hid (blk_below Hg5_14.out hb)
          clear HZ14 Hp_14 Hq_14 Hg_14 Hb14_14 Hg5_14
          clear hb
          clear Hg5_15 Hb14_15
          have qp := fun o => cell_of Hp_15.out o
          have lp := blk_lt Hp_15.out
          have np : p ≠ v15.heap.size := by omega
          go_wp2_with fail
          clear qp lp np
          obtain ⟨b22, hb22⟩ : ∃ g, g = v15.heap.size := ⟨_, rfl⟩
          obtain ⟨v16, hv⟩ : ∃ v, v = v15.alloc (.cells #[.int .i64 2, .bool false, .int .i64 x, .string { data := #[] }, .slice s5 0 d5] 27) := ⟨_, rfl⟩
          have hsv : v16.heap.size = v15.heap.size + 1 := by rw [hv]; simp
          have hx : v16.heap[b22]? = some (.cells #[.int .i64 2, .bool false, .int .i64 x, .string { data := #[] }, .slice s5 0 d5] 27 (0, 0)) := by rw [hv, hb22]; exact heap_last
          have hb : Below v15.heap.size v15 v16 := by rw [hv]; exact (Below.refl _ _).alloc (Nat.le_refl _) _
          rw [← hv]
          have HZ16 := Lib.hid (below_down HZ15.out hb (Nat.le_refl _))
          have Hp_16 := Lib.hid (blk_below Hp_15.out hb)
          have Hq_16 := Lib.hid (blk_below Hq_15.out hb)
          have Hg_16 := Lib.hid (blk_below Hg_15.out hb)
          clear HZ15 Hp_15 Hq_15 Hg_15
          have Hb22_16 := Lib.hid hx
          clear hv hx hb
          rw [← hb22]
          clear hsv hb22
          refine (HSX.out v16 s5 d5 none 0).mono ?_
          rintro e v17 ⟨rfl, hb⟩
          have HZ17 := Lib.hid (below_down HZ16.out hb (Nat.le_refl _))
          have Hp_17 := Lib.hid (blk_below Hp_16.out hb)
          have Hq_17 := Lib.hid (blk_below Hq_16.out hb)
          have Hg_17 := Lib.hid (blk_below Hg_16.out hb)
          have Hb22_17 := Lib.hid (blk_below Hb22_16.out hb)
          clear HZ16 Hp_16 Hq_16 Hg_16 Hb22_16
          clear hb
          clear Hb22_17 HSB HSX
          go_wp2_with fail
          refine (HDV.out g v17 ⟨_, _, _, _, Hg_17.out⟩).mono ?_
          rintro e v18 ⟨s6, d6, rfl, hb⟩
          have HZ18 := Lib.hid (below_down HZ17.out hb (Nat.le_refl _))
          have Hp_18 := Lib.hid (blk_below Hp_17.out hb)
          have Hq_18 := Lib.hid (blk_below Hq_17.out hb)
          have Hg_18 := Lib.hid (blk_below Hg_17.out hb)
          clear HZ17 Hp_17 Hq_17 Hg_17
          clear hb
          go_wp2_with fail
          obtain ⟨b24, hb24⟩ : ∃ g, g = v18.heap.size := ⟨_, rfl⟩
          obtain ⟨v19, hv⟩ : ∃ v, v = v18.alloc (.cells #[.int .i64 kD, .bool false, .int .i64 nD, .string { data := #[] }, .slice s6 0 d6] 27) := ⟨_, rfl⟩
          have hsv : v19.heap.size = v18.heap.size + 1 := by rw [hv]; simp
          have hx : v19.heap[b24]? = some (.cells #[.int .i64 kD, .bool false, .int .i64 nD, .string { data := #[] }, .slice s6 0 d6] 27 (0, 0)) := by rw [hv, hb24]; exact heap_last
          have hb : Below v18.heap.size v18 v19 := by rw [hv]; exact (Below.refl _ _).alloc (Nat.le_refl _) _
          rw [← hv]
          have HZ19 := Lib.hid (below_down HZ18.out hb (Nat.le_refl _))
          have Hp_19 := Lib.hid (blk_below Hp_18.out hb)
          have Hq_19 := Lib.hid (blk_below Hq_18.out hb)
          have Hg_19 := Lib.hid (blk_below Hg_18.out hb)
          clear HZ18 Hp_18 Hq_18 Hg_18
          have Hb24_19 := Lib.hid hx
          clear hv hx hb
          rw [← hb24]
          clear hsv hb24
          refine (HMD.out g v19 ⟨_, _, _, _, Hg_19.out⟩).mono ?_
          rintro e v20 ⟨s7, d7, rfl, hb⟩
          have HZ20 := Lib.hid (below_down HZ19.out hb (Nat.le_refl _))
          have Hp_20 := Lib.hid (blk_below Hp_19.out hb)
          have Hq_20 := Lib.hid (blk_below Hq_19.out hb)
          have Hg_20 := Lib.hid (blk_below Hg_19.out hb)
          have Hb24_20 := Lib.hid (blk_below Hb24_19.out hb)
          clear HZ19 Hp_19 Hq_19 Hg_19 Hb24_19
          clear hb
          have qp := fun o => cell_of Hp_20.out o
          have lp := blk_lt Hp_20.out
          have np : p ≠ v20.heap.size := by omega
          have qq := fun o => cell_of Hq_20.out o
          have lq := blk_lt Hq_20.out
          have nq : q ≠ v20.heap.size := by omega
          have qb24 := fun o => cell_of Hb24_20.out o
          have lb24 := blk_lt Hb24_20.out
          have nb24 : b24 ≠ v20.heap.size := by omega
          clear HDV HMD
          have hle := HZ20.out.size
          have HE := Lib.hid (HZ20.out.alloc HZ20.out.size (.cells #[.int .i64 kR, .bool false, .int .i64 nR, .string { data := #[] }, .slice s7 0 d7] 27))
          rcases hcaseD.out with ⟨rfl, rfl, rfl⟩ | ⟨hy0, rfl, rfl, rfl, rfl, rfl⟩ | ⟨rfl, rfl, rfl, rfl⟩
          · clear hcaseD
            go_wp2_with fail
            go_roundw
            case rel => exact ⟨k + 1, by omega, by omega, by go_num, HE⟩
            case measure => simp [intOf]; omega
          · clear hcaseD
            have e0 : (y == 0) = false := by simpa using hy0
            have e1 := div_back x y HIX.out
            have e2 : (wrap64 (wrap64 (x.tdiv y * y) + x.tmod y) != x) = false := by rw [e1]; simp
            clear e1 hy0
            go_wp2_with fail
            go_roundw
            case rel => exact ⟨k + 1, by omega, by omega, by go_num, HE⟩
            case measure => simp [intOf]; omega
          · clear hcaseD
            go_wp2_with fail
            go_roundw
            case rel => exact ⟨k + 1, by omega, by omega, by go_num, HE⟩
            case measure => simp [intOf]; omega
        · clear Hb14_13
          go_wp2_with fail
          refine (HDV.out g v13 ⟨_, _, _, _, Hg_13.out⟩).mono ?_
          rintro e v14 ⟨s6, d6, rfl, hb⟩
          have HZ14 := Lib.hid (below_down HZ13.out hb (Nat.le_refl _))
          have Hp_14 := Lib.hid (blk_below Hp_13.out hb)
          have Hq_14 := Lib.hid (blk_below Hq_13.out hb)
          have Hg_14 := Lib.hid (blk_below Hg_13.out hb)
          clear HZ13 Hp_13 Hq_13 Hg_13
          clear hb
          go_wp2_with fail
          obtain ⟨b24, hb24⟩ : ∃ g, g = v14.heap.size := ⟨_, rfl⟩
          obtain ⟨v15, hv⟩ : ∃ v, v = v14.alloc (.cells #[.int .i64 kD, .bool false, .int .i64 nD, .string { data := #[] }, .slice s6 0 d6] 27) := ⟨_, rfl⟩
          have hsv : v15.heap.size = v14.heap.size + 1 := by rw [hv]; simp
          have hx : v15.heap[b24]? = some (.cells #[.int .i64 kD, .bool false, .int .i64 nD, .string { data := #[] }, .slice s6 0 d6] 27 (0, 0)) := by rw [hv, hb24]; exact heap_last
          have hb : Below v14.heap.size v14 v15 := by rw [hv]; exact (Below.refl _ _).alloc (Nat.le_refl _) _
          rw [← hv]
          have HZ15 := Lib.hid (below_down HZ14.out hb (Nat.le_refl _))
          have Hp_15 := Lib.hid (blk_below Hp_14.out hb)
          have Hq_15 := Lib.hid (blk_below Hq_14.out hb)
          have Hg_15 := Lib.hid (blk_below Hg_14.out hb)
          clear HZ14 Hp_14 Hq_14 Hg_14
          have Hb24_15 := Lib.hid hx
          clear hv hx hb
          rw [← hb24]
          clear hsv hb24
          refine (HMD.out g v15 ⟨_, _, _, _, Hg_15.out⟩).mono ?_
          rintro e v16 ⟨s7, d7, rfl, hb⟩
          have HZ16 := Lib.hid (below_down HZ15.out hb (Nat.le_refl _))
          have Hp_16 := Lib.hid (blk_below Hp_15.out hb)
          have Hq_16 := Lib.hid (blk_below Hq_15.out hb)
          have Hg_16 := Lib.hid (blk_below Hg_15.out hb)
          have Hb24_16 := Lib.hid (blk_below Hb24_15.out hb)
          clear HZ15 Hp_15 Hq_15 Hg_15 Hb24_15
          clear hb
          have qp := fun o => cell_of Hp_16.out o
          have lp := blk_lt Hp_16.out
          have np : p ≠ v16.heap.size := by omega
          have qq := fun o => cell_of Hq_16.out o
          have lq := blk_lt Hq_16.out
          have nq : q ≠ v16.heap.size := by omega
          have qb24 := fun o => cell_of Hb24_16.out o
          have lb24 := blk_lt Hb24_16.out
          have nb24 : b24 ≠ v16.heap.size := by omega
          clear HDV HMD
          have hle := HZ16.out.size
          have HE := Lib.hid (HZ16.out.alloc HZ16.out.size (.cells #[.int .i64 kR, .bool false, .int .i64 nR, .string { data := #[] }, .slice s7 0 d7] 27))
          rcases hcaseD.out with ⟨rfl, rfl, rfl⟩ | ⟨hy0, rfl, rfl, rfl, rfl, rfl⟩ | ⟨rfl, rfl, rfl, rfl⟩
          · clear hcaseD
            go_wp2_with fail
            go_roundw
            case rel => exact ⟨k + 1, by omega, by omega, by go_num, HE⟩
            case measure => simp [intOf]; omega
          · clear hcaseD
            have e0 : (y == 0) = false := by simpa using hy0
            have e1 := div_back x y HIX.out
            have e2 : (wrap64 (wrap64 (x.tdiv y * y) + x.tmod y) != x) = false := by rw [e1]; simp
            clear e1 hy0
            go_wp2_with fail
            go_roundw
            case rel => exact ⟨k + 1, by omega, by omega, by go_num, HE⟩
            case measure => simp [intOf]; omega
          · clear hcaseD
            go_wp2_with fail
            go_roundw
            case rel => exact ⟨k + 1, by omega, by omega, by go_num, HE⟩
            case measure => simp [intOf]; omega
end Go.Proofs.YtlmbjihhpljbkaaDoor
