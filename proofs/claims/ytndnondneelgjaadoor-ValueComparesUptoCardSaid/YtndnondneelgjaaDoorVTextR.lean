/-
  What the references' Text tells of a value: its text. Conditions: texts and lists shorter than 2^31, the value's bulk at most 2^40.
-/
import Derived.Test.YtndnondneelgjaaDoorQuoteR
import Derived.Test.YtndnondneelgjaaDoorMay2
namespace Go.Proofs.YtndnondneelgjaaDoor
open Go Go.RowKit
set_option maxRecDepth 100000
set_option linter.unusedVariables false
theorem join_step (xs : List (List UInt8)) (k : Nat) (h : k < xs.length) (h0 : 0 < k) : Lib.join (xs.take (k + 1)) [44, 32] = Lib.join (xs.take k) [44, 32] ++ [44, 32] ++ xs[k] := by
  rw [List.take_succ_eq_append_getElem h, join_snoc _ _ _ (by intro e; have := congrArg List.length e; rw [List.length_take, List.length_nil] at this; omega)]
def joinB (xs : List (List UInt8)) : ByteArray := ⟨(91 :: Lib.join xs [44, 32]).toArray⟩
theorem joinB_size (xs : List (List UInt8)) : (joinB xs).size = (Lib.join xs [44, 32]).length + 1 := by simp [joinB, ByteArray.size]
theorem joinB_first (xs : List (List UInt8)) (k : Nat) (h : k < xs.length) (h0 : k = 0) : joinB (xs.take (k + 1)) = joinB (xs.take k) ++ ⟨xs[k].toArray⟩ := by
  subst h0
  apply ByteArray.ext
  rw [show xs.take 1 = [xs[0]] from by rw [List.take_succ_eq_append_getElem h]; simp]
  simp [joinB, Lib.join_one, Lib.join_nil]
theorem joinB_step (xs : List (List UInt8)) (k : Nat) (h : k < xs.length) (h0 : 0 < k) : joinB (xs.take (k + 1)) = joinB (xs.take k) ++ { data := #[44, 32] } ++ ⟨xs[k].toArray⟩ := by
  apply ByteArray.ext
  rw [joinB, join_step xs k h h0]
  simp [joinB]
theorem joinB_end (xs : List (List UInt8)) : joinB xs ++ { data := #[93] } = ⟨(91 :: Lib.join xs [44, 32] ++ [93]).toArray⟩ := by
  apply ByteArray.ext
  simp [joinB]
theorem may_kind {x : GV} (h : vmay x = true) : x.k = 0 ∨ x.k = 1 ∨ x.k = 2 ∨ x.k = 3 ∨ x.k = 4 ∨ x.k = 5 := by
  rw [vmay, chk_eq, Bool.and_eq_true] at h
  have h1 := h.1
  unfold chkFlat at h1
  by_cases k0 : x.k = 0
  · exact .inl k0
  by_cases k1 : x.k = 1
  · exact .inr (.inl k1)
  by_cases k2 : x.k = 2
  · exact .inr (.inr (.inl k2))
  by_cases k3 : x.k = 3
  · exact .inr (.inr (.inr (.inl k3)))
  by_cases k4 : x.k = 4
  · exact .inr (.inr (.inr (.inr (.inl k4))))
  by_cases k5 : x.k = 5
  · exact .inr (.inr (.inr (.inr (.inr k5))))
  rw [if_neg k0, if_neg k1, if_neg k2, if_neg k3, if_neg k5, if_neg k4] at h1
  cases h1
set_option maxHeartbeats 1600000 in
theorem rText_step (x : GV) (fx : x.fit) (hbk : x.bulk ≤ 1099511627776) (h : ∀ y ∈ x.l, TextC 14 vtext y) : TextC 14 vtext x := by
  intro s w B hB ht hs
  obtain ⟨a, c, bb, off, rfl, hc, ha, hA⟩ := isL_open hs
  have HS := Lib.hid hs
  have HA := Lib.hid hA
  have Ha := Lib.hid ha
  have HH := Lib.hid h
  have HT := Lib.hid ht
  have HF := Lib.hid fx
  have HX := Lib.hid (vtx_eq x)
  have HL := Lib.hid (vtxL_len x.l (fit_open fx).2.2.2.2.2.2)
  clear hA hs ha h ht fx
  simp only [GV.agg]
  go_enter Tryd.func14, Tryd.ntmps14
  go_wp2_with fail
  have hb0 := (Below.refl w.heap.size w).alloc (Nat.le_refl _) (.cells #[.int .i64 x.k, .bool x.b, .int .i64 x.n, .string x.t, .slice a x.l.length c] 28)
  refine (rCheck_any x HF.out (.slice a x.l.length c) _ B (Nat.le_trans hB hb0.size) (isL_below HS.out hb0 hB)).mono ?_
  rintro e w1 ⟨rfl, hb1⟩
  have hbx := (hb1.block w.heap.size (by simp)).trans (heap_last (w := w))
  have HB1 := Lib.hid (below_down hb0 hb1 (Nat.le_refl _))
  have HTB := Lib.hid (tabOk_below HT.out HB1.out)
  have q1 := fun o => cell_of hbx o
  have hz1 : w.heap.size + 1 ≤ w1.heap.size := by have := hb1.size; simpa using this
  have HBX := Lib.hid hbx
  clear hb0 hb1 hbx
  cases hv : vmay x
  · have HX' : Hid (vtext x = ⟨#[]⟩) := by
      have h := HX.out
      rw [hv] at h
      rw [Hid, vtext, h]
      rfl
    clear hv
    go_wp2_with fail
    go_ret
    exact ⟨by rw [HX'.out]; rfl, HB1.out⟩
  have HV := Lib.hid hv
  have HX' := HX.out
  rw [hv, if_pos rfl] at HX'
  clear hv HX
  by_cases k0 : x.k = 0
  · have HX2 : Hid (vtx x = [110, 117, 108, 108]) := by
      rw [k0] at HX'
      exact HX'
    have e0 : (x.k == 0) = true := by simpa using k0
    clear HX' k0
    go_wp2_with fail
    go_ret
    exact ⟨by rw [vtext, HX2.out]; rfl, HB1.out⟩
  have e0 : (x.k == 0) = false := by simpa using k0
  by_cases k1 : x.k = 1
  · rw [if_pos k1] at HX'
    have HX2 := Lib.hid HX'
    have e1 : (x.k == 1) = true := by simpa using k1
    clear HX' k1 k0
    cases hxb : x.b
    all_goals
      rw [hxb] at HX2 q1
      go_wp2_with fail
      go_ret
      exact ⟨by rw [vtext, HX2.out]; rfl, HB1.out⟩
  rw [if_neg k1] at HX'
  have e1 : (x.k == 1) = false := by simpa using k1
  by_cases k2 : x.k = 2
  · rw [if_pos k2] at HX'
    have HX2 := Lib.hid HX'
    have e2 : (x.k == 2) = true := by simpa using k2
    clear HX' k0 k1 k2
    go_wp2_with fail
    refine (number_any x.n (fit_n HF.out).1 (fit_n HF.out).2 _).mono ?_
    rintro e w2 ⟨rfl, hb2⟩
    go_wp2_with fail
    go_ret
    exact ⟨by rw [vtext, HX2.out]; rfl, below_down HB1.out hb2 (Nat.le_refl _)⟩
  rw [if_neg k2] at HX'
  have e2 : (x.k == 2) = false := by simpa using k2
  by_cases k3 : x.k = 3
  · rw [if_pos k3] at HX'
    have HX2 := Lib.hid HX'
    have e3 : (x.k == 3) = true := by simpa using k3
    clear HX' k0 k1 k2 k3
    go_wp2_with fail
    refine (quoteR_any x.t (fit_open HF.out).2.2.2.2.1 _).mono ?_
    rintro e w2 ⟨rfl, hb2⟩
    go_wp2_with fail
    go_ret
    exact ⟨by rw [vtext, HX2.out]; rfl, below_down HB1.out hb2 (Nat.le_refl _)⟩
  rw [if_neg k3] at HX'
  have e3 : (x.k == 3) = false := by simpa using k3
  by_cases k5 : x.k = 5
  · rw [if_pos k5] at HX'
    have HX2 := Lib.hid HX'
    have e5 : (x.k == 5) = true := by simpa using k5
    clear HX' k0 k1 k2 k3 k5
    have hsz := itoaB_size x.n (fit_n HF.out).1 (fit_n HF.out).2
    go_wp2_with fail
    refine (number_any x.n (fit_n HF.out).1 (fit_n HF.out).2 _).mono ?_
    rintro e w2 ⟨rfl, hb2⟩
    go_wp2_with fail
    go_ret
    exact ⟨by rw [vtext, HX2.out, ← itoa_hash]; rfl, below_down HB1.out hb2 (Nat.le_refl _)⟩
  rw [if_neg k5] at HX'
  have e5 : (x.k == 5) = false := by simpa using k5
  have k4 : x.k = 4 := by
    have h := may_kind HV.out
    omega
  rw [if_pos k4] at HX'
  have HX2 := Lib.hid HX'
  have hll := (fit_open HF.out).2.2.2.2.2.1
  clear HX' k1 k2 k3 k5 k4 k0
  have hcap : ∀ k, (joinB ((vtxL x.l).take k)).size ≤ 26388279066625 := fun k => by
    have h1 := join_take_len (vtxL x.l) k
    have h2 := HL.out
    have h3 := bulk_eq x
    rw [joinB_size]
    omega
  have HCAP := Lib.hid hcap
  clear hcap
  go_wp2_with fail
  go_loopw [3, 4] (fun v i wr => ∃ k : Nat, k ≤ x.l.length ∧ i = .int .i64 k ∧ Below w.heap.size w wr ∧ w1.heap.size ≤ wr.heap.size ∧ Hid (wr.heap[w.heap.size]? = some (.cells #[.int .i64 x.k, .bool x.b, .int .i64 x.n, .string x.t, .slice a x.l.length c] 28 (0, 0))) ∧ v = .string (joinB ((vtxL x.l).take k))) (fun _ i _ => x.l.length - (intOf i).toNat)
  case atStart => exact ⟨0, Nat.zero_le _, rfl, HB1.out, Nat.le_refl _, HBX, rfl⟩
  case round =>
    obtain ⟨k, hk, rfl, hbel, hsz, hBX, rfl⟩ := hrel
    have HB := Lib.hid hbel
    clear q1 hbel
    have q2 := fun o => cell_of hBX.out o
    have hcap := HCAP.out k
    by_cases hlt : k < x.l.length
    · obtain ⟨rfl, hb1, hb2⟩ := Ha.out (by omega)
      obtain ⟨ax, cx, x0, x1, x2, x3, x4, hsx⟩ := cellsV_slice (HA.out k hlt)
      have hg : ∀ o, wr.cell? ⟨bb, o, none⟩ = w.cell? ⟨bb, o, none⟩ := fun o => HB.out.cell (p := ⟨bb, o, none⟩) (Nat.lt_of_lt_of_le hb2 hB)
      have hz : bb < wr.heap.size := Nat.lt_of_lt_of_le hb2 (Nat.le_trans hB HB.out.size)
      have HSX := Lib.hid hsx
      have HM := Lib.hid (HH.out x.l[k] (List.getElem_mem hlt))
      have HC1 := HCAP.out (k + 1)
      have hkl : k < (vtxL x.l).length := by rw [vtxL_len_eq]; exact hlt
      have hgv : (⟨(vtxL x.l)[k].toArray⟩ : ByteArray) = vtext x.l[k] := by simp [vtext, vtxL_map]
      clear hsx
      have hb4 := Below.refl wr.heap.size wr
      cases h0 : decide (0 < k)
      · have HJ := Lib.hid (joinB_first (vtxL x.l) k hkl (by simp at h0; omega))
        rw [hgv] at HJ
        rw [HJ.out, ByteArray.size_append] at HC1
        have n0 : ¬ (9223372036854775807 < (joinB ((vtxL x.l).take k)).size + (vtext x.l[k]).size) := by omega
        clear hgv HC1
        go_wp2_with fail
        refine (HM.out _ _ B (Nat.le_trans hB HB.out.size) (tabOk_below HT.out HB.out) (isL_below HSX.out HB.out hB)).mono ?_
        rintro e w2 ⟨rfl, hb2⟩
        have HB2 := Lib.hid (below_down HB.out hb2 (Nat.le_refl _))
        have hBX2 := Lib.hid ((hb2.block w.heap.size (by omega)).trans hBX.out)
        have hz2 := hb2.size
        clear hb2 x0 x1 x2 x3 x4 hg hb4
        go_wp2_with fail
        go_roundw
        case rel => exact ⟨k + 1, by omega, by go_num, HB2.out, by omega, hBX2, by rw [HJ.out]⟩
        case measure => simp [intOf]; omega
      · have HJ := Lib.hid (joinB_step (vtxL x.l) k hkl (by simp at h0; omega))
        rw [hgv] at HJ
        rw [HJ.out, ByteArray.size_append, ByteArray.size_append, show ({ data := #[44, 32] } : ByteArray).size = 2 from rfl] at HC1
        have n0 : ¬ (9223372036854775807 < (joinB ((vtxL x.l).take k)).size + 2) := by omega
        have n1 : ¬ (9223372036854775807 < (joinB ((vtxL x.l).take k)).size + 2 + (vtext x.l[k]).size) := by omega
        clear hgv HC1
        go_wp2_with fail
        refine (HM.out _ _ B (Nat.le_trans hB HB.out.size) (tabOk_below HT.out HB.out) (isL_below HSX.out HB.out hB)).mono ?_
        rintro e w2 ⟨rfl, hb2⟩
        have HB2 := Lib.hid (below_down HB.out hb2 (Nat.le_refl _))
        have hBX2 := Lib.hid ((hb2.block w.heap.size (by omega)).trans hBX.out)
        have hz2 := hb2.size
        clear hb2 x0 x1 x2 x3 x4 hg hb4
        go_wp2_with fail
        go_roundw
        case rel => exact ⟨k + 1, by omega, by go_num, HB2.out, by omega, hBX2, by rw [HJ.out]⟩
        case measure => simp [intOf]; omega
    · obtain rfl : k = x.l.length := by omega
      rw [List.take_of_length_le (by rw [vtxL_len_eq]; exact Nat.le_refl _)] at hcap ⊢
      go_wp2_with fail
      go_ret
      exact ⟨by rw [vtext, HX2.out, ← joinB_end]; rfl, HB.out⟩
theorem rText_all : ∀ (m : Nat) (x : GV), x.size ≤ m → x.fit → x.bulk ≤ 1099511627776 → TextC 14 vtext x := by
  intro m
  induction m with
  | zero => intro x h; have := size_l x; omega
  | succ m ih =>
    intro x h fx hb
    obtain ⟨_, _, _, _, _, _, hf⟩ := fit_open fx
    exact rText_step x fx hb fun y hy => ih y (by have := size_l x; have := sizeL_mem hy; omega) (fitL_mem hf y hy) (by have := bulkL_mem hy; rw [bulk_eq] at hb; omega)
theorem rText_any (x : GV) (fx : x.fit) (hb : x.bulk ≤ 1099511627776) : TextC 14 vtext x := rText_all x.size x (Nat.le_refl _) fx hb
end Go.Proofs.YtndnondneelgjaaDoor
