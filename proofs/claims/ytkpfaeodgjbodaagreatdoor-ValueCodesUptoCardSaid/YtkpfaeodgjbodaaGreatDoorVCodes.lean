/-
  ValueCodes returns true, whatever values and bytes it is handed. Conditions: lists and texts shorter than 2^31, values of bulk at most 2^24; the table of the tests lies.
-/
import Derived.Test.YtkpfaeodgjbodaaGreatDoorMA
import Derived.Test.YtkpfaeodgjbodaaGreatDoorMJ
import Derived.Test.YtkpfaeodgjbodaaGreatDoorEqB
import Derived.Test.YtkpfaeodgjbodaaGreatDoorREnc
import Derived.Test.YtkpfaeodgjbodaaGreatDoorRDec
import Derived.Test.YtkpfaeodgjbodaaGreatDoorReadB
namespace Go.Proofs.YtkpfaeodgjbodaaGreatDoor
open Go Go.RowKit
set_option maxRecDepth 100000
set_option linter.unusedVariables false
theorem ofBytes {w : World} {base : Nat} {v : Value} {bs : List Nat} (h : bytesR w base v bs) (h0 : 0 < bs.length) : ∃ g c, v = .slice (some ⟨g, 0, none⟩) bs.length c ∧ isB w w.heap.size (some ⟨g, 0, none⟩) bs := by
  obtain ⟨g, c, e, _, _, h1, _⟩ := isB_of h h0
  exact ⟨g, c, e, h1⟩
theorem isB_below {w w' : World} {hi : Nat} {a : Option Addr} {bs : List Nat} (h : isB w hi a bs) (hb : Below w.heap.size w w') (hh : hi ≤ w.heap.size) : isB w' hi a bs := isB_far h (fun b k => hb.block b (Nat.lt_of_lt_of_le k hh))
theorem isBs_below {w w' : World} {hi : Nat} {u : Value} {bs : List Nat} (h : isBs w hi u bs) (hb : Below w.heap.size w w') (hh : hi ≤ w.heap.size) : isBs w' hi u bs := by
  obtain ⟨a, c, e, h1, h2, h3⟩ := h
  exact ⟨a, c, e, h1, isB_below h2 hb hh, h3⟩
theorem decP_fit (bs : List Nat) (hl : bs.length ≤ 2147483647) (hb : ∀ b ∈ bs, b < 256) : (decP bs).1.fit := by
  unfold decP finP
  cases hD : dec 31 bs with
  | none => simp only [noP, GV.fit]; exact ⟨by omega, by omega, by omega, by omega, by decide, by simp, trivial⟩
  | some p =>
    obtain ⟨v, r⟩ := p
    cases r with
    | cons c r => simp only [noP, GV.fit]; exact ⟨by omega, by omega, by omega, by omega, by decide, by simp, trivial⟩
    | nil =>
      dsimp only
      split
      · exact (dec_fit 31 bs v [] hl hb hD).1
      · simp only [noP, GV.fit]; exact ⟨by omega, by omega, by omega, by omega, by decide, by simp, trivial⟩
set_option maxHeartbeats 3200000 in
theorem vcodes_any (l : List GV) (fl : fitL l) (hbk : bulkL l ≤ 16777216) (hll : l.length ≤ 2147483647) (s t : Value) (ls : List (List Nat)) (w : World) (B : Nat) (hB : B ≤ w.heap.size) (ht : tabOk w) (hs : isL w 0 B s l) (hbb : isBB w B t ls) :
    Calls Tryz.prog 3 #[.agg #[s, t]] w fun e w' => e = .returned (.bool true) ∧ Below w.heap.size w w' := by
  obtain ⟨a, c, bb, off, rfl, hc, ha, hA⟩ := isL_open hs
  obtain ⟨at', ct, bt, offt, rfl, hct, hat, hAt⟩ := hbb
  have HS := Lib.hid hs
  have HFL := Lib.hid fl
  have HBK := Lib.hid hbk
  have HT := Lib.hid ht
  have HA := Lib.hid hA
  have Ha := Lib.hid ha
  have HAT := Lib.hid hAt
  have Hat := Lib.hid hat
  have hb0 := (Below.refl w.heap.size w).alloc (Nat.le_refl _) (.cells #[.slice a l.length c, .slice at' ls.length ct] 25)
  have HLT := Lib.hid (Size_any l (by omega) (.slice a l.length c) _ B (Nat.le_trans hB hb0.size) (isL_below hs hb0 hB))
  have HB0 := Lib.hid hb0
  clear fl ht hs hA ha hbk hb0 hAt hat
  have hfin : Hid (∀ w2, Below w.heap.size w w2 → Calls Tryz.prog 5 #[] w2 fun e w' => e = .returned (.bool true) ∧ Below w2.heap.size w2 w') := fun w2 h2 => wakesV_any w2 (tabOk_below HT.out h2)
  go_enter Tryz.func3, Tryz.ntmps3
  go_wp2_with fail
  refine HLT.out.mono ?_
  rintro e w1 ⟨rfl, hb1⟩
  have HB1 := Lib.hid (below_down HB0.out hb1 (Nat.le_refl _))
  have HX1 := Lib.hid ((hb1.block w.heap.size (by simp)).trans (heap_last (w := w)))
  have hs1 : w.heap.size + 1 ≤ w1.heap.size := by have := hb1.size; simpa using this
  clear hb1
  by_cases hd0 : 9000 < vsize l
  · have hd1 : decide (9000 < vsize l) = true := by simp; omega
    have hd2 : decide ((9000 : Int) < (vsize l : Int)) = true := by simp; omega
    go_wp2_with fail
    refine (hfin.out _ HB1.out).mono ?_
    rintro e w2 ⟨rfl, hb2⟩
    go_wp2_with fail
    go_ret
    exact ⟨rfl, below_down HB1.out hb2 (Nat.le_refl _)⟩
  have hd1 : decide (9000 < vsize l) = false := by simp; omega
  have hd2 : decide ((9000 : Int) < (vsize l : Int)) = false := by simp; omega
  go_wp2_with fail
  clear hd0 hd1 hd2
  go_loopw [3] (fun i wr => ∃ k : Nat, k ≤ l.length ∧ k ≤ 30 ∧ i = .int .i64 k ∧ Hid (Below w.heap.size w wr) ∧ w.heap.size + 1 ≤ wr.heap.size ∧ Hid (wr.heap[w.heap.size]? = some (.cells #[.slice a l.length c, .slice at' ls.length ct] 25 (0, 0)))) (fun i _ => 30 - (intOf i).toNat)
  case atStart => exact ⟨0, Nat.zero_le _, by omega, rfl, HB1, hs1, HX1⟩
  case round =>
    obtain ⟨k, hk, hk6, rfl, HBL, hsz, hbox⟩ := hrel
    have q1 := fun o => cell_of hbox.out o
    by_cases hlast : ¬ (k < l.length ∧ k < 30)
    · have HLS : Hid True := trivial
      have hdd : k = l.length ∨ (k < l.length ∧ k = 30) := by omega
      rcases hdd with hdd | ⟨hdl, hdd⟩
      all_goals
        obtain rfl := hdd
        clear hlast
        go_wp2_with fail
        clear q1
        go_loopw [8] (fun i wr2 => ∃ j : Nat, j ≤ ls.length ∧ j ≤ 30 ∧ i = .int .i64 j ∧ Hid (Below w.heap.size w wr2) ∧ w.heap.size + 1 ≤ wr2.heap.size ∧ Hid (wr2.heap[w.heap.size]? = some (.cells #[.slice a l.length c, .slice at' ls.length ct] 25 (0, 0)))) (fun i _ => 30 - (intOf i).toNat)
        case atStart => exact ⟨0, Nat.zero_le _, by omega, rfl, HBL, hsz, hbox⟩
        case round =>
          clear hk hk6 hsz HBL hbox
          obtain ⟨j, hj, hj6, rfl, HBL, hsz, hbox⟩ := hrel
          have q1 := fun o => cell_of hbox.out o
          by_cases hjl : j < ls.length
          rotate_left
          · obtain rfl : j = ls.length := by omega
            go_wp2_with fail
            refine (hfin.out _ HBL.out).mono ?_
            rintro e w1 ⟨rfl, hb1⟩
            go_wp2_with fail
            go_ret
            exact ⟨rfl, below_down HBL.out hb1 (Nat.le_refl _)⟩
          by_cases h6 : j < 30
          rotate_left
          · obtain rfl : j = 30 := by omega
            go_wp2_with fail
            refine (hfin.out _ HBL.out).mono ?_
            rintro e w1 ⟨rfl, hb1⟩
            go_wp2_with fail
            go_ret
            exact ⟨rfl, below_down HBL.out hb1 (Nat.le_refl _)⟩
          have e6 : decide ((j : Int) < 30) = true := by simp; omega
          obtain ⟨rfl, hbt⟩ := Hat.out (by omega)
          obtain ⟨u, hu, au, cu, rfl, hcu, hIu, hlu⟩ := HAT.out j hjl
          obtain ⟨bs, hbs⟩ : ∃ bs, bs = ls[j] := ⟨_, rfl⟩
          rw [← hbs] at hu hcu hIu hlu
          have HU := Lib.hid hu
          have HIU := Lib.hid hIu
          have HLU := Lib.hid hlu
          obtain ⟨w0, rfl⟩ : ∃ w0, w0 = wr := ⟨_, rfl⟩
          have hgr : ∀ o, w0.cell? ⟨bt, o, none⟩ = w.cell? ⟨bt, o, none⟩ := fun o => HBL.out.cell (p := ⟨bt, o, none⟩) (Nat.lt_of_lt_of_le hbt hB)
          clear hbs hIu hlu
          by_cases h3 : 3000 < bs.length
          · have d1 : decide (3000 < bs.length) = true := by simp; omega
            have d2 : decide ((3000 : Int) < (bs.length : Int)) = true := by simp; omega
            go_wp2_with fail
            go_roundw
            case rel => exact ⟨j + 1, by omega, by omega, by go_num, HBL, by omega, hbox⟩
            case measure => simp [intOf]; omega
          have d1 : decide (3000 < bs.length) = false := by simp; omega
          have d2 : decide ((3000 : Int) < (bs.length : Int)) = false := by simp; omega
          go_wp2_with fail
          refine (decode_any B au cu bs w0 (Nat.le_trans hB HBL.out.size) (isB_far HIU.out (fun b hb => HBL.out.block b (by omega))) hcu HLU.out (by omega)).mono ?_
          rintro e w3 ⟨s3, rfl, hl3, hb3⟩
          have HFY := Lib.hid (decP_fit bs (by omega) HLU.out)
          have HRQ : Hid (∃ R, R = decP bs) := ⟨_, rfl⟩
          obtain ⟨R, hR⟩ := HRQ.out
          have HR := Lib.hid hR
          rw [← hR] at hl3 HFY ⊢
          obtain ⟨y, n⟩ := R
          dsimp only at hl3 HFY ⊢
          obtain ⟨a3, c3, rfl⟩ := isL_form hl3
          have HL3 := Lib.hid hl3
          have HB3 := Lib.hid (below_down HBL.out hb3 (Nat.le_refl _))
          have HX3 := Lib.hid ((hb3.block w.heap.size (by omega)).trans hbox.out)
          have hs3 := hb3.size
          simp only [GV.agg]
          clear hb3 q1 hgr hl3 hR HRQ
          go_upto_region 15 with fail
          obtain ⟨w4, hw4⟩ : ∃ v, v = w3.alloc (.cells #[.int .i64 y.k, .bool y.b, .int .i64 y.n, .string y.t, .slice a3 y.l.length c3] 33) := ⟨_, rfl⟩
          have hb4 : Below w3.heap.size w3 w4 := by rw [hw4]; exact (Below.refl _ _).alloc (Nat.le_refl _) _
          have hc4 : w4.heap[w3.heap.size]? = some (.cells #[.int .i64 y.k, .bool y.b, .int .i64 y.n, .string y.t, .slice a3 y.l.length c3] 33 (0, 0)) := by rw [hw4]; exact heap_last
          have hs4 : w3.heap.size < w4.heap.size := by rw [hw4]; simp
          rw [← hw4]
          obtain ⟨pv, hpv⟩ : ∃ p, p = w3.heap.size := ⟨_, rfl⟩
          have HB4 := Lib.hid (below_down HB3.out hb4 (Nat.le_refl _))
          have HX4 := Lib.hid ((hb4.block w.heap.size (by omega)).trans HX3.out)
          have HV4 := Lib.hid (isL_wide (isL_below HL3.out hb4 (Nat.le_refl _)) (Nat.zero_le _) (Nat.le_of_lt hs4))
          rw [← hpv] at hs4 hc4 ⊢
          have HC4 := Lib.hid hc4
          have hpw : w.heap.size + 1 ≤ pv := by omega
          clear hw4 hpv hb4 hc4 HB3 HX3 HL3 hs3
          have q4 := fun o => cell_of HX4.out o
          have hu4 := HU.out
          have hgr : ∀ o, w4.cell? ⟨bt, o, none⟩ = w.cell? ⟨bt, o, none⟩ := fun o => HB4.out.cell (p := ⟨bt, o, none⟩) (Nat.lt_of_lt_of_le hbt hB)
          go_wp2_with fail
          refine (rdecode_any B au cu bs w4 (Nat.le_trans hB HB4.out.size) (isB_far HIU.out (fun b hb => HB4.out.block b (by omega))) hcu HLU.out (by omega)).mono ?_
          rintro e w5 ⟨s5, rfl, hl5, hb5⟩
          rw [← HR.out] at hl5 ⊢
          dsimp only at hl5 ⊢
          obtain ⟨a5, c5, rfl⟩ := isL_form hl5
          have HL5 := Lib.hid hl5
          have HB5 := Lib.hid (below_down HB4.out hb5 (Nat.le_refl _))
          have HX5 := Lib.hid ((hb5.block w.heap.size (by omega)).trans HX4.out)
          have HC5 := Lib.hid ((hb5.block pv (by omega)).trans HC4.out)
          have hs5 := hb5.size
          have HV5 := Lib.hid (isL_wide (isL_below HV4.out hb5 (Nat.le_refl _)) (Nat.zero_le _) hs5)
          simp only [GV.agg]
          clear hb5 q4 hgr hl5 hu4 HB4 HX4 HC4 HV4
          go_upto_region 16 with fail
          obtain ⟨w6, hw6⟩ : ∃ v, v = w5.alloc (.cells #[.int .i64 y.k, .bool y.b, .int .i64 y.n, .string y.t, .slice a5 y.l.length c5] 33) := ⟨_, rfl⟩
          have hb6 : Below w5.heap.size w5 w6 := by rw [hw6]; exact (Below.refl _ _).alloc (Nat.le_refl _) _
          have hc6 : w6.heap[w5.heap.size]? = some (.cells #[.int .i64 y.k, .bool y.b, .int .i64 y.n, .string y.t, .slice a5 y.l.length c5] 33 (0, 0)) := by rw [hw6]; exact heap_last
          have hs6 : w5.heap.size < w6.heap.size := by rw [hw6]; simp
          rw [← hw6]
          obtain ⟨pw, hpw2⟩ : ∃ p, p = w5.heap.size := ⟨_, rfl⟩
          have HB6 := Lib.hid (below_down HB5.out hb6 (Nat.le_refl _))
          have HX6 := Lib.hid ((hb6.block w.heap.size (by omega)).trans HX5.out)
          have HC6 := Lib.hid ((hb6.block pv (by omega)).trans HC5.out)
          have HV6 := Lib.hid (isL_wide (isL_below HV5.out hb6 (Nat.le_refl _)) (Nat.zero_le _) (Nat.le_of_lt hs6))
          have HW6 := Lib.hid (isL_wide (isL_below HL5.out hb6 (Nat.le_refl _)) (Nat.zero_le _) (Nat.le_of_lt hs6))
          have hs46 : w4.heap.size ≤ w6.heap.size := by omega
          rw [← hpw2] at hc6 ⊢
          have q6 := fun o => cell_of HC6.out o
          have r6 := fun o => cell_of hc6 o
          have hne : (n != n) = false := by simp
          have hsm := Lib.hid (zSame_any y y HFY.out HFY.out (.slice a3 y.l.length c3) (.slice a5 y.l.length c5) w6 w6.heap.size (Nat.le_refl _) HV6.out HW6.out)
          rw [(same_iff y y).2 rfl] at hsm
          simp only [GV.agg] at hsm
          clear hw6 hpw2 hb6 hc6 HB5 HX5 HC5 HV5 HL5
          go_wp2_with fail
          refine hsm.out.mono ?_
          rintro e w7 ⟨rfl, hb7⟩
          have HB7 := Lib.hid (below_down HB6.out hb7 (Nat.le_refl _))
          have HX7 := Lib.hid ((hb7.block w.heap.size (by omega)).trans HX6.out)
          have hs7 := hb7.size
          clear hb7 q6 r6
          go_wp2_with fail
          go_roundw
          case rel => exact ⟨j + 1, by omega, by omega, by go_num, HB7, by omega, HX7⟩
          case measure => simp [intOf]; omega
    · obtain ⟨hlt, h6⟩ : k < l.length ∧ k < 30 := Classical.not_not.1 hlast
      clear hlast
      have e6 : decide ((k : Int) < 30) = true := by simp; omega
      obtain ⟨rfl, hb2, hb2'⟩ := Ha.out (by omega)
      obtain ⟨ax, cx, x0, x1, x2, x3, x4, hsx⟩ := cellsV_slice (HA.out k hlt)
      have hgr : ∀ o, wr.cell? ⟨bb, o, none⟩ = w.cell? ⟨bb, o, none⟩ := fun o => HBL.out.cell (p := ⟨bb, o, none⟩) (Nat.lt_of_lt_of_le hb2' hB)
      have hzb : bb < wr.heap.size := by omega
      have Hsx := Lib.hid hsx
      have HFX := Lib.hid (fitL_mem HFL.out _ (List.getElem_mem hlt))
      have HBX := Lib.hid (Nat.le_trans (bulkL_mem (List.getElem_mem hlt)) HBK.out)
      clear hsx
      obtain ⟨w0, rfl⟩ : ∃ w0, w0 = wr := ⟨_, rfl⟩
      go_wp2_with fail
      refine (encode_any l[k] HFX.out (Nat.le_trans HBX.out (by omega)) (.slice ax l[k].l.length cx) w0 B (Nat.le_trans hB HBL.out.size) (isL_below Hsx.out HBL.out hB)).mono ?_
      rintro e w2 ⟨hout, hbE⟩
      have HB2 := Lib.hid (below_down HBL.out hbE (Nat.le_refl _))
      have HX2 := Lib.hid ((hbE.block w.heap.size (by omega)).trans hbox.out)
      have hs2 := hbE.size
      clear q1 hgr hbE
      have q2 := fun o => cell_of HX2.out o
      have hgr2 : ∀ o, w2.cell? ⟨bb, o, none⟩ = w.cell? ⟨bb, o, none⟩ := fun o => HB2.out.cell (p := ⟨bb, o, none⟩) (Nat.lt_of_lt_of_le hb2' hB)
      by_cases hv : vmay l[k] = true
      · rw [if_pos hv] at hout
        obtain ⟨v, rfl, hby⟩ := hout
        obtain ⟨g, cc, rfl, hBs⟩ := ofBytes hby (enc_pos _)
        have HE := Lib.hid (enc_lt l[k].size l[k] (Nat.le_refl _))
        have HPO := Lib.hid (enc_pos l[k])
        have HI := Lib.hid hBs
        clear hby hBs
        go_wp2_with fail
        refine (renc_any l[k] HFX.out HBX.out (.slice ax l[k].l.length cx) w2 B (Nat.le_trans hB HB2.out.size) (isL_below Hsx.out HB2.out hB)).mono ?_
        rintro e w3 ⟨hout, hbE⟩
        rw [if_pos hv] at hout
        obtain ⟨v, rfl, hby⟩ := hout
        obtain ⟨g2, cc2, rfl, hBs⟩ := ofBytes hby (enc_pos _)
        have HB3 := Lib.hid (below_down HB2.out hbE (Nat.le_refl _))
        have HX3 := Lib.hid ((hbE.block w.heap.size (by omega)).trans HX2.out)
        have hs3 := hbE.size
        have HI3 := Lib.hid (isB_here HI.out hbE)
        have HJ3 := Lib.hid hBs
        obtain ⟨bs, hbs⟩ : ∃ bs, bs = enc l[k] := ⟨_, rfl⟩
        rw [← hbs] at HI3 HJ3 HE ⊢
        clear hby hBs q2 hgr2 hbE hbs HI HPO x0 x1 x2 x3 x4
        go_wp2_with fail
        refine (eqB_any w2.heap.size w3.heap.size (some ⟨g, 0, none⟩) (some ⟨g2, 0, none⟩) cc cc2 bs bs w3 HI3.out HJ3.out HE.out HE.out).mono ?_
        rintro e w4 ⟨rfl, hw4⟩
        rw [show decide (bs = bs) = true from decide_eq_true rfl, hw4]
        go_wp2_with fail
        go_roundw
        case rel => exact ⟨k + 1, by omega, by omega, by go_num, HB3, by omega, HX3⟩
        case measure => simp [intOf]; omega
      · rw [if_neg hv] at hout
        subst hout
        go_wp2_with fail
        refine (renc_any l[k] HFX.out HBX.out (.slice ax l[k].l.length cx) w2 B (Nat.le_trans hB HB2.out.size) (isL_below Hsx.out HB2.out hB)).mono ?_
        rintro e w3 ⟨hout, hbE⟩
        rw [if_neg hv] at hout
        subst hout
        have HB3 := Lib.hid (below_down HB2.out hbE (Nat.le_refl _))
        have HX3 := Lib.hid ((hbE.block w.heap.size (by omega)).trans HX2.out)
        have hs3 := hbE.size
        clear q2 hgr2 hbE x0 x1 x2 x3 x4
        go_wp2_with fail
        refine (eqB_any 0 0 none none 0 0 [] [] w3 (fun h => absurd h (by simp)) (fun h => absurd h (by simp)) (fun b hb => by cases hb) (fun b hb => by cases hb)).mono ?_
        rintro e w4 ⟨rfl, hw4⟩
        rw [show decide (([] : List Nat) = []) = true from decide_eq_true rfl, hw4]
        go_wp2_with fail
        go_roundw
        case rel => exact ⟨k + 1, by omega, by omega, by go_num, HB3, by omega, HX3⟩
        case measure => simp [intOf]; omega
end Go.Proofs.YtkpfaeodgjbodaaGreatDoor
