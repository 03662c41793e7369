/-
  What the references' TextOf tells of instructions. Conditions: texts shorter than 2^31, the whole shorter than 2^46, the values' bulk at most 2^40.
-/
import Derived.Test.YtnmolgmchoihmaaDoorVTextR
import Derived.Deep.DrawnRows
namespace Go.Proofs.YtnmolgmchoihmaaDoor
open Go Go.RowKit
set_option maxRecDepth 100000
set_option linter.unusedVariables false
def textB (l : List GI) : ByteArray := ⟨(textI vtext l).toArray⟩
theorem textB_size (l : List GI) : (textB l).size = (textI vtext l).length := by simp [textB, ByteArray.size]
theorem textB_step (l : List GI) (k : Nat) (h : k < l.length) (vb : ByteArray) (hv : vb = if l[k].op = 0 then vtext l[k].v else { data := #[] }) :
    textB (l.take (k + 1)) = textB (l.take k) ++ itoaB l[k].op ++ { data := #[32] } ++ itoaB l[k].arg ++ { data := #[32] } ++ l[k].s ++ { data := #[32] } ++ vb ++ { data := #[10] } := by
  subst hv
  apply ByteArray.ext
  rw [textB, textI_take vtext l k h]
  simp [textB, lineI]
set_option maxHeartbeats 1600000 in
theorem textOf_any (l : List GI) (hl : l.length ≤ 2147483646) (fl : fitI l) (ft : fitT vtext l) (hb : ∀ x ∈ l, x.v.bulk ≤ 1099511627776) (hlen : (textI vtext l).length ≤ 70368744177664)
    (s : Value) (w : World) (B : Nat) (hB : B ≤ w.heap.size) (ht : tabOk w) (hs : isI w B s l) :
    Calls Tryd.prog 21 #[s] w fun e w' => e = .returned (.string ⟨(textI vtext l).toArray⟩) ∧ Below w.heap.size w w' := by
  obtain ⟨a, c, b, off, rfl, hc, ha, hA⟩ := hs
  have HA := Lib.hid hA
  have Ha := Lib.hid ha
  have HFL := Lib.hid fl
  have HFT := Lib.hid ft
  have HBK := Lib.hid hb
  have HT := Lib.hid ht
  clear hA ha fl ft hb ht
  go_enter Tryd.func21, Tryd.ntmps21
  go_wp2_with fail
  go_loopw [3, 4] (fun v i wr => ∃ k : Nat, k ≤ l.length ∧ i = .int .i64 k ∧ Below w.heap.size w wr ∧ v = .string (textB (l.take k))) (fun _ i _ => l.length - (intOf i).toNat)
  case atStart => exact ⟨0, Nat.zero_le _, rfl, Below.refl _ _, rfl⟩
  case round =>
    obtain ⟨k, hk, rfl, hbel, rfl⟩ := hrel
    have HB := Lib.hid hbel
    have hwr := hbel.size
    clear hbel
    by_cases hlt : k < l.length
    rotate_left
    · rw [List.take_of_length_le (by omega)]
      go_wp2_with fail
      go_ret
      exact ⟨rfl, HB.out⟩
    obtain ⟨rfl, hb2⟩ := Ha.out (by omega)
    obtain ⟨ax, cx, x0, x1, x2, x3, x4, x5, x6, x7, hsx⟩ := HA.out k hlt
    have hzb : b < wr.heap.size := by omega
    have hg : ∀ o, wr.cell? ⟨b, o, none⟩ = w.cell? ⟨b, o, none⟩ := fun o => HB.out.cell (p := ⟨b, o, none⟩) (Nat.lt_of_lt_of_le hb2 hB)
    have HSX := Lib.hid hsx
    have hso := itoaB_size l[k].op (HFT.out _ (List.getElem_mem hlt)).1 (HFT.out _ (List.getElem_mem hlt)).2.1
    have hsa := itoaB_size l[k].arg (HFT.out _ (List.getElem_mem hlt)).2.2.1 (HFT.out _ (List.getElem_mem hlt)).2.2.2.1
    have hss := (HFL.out _ (List.getElem_mem hlt)).2
    have hst : (textB (l.take k)).size ≤ 70368744177664 := by rw [textB_size]; exact Nat.le_trans (textI_le vtext l k) hlen
    have HIO : Hid (∀ w', Calls Tryd.prog 39 #[.int .i64 l[k].op] w' fun e w2 => e = .returned (.string (itoaB l[k].op)) ∧ Below w'.heap.size w' w2) := fun w' => number_any _ (HFT.out _ (List.getElem_mem hlt)).1 (HFT.out _ (List.getElem_mem hlt)).2.1 w'
    have HIA : Hid (∀ w', Calls Tryd.prog 39 #[.int .i64 l[k].arg] w' fun e w2 => e = .returned (.string (itoaB l[k].arg)) ∧ Below w'.heap.size w' w2) := fun w' => number_any _ (HFT.out _ (List.getElem_mem hlt)).2.2.1 (HFT.out _ (List.getElem_mem hlt)).2.2.2.1 w'
    clear hsx Ha
    cases h0 : (l[k].op == 0)
    · have HJ := Lib.hid (textB_step l k hlt { data := #[] } (by rw [if_neg (by simpa using h0)]))
      obtain ⟨T, hT⟩ : ∃ T, T = textB (l.take k) := ⟨_, rfl⟩
      obtain ⟨xo, hxo⟩ : ∃ n, n = l[k].op := ⟨_, rfl⟩
      obtain ⟨xa, hxa⟩ : ∃ n, n = l[k].arg := ⟨_, rfl⟩
      obtain ⟨so, hSo⟩ : ∃ t, t = itoaB l[k].op := ⟨_, rfl⟩
      obtain ⟨sa, hSa⟩ : ∃ t, t = itoaB l[k].arg := ⟨_, rfl⟩
      rw [← hT, ← hSo, ← hSa] at HJ
      rw [← hSo, ← hxo] at HIO
      rw [← hSa, ← hxa] at HIA
      rw [← hSo] at hso
      rw [← hSa] at hsa
      rw [← hT] at hst ⊢
      rw [← hxo] at x0 h0
      rw [← hxa] at x1
      clear hT hxo hxa hSo hSa
      have n0 : ¬ (9223372036854775807 < T.size + so.size) := by omega
      have n1 : ¬ (9223372036854775807 < T.size + so.size + 1) := by omega
      have n2 : ¬ (9223372036854775807 < T.size + so.size + 1 + sa.size) := by omega
      have n3 : ¬ (9223372036854775807 < T.size + so.size + 1 + sa.size + 1) := by omega
      have n4 : ¬ (9223372036854775807 < T.size + so.size + 1 + sa.size + 1 + l[k].s.size) := by omega
      have n5 : ¬ (9223372036854775807 < T.size + so.size + 1 + sa.size + 1 + l[k].s.size + 1) := by omega
      have n6 : ¬ (9223372036854775807 < T.size + so.size + 1 + sa.size + 1 + l[k].s.size + 1 + 1) := by omega
      go_wp2_with fail
      have HC1 : Hid (∀ d os, Calls Tryd.prog 39 #[.int .i64 xo] (Go.Sort.grow (redrawn wr d) os) fun e w' => e = .returned (.string so) ∧ Below (Go.Sort.grow (redrawn wr d) os).heap.size (Go.Sort.grow (redrawn wr d) os) w') := fun d os => HIO.out _
      have HC2 : Hid (∀ d os, Calls Tryd.prog 39 #[.int .i64 xa] (Go.Sort.grow (redrawn wr d) os) fun e w' => e = .returned (.string sa) ∧ Below (Go.Sort.grow (redrawn wr d) os).heap.size (Go.Sort.grow (redrawn wr d) os) w') := fun d os => HIA.out _
      clear HIO HIA
      have gl := cell_grow (Below.refl wr.heap.size wr) (Nat.le_refl _) hzb
      refine wp_region_quiet_below (by kernel_rfl) (by kernel_rfl) ?_
      repeat (quiet_step (fail))
      quiet_step (exact Calls.regrown_of (HC1.out _ _))
      repeat (quiet_step (fail))
      quiet_step (exact Calls.regrown_of (HC2.out _ _))
      repeat (quiet_step (fail))
      refine wpQuiet_nil ?_
      intro w6 hw6
      have hb6 : Below wr.heap.size wr w6 := by
        obtain ⟨p, hp⟩ := hw6
        rw [hp]
        exact below_grow (Below.refl wr.heap.size wr) (Nat.le_refl _) _ _
      have HB6 := Lib.hid (below_down HB.out hb6 (Nat.le_refl _))
      clear hw6 hb6 gl hg x0 x1 x2 x3 x4 x5 x6 x7
      go_wp2_with fail
      go_roundw
      case rel => exact ⟨k + 1, by omega, by go_num, HB6.out, by rw [HJ.out]⟩
      case measure => simp [intOf]; omega
    · have hvs := (HFT.out _ (List.getElem_mem hlt)).2.2.2.2 (by simpa using h0)
      have HJ := Lib.hid (textB_step l k hlt (vtext l[k].v) (by rw [if_pos (by simpa using h0)]))
      obtain ⟨T, hT⟩ : ∃ T, T = textB (l.take k) := ⟨_, rfl⟩
      obtain ⟨xo, hxo⟩ : ∃ n, n = l[k].op := ⟨_, rfl⟩
      obtain ⟨xa, hxa⟩ : ∃ n, n = l[k].arg := ⟨_, rfl⟩
      obtain ⟨so, hSo⟩ : ∃ t, t = itoaB l[k].op := ⟨_, rfl⟩
      obtain ⟨sa, hSa⟩ : ∃ t, t = itoaB l[k].arg := ⟨_, rfl⟩
      rw [← hT, ← hSo, ← hSa] at HJ
      rw [← hSo, ← hxo] at HIO
      rw [← hSa, ← hxa] at HIA
      rw [← hSo] at hso
      rw [← hSa] at hsa
      rw [← hT] at hst ⊢
      rw [← hxo] at x0 h0
      rw [← hxa] at x1
      obtain ⟨vb, hVb⟩ : ∃ t, t = vtext l[k].v := ⟨_, rfl⟩
      rw [← hVb] at HJ hvs
      clear hT hxo hxa hSo hSa
      have n0 : ¬ (9223372036854775807 < T.size + so.size) := by omega
      have n1 : ¬ (9223372036854775807 < T.size + so.size + 1) := by omega
      have n2 : ¬ (9223372036854775807 < T.size + so.size + 1 + sa.size) := by omega
      have n3 : ¬ (9223372036854775807 < T.size + so.size + 1 + sa.size + 1) := by omega
      have n4 : ¬ (9223372036854775807 < T.size + so.size + 1 + sa.size + 1 + l[k].s.size) := by omega
      have n5 : ¬ (9223372036854775807 < T.size + so.size + 1 + sa.size + 1 + l[k].s.size + 1) := by omega
      have n6 : ¬ (9223372036854775807 < T.size + so.size + 1 + sa.size + 1 + l[k].s.size + 1 + vb.size) := by omega
      have n7 : ¬ (9223372036854775807 < T.size + so.size + 1 + sa.size + 1 + l[k].s.size + 1 + vb.size + 1) := by omega
      go_wp2_with fail
      refine (rText_any l[k].v (HFL.out _ (List.getElem_mem hlt)).1 (HBK.out _ (List.getElem_mem hlt)) (.slice ax l[k].v.l.length cx) wr B (Nat.le_trans hB HB.out.size) (tabOk_below HT.out HB.out) (isL_below HSX.out HB.out hB)).mono ?_
      rw [← hVb]
      rintro e w5 ⟨rfl, hb5⟩
      clear hVb
      have HB5 := Lib.hid (below_down HB.out hb5 (Nat.le_refl _))
      have hz5 : b < w5.heap.size := by have := hb5.size; omega
      clear hb5
      have hg5 : ∀ o, w5.cell? ⟨b, o, none⟩ = w.cell? ⟨b, o, none⟩ := fun o => HB5.out.cell (p := ⟨b, o, none⟩) (Nat.lt_of_lt_of_le hb2 hB)
      clear hg
      go_wp2_with fail
      have HC1 : Hid (∀ d os, Calls Tryd.prog 39 #[.int .i64 xo] (Go.Sort.grow (redrawn w5 d) os) fun e w' => e = .returned (.string so) ∧ Below (Go.Sort.grow (redrawn w5 d) os).heap.size (Go.Sort.grow (redrawn w5 d) os) w') := fun d os => HIO.out _
      have HC2 : Hid (∀ d os, Calls Tryd.prog 39 #[.int .i64 xa] (Go.Sort.grow (redrawn w5 d) os) fun e w' => e = .returned (.string sa) ∧ Below (Go.Sort.grow (redrawn w5 d) os).heap.size (Go.Sort.grow (redrawn w5 d) os) w') := fun d os => HIA.out _
      clear HIO HIA
      have gl := cell_grow (Below.refl w5.heap.size w5) (Nat.le_refl _) hz5
      refine wp_region_quiet_below (by kernel_rfl) (by kernel_rfl) ?_
      repeat (quiet_step (fail))
      quiet_step (exact Calls.regrown_of (HC1.out _ _))
      repeat (quiet_step (fail))
      quiet_step (exact Calls.regrown_of (HC2.out _ _))
      repeat (quiet_step (fail))
      refine wpQuiet_nil ?_
      intro w6 hw6
      have hb6 : Below w5.heap.size w5 w6 := by
        obtain ⟨p, hp⟩ := hw6
        rw [hp]
        exact below_grow (Below.refl w5.heap.size w5) (Nat.le_refl _) _ _
      have HB6 := Lib.hid (below_down HB5.out hb6 (Nat.le_refl _))
      clear hw6 hb6 gl hg5 x0 x1 x2 x3 x4 x5 x6 x7
      go_wp2_with fail
      go_roundw
      case rel => exact ⟨k + 1, by omega, by go_num, HB6.out, by rw [HJ.out]⟩
      case measure => simp [intOf]; omega
end Go.Proofs.YtnmolgmchoihmaaDoor
