/-
  What the references' may and Check compute: whether a value may be, as value.Check tells it. Conditions: lists and texts shorter than 2^31.
-/
import Derived.Test.YtkpfaeodgjbodaaGreatDoorMC
namespace Go.Proofs.YtkpfaeodgjbodaaGreatDoor
open Go Go.RowKit
set_option maxRecDepth 100000
set_option linter.unusedVariables false
set_option maxHeartbeats 1600000 in
theorem rMay_k0 (b : Bool) (n : Int) (t : ByteArray) (len d : Nat) (a : Option Addr) (c : Nat) (w : World) (ht : t.size ≤ 2147483647) (hl : len ≤ 2147483647) (hd : d ≤ 30) :
    Calls Tryz.prog 40 #[.agg #[.int .i64 0, .bool b, .int .i64 n, .string t, .slice a len c], .int .i64 d] w fun e w' => e = .returned (.bool (chkFlat 0 b n t len)) ∧ Below w.heap.size w w' := by
  have HT := Lib.hid (@toList_nil t)
  go_enter Tryz.func40, Tryz.ntmps40
  go_wp2_with fail
  all_goals go_ret
  all_goals refine ⟨ret_bool ?_, ((Below.refl _ _).alloc (Nat.le_refl _) _)⟩
  all_goals have hnil := HT.out
  all_goals clear HT
  all_goals first | (simp [chkFlat, *]; done) | (simp_all; done) | (simp_all [chkFlat]; done) | (rw [Bool.eq_iff_iff]; simp [chkFlat, *]; done) | (rw [Bool.eq_iff_iff]; simp [chkFlat]; omega) | (simp_all [chkFlat]; omega) | (simp [chkFlat]; intros; omega)
set_option maxHeartbeats 1600000 in
theorem rMay_k1 (b : Bool) (n : Int) (t : ByteArray) (len d : Nat) (a : Option Addr) (c : Nat) (w : World) (ht : t.size ≤ 2147483647) (hl : len ≤ 2147483647) (hd : d ≤ 30) :
    Calls Tryz.prog 40 #[.agg #[.int .i64 1, .bool b, .int .i64 n, .string t, .slice a len c], .int .i64 d] w fun e w' => e = .returned (.bool (chkFlat 1 b n t len)) ∧ Below w.heap.size w w' := by
  have HT := Lib.hid (@toList_nil t)
  go_enter Tryz.func40, Tryz.ntmps40
  go_wp2_with fail
  all_goals go_ret
  all_goals refine ⟨ret_bool ?_, ((Below.refl _ _).alloc (Nat.le_refl _) _)⟩
  all_goals have hnil := HT.out
  all_goals clear HT
  all_goals first | (simp [chkFlat, *]; done) | (simp_all; done) | (simp_all [chkFlat]; done) | (rw [Bool.eq_iff_iff]; simp [chkFlat, *]; done) | (rw [Bool.eq_iff_iff]; simp [chkFlat]; omega) | (simp_all [chkFlat]; omega) | (simp [chkFlat]; intros; omega)
set_option maxHeartbeats 1600000 in
theorem rMay_k2 (b : Bool) (n : Int) (t : ByteArray) (len d : Nat) (a : Option Addr) (c : Nat) (w : World) (ht : t.size ≤ 2147483647) (hl : len ≤ 2147483647) (hd : d ≤ 30) :
    Calls Tryz.prog 40 #[.agg #[.int .i64 2, .bool b, .int .i64 n, .string t, .slice a len c], .int .i64 d] w fun e w' => e = .returned (.bool (chkFlat 2 b n t len)) ∧ Below w.heap.size w w' := by
  have HT := Lib.hid (@toList_nil t)
  go_enter Tryz.func40, Tryz.ntmps40
  go_wp2_with fail
  all_goals go_ret
  all_goals refine ⟨ret_bool ?_, ((Below.refl _ _).alloc (Nat.le_refl _) _)⟩
  all_goals have hnil := HT.out
  all_goals clear HT
  all_goals first | (simp [chkFlat, *]; done) | (simp_all; done) | (simp_all [chkFlat]; done) | (rw [Bool.eq_iff_iff]; simp [chkFlat, *]; done) | (rw [Bool.eq_iff_iff]; simp [chkFlat]; omega) | (simp_all [chkFlat]; omega) | (simp [chkFlat]; intros; omega)
set_option maxHeartbeats 1600000 in
theorem rMay_k3 (b : Bool) (n : Int) (t : ByteArray) (len d : Nat) (a : Option Addr) (c : Nat) (w : World) (ht : t.size ≤ 2147483647) (hl : len ≤ 2147483647) (hd : d ≤ 30) :
    Calls Tryz.prog 40 #[.agg #[.int .i64 3, .bool b, .int .i64 n, .string t, .slice a len c], .int .i64 d] w fun e w' => e = .returned (.bool (chkFlat 3 b n t len)) ∧ Below w.heap.size w w' := by
  have HT := Lib.hid (@toList_nil t)
  go_enter Tryz.func40, Tryz.ntmps40
  go_wp2_with fail
  all_goals go_ret
  all_goals refine ⟨ret_bool ?_, ((Below.refl _ _).alloc (Nat.le_refl _) _)⟩
  all_goals have hnil := HT.out
  all_goals clear HT
  all_goals first | (simp [chkFlat, *]; done) | (simp_all; done) | (simp_all [chkFlat]; done) | (rw [Bool.eq_iff_iff]; simp [chkFlat, *]; done) | (rw [Bool.eq_iff_iff]; simp [chkFlat]; omega) | (simp_all [chkFlat]; omega) | (simp [chkFlat]; intros; omega)
set_option maxHeartbeats 1600000 in
theorem rMay_k5 (b : Bool) (n : Int) (t : ByteArray) (len d : Nat) (a : Option Addr) (c : Nat) (w : World) (ht : t.size ≤ 2147483647) (hl : len ≤ 2147483647) (hd : d ≤ 30) :
    Calls Tryz.prog 40 #[.agg #[.int .i64 5, .bool b, .int .i64 n, .string t, .slice a len c], .int .i64 d] w fun e w' => e = .returned (.bool (chkFlat 5 b n t len)) ∧ Below w.heap.size w w' := by
  have HT := Lib.hid (@toList_nil t)
  go_enter Tryz.func40, Tryz.ntmps40
  go_wp2_with fail
  all_goals go_ret
  all_goals refine ⟨ret_bool ?_, ((Below.refl _ _).alloc (Nat.le_refl _) _)⟩
  all_goals have hnil := HT.out
  all_goals clear HT
  all_goals first | (simp [chkFlat, *]; done) | (simp_all; done) | (simp_all [chkFlat]; done) | (rw [Bool.eq_iff_iff]; simp [chkFlat, *]; done) | (rw [Bool.eq_iff_iff]; simp [chkFlat]; omega) | (simp_all [chkFlat]; omega) | (simp [chkFlat]; intros; omega)
set_option maxHeartbeats 1600000 in
theorem rMay_kx (k : Int) (b : Bool) (n : Int) (t : ByteArray) (len d : Nat) (a : Option Addr) (c : Nat) (w : World) (ht : t.size ≤ 2147483647) (hl : len ≤ 2147483647) (hd : d ≤ 30) (h1 : k < 0 ∨ 5 < k) :
    Calls Tryz.prog 40 #[.agg #[.int .i64 k, .bool b, .int .i64 n, .string t, .slice a len c], .int .i64 d] w fun e w' => e = .returned (.bool (chkFlat k b n t len)) ∧ Below w.heap.size w w' := by
  have HT := Lib.hid (@toList_nil t)
  have e0 : (k == 0) = false := by simp; omega
  have e1 : (k == 1) = false := by simp; omega
  have e2 : (k == 2) = false := by simp; omega
  have e3 : (k == 3) = false := by simp; omega
  have e4 : (k == 4) = false := by simp; omega
  have e5 : (k == 5) = false := by simp; omega
  have HK := Lib.hid h1
  clear h1
  go_enter Tryz.func40, Tryz.ntmps40
  go_wp2_with fail
  all_goals go_ret
  all_goals refine ⟨ret_bool ?_, ((Below.refl _ _).alloc (Nat.le_refl _) _)⟩
  all_goals have hnil := HT.out
  all_goals clear HT
  all_goals first | (simp [chkFlat, *]; done) | (simp_all; done) | (simp_all [chkFlat]; done) | (rw [Bool.eq_iff_iff]; simp [chkFlat, *]; done) | (rw [Bool.eq_iff_iff]; simp [chkFlat]; omega) | (simp_all [chkFlat]; omega) | (simp [chkFlat]; intros; omega)
end Go.Proofs.YtkpfaeodgjbodaaGreatDoor
/-
  What the references' may and Check compute at a list, and so at every value. Conditions: lists and texts shorter than 2^31.
-/
namespace Go.Proofs.YtkpfaeodgjbodaaGreatDoor
open Go Go.RowKit
set_option maxRecDepth 100000
set_option linter.unusedVariables false
theorem rMay_flat (x : GV) (d : Nat) (hd : d ≤ 30) (a : Option Addr) (c : Nat) (w : World) (hk : x.k ≠ 4) (ht : x.t.size ≤ 2147483647) (hl : x.l.length ≤ 2147483647) :
    Calls Tryz.prog 40 #[x.agg (.slice a x.l.length c), .int .i64 d] w fun e w' => e = .returned (.bool (chk x d)) ∧ Below w.heap.size w w' := by
  have HR := chk_eq x d
  rw [show (x.k != 4) = true from by simpa using hk, Bool.true_or, Bool.and_true] at HR
  rw [HR]
  simp only [GV.agg]
  have hc : x.k = 0 ∨ x.k = 1 ∨ x.k = 2 ∨ x.k = 3 ∨ x.k = 5 ∨ (x.k < 0 ∨ 5 < x.k) := by omega
  rcases hc with h | h | h | h | h | h
  · rw [h]; exact rMay_k0 _ _ _ _ _ _ _ _ ht hl hd
  · rw [h]; exact rMay_k1 _ _ _ _ _ _ _ _ ht hl hd
  · rw [h]; exact rMay_k2 _ _ _ _ _ _ _ _ ht hl hd
  · rw [h]; exact rMay_k3 _ _ _ _ _ _ _ _ ht hl hd
  · rw [h]; exact rMay_k5 _ _ _ _ _ _ _ _ ht hl hd
  · exact rMay_kx _ _ _ _ _ _ _ _ _ ht hl hd h

/-- at a list that is refused ahead of its elements -/
theorem rMay_early (b : Bool) (n : Int) (t : ByteArray) (len d : Nat) (a : Option Addr) (c : Nat) (w : World) (ht : t.size ≤ 2147483647) (hl : len ≤ 2147483647) (hd : d ≤ 30)
    (h : (chkFlat 4 b n t len && decide (d < 30)) = false) :
    Calls Tryz.prog 40 #[.agg #[.int .i64 4, .bool b, .int .i64 n, .string t, .slice a len c], .int .i64 d] w fun e w' => e = .returned (.bool false) ∧ Below w.heap.size w w' := by
  have HX := Lib.hid h
  clear h
  cases b with
  | true =>
    go_enter Tryz.func40, Tryz.ntmps40
    go_wp2_with fail
    go_ret
    exact ⟨rfl, ((Below.refl _ _).alloc (Nat.le_refl _) _)⟩
  | false =>
    cases hn : (n != 0) with
    | true =>
      go_enter Tryz.func40, Tryz.ntmps40
      go_wp2_with fail
      go_ret
      exact ⟨rfl, ((Below.refl _ _).alloc (Nat.le_refl _) _)⟩
    | false =>
      by_cases htt : t.toList = []
      · by_cases hl2 : 4096 < len
        · have f2 : decide ((4096 : Int) < (len : Int)) = true := by simp; omega
          go_enter Tryz.func40, Tryz.ntmps40
          go_wp2_with fail
          go_ret
          exact ⟨rfl, ((Below.refl _ _).alloc (Nat.le_refl _) _)⟩
        · have f2 : decide ((4096 : Int) < (len : Int)) = false := by simp; omega
          have hd2 : 30 ≤ d := by
            have := HX.out
            simp [chkFlat] at this hn
            exact this hn htt (by omega)
          have f1 : decide ((30 : Int) ≤ (d : Int)) = true := by simp; omega
          go_enter Tryz.func40, Tryz.ntmps40
          go_wp2_with fail
          go_ret
          exact ⟨rfl, ((Below.refl _ _).alloc (Nat.le_refl _) _)⟩
      · have htt2 : t.toList.isEmpty = false := by simpa using htt
        go_enter Tryz.func40, Tryz.ntmps40
        go_wp2_with fail
        go_ret
        exact ⟨rfl, ((Below.refl _ _).alloc (Nat.le_refl _) _)⟩

set_option maxHeartbeats 1600000 in
theorem rMay_list (t : ByteArray) (l : List GV) (d : Nat) (s : Value) (w : World) (B : Nat) (hB : B ≤ w.heap.size) (hs : isL w 0 B s l) (htt : t.toList = []) (hl : l.length ≤ 4096) (hd : d < 30)
    (h : ∀ x ∈ l, ChkC 40 x (d + 1)) :
    Calls Tryz.prog 40 #[.agg #[.int .i64 4, .bool false, .int .i64 0, .string t, s], .int .i64 d] w fun e w' => e = .returned (.bool (chkL l (d + 1))) ∧ Below w.heap.size w w' := by
  obtain ⟨a, c, bb, off, rfl, hc, ha, hA⟩ := isL_open hs
  have HA := Lib.hid hA
  have Ha := Lib.hid ha
  have HH := Lib.hid h
  clear hA hs ha h
  have f1 : decide ((30 : Int) ≤ (d : Int)) = false := by simp; omega
  have f2 : decide ((4096 : Int) < (l.length : Int)) = false := by simp; omega
  have HD := Lib.hid hd
  clear hd
  have hd1 : d ≤ 30 := by have := HD.out; omega
  go_enter Tryz.func40, Tryz.ntmps40
  go_wp2_with fail
  go_loopw [9] (fun i wr => ∃ k : Nat, k ≤ l.length ∧ i = .int .i64 k ∧ Below (w.heap.size + 1) (w.alloc (.cells #[.int .i64 4, .bool false, .int .i64 0, .string t, .slice a l.length c] 33)) wr ∧ Hid (∀ j (g : j < l.length), j < k → chk l[j] (d + 1) = true)) (fun i _ => l.length - (intOf i).toNat)
  case atStart => exact ⟨0, Nat.zero_le _, rfl, Below.refl _ _, fun j _ hj => by omega⟩
  case round =>
    obtain ⟨k, hk, rfl, hbel, hR⟩ := hrel
    have hb0 : Below w.heap.size w wr := ((Below.refl w.heap.size w).alloc (Nat.le_refl _) (.cells #[.int .i64 4, .bool false, .int .i64 0, .string t, .slice a l.length c] 33)).trans (hbel.mono (by omega))
    have hsz : w.heap.size + 1 ≤ wr.heap.size := by have := hbel.size; simpa using this
    have q1 : ∀ o, wr.cell? ⟨w.heap.size, o, none⟩ = (#[.int .i64 4, .bool false, .int .i64 0, .string t, .slice a l.length c] : Array Value)[o]? := fun o => by
      rw [hbel.cell (p := ⟨w.heap.size, o, none⟩) (by simp)]; exact cell_last o
    by_cases hlt : k < l.length
    · obtain ⟨rfl, hb1, hb2⟩ := Ha.out (by omega)
      obtain ⟨ax, cx, x0, x1, x2, x3, x4, hsx⟩ := cellsV_slice (HA.out k hlt)
      have hg : ∀ o, wr.cell? ⟨bb, o, none⟩ = w.cell? ⟨bb, o, none⟩ := fun o => hb0.cell (p := ⟨bb, o, none⟩) (Nat.lt_of_lt_of_le hb2 hB)
      have hz : bb < wr.heap.size := Nat.lt_of_lt_of_le hb2 (Nat.le_trans hB hb0.size)
      have Hsx := Lib.hid hsx
      clear hsx
      go_wp2_with fail
      refine (HH.out l[k] (List.getElem_mem _) _ _ B (Nat.le_trans hB hb0.size) (isL_below Hsx.out hb0 hB)).mono ?_
      rintro e w2 ⟨rfl, hb5⟩
      have hb3 := below_down hb0 hb5 (Nat.le_refl _)
      have hb7 := hbel.trans (hb5.mono hsz)
      clear hb5 hg x0 x1 x2 x3 x4 Hsx Ha q1
      cases hsm : chk l[k] (d + 1)
      · have HS := Lib.hid hsm
        clear hsm
        go_wp2_with fail
        go_ret
        exact ⟨ret_bool (by rw [chkL_at l (d + 1) k hlt HS.out]), hb3⟩
      · have HS := Lib.hid hsm
        clear hsm
        go_wp2_with fail
        go_roundw
        case rel => exact ⟨k + 1, by omega, by go_num, hb7, fun j g hj => by
          by_cases e : j = k
          · subst e; exact HS.out
          · exact hR.out j g (by omega)⟩
        case measure => simp [intOf]; omega
    · have hL := Lib.hid (chkL_all l (d + 1) (fun i h => hR.out i h (by omega)))
      go_wp2_with fail
      go_ret
      exact ⟨ret_bool hL.out.symm, hb0⟩

theorem rMay_all : ∀ (m : Nat) (x : GV) (d : Nat), x.size ≤ m → x.fit → d ≤ 30 → ChkC 40 x d := by
  intro m
  induction m with
  | zero => intro x d h; have := size_l x; omega
  | succ m ih =>
    intro x d h fx hd s w B hB hs
    obtain ⟨_, _, _, _, ht, hl, hf⟩ := fit_open fx
    obtain ⟨a, c, e⟩ := isL_form hs
    subst e
    by_cases hk : x.k = 4
    · rw [chk_eq, show (x.k != 4) = false from by simp [hk], Bool.false_or, hk, ← Bool.and_assoc]
      cases hx : (chkFlat 4 x.b x.n x.t x.l.length && decide (d < 30))
      · rw [Bool.false_and]
        simp only [GV.agg, hk]
        exact rMay_early _ _ _ _ _ _ _ _ ht hl hd hx
      · rw [Bool.true_and]
        simp only [GV.agg, hk]
        simp [chkFlat] at hx
        obtain ⟨⟨⟨⟨h1, h2⟩, h3⟩, h4⟩, h5⟩ := hx
        rw [h1, h2]
        exact rMay_list x.t x.l d _ w B hB hs h3 h4 h5 (fun y hy => ih y (d + 1) (by have := size_l x; have := sizeL_mem hy; omega) (fitL_mem hf y hy) (by omega))
    · exact rMay_flat x d hd a c w hk ht hl
theorem rMay_any (x : GV) (fx : x.fit) (d : Nat) (hd : d ≤ 30) : ChkC 40 x d := rMay_all x.size x d (Nat.le_refl _) fx hd

set_option maxHeartbeats 400000 in
theorem rCheck_any (x : GV) (fx : x.fit) (s : Value) (w : World) (B : Nat) (hB : B ≤ w.heap.size) (hs : isL w 0 B s x.l) :
    Calls Tryz.prog 19 #[x.agg s] w fun e w' => e = .returned (.bool (vmay x)) ∧ Below w.heap.size w w' := by
  have HS := Lib.hid hs
  have HC := Lib.hid (rMay_any x fx 0 (Nat.zero_le _))
  clear hs
  obtain ⟨a, c, e⟩ := isL_form HS.out
  subst e
  simp only [GV.agg]
  go_enter Tryz.func19, Tryz.ntmps19
  go_wp2_with fail
  have hb0 := (Below.refl w.heap.size w).alloc (Nat.le_refl _) (.cells #[.int .i64 x.k, .bool x.b, .int .i64 x.n, .string x.t, .slice a x.l.length c] 33)
  refine (HC.out _ _ B (Nat.le_trans hB hb0.size) (isL_below HS.out hb0 hB)).mono ?_
  rintro e w' ⟨rfl, hb⟩
  go_wp2_with fail
  go_ret
  exact ⟨rfl, below_down hb0 hb (Nat.le_refl _)⟩
end Go.Proofs.YtkpfaeodgjbodaaGreatDoor
