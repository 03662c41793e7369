/-
  What the references' may and Check compute: whether a value may be, as value.Check tells it. Conditions: lists and texts shorter than 2^31.
-/
import Derived.Test.YtljljhjdlicfeaaGreatMC
import Derived.Test.YtljljhjdlicfeaaGreatNE
import Derived.Test.YtljljhjdlicfeaaGreatNA
import Derived.Test.YtljljhjdlicfeaaGreatPAH
import Derived.Test.YtljljhjdlicfeaaGreatNB
namespace Go.Proofs.YtljljhjdlicfeaaGreat
open Go Go.RowKit
set_option maxRecDepth 100000
set_option linter.unusedVariables false
set_option maxHeartbeats 1600000 in
theorem rMay_k0 (b : Bool) (n : Int) (t : ByteArray) (len d : Nat) (a : Option Addr) (c : Nat) (w : World) (ht : t.size ≤ 2147483647) (hl : len ≤ 2147483647) (hd : d ≤ 30) :
    Calls Tryz.prog 53 #[.agg #[.int .i64 0, .bool b, .int .i64 n, .string t, .slice a len c], .int .i64 d] w fun e w' => e = .returned (.bool (chkFlat 0 b n t len)) ∧ Below w.heap.size w w' := by
  have HT := Lib.hid (@toList_nil t)
  go_enter Tryz.func53, Tryz.ntmps53
  go_wp2_with fail
  all_goals go_ret
  all_goals refine ⟨ret_bool ?_, ((Below.refl _ _).alloc (Nat.le_refl _) _)⟩
  all_goals have hnil := HT.out
  all_goals clear HT
  all_goals first | (simp [chkFlat, *]; done) | (simp_all; done) | (simp_all [chkFlat]; done) | (rw [Bool.eq_iff_iff]; simp [chkFlat, *]; done) | (rw [Bool.eq_iff_iff]; simp [chkFlat]; omega) | (simp_all [chkFlat]; omega) | (simp [chkFlat]; intros; omega)
set_option maxHeartbeats 1600000 in
theorem rMay_k1 (b : Bool) (n : Int) (t : ByteArray) (len d : Nat) (a : Option Addr) (c : Nat) (w : World) (ht : t.size ≤ 2147483647) (hl : len ≤ 2147483647) (hd : d ≤ 30) :
    Calls Tryz.prog 53 #[.agg #[.int .i64 1, .bool b, .int .i64 n, .string t, .slice a len c], .int .i64 d] w fun e w' => e = .returned (.bool (chkFlat 1 b n t len)) ∧ Below w.heap.size w w' := by
  have HT := Lib.hid (@toList_nil t)
  go_enter Tryz.func53, Tryz.ntmps53
  go_wp2_with fail
  all_goals go_ret
  all_goals refine ⟨ret_bool ?_, ((Below.refl _ _).alloc (Nat.le_refl _) _)⟩
  all_goals have hnil := HT.out
  all_goals clear HT
  all_goals first | (simp [chkFlat, *]; done) | (simp_all; done) | (simp_all [chkFlat]; done) | (rw [Bool.eq_iff_iff]; simp [chkFlat, *]; done) | (rw [Bool.eq_iff_iff]; simp [chkFlat]; omega) | (simp_all [chkFlat]; omega) | (simp [chkFlat]; intros; omega)
set_option maxHeartbeats 1600000 in
theorem rMay_k2 (b : Bool) (n : Int) (t : ByteArray) (len d : Nat) (a : Option Addr) (c : Nat) (w : World) (ht : t.size ≤ 2147483647) (hl : len ≤ 2147483647) (hd : d ≤ 30) :
    Calls Tryz.prog 53 #[.agg #[.int .i64 2, .bool b, .int .i64 n, .string t, .slice a len c], .int .i64 d] w fun e w' => e = .returned (.bool (chkFlat 2 b n t len)) ∧ Below w.heap.size w w' := by
  have HT := Lib.hid (@toList_nil t)
  go_enter Tryz.func53, Tryz.ntmps53
  go_wp2_with fail
  all_goals go_ret
  all_goals refine ⟨ret_bool ?_, ((Below.refl _ _).alloc (Nat.le_refl _) _)⟩
  all_goals have hnil := HT.out
  all_goals clear HT
  all_goals first | (simp [chkFlat, *]; done) | (simp_all; done) | (simp_all [chkFlat]; done) | (rw [Bool.eq_iff_iff]; simp [chkFlat, *]; done) | (rw [Bool.eq_iff_iff]; simp [chkFlat]; omega) | (simp_all [chkFlat]; omega) | (simp [chkFlat]; intros; omega)
set_option maxHeartbeats 1600000 in
theorem rMay_k3 (b : Bool) (n : Int) (t : ByteArray) (len d : Nat) (a : Option Addr) (c : Nat) (w : World) (ht : t.size ≤ 2147483647) (hl : len ≤ 2147483647) (hd : d ≤ 30) :
    Calls Tryz.prog 53 #[.agg #[.int .i64 3, .bool b, .int .i64 n, .string t, .slice a len c], .int .i64 d] w fun e w' => e = .returned (.bool (chkFlat 3 b n t len)) ∧ Below w.heap.size w w' := by
  have HT := Lib.hid (@toList_nil t)
  go_enter Tryz.func53, Tryz.ntmps53
  go_wp2_with fail
  all_goals go_ret
  all_goals refine ⟨ret_bool ?_, ((Below.refl _ _).alloc (Nat.le_refl _) _)⟩
  all_goals have hnil := HT.out
  all_goals clear HT
  all_goals first | (simp [chkFlat, *]; done) | (simp_all; done) | (simp_all [chkFlat]; done) | (rw [Bool.eq_iff_iff]; simp [chkFlat, *]; done) | (rw [Bool.eq_iff_iff]; simp [chkFlat]; omega) | (simp_all [chkFlat]; omega) | (simp [chkFlat]; intros; omega)
set_option maxHeartbeats 1600000 in
theorem rMay_k5 (b : Bool) (n : Int) (t : ByteArray) (len d : Nat) (a : Option Addr) (c : Nat) (w : World) (ht : t.size ≤ 2147483647) (hl : len ≤ 2147483647) (hd : d ≤ 30) :
    Calls Tryz.prog 53 #[.agg #[.int .i64 5, .bool b, .int .i64 n, .string t, .slice a len c], .int .i64 d] w fun e w' => e = .returned (.bool (chkFlat 5 b n t len)) ∧ Below w.heap.size w w' := by
  have HT := Lib.hid (@toList_nil t)
  go_enter Tryz.func53, Tryz.ntmps53
  go_wp2_with fail
  all_goals go_ret
  all_goals refine ⟨ret_bool ?_, ((Below.refl _ _).alloc (Nat.le_refl _) _)⟩
  all_goals have hnil := HT.out
  all_goals clear HT
  all_goals first | (simp [chkFlat, *]; done) | (simp_all; done) | (simp_all [chkFlat]; done) | (rw [Bool.eq_iff_iff]; simp [chkFlat, *]; done) | (rw [Bool.eq_iff_iff]; simp [chkFlat]; omega) | (simp_all [chkFlat]; omega) | (simp [chkFlat]; intros; omega)
set_option maxHeartbeats 1600000 in
theorem rMay_kx (k : Int) (b : Bool) (n : Int) (t : ByteArray) (len d : Nat) (a : Option Addr) (c : Nat) (w : World) (ht : t.size ≤ 2147483647) (hl : len ≤ 2147483647) (hd : d ≤ 30) (h1 : k < 0 ∨ 5 < k) :
    Calls Tryz.prog 53 #[.agg #[.int .i64 k, .bool b, .int .i64 n, .string t, .slice a len c], .int .i64 d] w fun e w' => e = .returned (.bool (chkFlat k b n t len)) ∧ Below w.heap.size w w' := by
  have HT := Lib.hid (@toList_nil t)
  have e0 : (k == 0) = false := by simp; omega
  have e1 : (k == 1) = false := by simp; omega
  have e2 : (k == 2) = false := by simp; omega
  have e3 : (k == 3) = false := by simp; omega
  have e4 : (k == 4) = false := by simp; omega
  have e5 : (k == 5) = false := by simp; omega
  have HK := Lib.hid h1
  clear h1
  go_enter Tryz.func53, Tryz.ntmps53
  go_wp2_with fail
  all_goals go_ret
  all_goals refine ⟨ret_bool ?_, ((Below.refl _ _).alloc (Nat.le_refl _) _)⟩
  all_goals have hnil := HT.out
  all_goals clear HT
  all_goals first | (simp [chkFlat, *]; done) | (simp_all; done) | (simp_all [chkFlat]; done) | (rw [Bool.eq_iff_iff]; simp [chkFlat, *]; done) | (rw [Bool.eq_iff_iff]; simp [chkFlat]; omega) | (simp_all [chkFlat]; omega) | (simp [chkFlat]; intros; omega)
end Go.Proofs.YtljljhjdlicfeaaGreat
namespace Go.Proofs.YtljljhjdlicfeaaGreat
open Go Go.RowKit
set_option maxRecDepth 100000
set_option linter.unusedVariables false
theorem rMay_flat (x : GV) (d : Nat) (hd : d ≤ 30) (a : Option Addr) (c : Nat) (w : World) (hk : x.k ≠ 4) (ht : x.t.size ≤ 2147483647) (hl : x.l.length ≤ 2147483647) :
    Calls Tryz.prog 53 #[x.agg (.slice a x.l.length c), .int .i64 d] w fun e w' => e = .returned (.bool (chk x d)) ∧ Below w.heap.size w w' := by
  have HR := chk_eq x d
  rw [show (x.k != 4) = true from by simpa using hk, Bool.true_or, Bool.and_true] at HR
  rw [HR]
  simp only [GV.agg]
  have hc : x.k = 0 ∨ x.k = 1 ∨ x.k = 2 ∨ x.k = 3 ∨ x.k = 5 ∨ (x.k < 0 ∨ 5 < x.k) := by omega
  rcases hc with h | h | h | h | h | h
  · rw [h]; exact rMay_k0 _ _ _ _ _ _ _ _ ht hl hd
  · rw [h]; exact rMay_k1 _ _ _ _ _ _ _ _ ht hl hd
  · rw [h]; exact rMay_k2 _ _ _ _ _ _ _ _ ht hl hd
  · rw [h]; exact rMay_k3 _ _ _ _ _ _ _ _ ht hl hd
  · rw [h]; exact rMay_k5 _ _ _ _ _ _ _ _ ht hl hd
  · exact rMay_kx _ _ _ _ _ _ _ _ _ ht hl hd h
theorem rMay_early (b : Bool) (n : Int) (t : ByteArray) (len d : Nat) (a : Option Addr) (c : Nat) (w : World) (ht : t.size ≤ 2147483647) (hl : len ≤ 2147483647) (hd : d ≤ 30)
    (h : (chkFlat 4 b n t len && decide (d < 30)) = false) :
    Calls Tryz.prog 53 #[.agg #[.int .i64 4, .bool b, .int .i64 n, .string t, .slice a len c], .int .i64 d] w fun e w' => e = .returned (.bool false) ∧ Below w.heap.size w w' := by
  have HX := Lib.hid h
  clear h
  cases b with
  | true =>
    go_enter Tryz.func53, Tryz.ntmps53
    go_wp2_with fail
    go_ret
    exact ⟨rfl, ((Below.refl _ _).alloc (Nat.le_refl _) _)⟩
  | false =>
    cases hn : (n != 0) with
    | true =>
      go_enter Tryz.func53, Tryz.ntmps53
      go_wp2_with fail
      go_ret
      exact ⟨rfl, ((Below.refl _ _).alloc (Nat.le_refl _) _)⟩
    | false =>
      by_cases htt : t.toList = []
      · by_cases hl2 : 4096 < len
        · have f2 : decide ((4096 : Int) < (len : Int)) = true := by simp; omega
          go_enter Tryz.func53, Tryz.ntmps53
          go_wp2_with fail
          go_ret
          exact ⟨rfl, ((Below.refl _ _).alloc (Nat.le_refl _) _)⟩
        · have f2 : decide ((4096 : Int) < (len : Int)) = false := by simp; omega
          have hd2 : 30 ≤ d := by
            have := HX.out
            simp [chkFlat] at this hn
            exact this hn htt (by omega)
          have f1 : decide ((30 : Int) ≤ (d : Int)) = true := by simp; omega
          go_enter Tryz.func53, Tryz.ntmps53
          go_wp2_with fail
          go_ret
          exact ⟨rfl, ((Below.refl _ _).alloc (Nat.le_refl _) _)⟩
      · have htt2 : t.toList.isEmpty = false := by simpa using htt
        go_enter Tryz.func53, Tryz.ntmps53
        go_wp2_with fail
        go_ret
        exact ⟨rfl, ((Below.refl _ _).alloc (Nat.le_refl _) _)⟩
set_option maxHeartbeats 1600000 in
theorem rMay_list (t : ByteArray) (l : List GV) (d : Nat) (s : Value) (w : World) (B : Nat) (hB : B ≤ w.heap.size) (hs : isL w 0 B s l) (htt : t.toList = []) (hl : l.length ≤ 4096) (hd : d < 30)
    (h : ∀ x ∈ l, ChkC 53 x (d + 1)) :
    Calls Tryz.prog 53 #[.agg #[.int .i64 4, .bool false, .int .i64 0, .string t, s], .int .i64 d] w fun e w' => e = .returned (.bool (chkL l (d + 1))) ∧ Below w.heap.size w w' := by
  obtain ⟨a, c, bb, off, rfl, hc, ha, hA⟩ := isL_open hs
  have HA := Lib.hid hA
  have Ha := Lib.hid ha
  have HH := Lib.hid h
  clear hA hs ha h
  have f1 : decide ((30 : Int) ≤ (d : Int)) = false := by simp; omega
  have f2 : decide ((4096 : Int) < (l.length : Int)) = false := by simp; omega
  have HD := Lib.hid hd
  clear hd
  have hd1 : d ≤ 30 := by have := HD.out; omega
  go_enter Tryz.func53, Tryz.ntmps53
  go_wp2_with fail
  go_loopw [9] (fun i wr => ∃ k : Nat, k ≤ l.length ∧ i = .int .i64 k ∧ Below (w.heap.size + 1) (w.alloc (.cells #[.int .i64 4, .bool false, .int .i64 0, .string t, .slice a l.length c] 36)) wr ∧ Hid (∀ j (g : j < l.length), j < k → chk l[j] (d + 1) = true)) (fun i _ => l.length - (intOf i).toNat)
  case atStart => exact ⟨0, Nat.zero_le _, rfl, Below.refl _ _, fun j _ hj => by omega⟩
  case round =>
    obtain ⟨k, hk, rfl, hbel, hR⟩ := hrel
    have hb0 : Below w.heap.size w wr := ((Below.refl w.heap.size w).alloc (Nat.le_refl _) (.cells #[.int .i64 4, .bool false, .int .i64 0, .string t, .slice a l.length c] 36)).trans (hbel.mono (by omega))
    have hsz : w.heap.size + 1 ≤ wr.heap.size := by have := hbel.size; simpa using this
    have q1 : ∀ o, wr.cell? ⟨w.heap.size, o, none⟩ = (#[.int .i64 4, .bool false, .int .i64 0, .string t, .slice a l.length c] : Array Value)[o]? := fun o => by
      rw [hbel.cell (p := ⟨w.heap.size, o, none⟩) (by simp)]; exact cell_last o
    by_cases hlt : k < l.length
    · obtain ⟨rfl, hb1, hb2⟩ := Ha.out (by omega)
      obtain ⟨ax, cx, x0, x1, x2, x3, x4, hsx⟩ := cellsV_slice (HA.out k hlt)
      have hg : ∀ o, wr.cell? ⟨bb, o, none⟩ = w.cell? ⟨bb, o, none⟩ := fun o => hb0.cell (p := ⟨bb, o, none⟩) (Nat.lt_of_lt_of_le hb2 hB)
      have hz : bb < wr.heap.size := Nat.lt_of_lt_of_le hb2 (Nat.le_trans hB hb0.size)
      have Hsx := Lib.hid hsx
      clear hsx
      go_wp2_with fail
      refine (HH.out l[k] (List.getElem_mem _) _ _ B (Nat.le_trans hB hb0.size) (isL_below Hsx.out hb0 hB)).mono ?_
      rintro e w2 ⟨rfl, hb5⟩
      have hb3 := below_down hb0 hb5 (Nat.le_refl _)
      have hb7 := hbel.trans (hb5.mono hsz)
      clear hb5 hg x0 x1 x2 x3 x4 Hsx Ha q1
      cases hsm : chk l[k] (d + 1)
      · have HS := Lib.hid hsm
        clear hsm
        go_wp2_with fail
        go_ret
        exact ⟨ret_bool (by rw [chkL_at l (d + 1) k hlt HS.out]), hb3⟩
      · have HS := Lib.hid hsm
        clear hsm
        go_wp2_with fail
        go_roundw
        case rel => exact ⟨k + 1, by omega, by go_num, hb7, fun j g hj => by
          by_cases e : j = k
          · subst e; exact HS.out
          · exact hR.out j g (by omega)⟩
        case measure => simp [intOf]; omega
    · have hL := Lib.hid (chkL_all l (d + 1) (fun i h => hR.out i h (by omega)))
      go_wp2_with fail
      go_ret
      exact ⟨ret_bool hL.out.symm, hb0⟩
theorem rMay_all : ∀ (m : Nat) (x : GV) (d : Nat), x.size ≤ m → x.fit → d ≤ 30 → ChkC 53 x d := by
  intro m
  induction m with
  | zero => intro x d h; have := size_l x; omega
  | succ m ih =>
    intro x d h fx hd s w B hB hs
    obtain ⟨_, _, _, _, ht, hl, hf⟩ := fit_open fx
    obtain ⟨a, c, e⟩ := isL_form hs
    subst e
    by_cases hk : x.k = 4
    · rw [chk_eq, show (x.k != 4) = false from by simp [hk], Bool.false_or, hk, ← Bool.and_assoc]
      cases hx : (chkFlat 4 x.b x.n x.t x.l.length && decide (d < 30))
      · rw [Bool.false_and]
        simp only [GV.agg, hk]
        exact rMay_early _ _ _ _ _ _ _ _ ht hl hd hx
      · rw [Bool.true_and]
        simp only [GV.agg, hk]
        simp [chkFlat] at hx
        obtain ⟨⟨⟨⟨h1, h2⟩, h3⟩, h4⟩, h5⟩ := hx
        rw [h1, h2]
        exact rMay_list x.t x.l d _ w B hB hs h3 h4 h5 (fun y hy => ih y (d + 1) (by have := size_l x; have := sizeL_mem hy; omega) (fitL_mem hf y hy) (by omega))
    · exact rMay_flat x d hd a c w hk ht hl
theorem rMay_any (x : GV) (fx : x.fit) (d : Nat) (hd : d ≤ 30) : ChkC 53 x d := rMay_all x.size x d (Nat.le_refl _) fx hd
set_option maxHeartbeats 400000 in
theorem rCheck_any (x : GV) (fx : x.fit) (s : Value) (w : World) (B : Nat) (hB : B ≤ w.heap.size) (hs : isL w 0 B s x.l) :
    Calls Tryz.prog 35 #[x.agg s] w fun e w' => e = .returned (.bool (vmay x)) ∧ Below w.heap.size w w' := by
  have HS := Lib.hid hs
  have HC := Lib.hid (rMay_any x fx 0 (Nat.zero_le _))
  clear hs
  obtain ⟨a, c, e⟩ := isL_form HS.out
  subst e
  simp only [GV.agg]
  go_enter Tryz.func35, Tryz.ntmps35
  go_wp2_with fail
  have hb0 := (Below.refl w.heap.size w).alloc (Nat.le_refl _) (.cells #[.int .i64 x.k, .bool x.b, .int .i64 x.n, .string x.t, .slice a x.l.length c] 36)
  refine (HC.out _ _ B (Nat.le_trans hB hb0.size) (isL_below HS.out hb0 hB)).mono ?_
  rintro e w' ⟨rfl, hb⟩
  go_wp2_with fail
  go_ret
  exact ⟨rfl, below_down hb0 hb (Nat.le_refl _)⟩
end Go.Proofs.YtljljhjdlicfeaaGreat
namespace Go.Proofs.YtljljhjdlicfeaaGreat
open Go Go.RowKit
set_option maxRecDepth 100000
set_option linter.unusedVariables false
def takesR (x : GI) : Int := if okOf x = true then offOf x else -1
theorem ret_i64 {a b : Int} (h : a = b) : Ending.returned (.int .i64 a) = .returned (.int .i64 b) := by rw [h]
set_option maxHeartbeats 3200000 in
theorem takesR_any (x : GI) (fv : x.v.fit) (fs : x.s.size ≤ 2147483647) (s : Value) (w : World) (B : Nat) (hB : B ≤ w.heap.size) (hs : isL w 0 B s x.v.l) :
    Calls Tryz.prog 30 #[x.agg s] w fun e w' => e = .returned (.int .i64 (takesR x)) ∧ Below w.heap.size w w' := by
  obtain ⟨a, c, rfl⟩ := isL_form hs
  have HS := Lib.hid hs
  have FV := Lib.hid fv
  have HR : Hid (takesR x = if okOf x = true then offOf x else -1) := rfl
  obtain ⟨op, arg, st, v⟩ := x
  have hcase : op = 0 ∨ op = 1 ∨ op = 2 ∨ op = 3 ∨ op = 4 ∨ op = 5 ∨ op = 6 ∨ op = 7 ∨ op = 8 ∨ (op ≠ 0 ∧ op ≠ 1 ∧ op ≠ 2 ∧ op ≠ 3 ∧ op ≠ 4 ∧ op ≠ 5 ∧ op ≠ 6 ∧ op ≠ 7 ∧ op ≠ 8) := by omega
  clear hs fv
  dsimp only at fs HS FV
  simp only [GI.agg]
  go_enter Tryz.func30, Tryz.ntmps30
  go_wp2_with fail
  have hb0 := (Below.refl w.heap.size w).alloc (Nat.le_refl _) (.cells #[.int .i64 op, .int .i64 arg, .string st, .int .i64 v.k, .bool v.b, .int .i64 v.n, .string v.t, .slice a v.l.length c] 86)
  refine (zSame_any v zeroV FV.out zeroV_fit (.slice a v.l.length c) (.slice none 0 0) _ B (Nat.le_trans hB hb0.size) (isL_below HS.out hb0 hB) (isL_nil _ _)).mono ?_
  rintro e w1 ⟨rfl, hb1⟩
  have hbx := (hb1.block w.heap.size (by simp)).trans (heap_last (w := w))
  have HB1 := Lib.hid (below_down hb0 hb1 (Nat.le_refl _))
  have q1 := fun o => cell_of hbx o
  have hz1 : w.heap.size + 1 ≤ w1.heap.size := by have := hb1.size; simpa using this
  have HS1 := Lib.hid (isL_below HS.out HB1.out hB)
  have HWD := Lib.hid (rWord_any st fs w1)
  have HTK := Lib.hid (rTakes_any arg w1)
  clear hb0 hb1 hbx
  cases hs : (st.toList == [])
  all_goals
    first
      | have hs' : (st.toList != []) = true := by rw [bne, hs]; rfl
      | have hs' : (st.toList != []) = false := by rw [bne, hs]; rfl
    cases hv : same v zeroV
  all_goals
    cases ha : (arg == 0)
  all_goals
    first
      | have ha' : (arg != 0) = true := by rw [bne, ha]; rfl
      | have ha' : (arg != 0) = false := by rw [bne, ha]; rfl
    have HR1 := Lib.hid (And.intro hs (And.intro hv ha))
    rcases hcase with rfl | rfl | rfl | rfl | rfl | rfl | rfl | rfl | rfl | ⟨h0, h1, h2, h3, h4, h5, h6, h7, h8⟩
  all_goals try
    have e0 : (op == 0) = false := by simpa using h0
    have e1 : (op == 1) = false := by simpa using h1
    have e2 : (op == 2) = false := by simpa using h2
    have e3 : (op == 3) = false := by simpa using h3
    have e4 : (op == 4) = false := by simpa using h4
    have e5 : (op == 5) = false := by simpa using h5
    have e6 : (op == 6) = false := by simpa using h6
    have e7 : (op == 7) = false := by simpa using h7
    have e8 : (op == 8) = false := by simpa using h8
    have u0 : (op != 0) = true := by simpa using h0
    have u1 : (op != 1) = true := by simpa using h1
    have u2 : (op != 2) = true := by simpa using h2
    have u3 : (op != 3) = true := by simpa using h3
    have u4 : (op != 4) = true := by simpa using h4
    have u5 : (op != 5) = true := by simpa using h5
    have u7 : (op != 7) = true := by simpa using h7
    have u8 : (op != 8) = true := by simpa using h8
    have HN := Lib.hid (And.intro h0 (And.intro h1 (And.intro h2 (And.intro h3 (And.intro h4 (And.intro h5 (And.intro h6 (And.intro h7 h8))))))))
    clear h0 h1 h2 h3 h4 h5 h6 h7 h8
  all_goals go_wp2_with fail
  all_goals
    try
      refine HTK.out.mono ?_
      rintro e w2 ⟨rfl, rfl⟩
      rcases takesOf_cases arg with ht | ht | ht
      all_goals
        have HT2 := Lib.hid ht
        rw [ht]
        go_wp2_with fail
      all_goals try
        refine HTK.out.mono ?_
        rintro e w2 ⟨rfl, rfl⟩
        rw [ht]
        go_wp2_with fail
      all_goals
        go_ret
        refine ⟨ret_i64 ?_, HB1.out⟩
        have r0 := HR.out
        obtain ⟨r1, r2, r3⟩ := HR1.out
        rw [r0]
        simp [okOf, offOf, r1, r2, HT2.out]
  all_goals
    try
      refine HWD.out.mono ?_
      rintro e w2 ⟨rfl, rfl⟩
      cases hn : nameB st.data.toList
      all_goals
        have HN2 := Lib.hid hn
        go_wp2_with fail
        go_ret
        refine ⟨ret_i64 ?_, HB1.out⟩
        have r0 := HR.out
        obtain ⟨r1, r2, r3⟩ := HR1.out
        rw [r0]
        have r4 : arg = 0 := by simpa using r3
        simp [okOf, offOf, r2, r4, HN2.out]
  all_goals
    try
      refine (rCheck_any v FV.out (.slice a v.l.length c) w1 B (Nat.le_trans hB HB1.out.size) HS1.out).mono ?_
      rintro e w2 ⟨rfl, hb2⟩
      cases hn : vmay v
      all_goals
        have HN2 := Lib.hid hn
        go_wp2_with fail
        go_ret
        refine ⟨ret_i64 ?_, below_down HB1.out hb2 (Nat.le_refl _)⟩
        have r0 := HR.out
        obtain ⟨r1, r2, r3⟩ := HR1.out
        rw [r0]
        have r4 : arg = 0 := by simpa using r3
        simp [okOf, offOf, r1, r4, HN2.out]
  all_goals
    go_ret
    refine ⟨ret_i64 ?_, HB1.out⟩
    have r0 := HR.out
    obtain ⟨r1, r2, r3⟩ := HR1.out
    rw [r0]
    first
      | (have r4 : arg = 0 := by simpa using r3
         first | (exfalso; omega) | (simp [okOf, offOf, r1, r2, r4]; done) | (obtain ⟨g0, g1, g2, g3, g4, g5, g6, g7, g8⟩ := HN.out; simp [okOf, r1, r2, g0, g1, g2, g3, g4, g5, g6, g7, g8]; done))
      | (have r4 : arg ≠ 0 := by simpa using r3
         first | (simp [okOf, offOf, r1, r2, r4]; done) | (simp [okOf, offOf, r1, r2, r4]; omega) | (obtain ⟨g0, g1, g2, g3, g4, g5, g6, g7, g8⟩ := HN.out; simp [okOf, r1, r2, g0, g1, g2, g3, g4, g5, g6, g7, g8]; done))
end Go.Proofs.YtljljhjdlicfeaaGreat
namespace Go.Proofs.YtljljhjdlicfeaaGreat
open Go Go.RowKit
set_option linter.unusedVariables false
def gi (op arg : Int) (s : ByteArray) (v : GV) : GI := ⟨op, arg, s, v⟩
def noV : GV := ⟨0, false, 0, ByteArray.empty, []⟩
def jop (op : Int) : Int := if op = 9 then 8 else 7
mutual
def compE : GE → Nat → List GI
  | ⟨op, text, v, args⟩ => fun m =>
    if op = 1 then [gi 0 0 ByteArray.empty v]
    else if op = 2 then [gi 1 0 text noV]
    else if op = 3 then [gi 2 0 text noV]
    else if op = 8 ∨ op = 9 then compTwo args op m
    else compEs args m ++ [if op = 4 then gi 3 0 text noV else if op = 5 then gi 4 args.length ByteArray.empty noV else gi 5 op ByteArray.empty noV]
def compTwo : List GE → Int → Nat → List GI
  | [] => fun _ _ => []
  | x :: r => fun op m =>
    (compE x m ++ [gi 6 0 ByteArray.empty noV]) ++ compLast r op (m + (compE x m).length + 1)
def compLast : List GE → Int → Nat → List GI
  | [] => fun _ _ => []
  | y :: _ => fun op m => gi (jop op) (m + 1 + (compE y (m + 1)).length + 1 : Nat) ByteArray.empty noV :: (compE y (m + 1) ++ [gi 6 0 ByteArray.empty noV])
def compEs : List GE → Nat → List GI
  | [] => fun _ => []
  | x :: r => fun m => compE x m ++ compEs r (m + (compE x m).length)
end
theorem compE_eq (x : GE) (m : Nat) : compE x m = if x.op = 1 then [gi 0 0 ByteArray.empty x.v]
    else if x.op = 2 then [gi 1 0 x.text noV]
    else if x.op = 3 then [gi 2 0 x.text noV]
    else if x.op = 8 ∨ x.op = 9 then compTwo x.args x.op m
    else compEs x.args m ++ [if x.op = 4 then gi 3 0 x.text noV else if x.op = 5 then gi 4 x.args.length ByteArray.empty noV else gi 5 x.op ByteArray.empty noV] := by
  obtain ⟨op, text, v, args⟩ := x
  simp only [compE]
theorem compTwo_eq (x y : GE) (op : Int) (m : Nat) : compTwo [x, y] op m = (compE x m ++ [gi 6 0 ByteArray.empty noV]) ++
    (gi (jop op) (m + (compE x m).length + 1 + 1 + (compE y (m + (compE x m).length + 1 + 1)).length + 1 : Nat) ByteArray.empty noV :: (compE y (m + (compE x m).length + 1 + 1) ++ [gi 6 0 ByteArray.empty noV])) := by
  simp only [compTwo, compLast]
theorem compEs_append : ∀ (l r : List GE) (m : Nat), compEs (l ++ r) m = compEs l m ++ compEs r (m + (compEs l m).length)
  | [], r, m => by simp [compEs]
  | x :: l, r, m => by simp [compEs, compEs_append l r, Nat.add_assoc]
theorem compEs_take_succ (l : List GE) (k m : Nat) (h : k < l.length) : compEs (l.take (k + 1)) m = compEs (l.take k) m ++ compE l[k] (m + (compEs (l.take k) m).length) := by
  rw [List.take_succ_eq_append_getElem h, compEs_append]
  simp [compEs]
mutual
def GE.wf : GE → Prop
  | ⟨op, text, v, args⟩ => ((op = 8 ∨ op = 9) → args.length = 2) ∧ wfE args
def wfE : List GE → Prop
  | [] => True
  | x :: r => x.wf ∧ wfE r
end
theorem wf_open {x : GE} (h : x.wf) : ((x.op = 8 ∨ x.op = 9) → x.args.length = 2) ∧ wfE x.args := by
  obtain ⟨op, text, v, args⟩ := x
  simpa only [GE.wf] using h
theorem wfE_mem : ∀ {l : List GE}, wfE l → ∀ x ∈ l, x.wf
  | [], _, _, hx => by cases hx
  | y :: r, h, x, hx => by
    simp only [wfE] at h
    rcases List.mem_cons.1 hx with e | e
    · subst e; exact h.1
    · exact wfE_mem h.2 x e
mutual
theorem compE_len : ∀ (x : GE) (m : Nat), (compE x m).length ≤ 3 * x.size
  | ⟨op, text, v, args⟩, m => by
    have h1 := compTwo_len args op m
    have h2 := compEs_len args m
    simp only [compE, GE.size]
    split
    · simp; omega
    split
    · simp; omega
    split
    · simp; omega
    split
    · omega
    · simp; omega
theorem compTwo_len : ∀ (l : List GE) (op : Int) (m : Nat), (compTwo l op m).length ≤ 3 * sizeE l + 3
  | [], op, m => by simp [compTwo]
  | x :: r, op, m => by
    have h1 := compE_len x m
    have h2 := compLast_len r op (m + (compE x m).length + 1)
    simp only [compTwo, sizeE, List.length_append, List.length_cons, List.length_nil]
    omega
theorem compLast_len : ∀ (l : List GE) (op : Int) (m : Nat), (compLast l op m).length ≤ 3 * sizeE l + 2
  | [], op, m => by simp [compLast]
  | y :: r, op, m => by
    have h1 := compE_len y (m + 1)
    simp only [compLast, sizeE, List.length_append, List.length_cons, List.length_nil]
    omega
theorem compEs_len : ∀ (l : List GE) (m : Nat), (compEs l m).length ≤ 3 * sizeE l
  | [], m => by simp [compEs]
  | x :: r, m => by
    have h1 := compE_len x m
    have h2 := compEs_len r (m + (compE x m).length)
    simp only [compEs, sizeE, List.length_append]
    omega
end
end Go.Proofs.YtljljhjdlicfeaaGreat
