/-
  What value.checked, value.Check and the references' may, Check compute: whether a value may be. Conditions: lists and texts shorter than 2^31.
-/
import Derived.Test.YtljljhjdlicfeaaGreatMB
namespace Go.Proofs.YtljljhjdlicfeaaGreat
open Go Go.RowKit
set_option maxRecDepth 100000
set_option linter.unusedVariables false
def chkFlat (k : Int) (b : Bool) (n : Int) (t : ByteArray) (len : Nat) : Bool :=
  if k = 0 then !b && (n == 0) && (t.toList == []) && (len == 0)
  else if k = 1 then (n == 0) && (t.toList == []) && (len == 0)
  else if k = 2 then !b && (t.toList == []) && (len == 0)
  else if k = 3 then !b && (n == 0) && decide (t.size ≤ 65536) && (len == 0)
  else if k = 5 then !b && decide (1 ≤ n) && (t.toList == []) && (len == 0)
  else if k = 4 then !b && (n == 0) && (t.toList == []) && decide (len ≤ 4096)
  else false
mutual
/-- may the value be, so deep in lists -/
def chk : GV → Nat → Bool
  | ⟨k, b, n, t, l⟩, d => chkFlat k b n t l.length && (k != 4 || (decide (d < 30) && chkL l (d + 1)))
def chkL : List GV → Nat → Bool
  | [], _ => true
  | x :: r, d => chk x d && chkL r d
end
theorem chk_eq (x : GV) (d : Nat) : chk x d = (chkFlat x.k x.b x.n x.t x.l.length && (x.k != 4 || (decide (d < 30) && chkL x.l (d + 1)))) := by
  cases x; simp [chk]
def ChkC (f : Nat) (x : GV) (d : Nat) : Prop := ∀ (s : Value) (w : World) (B : Nat), B ≤ w.heap.size → isL w 0 B s x.l →
  Calls Tryz.prog f #[x.agg s, .int .i64 d] w fun e w' => e = .returned (.bool (chk x d)) ∧ Below w.heap.size w w'
set_option maxHeartbeats 1600000 in
theorem vChk_k0 (b : Bool) (n : Int) (t : ByteArray) (len d : Nat) (a : Option Addr) (c : Nat) (w : World) (ht : t.size ≤ 2147483647) (hl : len ≤ 2147483647) (hd : d ≤ 30) :
    Calls Tryz.prog 78 #[.agg #[.int .i64 0, .bool b, .int .i64 n, .string t, .slice a len c], .int .i64 d] w fun e w' => e = .returned (.bool (chkFlat 0 b n t len)) ∧ Below w.heap.size w w' := by
  have HT := Lib.hid (@toList_nil t)
  go_enter Tryz.func78, Tryz.ntmps78
  go_wp2_with fail
  all_goals go_ret
  all_goals refine ⟨ret_bool ?_, ((Below.refl _ _).alloc (Nat.le_refl _) _).alloc (by simp) _⟩
  all_goals have hnil := HT.out
  all_goals clear HT
  all_goals first | (simp [chkFlat, *]; done) | (simp_all [chkFlat]; done) | (rw [Bool.eq_iff_iff]; simp [chkFlat, *]; done) | (simp_all [chkFlat]; omega) | (simp [chkFlat]; refine ⟨⟨⟨?_, ?_⟩, ?_⟩, ?_⟩ <;> first | assumption | omega | simp_all) | (simp [chkFlat]; intros; omega)
set_option maxHeartbeats 1600000 in
theorem vChk_k1 (b : Bool) (n : Int) (t : ByteArray) (len d : Nat) (a : Option Addr) (c : Nat) (w : World) (ht : t.size ≤ 2147483647) (hl : len ≤ 2147483647) (hd : d ≤ 30) :
    Calls Tryz.prog 78 #[.agg #[.int .i64 1, .bool b, .int .i64 n, .string t, .slice a len c], .int .i64 d] w fun e w' => e = .returned (.bool (chkFlat 1 b n t len)) ∧ Below w.heap.size w w' := by
  have HT := Lib.hid (@toList_nil t)
  go_enter Tryz.func78, Tryz.ntmps78
  go_wp2_with fail
  all_goals go_ret
  all_goals refine ⟨ret_bool ?_, ((Below.refl _ _).alloc (Nat.le_refl _) _).alloc (by simp) _⟩
  all_goals have hnil := HT.out
  all_goals clear HT
  all_goals first | (simp [chkFlat, *]; done) | (simp_all [chkFlat]; done) | (rw [Bool.eq_iff_iff]; simp [chkFlat, *]; done) | (simp_all [chkFlat]; omega) | (simp [chkFlat]; refine ⟨⟨⟨?_, ?_⟩, ?_⟩, ?_⟩ <;> first | assumption | omega | simp_all) | (simp [chkFlat]; intros; omega)
set_option maxHeartbeats 1600000 in
theorem vChk_k2 (b : Bool) (n : Int) (t : ByteArray) (len d : Nat) (a : Option Addr) (c : Nat) (w : World) (ht : t.size ≤ 2147483647) (hl : len ≤ 2147483647) (hd : d ≤ 30) :
    Calls Tryz.prog 78 #[.agg #[.int .i64 2, .bool b, .int .i64 n, .string t, .slice a len c], .int .i64 d] w fun e w' => e = .returned (.bool (chkFlat 2 b n t len)) ∧ Below w.heap.size w w' := by
  have HT := Lib.hid (@toList_nil t)
  go_enter Tryz.func78, Tryz.ntmps78
  go_wp2_with fail
  all_goals go_ret
  all_goals refine ⟨ret_bool ?_, ((Below.refl _ _).alloc (Nat.le_refl _) _).alloc (by simp) _⟩
  all_goals have hnil := HT.out
  all_goals clear HT
  all_goals first | (simp [chkFlat, *]; done) | (simp_all [chkFlat]; done) | (rw [Bool.eq_iff_iff]; simp [chkFlat, *]; done) | (simp_all [chkFlat]; omega) | (simp [chkFlat]; refine ⟨⟨⟨?_, ?_⟩, ?_⟩, ?_⟩ <;> first | assumption | omega | simp_all) | (simp [chkFlat]; intros; omega)
set_option maxHeartbeats 1600000 in
theorem vChk_k3 (b : Bool) (n : Int) (t : ByteArray) (len d : Nat) (a : Option Addr) (c : Nat) (w : World) (ht : t.size ≤ 2147483647) (hl : len ≤ 2147483647) (hd : d ≤ 30) :
    Calls Tryz.prog 78 #[.agg #[.int .i64 3, .bool b, .int .i64 n, .string t, .slice a len c], .int .i64 d] w fun e w' => e = .returned (.bool (chkFlat 3 b n t len)) ∧ Below w.heap.size w w' := by
  have HT := Lib.hid (@toList_nil t)
  go_enter Tryz.func78, Tryz.ntmps78
  go_wp2_with fail
  all_goals go_ret
  all_goals refine ⟨ret_bool ?_, ((Below.refl _ _).alloc (Nat.le_refl _) _).alloc (by simp) _⟩
  all_goals have hnil := HT.out
  all_goals clear HT
  all_goals first | (simp [chkFlat, *]; done) | (simp_all [chkFlat]; done) | (rw [Bool.eq_iff_iff]; simp [chkFlat, *]; done) | (simp_all [chkFlat]; omega) | (simp [chkFlat]; refine ⟨⟨⟨?_, ?_⟩, ?_⟩, ?_⟩ <;> first | assumption | omega | simp_all) | (simp [chkFlat]; intros; omega)
set_option maxHeartbeats 1600000 in
theorem vChk_k5y (b : Bool) (n : Int) (t : ByteArray) (len d : Nat) (a : Option Addr) (c : Nat) (w : World) (ht : t.size ≤ 2147483647) (hl : len ≤ 2147483647) (hd : d ≤ 30) (h1 : 1 ≤ n) :
    Calls Tryz.prog 78 #[.agg #[.int .i64 5, .bool b, .int .i64 n, .string t, .slice a len c], .int .i64 d] w fun e w' => e = .returned (.bool (chkFlat 5 b n t len)) ∧ Below w.heap.size w w' := by
  have HT := Lib.hid (@toList_nil t)
  go_enter Tryz.func78, Tryz.ntmps78
  go_wp2_with fail
  all_goals go_ret
  all_goals refine ⟨ret_bool ?_, ((Below.refl _ _).alloc (Nat.le_refl _) _).alloc (by simp) _⟩
  all_goals have hnil := HT.out
  all_goals clear HT
  all_goals first | (simp [chkFlat, *]; done) | (simp_all [chkFlat]; done) | (rw [Bool.eq_iff_iff]; simp [chkFlat, *]; done) | (simp_all [chkFlat]; omega) | (simp [chkFlat]; refine ⟨⟨⟨?_, ?_⟩, ?_⟩, ?_⟩ <;> first | assumption | omega | simp_all) | (simp [chkFlat]; intros; omega)
set_option maxHeartbeats 1600000 in
theorem vChk_k5n (b : Bool) (n : Int) (t : ByteArray) (len d : Nat) (a : Option Addr) (c : Nat) (w : World) (ht : t.size ≤ 2147483647) (hl : len ≤ 2147483647) (hd : d ≤ 30) (h1 : n < 1) :
    Calls Tryz.prog 78 #[.agg #[.int .i64 5, .bool b, .int .i64 n, .string t, .slice a len c], .int .i64 d] w fun e w' => e = .returned (.bool (chkFlat 5 b n t len)) ∧ Below w.heap.size w w' := by
  have HT := Lib.hid (@toList_nil t)
  go_enter Tryz.func78, Tryz.ntmps78
  go_wp2_with fail
  all_goals go_ret
  all_goals refine ⟨ret_bool ?_, ((Below.refl _ _).alloc (Nat.le_refl _) _).alloc (by simp) _⟩
  all_goals have hnil := HT.out
  all_goals clear HT
  all_goals first | (simp [chkFlat, *]; done) | (simp_all [chkFlat]; done) | (rw [Bool.eq_iff_iff]; simp [chkFlat, *]; done) | (simp_all [chkFlat]; omega) | (simp [chkFlat]; refine ⟨⟨⟨?_, ?_⟩, ?_⟩, ?_⟩ <;> first | assumption | omega | simp_all) | (simp [chkFlat]; intros; omega)
set_option maxHeartbeats 1600000 in
theorem vChk_kx (k : Int) (b : Bool) (n : Int) (t : ByteArray) (len d : Nat) (a : Option Addr) (c : Nat) (w : World) (ht : t.size ≤ 2147483647) (hl : len ≤ 2147483647) (hd : d ≤ 30) (h1 : k < 0 ∨ 5 < k) :
    Calls Tryz.prog 78 #[.agg #[.int .i64 k, .bool b, .int .i64 n, .string t, .slice a len c], .int .i64 d] w fun e w' => e = .returned (.bool (chkFlat k b n t len)) ∧ Below w.heap.size w w' := by
  have HT := Lib.hid (@toList_nil t)
  have e0 : (k == 0) = false := by simp; omega
  have e1 : (k == 1) = false := by simp; omega
  have e2 : (k == 2) = false := by simp; omega
  have e3 : (k == 3) = false := by simp; omega
  have e4 : (k == 4) = false := by simp; omega
  have e5 : (k == 5) = false := by simp; omega
  have HK := Lib.hid h1
  clear h1
  go_enter Tryz.func78, Tryz.ntmps78
  go_wp2_with fail
  all_goals go_ret
  all_goals refine ⟨ret_bool ?_, ((Below.refl _ _).alloc (Nat.le_refl _) _).alloc (by simp) _⟩
  all_goals have hnil := HT.out
  all_goals clear HT
  all_goals first | (simp [chkFlat, *]; done) | (simp_all [chkFlat]; done) | (rw [Bool.eq_iff_iff]; simp [chkFlat, *]; done) | (simp_all [chkFlat]; omega) | (simp [chkFlat]; refine ⟨⟨⟨?_, ?_⟩, ?_⟩, ?_⟩ <;> first | assumption | omega | simp_all) | (simp [chkFlat]; intros; omega)
theorem vChk_flat (x : GV) (d : Nat) (hd : d ≤ 30) (a : Option Addr) (c : Nat) (w : World) (hk : x.k ≠ 4) (ht : x.t.size ≤ 2147483647) (hl : x.l.length ≤ 2147483647) :
    Calls Tryz.prog 78 #[x.agg (.slice a x.l.length c), .int .i64 d] w fun e w' => e = .returned (.bool (chk x d)) ∧ Below w.heap.size w w' := by
  have HR := chk_eq x d
  rw [show (x.k != 4) = true from by simpa using hk, Bool.true_or, Bool.and_true] at HR
  rw [HR]
  simp only [GV.agg]
  have hc : x.k = 0 ∨ x.k = 1 ∨ x.k = 2 ∨ x.k = 3 ∨ x.k = 5 ∨ (x.k < 0 ∨ 5 < x.k) := by omega
  rcases hc with h | h | h | h | h | h
  · rw [h]; exact vChk_k0 _ _ _ _ _ _ _ _ ht hl hd
  · rw [h]; exact vChk_k1 _ _ _ _ _ _ _ _ ht hl hd
  · rw [h]; exact vChk_k2 _ _ _ _ _ _ _ _ ht hl hd
  · rw [h]; exact vChk_k3 _ _ _ _ _ _ _ _ ht hl hd
  · rw [h]
    by_cases h1 : 1 ≤ x.n
    · exact vChk_k5y _ _ _ _ _ _ _ _ ht hl hd h1
    · exact vChk_k5n _ _ _ _ _ _ _ _ ht hl hd (by omega)
  · exact vChk_kx _ _ _ _ _ _ _ _ _ ht hl hd h
end Go.Proofs.YtljljhjdlicfeaaGreat
namespace Go.Proofs.YtljljhjdlicfeaaGreat
open Go Go.RowKit
set_option maxRecDepth 100000
set_option linter.unusedVariables false
theorem chkL_all : ∀ (l : List GV) (d : Nat), (∀ i (h : i < l.length), chk l[i] d = true) → chkL l d = true
  | [], _, _ => rfl
  | x :: r, d, h => by
    have h0 : chk x d = true := h 0 (by simp)
    have hr := chkL_all r d (fun i hi => h (i + 1) (by simpa using hi))
    simp [chkL, h0, hr]
theorem chkL_at : ∀ (l : List GV) (d i : Nat) (h : i < l.length), chk l[i] d = false → chkL l d = false
  | x :: r, d, 0, _, g => by
    have g' : chk x d = false := g
    simp [chkL, g']
  | x :: r, d, i + 1, h, g => by
    have := chkL_at r d i (by simpa using h) g
    simp [chkL, this]
set_option maxHeartbeats 1600000 in
theorem vChk_list (b : Bool) (n : Int) (t : ByteArray) (l : List GV) (d : Nat) (s : Value) (w : World) (B : Nat) (hB : B ≤ w.heap.size) (hs : isL w 0 B s l) (ht : t.size ≤ 2147483647) (hl : l.length ≤ 2147483647) (hd : d ≤ 30)
    (h : d < 30 → ∀ x ∈ l, ChkC 78 x (d + 1)) :
    Calls Tryz.prog 78 #[.agg #[.int .i64 4, .bool b, .int .i64 n, .string t, s], .int .i64 d] w fun e w' => e = .returned (.bool (chkFlat 4 b n t l.length && (decide (d < 30) && chkL l (d + 1)))) ∧ Below w.heap.size w w' := by
  obtain ⟨a, c, bb, off, rfl, hc, ha, hA⟩ := isL_open hs
  have HA := Lib.hid hA
  have Ha := Lib.hid ha
  have HH := Lib.hid h
  have HT := Lib.hid (@toList_nil t)
  clear hA hs ha h
  by_cases hd2 : 30 ≤ d
  · have f1 : decide ((30 : Int) ≤ (d : Int)) = true := by simp; omega
    go_enter Tryz.func78, Tryz.ntmps78
    go_wp2_with fail
    go_ret
    exact ⟨ret_bool (by rw [show decide (d < 30) = false from by simp; omega]; simp), ((Below.refl _ _).alloc (Nat.le_refl _) _).alloc (by simp) _⟩
  have f1 : decide ((30 : Int) ≤ (d : Int)) = false := by simp; omega
  by_cases hl2 : 4096 < l.length
  · have f2 : decide ((4096 : Int) < (l.length : Int)) = true := by simp; omega
    go_enter Tryz.func78, Tryz.ntmps78
    go_wp2_with fail
    go_ret
    exact ⟨ret_bool (by rw [show chkFlat 4 b n t l.length = false from by simp [chkFlat]; omega]; simp), ((Below.refl _ _).alloc (Nat.le_refl _) _).alloc (by simp) _⟩
  have f2 : decide ((4096 : Int) < (l.length : Int)) = false := by simp; omega
  have HD := Lib.hid hd2
  clear hd2
  go_enter Tryz.func78, Tryz.ntmps78
  go_wp2_with fail
  go_loopw [49] (fun i wr => ∃ k : Nat, k ≤ l.length ∧ i = .int .i64 k ∧ Below (w.heap.size + 2) ((w.alloc (.cells #[.int .i64 4, .bool b, .int .i64 n, .string t, .slice a l.length c] 36)).alloc (.cells #[.int .i64 4, .bool false, .int .i64 0, .string { data := #[] }, .slice none 0 0] 36)) wr ∧ Hid (∀ j (g : j < l.length), j < k → chk l[j] (d + 1) = true)) (fun i _ => l.length - (intOf i).toNat)
  case atStart => exact ⟨0, Nat.zero_le _, rfl, Below.refl _ _, fun j _ hj => by omega⟩
  case round =>
    obtain ⟨k, hk, rfl, hbel, hR⟩ := hrel
    have hb0 : Below w.heap.size w wr := (((Below.refl w.heap.size w).alloc (Nat.le_refl _) (.cells #[.int .i64 4, .bool b, .int .i64 n, .string t, .slice a l.length c] 36)).alloc (by simp) (.cells #[.int .i64 4, .bool false, .int .i64 0, .string { data := #[] }, .slice none 0 0] 36)).trans (hbel.mono (by omega))
    have hsz : w.heap.size + 2 ≤ wr.heap.size := by have := hbel.size; simpa using this
    by_cases hlt : k < l.length
    · obtain ⟨rfl, hb1, hb2⟩ := Ha.out (by omega)
      obtain ⟨ax, cx, x0, x1, x2, x3, x4, hsx⟩ := cellsV_slice (HA.out k hlt)
      have hg : ∀ o, wr.cell? ⟨bb, o, none⟩ = w.cell? ⟨bb, o, none⟩ := fun o => hb0.cell (p := ⟨bb, o, none⟩) (Nat.lt_of_lt_of_le hb2 hB)
      have hz : bb < wr.heap.size := Nat.lt_of_lt_of_le hb2 (Nat.le_trans hB hb0.size)
      have Hsx := Lib.hid hsx
      clear hsx
      go_wp2_with fail
      have hb4 := hb0.alloc hb0.size (.cells #[.int .i64 l[k].k, .bool l[k].b, .int .i64 l[k].n, .string l[k].t, .slice ax l[k].l.length cx] 36)
      have hb6 := hbel.alloc hsz (.cells #[.int .i64 l[k].k, .bool l[k].b, .int .i64 l[k].n, .string l[k].t, .slice ax l[k].l.length cx] 36)
      refine (HH.out (by have := HD.out; omega) l[k] (List.getElem_mem _) _ _ B (Nat.le_trans hB hb4.size) (isL_below Hsx.out hb4 hB)).mono ?_
      rintro e w2 ⟨rfl, hb5⟩
      have hb3 := below_down hb4 hb5 (Nat.le_refl _)
      have hb7 := hb6.trans (hb5.mono (by simp; omega))
      clear hb4 hb5 hb6 hg x0 x1 x2 x3 x4 Hsx Ha
      cases hsm : chk l[k] (d + 1)
      · have HS := Lib.hid hsm
        clear hsm
        go_wp2_with fail
        go_ret
        exact ⟨ret_bool (by rw [chkL_at l (d + 1) k hlt HS.out]; simp), hb3⟩
      · have HS := Lib.hid hsm
        clear hsm
        go_wp2_with fail
        go_roundw
        case rel => exact ⟨k + 1, by omega, by go_num, hb7, fun j g hj => by
          by_cases e : j = k
          · subst e; exact HS.out
          · exact hR.out j g (by omega)⟩
        case measure => simp [intOf]; omega
    · have hL := Lib.hid (chkL_all l (d + 1) (fun i h => hR.out i h (by omega)))
      have q1 : ∀ o, wr.cell? ⟨w.heap.size, o, none⟩ = (#[.int .i64 4, .bool b, .int .i64 n, .string t, .slice a l.length c] : Array Value)[o]? := fun o => by
        rw [hbel.cell (p := ⟨w.heap.size, o, none⟩) (by simp)]; exact cell_two o
      have q2 : ∀ o, wr.cell? ⟨w.heap.size + 1, o, none⟩ = (#[.int .i64 4, .bool false, .int .i64 0, .string { data := #[] }, .slice none 0 0] : Array Value)[o]? := fun o => by
        rw [hbel.cell (p := ⟨w.heap.size + 1, o, none⟩) (by simp)]; exact cell_second o
      have hl3 : decide (l.length ≤ 4096) = true := by simp; omega
      go_wp2_with fail
      all_goals go_ret
      all_goals refine ⟨ret_bool ?_, hb0⟩
      all_goals rw [hL.out, show decide (d < 30) = true from by have := HD.out; simp; omega]
      all_goals have hnil := HT.out
      all_goals clear HT HA HH hR hL q1 q2 HD Ha
      all_goals generalize l.length = len at *
      all_goals first | (simp [chkFlat, *]; done) | (simp_all; done) | (simp_all [chkFlat]; done) | (rw [Bool.eq_iff_iff]; simp [chkFlat, *]; done) | (simp_all [chkFlat]; omega) | (simp [chkFlat]; refine ⟨⟨⟨?_, ?_⟩, ?_⟩, ?_⟩ <;> first | assumption | omega | simp_all) | (simp [chkFlat]; intros; omega)
theorem vChk_all : ∀ (m : Nat) (x : GV) (d : Nat), x.size ≤ m → x.fit → d ≤ 30 → ChkC 78 x d := by
  intro m
  induction m with
  | zero => intro x d h; have := size_l x; omega
  | succ m ih =>
    intro x d h fx hd s w B hB hs
    obtain ⟨_, _, _, _, ht, hl, hf⟩ := fit_open fx
    by_cases hk : x.k = 4
    · have := vChk_list x.b x.n x.t x.l d s w B hB hs ht hl hd (fun h30 y hy => ih y (d + 1) (by have := size_l x; have := sizeL_mem hy; omega) (fitL_mem hf y hy) (by omega))
      rw [chk_eq, show (x.k != 4) = false from by simp [hk], Bool.false_or, hk]
      simp only [GV.agg, hk]
      exact this
    · obtain ⟨a, c, e⟩ := isL_form hs
      subst e
      exact vChk_flat x d hd a c w hk ht hl
theorem vChk_any (x : GV) (fx : x.fit) (d : Nat) (hd : d ≤ 30) : ChkC 78 x d := vChk_all x.size x d (Nat.le_refl _) fx hd
def vmay (x : GV) : Bool := chk x 0
set_option maxHeartbeats 400000 in
theorem vCheck_any (x : GV) (fx : x.fit) (s : Value) (w : World) (B : Nat) (hB : B ≤ w.heap.size) (hs : isL w 0 B s x.l) :
    Calls Tryz.prog 60 #[x.agg s] w fun e w' => e = .returned (.bool (vmay x)) ∧ Below w.heap.size w w' := by
  have HS := Lib.hid hs
  have HC := Lib.hid (vChk_any x fx 0 (Nat.zero_le _))
  clear hs
  obtain ⟨a, c, e⟩ := isL_form HS.out
  subst e
  simp only [GV.agg]
  go_enter Tryz.func60, Tryz.ntmps60
  go_wp2_with fail
  have hb0 := (Below.refl w.heap.size w).alloc (Nat.le_refl _) (.cells #[.int .i64 x.k, .bool x.b, .int .i64 x.n, .string x.t, .slice a x.l.length c] 36)
  refine (HC.out _ _ B (Nat.le_trans hB hb0.size) (isL_below HS.out hb0 hB)).mono ?_
  rintro e w' ⟨rfl, hb⟩
  go_wp2_with fail
  go_ret
  exact ⟨rfl, below_down hb0 hb (Nat.le_refl _)⟩
end Go.Proofs.YtljljhjdlicfeaaGreat
