/-
  Plain words on the order of values: it is one. Conditions: none.
-/
import Derived.Test.YtljljhjdlicfeaaGreatMC
import Derived.Test.YtljljhjdlicfeaaGreatMD
import Derived.StillTailTactics
namespace Go.Proofs.YtljljhjdlicfeaaGreat
open Go Go.RowKit
set_option linter.unusedVariables false
def cmpI (a b : Int) : Int := if a < b then -1 else if b < a then 1 else 0
theorem cmpI_zero {a b : Int} : cmpI a b = 0 ↔ a = b := by
  unfold cmpI
  split
  · constructor <;> intro h <;> omega
  · split
    · constructor <;> intro h <;> omega
    · constructor <;> intro h <;> omega
theorem less_irr (a : List UInt8) : Op.bytesLess a a = false := by
  induction a with
  | nil => rfl
  | cons x r ih => simp [Op.bytesLess, ih]
theorem less_total (a b : List UInt8) (h1 : Op.bytesLess a b = false) (h2 : Op.bytesLess b a = false) : a = b := by
  induction a generalizing b with
  | nil =>
    cases b with
    | nil => rfl
    | cons y s => simp [Op.bytesLess] at h1
  | cons x r ih =>
    cases b with
    | nil => simp [Op.bytesLess] at h2
    | cons y s =>
      simp only [Op.bytesLess, Bool.or_eq_false_iff, decide_eq_false_iff_not, Bool.and_eq_false_iff, beq_eq_false_iff_ne] at h1 h2
      have e : x = y := by
        have g1 := h1.1
        have g2 := h2.1
        apply UInt8.toNat_inj.1
        rw [UInt8.lt_iff_toNat_lt] at g1 g2
        omega
      subst e
      rw [ih s (h1.2.resolve_left fun h => h rfl) (h2.2.resolve_left fun h => h rfl)]
def cmpT (a b : List UInt8) : Int := if Op.bytesLess a b = true then -1 else if Op.bytesLess b a = true then 1 else 0
theorem cmpT_zero {a b : List UInt8} : cmpT a b = 0 ↔ a = b := by
  unfold cmpT
  by_cases h : Op.bytesLess a b = true
  · rw [if_pos h]
    exact ⟨fun e => by omega, fun e => by subst e; rw [less_irr] at h; cases h⟩
  · by_cases h2 : Op.bytesLess b a = true
    · rw [if_neg h, if_pos h2]
      exact ⟨fun e => by omega, fun e => by subst e; rw [less_irr] at h2; cases h2⟩
    · rw [if_neg h, if_neg h2]
      exact ⟨fun _ => less_total a b (by simpa using h) (by simpa using h2), fun _ => rfl⟩
def bitI (b : Bool) : Int := if b = true then 1 else 0
mutual
/-- the order of two values -/
def ordV : GV → GV → Int
  | ⟨k, b, n, t, l⟩, y => if cmpI k y.k ≠ 0 then cmpI k y.k else if k = 0 then 0 else if k = 1 then bitI b - bitI y.b else if k = 2 ∨ k = 5 then cmpI n y.n else if k = 4 then ordL l y.l else cmpT t.toList y.t.toList
def ordL : List GV → List GV → Int
  | [], [] => 0
  | [], _ :: _ => -1
  | _ :: _, [] => 1
  | x :: r, y :: s => if ordV x y ≠ 0 then ordV x y else ordL r s
end
theorem ordV_eq (x y : GV) : ordV x y = if cmpI x.k y.k ≠ 0 then cmpI x.k y.k else if x.k = 0 then 0 else if x.k = 1 then bitI x.b - bitI y.b else if x.k = 2 ∨ x.k = 5 then cmpI x.n y.n else if x.k = 4 then ordL x.l y.l else cmpT x.t.toList y.t.toList := by
  cases x; simp only [ordV]
end Go.Proofs.YtljljhjdlicfeaaGreat
namespace Go.Proofs.YtljljhjdlicfeaaGreat
open Go Go.RowKit
set_option maxRecDepth 100000
set_option linter.unusedVariables false
theorem nanI_any (a : Int) (w : World) : Calls Tryz.prog 121 #[.int .i64 a] w fun e w' => e = .returned (.bool false) ∧ w' = w := by
  have h : (a != a) = false := by simp
  go_enter Tryz.func121, Tryz.ntmps121
  go_wp2_with fail
  go_ret
  exact ⟨rfl, rfl⟩
theorem nan64_any (a : Int) (w : World) : Calls Tryz.prog 122 #[.int .i64 a] w fun e w' => e = .returned (.bool false) ∧ w' = w := by
  have h : (a != a) = false := by simp
  go_enter Tryz.func122, Tryz.ntmps122
  go_wp2_with fail
  go_ret
  exact ⟨rfl, rfl⟩
theorem nanT_any (a : ByteArray) (w : World) : Calls Tryz.prog 123 #[.string a] w fun e w' => e = .returned (.bool false) ∧ w' = w := by
  have h : (a.toList == a.toList) = true := by simp
  have h' : (a.toList != a.toList) = false := by simp
  go_enter Tryz.func123, Tryz.ntmps123
  go_wp2_with fail
  go_ret
  exact ⟨rfl, rfl⟩
theorem cmpI_cases (a b : Int) : (decide (a < b) = true ∧ cmpI a b = -1) ∨ (decide (a < b) = false ∧ decide (b < a) = true ∧ cmpI a b = 1) ∨ (decide (a < b) = false ∧ decide (b < a) = false ∧ cmpI a b = 0) := by
  unfold cmpI
  by_cases h : a < b
  · exact .inl ⟨by simpa using h, if_pos h⟩
  · by_cases h2 : b < a
    · exact .inr (.inl ⟨by simpa using h, by simpa using h2, by rw [if_neg h, if_pos h2]⟩)
    · exact .inr (.inr ⟨by simpa using h, by simpa using h2, by rw [if_neg h, if_neg h2]⟩)
theorem cmpT_cases (a b : List UInt8) : (Op.bytesLess a b = true ∧ cmpT a b = -1) ∨ (Op.bytesLess a b = false ∧ (a == b) = false ∧ cmpT a b = 1) ∨ (Op.bytesLess a b = false ∧ (a == b) = true ∧ cmpT a b = 0) := by
  by_cases h : Op.bytesLess a b = true
  · exact .inl ⟨h, if_pos h⟩
  · have h' : Op.bytesLess a b = false := by simpa using h
    by_cases h2 : a = b
    · exact .inr (.inr ⟨h', by simpa using h2, cmpT_zero.2 h2⟩)
    · have h3 : Op.bytesLess b a = true := by
        cases e : Op.bytesLess b a
        · exact absurd (less_total a b h' e) h2
        · rfl
      exact .inr (.inl ⟨h', by simpa using h2, by unfold cmpT; rw [if_neg h, if_pos h3]⟩)
theorem compareI_any (a b : Int) (w : World) : Calls Tryz.prog 115 #[.int .i64 a, .int .i64 b] w fun e w' => e = .returned (.int .i64 (cmpI a b)) ∧ w' = w := by
  have n1 := Lib.hid (nanI_any a w)
  have n2 := Lib.hid (nanI_any b w)
  rcases cmpI_cases a b with ⟨h1, h⟩ | ⟨h1, h2, h⟩ | ⟨h1, h2, h⟩
  all_goals
    rw [h]
    clear h
    go_enter Tryz.func115, Tryz.ntmps115
    go_wp2_with fail
    refine n1.out.mono ?_
    rintro e w1 ⟨rfl, rfl⟩
    go_wp2_with fail
    refine n2.out.mono ?_
    rintro e w1 ⟨rfl, rfl⟩
    go_wp2_with fail
    go_ret
    exact ⟨rfl, rfl⟩
theorem compare64_any (a b : Int) (w : World) : Calls Tryz.prog 117 #[.int .i64 a, .int .i64 b] w fun e w' => e = .returned (.int .i64 (cmpI a b)) ∧ w' = w := by
  have n1 := Lib.hid (nan64_any a w)
  have n2 := Lib.hid (nan64_any b w)
  rcases cmpI_cases a b with ⟨h1, h⟩ | ⟨h1, h2, h⟩ | ⟨h1, h2, h⟩
  all_goals
    rw [h]
    clear h
    go_enter Tryz.func117, Tryz.ntmps117
    go_wp2_with fail
    refine n1.out.mono ?_
    rintro e w1 ⟨rfl, rfl⟩
    go_wp2_with fail
    refine n2.out.mono ?_
    rintro e w1 ⟨rfl, rfl⟩
    go_wp2_with fail
    go_ret
    exact ⟨rfl, rfl⟩
theorem compareT_any (a b : ByteArray) (w : World) : Calls Tryz.prog 119 #[.string a, .string b] w fun e w' => e = .returned (.int .i64 (cmpT a.toList b.toList)) ∧ w' = w := by
  have n1 := Lib.hid (nanT_any a w)
  have n2 := Lib.hid (nanT_any b w)
  rcases cmpT_cases a.toList b.toList with ⟨h1, h⟩ | ⟨h1, h2, h⟩ | ⟨h1, h2, h⟩
  all_goals
    rw [h]
    clear h
    go_enter Tryz.func119, Tryz.ntmps119
    go_wp2_with fail
    refine n1.out.mono ?_
    rintro e w1 ⟨rfl, rfl⟩
    go_wp2_with fail
    refine n2.out.mono ?_
    rintro e w1 ⟨rfl, rfl⟩
    go_wp2_with fail
    go_ret
    exact ⟨rfl, rfl⟩
theorem bit_any (b : Bool) (w : World) : Calls Tryz.prog 116 #[.bool b] w fun e w' => e = .returned (.int .i64 (bitI b)) ∧ w' = w := by
  cases b
  all_goals
    go_enter Tryz.func116, Tryz.ntmps116
    go_wp2_with fail
    go_ret
    exact ⟨rfl, rfl⟩
theorem sign_any (a b : Bool) (w : World) : Calls Tryz.prog 73 #[.bool a, .bool b] w fun e w' => e = .returned (.int .i64 (if a = true then -1 else if b = true then 1 else 0)) ∧ w' = w := by
  cases a <;> cases b
  all_goals
    go_enter Tryz.func73, Tryz.ntmps73
    go_wp2_with fail
    go_ret
    exact ⟨rfl, rfl⟩
end Go.Proofs.YtljljhjdlicfeaaGreat
namespace Go.Proofs.YtljljhjdlicfeaaGreat
open Go Go.RowKit
set_option maxRecDepth 100000
set_option linter.unusedVariables false
def OrdC (f : Nat) (x y : GV) : Prop := ∀ (sx sy : Value) (w : World) (B : Nat), B ≤ w.heap.size → isL w 0 B sx x.l → isL w 0 B sy y.l →
  Calls Tryz.prog f #[x.agg sx, y.agg sy] w fun e w' => e = .returned (.int .i64 (ordV x y)) ∧ Below w.heap.size w w'
def CmpFuncC (l m : List GV) : Prop := ∀ (s t : Value) (w : World) (B : Nat), B ≤ w.heap.size → isL w 0 B s l → isL w 0 B t m →
  Calls Tryz.prog 118 #[s, t, .func (.func 111) #[] #[]] w fun e w' => e = .returned (.int .i64 (ordL l m)) ∧ Below w.heap.size w w'
def RowsC (l m : List GV) : Prop := ∀ (s t : Value) (w : World) (B : Nat), B ≤ w.heap.size → isL w 0 B s l → isL w 0 B t m →
  Calls Tryz.prog 74 #[s, t] w fun e w' => e = .returned (.int .i64 (ordL l m)) ∧ Below w.heap.size w w'
theorem ordL_step (l m : List GV) (k : Nat) (h : k < l.length) (h' : k < m.length) : ordL (l.drop k) (m.drop k) = if ordV l[k] m[k] ≠ 0 then ordV l[k] m[k] else ordL (l.drop (k + 1)) (m.drop (k + 1)) := by
  rw [List.drop_eq_getElem_cons h, List.drop_eq_getElem_cons h']
  simp only [ordL]
theorem ordL_left (l m : List GV) (k : Nat) (h : l.length ≤ k) : ordL (l.drop k) (m.drop k) = if k < m.length then -1 else 0 := by
  rw [List.drop_of_length_le h]
  by_cases h' : k < m.length
  · rw [if_pos h', List.drop_eq_getElem_cons h']; simp only [ordL]
  · rw [if_neg h', List.drop_of_length_le (by omega)]; simp only [ordL]
theorem ordL_right (l m : List GV) (k : Nat) (h : k < l.length) (h' : m.length ≤ k) : ordL (l.drop k) (m.drop k) = 1 := by
  rw [List.drop_of_length_le h', List.drop_eq_getElem_cons h]; simp only [ordL]
theorem below_two {w : World} (o1 o2 : Obj) : Below w.heap.size w ((w.alloc o1).alloc o2) := ((Below.refl _ _).alloc (Nat.le_refl _) _).alloc (by simp) _
set_option maxHeartbeats 1600000 in
theorem vCmpFunc_step (l m : List GV) (hl : l.length ≤ 2147483647) (hm : m.length ≤ 2147483647) (h : ∀ x ∈ l, ∀ y ∈ m, OrdC 111 x y) : CmpFuncC l m := by
  intro s t w B hB hs ht
  obtain ⟨a, c, b, off, rfl, hc, ha, hA⟩ := isL_open hs
  obtain ⟨a', c', b', off', rfl, hc', ha', hA'⟩ := isL_open ht
  have HA := Lib.hid hA
  have HA' := Lib.hid hA'
  have HH := Lib.hid h
  have Ha := Lib.hid ha
  have Ha' := Lib.hid ha'
  clear hA hA' hs ht h ha ha'
  go_enter Tryz.func118, Tryz.ntmps118
  go_wp2_with fail
  go_loopw [13] (fun i wr => ∃ k : Nat, k ≤ l.length ∧ k ≤ m.length ∧ i = .int .i64 k ∧ Below w.heap.size w wr ∧ Hid (ordL l m = ordL (l.drop k) (m.drop k))) (fun i _ => l.length - (intOf i).toNat)
  case atStart => exact ⟨0, Nat.zero_le _, Nat.zero_le _, rfl, Below.refl _ _, rfl⟩
  case round =>
    obtain ⟨k, hk, hkm, rfl, hbel, hR⟩ := hrel
    have HB := Lib.hid hbel
    have hwr := hbel.size
    clear hbel
    by_cases hlt : k < l.length
    rotate_left
    · obtain rfl : k = l.length := by omega
      have hr := hR.out
      rw [ordL_left l m l.length (Nat.le_refl _)] at hr
      have HR := Lib.hid hr
      cases hd : decide (l.length < m.length)
      · have HD := Lib.hid hd
        clear hr
        go_wp2_with fail
        go_ret
        exact ⟨ret_int (by rw [HR.out, if_neg (by have := HD.out; simpa using this)]), HB.out⟩
      · have HD := Lib.hid hd
        clear hr
        go_wp2_with fail
        go_ret
        exact ⟨ret_int (by rw [HR.out, if_pos (by have := HD.out; simpa using this)]), HB.out⟩
    obtain ⟨rfl, hb1, hb2⟩ := Ha.out (by omega)
    obtain ⟨ax, cx, x0, x1, x2, x3, x4, hsx⟩ := cellsV_slice (HA.out k hlt)
    have hg : ∀ o, wr.cell? ⟨b, o, none⟩ = w.cell? ⟨b, o, none⟩ := fun o => HB.out.cell (p := ⟨b, o, none⟩) (Nat.lt_of_lt_of_le hb2 hB)
    have hz : b < wr.heap.size := by omega
    by_cases hlt' : k < m.length
    rotate_left
    · have hr := hR.out
      rw [ordL_right l m k hlt (by omega)] at hr
      have HR := Lib.hid hr
      have hd : decide (m.length ≤ k) = true := by simp; omega
      clear hr
      go_wp2_with fail
      go_ret
      exact ⟨ret_int HR.out.symm, HB.out.alloc hwr _⟩
    obtain ⟨rfl, hb1', hb2'⟩ := Ha'.out (by omega)
    obtain ⟨ay, cy, y0, y1, y2, y3, y4, hsy⟩ := cellsV_slice (HA'.out k hlt')
    have hg' : ∀ o, wr.cell? ⟨b', o, none⟩ = w.cell? ⟨b', o, none⟩ := fun o => HB.out.cell (p := ⟨b', o, none⟩) (Nat.lt_of_lt_of_le hb2' hB)
    have hz' : b' < wr.heap.size := by omega
    have hd : decide (m.length ≤ k) = false := by simp; omega
    have Hsx := Lib.hid hsx
    have Hsy := Lib.hid hsy
    have hr := hR.out
    rw [ordL_step l m k hlt hlt'] at hr
    have HR := Lib.hid hr
    clear hsx hsy hr
    go_wp2_with fail
    have hb4 := (HB.out.alloc hwr (.cells #[.int .i64 l[k].k, .bool l[k].b, .int .i64 l[k].n, .string l[k].t, .slice ax l[k].l.length cx] 36)).alloc (by simp; omega) (.cells #[.int .i64 m[k].k, .bool m[k].b, .int .i64 m[k].n, .string m[k].t, .slice ay m[k].l.length cy] 36)
    refine (HH.out l[k] (List.getElem_mem _) m[k] (List.getElem_mem _) _ _ _ B (Nat.le_trans hB hb4.size) (isL_below Hsx.out hb4 hB) (isL_below Hsy.out hb4 hB)).mono ?_
    rintro e w2 ⟨rfl, hb5⟩
    have HB3 := Lib.hid (below_down hb4 hb5 (Nat.le_refl _))
    clear hb4 hb5 hg hg' x0 x1 x2 x3 x4 y0 y1 y2 y3 y4 Hsx Hsy Ha Ha'
    obtain ⟨V, hV⟩ : ∃ V, V = ordV l[k] m[k] := ⟨_, rfl⟩
    rw [← hV] at HR ⊢
    clear hV
    cases h0 : (V != 0)
    · have H0 := Lib.hid h0
      go_wp2_with fail
      go_roundw
      case rel => exact ⟨k + 1, by omega, by omega, by go_num, HB3.out, by rw [Hid, HR.out, if_neg (by have := H0.out; simpa using this)]⟩
      case measure => simp [intOf]; omega
    · have H0 := Lib.hid h0
      go_wp2_with fail
      go_ret
      exact ⟨ret_int (by rw [HR.out, if_pos (by have := H0.out; simpa using this)]), HB3.out⟩
set_option maxHeartbeats 1600000 in
theorem vOrder_step (x y : GV) (h : CmpFuncC x.l y.l) : OrdC 111 x y := by
  intro sx sy w B hB hx hy
  have HX := Lib.hid hx
  have HY := Lib.hid hy
  have HH := Lib.hid h
  obtain ⟨a, c, rfl⟩ := isL_form hx
  obtain ⟨a', c', rfl⟩ := isL_form hy
  have HO := Lib.hid (ordV_eq x y)
  clear hx hy h
  simp only [GV.agg]
  go_enter Tryz.func111, Tryz.ntmps111
  go_wp2_with fail
  refine (compareI_any x.k y.k _).mono ?_
  rintro e w1 ⟨rfl, rfl⟩
  obtain ⟨C, hC⟩ : ∃ C, C = cmpI x.k y.k := ⟨_, rfl⟩
  have hCk : C = 0 → x.k = y.k := fun h => cmpI_zero.1 (hC ▸ h)
  rw [← hC] at HO ⊢
  have HCK := Lib.hid hCk
  clear hC hCk
  have hb0 := below_two (w := w) (.cells #[.int .i64 x.k, .bool x.b, .int .i64 x.n, .string x.t, .slice a x.l.length c] 36) (.cells #[.int .i64 y.k, .bool y.b, .int .i64 y.n, .string y.t, .slice a' y.l.length c'] 36)
  have HB0 := Lib.hid hb0
  cases h0 : (C != 0)
  rotate_left
  · have H0 := Lib.hid h0
    clear hb0
    go_wp2_with fail
    go_ret
    exact ⟨ret_int (by rw [HO.out, if_pos (by have := H0.out; simpa using this)]), HB0.out⟩
  have hC0 : C = 0 := by simpa using h0
  have hO := HO.out
  rw [if_neg (by omega)] at hO
  clear hC0 hb0 HO
  by_cases k0 : x.k = 0
  · rw [if_pos k0] at hO
    have HR := Lib.hid hO
    have e0 : (x.k == 0) = true := by simpa using k0
    clear k0 hO
    go_wp2_with fail
    go_ret
    exact ⟨ret_int HR.out.symm, HB0.out⟩
  rw [if_neg k0] at hO
  have e0 : (x.k == 0) = false := by simpa using k0
  by_cases k1 : x.k = 1
  · rw [if_pos k1] at hO
    have HR := Lib.hid hO
    have e1 : (x.k == 1) = true := by simpa using k1
    clear k0 k1 hO
    obtain ⟨wA, hwA⟩ : ∃ wA, wA = (w.alloc (.cells #[.int .i64 x.k, .bool x.b, .int .i64 x.n, .string x.t, .slice a x.l.length c] 36)).alloc (.cells #[.int .i64 y.k, .bool y.b, .int .i64 y.n, .string y.t, .slice a' y.l.length c'] 36) := ⟨_, rfl⟩
    have hxA : wA.heap[w.heap.size]? = some (.cells #[.int .i64 x.k, .bool x.b, .int .i64 x.n, .string x.t, .slice a x.l.length c] 36 (0, 0)) := by rw [hwA]; exact heap_two
    have hyA : wA.heap[w.heap.size + 1]? = some (.cells #[.int .i64 y.k, .bool y.b, .int .i64 y.n, .string y.t, .slice a' y.l.length c'] 36 (0, 0)) := by rw [hwA]; exact heap_second
    have hzA : wA.heap.size = w.heap.size + 2 := by rw [hwA]; simp
    rw [← hwA] at HB0 ⊢
    clear hwA
    have qx := fun o => cell_of hxA o
    have qy := fun o => cell_of hyA o
    have ga := cell_grow (Below.refl wA.heap.size wA) (Nat.le_refl _) (show w.heap.size < wA.heap.size by omega)
    have gb := cell_grow (Below.refl wA.heap.size wA) (Nat.le_refl _) (show w.heap.size + 1 < wA.heap.size by omega)
    have HC1 : Hid (∀ d os, Calls Tryz.prog 116 #[.bool x.b] (Go.Sort.grow (redrawn wA d) os) fun e w' => e = .returned (.int .i64 (bitI x.b)) ∧ Below (Go.Sort.grow (redrawn wA d) os).heap.size (Go.Sort.grow (redrawn wA d) os) w') := fun d os => (bit_any x.b _).mono (by rintro e w' ⟨rfl, rfl⟩; exact ⟨rfl, Below.refl _ _⟩)
    have HC2 : Hid (∀ d os, Calls Tryz.prog 116 #[.bool y.b] (Go.Sort.grow (redrawn wA d) os) fun e w' => e = .returned (.int .i64 (bitI y.b)) ∧ Below (Go.Sort.grow (redrawn wA d) os).heap.size (Go.Sort.grow (redrawn wA d) os) w') := fun d os => (bit_any y.b _).mono (by rintro e w' ⟨rfl, rfl⟩; exact ⟨rfl, Below.refl _ _⟩)
    clear hxA hyA
    go_wp2_with fail
    refine wp_region_quiet_below (by kernel_rfl) (by kernel_rfl) ?_
    repeat (quiet_step (fail))
    quiet_step (exact Calls.regrown_of (HC1.out _ _))
    repeat (quiet_step (fail))
    quiet_step (exact Calls.regrown_of (HC2.out _ _))
    repeat (quiet_step (fail))
    refine wpQuiet_nil ?_
    intro w6 hw6
    have hb6 : Below wA.heap.size wA w6 := by
      obtain ⟨p, hp⟩ := hw6
      rw [hp]
      exact below_grow (Below.refl wA.heap.size wA) (Nat.le_refl _) _ _
    have HB6 := Lib.hid (below_down HB0.out hb6 (Nat.le_refl _))
    clear hw6 hb6 ga gb qx qy
    go_wp2_with fail
    go_ret
    refine ⟨ret_int ?_, HB6.out⟩
    rw [HR.out]
    cases x.b <;> cases y.b <;> decide
  rw [if_neg k1] at hO
  have e1 : (x.k == 1) = false := by simpa using k1
  by_cases k2 : x.k = 2 ∨ x.k = 5
  · rw [if_pos k2] at hO
    have HR := Lib.hid hO
    have e2 : (x.k == 2) = true ∨ ((x.k == 2) = false ∧ (x.k == 5) = true) := by
      rcases k2 with e | e
      · exact .inl (by simpa using e)
      · exact .inr ⟨by simp [e], by simp [e]⟩
    clear k0 k1 k2 hO
    rcases e2 with e2 | ⟨e2, e5⟩
    all_goals
      go_wp2_with fail
      refine (compare64_any x.n y.n _).mono ?_
      rintro e w1 ⟨rfl, rfl⟩
      go_wp2_with fail
      go_ret
      exact ⟨ret_int HR.out.symm, HB0.out⟩
  rw [if_neg k2] at hO
  have e2 : (x.k == 2) = false := by simp; omega
  have e5 : (x.k == 5) = false := by simp; omega
  by_cases k4 : x.k = 4
  · rw [if_pos k4] at hO
    have HR := Lib.hid hO
    have e4 : (x.k == 4) = true := by simpa using k4
    clear k0 k1 k2 k4 hO
    go_wp2_with fail
    refine (HH.out (.slice a x.l.length c) (.slice a' y.l.length c') _ B (Nat.le_trans hB HB0.out.size) (isL_below HX.out HB0.out hB) (isL_below HY.out HB0.out hB)).mono ?_
    rintro e w2 ⟨rfl, hb2⟩
    go_wp2_with fail
    go_ret
    exact ⟨ret_int HR.out.symm, below_down HB0.out hb2 (Nat.le_refl _)⟩
  rw [if_neg k4] at hO
  have HR := Lib.hid hO
  have e4 : (x.k == 4) = false := by simpa using k4
  clear k0 k1 k2 k4 hO
  go_wp2_with fail
  refine (compareT_any x.t y.t _).mono ?_
  rintro e w1 ⟨rfl, rfl⟩
  go_wp2_with fail
  go_ret
  exact ⟨ret_int HR.out.symm, HB0.out⟩
theorem vOrd_all : ∀ (m : Nat), (∀ x y : GV, x.size ≤ m → x.fit → y.fit → OrdC 111 x y) ∧ (∀ l k : List GV, sizeL l ≤ m → l.length ≤ 2147483647 → k.length ≤ 2147483647 → fitL l → fitL k → CmpFuncC l k) := by
  intro m
  induction m with
  | zero =>
    have hS : ∀ x y : GV, x.size ≤ 0 → x.fit → y.fit → OrdC 111 x y := fun x y h => by have := size_l x; omega
    exact ⟨hS, fun l k h1 h2 h3 h4 h5 => vCmpFunc_step l k h2 h3 fun x hx y hy => hS x y (Nat.le_trans (sizeL_mem hx) h1) (fitL_mem h4 x hx) (fitL_mem h5 y hy)⟩
  | succ m ih =>
    have hS : ∀ x y : GV, x.size ≤ m + 1 → x.fit → y.fit → OrdC 111 x y := fun x y h fx fy => by
      have := size_l x
      obtain ⟨_, _, _, _, _, a, b⟩ := fit_open fx
      obtain ⟨_, _, _, _, _, c, d⟩ := fit_open fy
      exact vOrder_step x y (ih.2 x.l y.l (by omega) a c b d)
    exact ⟨hS, fun l k h1 h2 h3 h4 h5 => vCmpFunc_step l k h2 h3 fun x hx y hy => hS x y (Nat.le_trans (sizeL_mem hx) h1) (fitL_mem h4 x hx) (fitL_mem h5 y hy)⟩
theorem vOrder_any (x y : GV) (fx : x.fit) (fy : y.fit) : OrdC 111 x y := (vOrd_all x.size).1 x y (Nat.le_refl _) fx fy
end Go.Proofs.YtljljhjdlicfeaaGreat
namespace Go.Proofs.YtljljhjdlicfeaaGreat
open Go Go.RowKit
set_option maxRecDepth 100000
set_option linter.unusedVariables false
set_option maxHeartbeats 1600000 in
theorem rRows_step (l m : List GV) (hl : l.length ≤ 2147483647) (hm : m.length ≤ 2147483647) (h : ∀ x ∈ l, ∀ y ∈ m, OrdC 57 x y) : RowsC l m := by
  intro s t w B hB hs ht
  obtain ⟨a, c, b, off, rfl, hc, ha, hA⟩ := isL_open hs
  obtain ⟨a', c', b', off', rfl, hc', ha', hA'⟩ := isL_open ht
  have HA := Lib.hid hA
  have HA' := Lib.hid hA'
  have HH := Lib.hid h
  have Ha := Lib.hid ha
  have Ha' := Lib.hid ha'
  clear hA hA' hs ht h ha ha'
  go_enter Tryz.func74, Tryz.ntmps74
  go_wp2_with fail
  go_loopw [5] (fun i wr => ∃ k : Nat, k ≤ l.length ∧ k ≤ m.length ∧ i = .int .i64 k ∧ Below w.heap.size w wr ∧ Hid (ordL l m = ordL (l.drop k) (m.drop k))) (fun i _ => l.length - (intOf i).toNat)
  case atStart => exact ⟨0, Nat.zero_le _, Nat.zero_le _, rfl, Below.refl _ _, rfl⟩
  case round =>
    obtain ⟨k, hk, hkm, rfl, hbel, hR⟩ := hrel
    have HB := Lib.hid hbel
    have hwr := hbel.size
    clear hbel
    by_cases hlt : k < l.length
    rotate_left
    · obtain rfl : k = l.length := by omega
      have hr := hR.out
      rw [ordL_left l m l.length (Nat.le_refl _)] at hr
      have HR := Lib.hid hr
      cases hd : decide (l.length < m.length)
      · have HD := Lib.hid hd
        have hd2 : decide (m.length < l.length) = false := by simp; omega
        clear hr
        go_wp2_with fail
        refine (sign_any false false _).mono ?_
        rintro e w1 ⟨rfl, rfl⟩
        go_wp2_with fail
        go_ret
        exact ⟨ret_int (by rw [HR.out, if_neg (by have := HD.out; simpa using this)]), HB.out⟩
      · have HD := Lib.hid hd
        have hd2 : decide (m.length < l.length) = false := by simp; omega
        clear hr
        go_wp2_with fail
        refine (sign_any true false _).mono ?_
        rintro e w1 ⟨rfl, rfl⟩
        go_wp2_with fail
        go_ret
        exact ⟨ret_int (by rw [HR.out, if_pos (by have := HD.out; simpa using this)]), HB.out⟩
    obtain ⟨rfl, hb1, hb2⟩ := Ha.out (by omega)
    obtain ⟨ax, cx, x0, x1, x2, x3, x4, hsx⟩ := cellsV_slice (HA.out k hlt)
    have hg : ∀ o, wr.cell? ⟨b, o, none⟩ = w.cell? ⟨b, o, none⟩ := fun o => HB.out.cell (p := ⟨b, o, none⟩) (Nat.lt_of_lt_of_le hb2 hB)
    have hz : b < wr.heap.size := by omega
    by_cases hlt' : k < m.length
    rotate_left
    · have hr := hR.out
      rw [ordL_right l m k hlt (by omega)] at hr
      have HR := Lib.hid hr
      have hd : decide (k < m.length) = false := by simp; omega
      have hd1 : decide (l.length < m.length) = false := by simp; omega
      have hd2 : decide (m.length < l.length) = true := by simp; omega
      clear hr
      go_wp2_with fail
      refine (sign_any false true _).mono ?_
      rintro e w1 ⟨rfl, rfl⟩
      go_wp2_with fail
      go_ret
      exact ⟨ret_int HR.out.symm, HB.out⟩
    obtain ⟨rfl, hb1', hb2'⟩ := Ha'.out (by omega)
    obtain ⟨ay, cy, y0, y1, y2, y3, y4, hsy⟩ := cellsV_slice (HA'.out k hlt')
    have hg' : ∀ o, wr.cell? ⟨b', o, none⟩ = w.cell? ⟨b', o, none⟩ := fun o => HB.out.cell (p := ⟨b', o, none⟩) (Nat.lt_of_lt_of_le hb2' hB)
    have hz' : b' < wr.heap.size := by omega
    have Hsx := Lib.hid hsx
    have Hsy := Lib.hid hsy
    have hr := hR.out
    rw [ordL_step l m k hlt hlt'] at hr
    have HR := Lib.hid hr
    clear hsx hsy hr
    go_wp2_with fail
    go_still_tail 8, (by kernel_rfl)
    change wpList _ _ _ _ _ wr.drew
    obtain ⟨w1, hw1⟩ : ∃ w1, w1 = wr.drew := ⟨_, rfl⟩
    have HBD : Hid (Below w.heap.size w w1) := by rw [hw1]; exact HB.out.drew
    rw [← hw1]
    clear hw1 hg hg' x0 x1 x2 x3 x4 y0 y1 y2 y3 y4
    go_wp2_with fail
    refine (HH.out l[k] (List.getElem_mem _) m[k] (List.getElem_mem _) (.slice ax l[k].l.length cx) (.slice ay m[k].l.length cy) _ B (Nat.le_trans hB HBD.out.size) (isL_below Hsx.out HBD.out hB) (isL_below Hsy.out HBD.out hB)).mono ?_
    rintro e w2 ⟨rfl, hb5⟩
    have HB3 := Lib.hid (below_down HBD.out hb5 (Nat.le_refl _))
    clear hb5 Hsx Hsy Ha Ha'
    obtain ⟨V, hV⟩ : ∃ V, V = ordV l[k] m[k] := ⟨_, rfl⟩
    rw [← hV] at HR ⊢
    clear hV
    cases h0 : (V != 0)
    · have H0 := Lib.hid h0
      go_wp2_with fail
      go_roundw
      case rel => exact ⟨k + 1, by omega, by omega, by go_num, HB3.out, by rw [Hid, HR.out, if_neg (by have := H0.out; simpa using this)]⟩
      case measure => simp [intOf]; omega
    · have H0 := Lib.hid h0
      go_wp2_with fail
      go_ret
      exact ⟨ret_int (by rw [HR.out, if_pos (by have := H0.out; simpa using this)]), HB3.out⟩
set_option maxHeartbeats 1600000 in
theorem rOrder_step (x y : GV) (h : RowsC x.l y.l) : OrdC 57 x y := by
  intro sx sy w B hB hx hy
  have HX := Lib.hid hx
  have HY := Lib.hid hy
  have HH := Lib.hid h
  obtain ⟨a, c, rfl⟩ := isL_form hx
  obtain ⟨a', c', rfl⟩ := isL_form hy
  have hO := ordV_eq x y
  have hb0 := below_two (w := w) (.cells #[.int .i64 x.k, .bool x.b, .int .i64 x.n, .string x.t, .slice a x.l.length c] 36) (.cells #[.int .i64 y.k, .bool y.b, .int .i64 y.n, .string y.t, .slice a' y.l.length c'] 36)
  have HB0 := Lib.hid hb0
  clear hx hy h hb0
  simp only [GV.agg]
  by_cases hk : x.k = y.k
  rotate_left
  · have hc0 : cmpI x.k y.k ≠ 0 := fun e => hk (cmpI_zero.1 e)
    rw [if_pos hc0] at hO
    have HR := Lib.hid hO
    have hn : (x.k != y.k) = true := by simpa using hk
    cases hd : decide (x.k < y.k)
    · have HD : Hid (cmpI x.k y.k = 1) := by
        rcases cmpI_cases x.k y.k with ⟨h1, h2⟩ | ⟨h1, h2, h3⟩ | ⟨h1, h2, h3⟩
        · rw [hd] at h1; cases h1
        · exact h3
        · exact absurd h3 hc0
      clear hk hc0 hO
      go_enter Tryz.func57, Tryz.ntmps57
      go_wp2_with fail
      refine (sign_any false true _).mono ?_
      rintro e w1 ⟨rfl, rfl⟩
      go_wp2_with fail
      go_ret
      exact ⟨ret_int (by rw [HR.out, HD.out]), HB0.out⟩
    · have HD : Hid (cmpI x.k y.k = -1) := by
        rcases cmpI_cases x.k y.k with ⟨h1, h2⟩ | ⟨h1, h2, h3⟩ | ⟨h1, h2, h3⟩
        · exact h2
        · rw [hd] at h1; cases h1
        · exact absurd h3 hc0
      clear hk hc0 hO
      go_enter Tryz.func57, Tryz.ntmps57
      go_wp2_with fail
      refine (sign_any true true _).mono ?_
      rintro e w1 ⟨rfl, rfl⟩
      go_wp2_with fail
      go_ret
      exact ⟨ret_int (by rw [HR.out, HD.out]), HB0.out⟩
  have hc0 : cmpI x.k y.k = 0 := cmpI_zero.2 hk
  rw [if_neg (by omega)] at hO
  have hn : (x.k != y.k) = false := by simpa using hk
  clear hc0 hk
  by_cases k0 : x.k = 0
  · rw [if_pos k0] at hO
    have HR := Lib.hid hO
    have e0 : (x.k == 0) = true := by simpa using k0
    clear k0 hO
    go_enter Tryz.func57, Tryz.ntmps57
    go_wp2_with fail
    go_ret
    exact ⟨ret_int HR.out.symm, HB0.out⟩
  rw [if_neg k0] at hO
  have e0 : (x.k == 0) = false := by simpa using k0
  by_cases k1 : x.k = 1
  · rw [if_pos k1] at hO
    have HR := Lib.hid hO
    have e1 : (x.k == 1) = true := by simpa using k1
    clear k0 k1 hO
    obtain ⟨p, hp⟩ : ∃ p, p = x.b := ⟨_, rfl⟩
    obtain ⟨q, hq⟩ : ∃ q, q = y.b := ⟨_, rfl⟩
    rw [← hp, ← hq] at HR HB0 ⊢
    clear hp hq
    cases p <;> cases q
    all_goals
      go_enter Tryz.func57, Tryz.ntmps57
      go_wp2_with fail
      refine (sign_any _ _ _).mono ?_
      rintro e w1 ⟨rfl, rfl⟩
      go_wp2_with fail
      go_ret
      exact ⟨ret_int (by rw [HR.out]; rfl), HB0.out⟩
  rw [if_neg k1] at hO
  have e1 : (x.k == 1) = false := by simpa using k1
  by_cases k2 : x.k = 2 ∨ x.k = 5
  · rw [if_pos k2] at hO
    have e2 : (x.k == 2) = true ∨ ((x.k == 2) = false ∧ (x.k == 5) = true) := by
      rcases k2 with e | e
      · exact .inl (by simpa using e)
      · exact .inr ⟨by simp [e], by simp [e]⟩
    clear k0 k1 k2
    rcases cmpI_cases x.n y.n with ⟨h1, h⟩ | ⟨h1, h2, h⟩ | ⟨h1, h2, h⟩
    · have HR := Lib.hid (hO.trans h)
      have h2 : decide (y.n < x.n) = false := by simp at h1 ⊢; omega
      clear hO h
      rcases e2 with e2 | ⟨e2, e5⟩
      all_goals
        go_enter Tryz.func57, Tryz.ntmps57
        go_wp2_with fail
        refine (sign_any _ _ _).mono ?_
        rintro e w1 ⟨rfl, rfl⟩
        go_wp2_with fail
        go_ret
        exact ⟨ret_int (by rw [HR.out]), HB0.out⟩
    all_goals
      have HR := Lib.hid (hO.trans h)
      clear hO h
      rcases e2 with e2 | ⟨e2, e5⟩
      all_goals
        go_enter Tryz.func57, Tryz.ntmps57
        go_wp2_with fail
        refine (sign_any _ _ _).mono ?_
        rintro e w1 ⟨rfl, rfl⟩
        go_wp2_with fail
        go_ret
        exact ⟨ret_int (by rw [HR.out]), HB0.out⟩
  rw [if_neg k2] at hO
  have e2 : (x.k == 2) = false := by simp; omega
  have e5 : (x.k == 5) = false := by simp; omega
  by_cases k4 : x.k = 4
  · rw [if_pos k4] at hO
    have HR := Lib.hid hO
    have e4 : (x.k == 4) = true := by simpa using k4
    clear k0 k1 k2 k4 hO
    go_enter Tryz.func57, Tryz.ntmps57
    go_wp2_with fail
    refine (HH.out (.slice a x.l.length c) (.slice a' y.l.length c') _ B (Nat.le_trans hB HB0.out.size) (isL_below HX.out HB0.out hB) (isL_below HY.out HB0.out hB)).mono ?_
    rintro e w2 ⟨rfl, hb2⟩
    go_wp2_with fail
    go_ret
    exact ⟨ret_int HR.out.symm, below_down HB0.out hb2 (Nat.le_refl _)⟩
  rw [if_neg k4] at hO
  have e4 : (x.k == 4) = false := by simpa using k4
  clear k0 k1 k2 k4
  rcases cmpT_cases x.t.toList y.t.toList with ⟨h1, h⟩ | ⟨h1, h2, h⟩ | ⟨h1, h2, h⟩
  all_goals
    have HR := Lib.hid (hO.trans h)
    clear hO h
    go_enter Tryz.func57, Tryz.ntmps57
    go_wp2_with fail
    refine (sign_any _ _ _).mono ?_
    rintro e w1 ⟨rfl, rfl⟩
    go_wp2_with fail
    go_ret
    exact ⟨ret_int (by rw [HR.out]), HB0.out⟩
theorem rOrd_all : ∀ (m : Nat), (∀ x y : GV, x.size ≤ m → x.fit → y.fit → OrdC 57 x y) ∧ (∀ l k : List GV, sizeL l ≤ m → l.length ≤ 2147483647 → k.length ≤ 2147483647 → fitL l → fitL k → RowsC l k) := by
  intro m
  induction m with
  | zero =>
    have hS : ∀ x y : GV, x.size ≤ 0 → x.fit → y.fit → OrdC 57 x y := fun x y h => by have := size_l x; omega
    exact ⟨hS, fun l k h1 h2 h3 h4 h5 => rRows_step l k h2 h3 fun x hx y hy => hS x y (Nat.le_trans (sizeL_mem hx) h1) (fitL_mem h4 x hx) (fitL_mem h5 y hy)⟩
  | succ m ih =>
    have hS : ∀ x y : GV, x.size ≤ m + 1 → x.fit → y.fit → OrdC 57 x y := fun x y h fx fy => by
      have := size_l x
      obtain ⟨_, _, _, _, _, a, b⟩ := fit_open fx
      obtain ⟨_, _, _, _, _, c, d⟩ := fit_open fy
      exact rOrder_step x y (ih.2 x.l y.l (by omega) a c b d)
    exact ⟨hS, fun l k h1 h2 h3 h4 h5 => rRows_step l k h2 h3 fun x hx y hy => hS x y (Nat.le_trans (sizeL_mem hx) h1) (fitL_mem h4 x hx) (fitL_mem h5 y hy)⟩
theorem rOrder_any (x y : GV) (fx : x.fit) (fy : y.fit) : OrdC 57 x y := (rOrd_all x.size).1 x y (Nat.le_refl _) fx fy
end Go.Proofs.YtljljhjdlicfeaaGreat
