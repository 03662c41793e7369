/-
  What the references' Same and EqVals compute: whether two values, two lists of values are the same. Conditions: the lists are shorter than 2^31.
-/
import Derived.Test.YtljljhjdlicfeaaGreatMA
import Derived.Test.YtljljhjdlicfeaaGreatProg
import Derived.WalkLawsBesides
import Derived.Deep.QuietTactic
import Derived.BigQuiet
import Derived.Outline
namespace Go.Proofs.YtljljhjdlicfeaaGreat
open Go Go.RowKit
set_option maxRecDepth 100000
set_option linter.unusedVariables false
def SameC (f : Nat) (x y : GV) : Prop := ∀ (sx sy : Value) (w : World) (B : Nat), B ≤ w.heap.size → isL w 0 B sx x.l → isL w 0 B sy y.l →
  Calls Tryz.prog f #[x.agg sx, y.agg sy] w fun e w' => e = .returned (.bool (same x y)) ∧ Below w.heap.size w w'
def EqValsC (f : Nat) (l m : List GV) : Prop := ∀ (s t : Value) (w : World) (B : Nat), B ≤ w.heap.size → isL w 0 B s l → isL w 0 B t m →
  Calls Tryz.prog f #[s, t] w fun e w' => e = .returned (.bool (sameL l m)) ∧ Below w.heap.size w w'
set_option maxHeartbeats 400000 in
theorem zSame_step (x y : GV) (h : EqValsC 19 x.l y.l) : SameC 10 x y := by
  intro sx sy w B hB hx hy
  have HR := Lib.hid (same_eq x y)
  have HX := Lib.hid hx
  have HY := Lib.hid hy
  have HH := Lib.hid h
  clear hx hy h
  simp only [GV.agg]
  cases h1 : (x.k == y.k)
  · rw [h1] at HR
    go_enter Tryz.func10, Tryz.ntmps10
    go_wp2_with fail
    go_ret
    exact ⟨ret_bool (by rw [HR.out]; rfl), (((Below.refl _ _).alloc (Nat.le_refl _) _).alloc (by simp) _)⟩
  cases h2 : (x.b == y.b)
  · rw [h1, h2] at HR
    go_enter Tryz.func10, Tryz.ntmps10
    go_wp2_with fail
    go_ret
    exact ⟨ret_bool (by rw [HR.out]; rfl), (((Below.refl _ _).alloc (Nat.le_refl _) _).alloc (by simp) _)⟩
  cases h3 : (x.n == y.n)
  · rw [h1, h2, h3] at HR
    go_enter Tryz.func10, Tryz.ntmps10
    go_wp2_with fail
    go_ret
    exact ⟨ret_bool (by rw [HR.out]; rfl), (((Below.refl _ _).alloc (Nat.le_refl _) _).alloc (by simp) _)⟩
  cases h4 : (x.t.toList == y.t.toList)
  · rw [h1, h2, h3, h4] at HR
    go_enter Tryz.func10, Tryz.ntmps10
    go_wp2_with fail
    go_ret
    exact ⟨ret_bool (by rw [HR.out]; rfl), (((Below.refl _ _).alloc (Nat.le_refl _) _).alloc (by simp) _)⟩
  rw [h1, h2, h3, h4] at HR
  go_enter Tryz.func10, Tryz.ntmps10
  go_wp2_with fail
  refine (HH.out sx sy _ B ?_ ?_ ?_).mono ?_
  · simp; omega
  · exact isL_below HX.out (((Below.refl _ _).alloc (Nat.le_refl _) _).alloc (by simp) _) hB
  · exact isL_below HY.out (((Below.refl _ _).alloc (Nat.le_refl _) _).alloc (by simp) _) hB
  rintro e w' ⟨rfl, hb⟩
  go_wp2_with fail
  go_ret
  exact ⟨ret_bool (by rw [HR.out]; simp), below_down (((Below.refl _ _).alloc (Nat.le_refl _) _).alloc (by simp) _) hb (Nat.le_refl _)⟩
set_option maxHeartbeats 400000 in
theorem zEqVals_step (l m : List GV) (hl : l.length ≤ 2147483647) (hm : m.length ≤ 2147483647) (h : ∀ x ∈ l, ∀ y ∈ m, SameC 10 x y) : EqValsC 19 l m := by
  intro s t w B hB hs ht
  obtain ⟨a, c, b, off, rfl, hc, ha, hA⟩ := isL_open hs
  obtain ⟨a', c', b', off', rfl, hc', ha', hA'⟩ := isL_open ht
  have HA := Lib.hid hA
  have HA' := Lib.hid hA'
  have HH := Lib.hid h
  have Ha := Lib.hid ha
  have Ha' := Lib.hid ha'
  clear hA hA' hs ht h ha ha'
  by_cases hlen : l.length = m.length
  · have hd : ((l.length : Int) != (m.length : Int)) = false := by simp [hlen]
    have HL := Lib.hid hlen
    clear hlen
    go_enter Tryz.func19, Tryz.ntmps19
    go_wp2_with fail
    go_loopw [5] (fun i wr => ∃ k : Nat, k ≤ l.length ∧ i = .int .i64 k ∧ Below w.heap.size w wr ∧ Hid (∀ j (g : j < l.length) (g' : j < m.length), j < k → same l[j] m[j] = true)) (fun i _ => l.length - (intOf i).toNat)
    case atStart => exact ⟨0, Nat.zero_le _, rfl, Below.refl _ _, fun j _ _ hj => by omega⟩
    case round =>
      obtain ⟨k, hk, rfl, hbel, hR⟩ := hrel
      by_cases hlt : k < l.length
      · have hlt' : k < m.length := by rw [← HL.out]; exact hlt
        obtain ⟨rfl, hb1, hb2⟩ := Ha.out (by omega)
        obtain ⟨rfl, hb1', hb2'⟩ := Ha'.out (by omega)
        obtain ⟨sx, x0, x1, x2, x3, x4, hsx⟩ := cellsV_open (HA.out k hlt)
        obtain ⟨sy, y0, y1, y2, y3, y4, hsy⟩ := cellsV_open (HA'.out k hlt')
        have hg := cell_grow hbel (Nat.le_refl _) (Nat.lt_of_lt_of_le hb2 hB)
        have hg' := cell_grow hbel (Nat.le_refl _) (Nat.lt_of_lt_of_le hb2' hB)
        have HC : Hid (∀ d os, Calls Tryz.prog 10 #[GV.agg l[k] sx, GV.agg m[k] sy] (Go.Sort.grow (redrawn wr d) os) fun e w' => e = .returned (.bool (same l[k] m[k])) ∧ Below (Go.Sort.grow (redrawn wr d) os).heap.size (Go.Sort.grow (redrawn wr d) os) w') := fun d os =>
          HH.out l[k] (List.getElem_mem _) m[k] (List.getElem_mem _) sx sy _ B (Nat.le_trans hB (below_grow hbel (Nat.le_refl _) d os).size) (isL_below hsx (below_grow hbel (Nat.le_refl _) d os) hB) (isL_below hsy (below_grow hbel (Nat.le_refl _) d os) hB)
        have Hsx := Lib.hid hsx
        have Hsy := Lib.hid hsy
        clear hsx hsy
        go_wp2_with fail
        refine wp_region_quiet_below (by kernel_rfl) (by kernel_rfl) ?_
        repeat (quiet_step (exact Calls.regrown_of (HC.out _ _)))
        refine wpQuiet_nil ?_
        intro w2 hw2
        have hb3 : Below w.heap.size w w2 := by
          obtain ⟨p, hp⟩ := hw2
          rw [hp]
          exact below_grow hbel (Nat.le_refl _) _ _
        clear hw2 hg hg' x0 x1 x2 x3 x4 y0 y1 y2 y3 y4 HC Hsx Hsy Ha Ha'
        cases hsm : same l[k] m[k]
        · have HS := Lib.hid hsm
          clear hsm
          go_wp2_with fail
          go_ret
          exact ⟨ret_bool (sameL_at l m k hlt hlt' HS.out).symm, hb3⟩
        · have HS := Lib.hid hsm
          clear hsm
          go_wp2_with fail
          go_roundw
          case rel => exact ⟨k + 1, by omega, by go_num, hb3, fun j g g' hj => by
            by_cases e : j = k
            · subst e; exact HS.out
            · exact hR.out j g g' (by omega)⟩
          case measure => simp [intOf]; omega
      · go_wp2_with fail
        go_ret
        exact ⟨ret_bool (sameL_all l m HL.out (fun i h h' => hR.out i h h' (by omega))).symm, hbel⟩
  · have hd : ((l.length : Int) != (m.length : Int)) = true := by simp; omega
    have HL := Lib.hid hlen
    clear hlen
    go_enter Tryz.func19, Tryz.ntmps19
    go_wp2_with fail
    go_ret
    exact ⟨ret_bool (sameL_len l m HL.out).symm, Below.refl _ _⟩
end Go.Proofs.YtljljhjdlicfeaaGreat
namespace Go.Proofs.YtljljhjdlicfeaaGreat
open Go Go.RowKit
set_option maxRecDepth 100000
set_option linter.unusedVariables false
def EqFuncC (l m : List GV) : Prop := ∀ (s t : Value) (w : World) (B : Nat), B ≤ w.heap.size → isL w 0 B s l → isL w 0 B t m →
  Calls Tryz.prog 77 #[s, t, .func (.func 59) #[] #[]] w fun e w' => e = .returned (.bool (sameL l m)) ∧ Below w.heap.size w w'
theorem zSame_all : ∀ (m : Nat), (∀ x y : GV, x.size ≤ m → x.fit → y.fit → SameC 10 x y) ∧ (∀ l k : List GV, sizeL l ≤ m → l.length ≤ 2147483647 → k.length ≤ 2147483647 → fitL l → fitL k → EqValsC 19 l k) := by
  intro m
  induction m with
  | zero =>
    have hS : ∀ x y : GV, x.size ≤ 0 → x.fit → y.fit → SameC 10 x y := fun x y h => by have := size_l x; omega
    exact ⟨hS, fun l k h1 h2 h3 h4 h5 => zEqVals_step l k h2 h3 fun x hx y hy => hS x y (Nat.le_trans (sizeL_mem hx) h1) (fitL_mem h4 x hx) (fitL_mem h5 y hy)⟩
  | succ m ih =>
    have hS : ∀ x y : GV, x.size ≤ m + 1 → x.fit → y.fit → SameC 10 x y := fun x y h fx fy => by
      have := size_l x
      obtain ⟨_, _, _, _, _, a, b⟩ := fit_open fx
      obtain ⟨_, _, _, _, _, c, d⟩ := fit_open fy
      exact zSame_step x y (ih.2 x.l y.l (by omega) a c b d)
    exact ⟨hS, fun l k h1 h2 h3 h4 h5 => zEqVals_step l k h2 h3 fun x hx y hy => hS x y (Nat.le_trans (sizeL_mem hx) h1) (fitL_mem h4 x hx) (fitL_mem h5 y hy)⟩
theorem zSame_any (x y : GV) (fx : x.fit) (fy : y.fit) : SameC 10 x y := (zSame_all x.size).1 x y (Nat.le_refl _) fx fy
set_option maxHeartbeats 400000 in
theorem vSame_step (x y : GV) (h : EqFuncC x.l y.l) : SameC 59 x y := by
  intro sx sy w B hB hx hy
  have HR := Lib.hid (same_eq x y)
  have HX := Lib.hid hx
  have HY := Lib.hid hy
  have HH := Lib.hid h
  clear hx hy h
  simp only [GV.agg]
  cases h1 : (x.k == y.k)
  · rw [h1] at HR
    go_enter Tryz.func59, Tryz.ntmps59
    go_wp2_with fail
    go_ret
    exact ⟨ret_bool (by rw [HR.out]; rfl), (((Below.refl _ _).alloc (Nat.le_refl _) _).alloc (by simp) _)⟩
  cases h2 : (x.b == y.b)
  · rw [h1, h2] at HR
    go_enter Tryz.func59, Tryz.ntmps59
    go_wp2_with fail
    go_ret
    exact ⟨ret_bool (by rw [HR.out]; rfl), (((Below.refl _ _).alloc (Nat.le_refl _) _).alloc (by simp) _)⟩
  cases h3 : (x.n == y.n)
  · rw [h1, h2, h3] at HR
    go_enter Tryz.func59, Tryz.ntmps59
    go_wp2_with fail
    go_ret
    exact ⟨ret_bool (by rw [HR.out]; rfl), (((Below.refl _ _).alloc (Nat.le_refl _) _).alloc (by simp) _)⟩
  cases h4 : (x.t.toList == y.t.toList)
  · rw [h1, h2, h3, h4] at HR
    go_enter Tryz.func59, Tryz.ntmps59
    go_wp2_with fail
    go_ret
    exact ⟨ret_bool (by rw [HR.out]; rfl), (((Below.refl _ _).alloc (Nat.le_refl _) _).alloc (by simp) _)⟩
  rw [h1, h2, h3, h4] at HR
  go_enter Tryz.func59, Tryz.ntmps59
  go_wp2_with fail
  refine (HH.out sx sy _ B ?_ ?_ ?_).mono ?_
  · simp; omega
  · exact isL_below HX.out (((Below.refl _ _).alloc (Nat.le_refl _) _).alloc (by simp) _) hB
  · exact isL_below HY.out (((Below.refl _ _).alloc (Nat.le_refl _) _).alloc (by simp) _) hB
  rintro e w' ⟨rfl, hb⟩
  go_wp2_with fail
  go_ret
  exact ⟨ret_bool (by rw [HR.out]; simp), below_down (((Below.refl _ _).alloc (Nat.le_refl _) _).alloc (by simp) _) hb (Nat.le_refl _)⟩
set_option maxHeartbeats 800000 in
theorem vEqFunc_step (l m : List GV) (hl : l.length ≤ 2147483647) (hm : m.length ≤ 2147483647) (h : ∀ x ∈ l, ∀ y ∈ m, SameC 59 x y) : EqFuncC l m := by
  intro s t w B hB hs ht
  obtain ⟨a, c, b, off, rfl, hc, ha, hA⟩ := isL_open hs
  obtain ⟨a', c', b', off', rfl, hc', ha', hA'⟩ := isL_open ht
  have HA := Lib.hid hA
  have HA' := Lib.hid hA'
  have HH := Lib.hid h
  have Ha := Lib.hid ha
  have Ha' := Lib.hid ha'
  clear hA hA' hs ht h ha ha'
  by_cases hlen : l.length = m.length
  · have hd : ((l.length : Int) != (m.length : Int)) = false := by simp [hlen]
    have HL := Lib.hid hlen
    clear hlen
    go_enter Tryz.func77, Tryz.ntmps77
    go_wp2_with fail
    go_loopw [17] (fun i wr => ∃ k : Nat, k ≤ l.length ∧ i = .int .i64 k ∧ Below w.heap.size w wr ∧ Hid (∀ j (g : j < l.length) (g' : j < m.length), j < k → same l[j] m[j] = true)) (fun i _ => l.length - (intOf i).toNat)
    case atStart => exact ⟨0, Nat.zero_le _, rfl, Below.refl _ _, fun j _ _ hj => by omega⟩
    case round =>
      obtain ⟨k, hk, rfl, hbel, hR⟩ := hrel
      by_cases hlt : k < l.length
      · have hlt' : k < m.length := by rw [← HL.out]; exact hlt
        obtain ⟨rfl, hb1, hb2⟩ := Ha.out (by omega)
        obtain ⟨rfl, hb1', hb2'⟩ := Ha'.out (by omega)
        obtain ⟨ax, cx, x0, x1, x2, x3, x4, hsx⟩ := cellsV_slice (HA.out k hlt)
        obtain ⟨ay, cy, y0, y1, y2, y3, y4, hsy⟩ := cellsV_slice (HA'.out k hlt')
        have hg : ∀ o, wr.cell? ⟨b, o, none⟩ = w.cell? ⟨b, o, none⟩ := fun o => hbel.cell (p := ⟨b, o, none⟩) (Nat.lt_of_lt_of_le hb2 hB)
        have hg' : ∀ o, wr.cell? ⟨b', o, none⟩ = w.cell? ⟨b', o, none⟩ := fun o => hbel.cell (p := ⟨b', o, none⟩) (Nat.lt_of_lt_of_le hb2' hB)
        have hz : b < wr.heap.size := Nat.lt_of_lt_of_le hb2 (Nat.le_trans hB hbel.size)
        have hz' : b' < wr.heap.size := Nat.lt_of_lt_of_le hb2' (Nat.le_trans hB hbel.size)
        have Hsx := Lib.hid hsx
        have Hsy := Lib.hid hsy
        clear hsx hsy
        go_wp2_with fail
        have hb4 := (hbel.alloc hbel.size (.cells #[.int .i64 l[k].k, .bool l[k].b, .int .i64 l[k].n, .string l[k].t, .slice ax l[k].l.length cx] 36)).alloc (by have := hbel.size; simp; omega) (.cells #[.int .i64 m[k].k, .bool m[k].b, .int .i64 m[k].n, .string m[k].t, .slice ay m[k].l.length cy] 36)
        refine (HH.out l[k] (List.getElem_mem _) m[k] (List.getElem_mem _) _ _ _ B (Nat.le_trans hB hb4.size) (isL_below Hsx.out hb4 hB) (isL_below Hsy.out hb4 hB)).mono ?_
        rintro e w2 ⟨rfl, hb5⟩
        have hb3 := below_down hb4 hb5 (Nat.le_refl _)
        clear hb4 hb5 hg hg' x0 x1 x2 x3 x4 y0 y1 y2 y3 y4 Hsx Hsy Ha Ha'
        cases hsm : same l[k] m[k]
        · have HS := Lib.hid hsm
          clear hsm
          go_wp2_with fail
          go_ret
          exact ⟨ret_bool (sameL_at l m k hlt hlt' HS.out).symm, hb3⟩
        · have HS := Lib.hid hsm
          clear hsm
          go_wp2_with fail
          go_roundw
          case rel => exact ⟨k + 1, by omega, by go_num, hb3, fun j g g' hj => by
            by_cases e : j = k
            · subst e; exact HS.out
            · exact hR.out j g g' (by omega)⟩
          case measure => simp [intOf]; omega
      · go_wp2_with fail
        go_ret
        exact ⟨ret_bool (sameL_all l m HL.out (fun i h h' => hR.out i h h' (by omega))).symm, hbel⟩
  · have hd : ((l.length : Int) != (m.length : Int)) = true := by simp; omega
    have HL := Lib.hid hlen
    clear hlen
    go_enter Tryz.func77, Tryz.ntmps77
    go_wp2_with fail
    go_ret
    exact ⟨ret_bool (sameL_len l m HL.out).symm, Below.refl _ _⟩
theorem vSame_all : ∀ (m : Nat), (∀ x y : GV, x.size ≤ m → x.fit → y.fit → SameC 59 x y) ∧ (∀ l k : List GV, sizeL l ≤ m → l.length ≤ 2147483647 → k.length ≤ 2147483647 → fitL l → fitL k → EqFuncC l k) := by
  intro m
  induction m with
  | zero =>
    have hS : ∀ x y : GV, x.size ≤ 0 → x.fit → y.fit → SameC 59 x y := fun x y h => by have := size_l x; omega
    exact ⟨hS, fun l k h1 h2 h3 h4 h5 => vEqFunc_step l k h2 h3 fun x hx y hy => hS x y (Nat.le_trans (sizeL_mem hx) h1) (fitL_mem h4 x hx) (fitL_mem h5 y hy)⟩
  | succ m ih =>
    have hS : ∀ x y : GV, x.size ≤ m + 1 → x.fit → y.fit → SameC 59 x y := fun x y h fx fy => by
      have := size_l x
      obtain ⟨_, _, _, _, _, a, b⟩ := fit_open fx
      obtain ⟨_, _, _, _, _, c, d⟩ := fit_open fy
      exact vSame_step x y (ih.2 x.l y.l (by omega) a c b d)
    exact ⟨hS, fun l k h1 h2 h3 h4 h5 => vEqFunc_step l k h2 h3 fun x hx y hy => hS x y (Nat.le_trans (sizeL_mem hx) h1) (fitL_mem h4 x hx) (fitL_mem h5 y hy)⟩
theorem vSame_any (x y : GV) (fx : x.fit) (fy : y.fit) : SameC 59 x y := (vSame_all x.size).1 x y (Nat.le_refl _) fx fy
end Go.Proofs.YtljljhjdlicfeaaGreat
