/-
  What the references' EqExpr and EqExprs compute: whether two expressions are the same. Conditions: lists and texts shorter than 2^31.
-/
import Derived.Test.YtnmolgmchoihmaaDoorSame0
import Derived.Test.YtnmolgmchoihmaaDoorSame1
import Derived.Test.YtnmolgmchoihmaaDoorExpr
import Derived.Test.YtnmolgmchoihmaaDoorCopyZ
namespace Go.Proofs.YtnmolgmchoihmaaDoor
open Go Go.RowKit
set_option maxRecDepth 100000
set_option linter.unusedVariables false
def EqExprC (x y : GE) : Prop := ∀ (sx ax sy ay : Value) (w : World) (B : Nat), B ≤ w.heap.size → isL w 0 B sx x.v.l → isX w B ax x.args → isL w 0 B sy y.v.l → isX w B ay y.args →
  Calls Tryd.prog 15 #[x.agg sx ax, y.agg sy ay] w fun e w' => e = .returned (.bool (sameE x y)) ∧ Below w.heap.size w w'
def EqExprsC (l m : List GE) : Prop := ∀ (s t : Value) (w : World) (B : Nat), B ≤ w.heap.size → isX w B s l → isX w B t m →
  Calls Tryd.prog 29 #[s, t] w fun e w' => e = .returned (.bool (sameEs l m)) ∧ Below w.heap.size w w'

set_option maxHeartbeats 1600000 in
theorem eqExpr_step (x y : GE) (fx : x.fit) (fy : y.fit) (h : EqExprsC x.args y.args) : EqExprC x y := by
  intro sx ax sy ay w B hB hx hax hy hay
  have HR := Lib.hid (sameE_eq x y)
  have HX := Lib.hid hx
  have HAX := Lib.hid hax
  have HY := Lib.hid hy
  have HAY := Lib.hid hay
  have HH := Lib.hid h
  have HFX := Lib.hid (fitE_open fx)
  have HFY := Lib.hid (fitE_open fy)
  clear hx hy hax hay h fx fy
  simp only [GE.agg]
  cases h1 : (x.op == y.op)
  · rw [h1] at HR
    go_enter Tryd.func15, Tryd.ntmps15
    go_wp2_with fail
    go_ret
    exact ⟨ret_bool (by rw [HR.out]; rfl), (((Below.refl _ _).alloc (Nat.le_refl _) _).alloc (by simp) _)⟩
  cases h2 : (x.text.toList == y.text.toList)
  · rw [h1, h2] at HR
    go_enter Tryd.func15, Tryd.ntmps15
    go_wp2_with fail
    go_ret
    exact ⟨ret_bool (by rw [HR.out]; rfl), (((Below.refl _ _).alloc (Nat.le_refl _) _).alloc (by simp) _)⟩
  rw [h1, h2] at HR
  have hb0 : Below w.heap.size w ((w.alloc (.cells #[.int .i64 x.op, .string x.text, .int .i64 x.v.k, .bool x.v.b, .int .i64 x.v.n, .string x.v.t, sx, ax] 30)).alloc (.cells #[.int .i64 y.op, .string y.text, .int .i64 y.v.k, .bool y.v.b, .int .i64 y.v.n, .string y.v.t, sy, ay] 30)) := (((Below.refl _ _).alloc (Nat.le_refl _) _).alloc (by simp) _)
  have HB0 := Lib.hid hb0
  clear hb0
  go_enter Tryd.func15, Tryd.ntmps15
  go_wp2_with fail
  refine (zSame_any x.v y.v HFX.out.2.2.2.1 HFY.out.2.2.2.1 sx sy _ B (Nat.le_trans hB HB0.out.size) (isL_below HX.out HB0.out hB) (isL_below HY.out HB0.out hB)).mono ?_
  rintro e w1 ⟨rfl, hb⟩
  have hsz1 : w.heap.size + 2 ≤ w1.heap.size := by have := hb.size; simpa using this
  have p1 := hb.block w.heap.size (by simp; omega)
  rw [heap_two] at p1
  have p2 := hb.block (w.heap.size + 1) (by simp)
  rw [heap_second] at p2
  have q1 := fun o => cell_of p1 o
  have q2 := fun o => cell_of p2 o
  have hb1 := HB0.out.trans (hb.mono HB0.out.size)
  have HB1 := Lib.hid hb1
  clear hb hb1 p1 p2
  cases hsm : same x.v y.v
  · have HS := Lib.hid hsm
    clear hsm
    go_wp2_with fail
    go_ret
    exact ⟨ret_bool (by rw [HR.out, HS.out]; rfl), HB1.out⟩
  · have HS := Lib.hid hsm
    clear hsm
    go_wp2_with fail
    refine (HH.out _ _ _ B (Nat.le_trans hB HB1.out.size) (isX_below HAX.out HB1.out hB) (isX_below HAY.out HB1.out hB)).mono ?_
    rintro e w2 ⟨rfl, hb2⟩
    go_wp2_with fail
    go_ret
    exact ⟨ret_bool (by rw [HR.out, HS.out]; simp), HB1.out.trans (hb2.mono HB1.out.size)⟩

set_option maxHeartbeats 1600000 in
theorem eqExprs_step (l m : List GE) (hl : l.length ≤ 2147483647) (hm : m.length ≤ 2147483647) (h : ∀ x ∈ l, ∀ y ∈ m, EqExprC x y) : EqExprsC l m := by
  intro s t w B hB hs ht
  obtain ⟨a, c, b, off, rfl, hc, ha, hA⟩ := isX_open hs
  obtain ⟨a', c', b', off', rfl, hc', ha', hA'⟩ := isX_open ht
  have HA := Lib.hid hA
  have HA' := Lib.hid hA'
  have HH := Lib.hid h
  have Ha := Lib.hid ha
  have Ha' := Lib.hid ha'
  clear hA hA' hs ht h ha ha'
  by_cases hlen : l.length = m.length
  · have hd : ((l.length : Int) != (m.length : Int)) = false := by simp [hlen]
    have HL := Lib.hid hlen
    clear hlen
    go_enter Tryd.func29, Tryd.ntmps29
    go_wp2_with fail
    go_loopw [5] (fun i wr => ∃ k : Nat, k ≤ l.length ∧ i = .int .i64 k ∧ Below w.heap.size w wr ∧ Hid (∀ j (g : j < l.length) (g' : j < m.length), j < k → sameE l[j] m[j] = true)) (fun i _ => l.length - (intOf i).toNat)
    case atStart => exact ⟨0, Nat.zero_le _, rfl, Below.refl _ _, fun j _ _ hj => by omega⟩
    case round =>
      obtain ⟨k, hk, rfl, hbel, hR⟩ := hrel
      by_cases hlt : k < l.length
      · have hlt' : k < m.length := by rw [← HL.out]; exact hlt
        obtain ⟨rfl, hb2⟩ := Ha.out (by omega)
        obtain ⟨rfl, hb2'⟩ := Ha'.out (by omega)
        obtain ⟨ax, cx, aax, cax, x0, x1, x2, x3, x4, x5, x6, x7, hsx, hsax⟩ := cellsE_open (HA.out k hlt)
        obtain ⟨ay, cy, aay, cay, y0, y1, y2, y3, y4, y5, y6, y7, hsy, hsay⟩ := cellsE_open (HA'.out k hlt')
        have hg := cell_grow hbel (Nat.le_refl _) (Nat.lt_of_lt_of_le hb2 hB)
        have hg' := cell_grow hbel (Nat.le_refl _) (Nat.lt_of_lt_of_le hb2' hB)
        have HC : Hid (∀ d os, Calls Tryd.prog 15 #[GE.agg l[k] (.slice ax l[k].v.l.length cx) (.slice aax l[k].args.length cax), GE.agg m[k] (.slice ay m[k].v.l.length cy) (.slice aay m[k].args.length cay)] (Go.Sort.grow (redrawn wr d) os) fun e w' => e = .returned (.bool (sameE l[k] m[k])) ∧ Below (Go.Sort.grow (redrawn wr d) os).heap.size (Go.Sort.grow (redrawn wr d) os) w') := fun d os =>
          HH.out l[k] (List.getElem_mem _) m[k] (List.getElem_mem _) _ _ _ _ _ B (Nat.le_trans hB (below_grow hbel (Nat.le_refl _) d os).size) (isL_below hsx (below_grow hbel (Nat.le_refl _) d os) hB) (isX_below hsax (below_grow hbel (Nat.le_refl _) d os) hB) (isL_below hsy (below_grow hbel (Nat.le_refl _) d os) hB) (isX_below hsay (below_grow hbel (Nat.le_refl _) d os) hB)
        clear hsx hsax hsy hsay
        go_wp2_with fail
        refine wp_region_quiet_below (by kernel_rfl) (by kernel_rfl) ?_
        repeat (quiet_step (exact Calls.regrown_of (HC.out _ _)))
        refine wpQuiet_nil ?_
        intro w2 hw2
        have hb3 : Below w.heap.size w w2 := by
          obtain ⟨p, hp⟩ := hw2
          rw [hp]
          exact below_grow hbel (Nat.le_refl _) _ _
        clear hw2 hg hg' x0 x1 x2 x3 x4 x5 x6 x7 y0 y1 y2 y3 y4 y5 y6 y7 HC Ha Ha'
        cases hsm : sameE l[k] m[k]
        · have HS := Lib.hid hsm
          clear hsm
          go_wp2_with fail
          go_ret
          exact ⟨ret_bool (sameEs_at l m k hlt hlt' HS.out).symm, hb3⟩
        · have HS := Lib.hid hsm
          clear hsm
          go_wp2_with fail
          go_roundw
          case rel => exact ⟨k + 1, by omega, by go_num, hb3, fun j g g' hj => by
            by_cases e : j = k
            · subst e; exact HS.out
            · exact hR.out j g g' (by omega)⟩
          case measure => simp [intOf]; omega
      · go_wp2_with fail
        go_ret
        exact ⟨ret_bool (sameEs_all l m HL.out (fun i h h' => hR.out i h h' (by omega))).symm, hbel⟩
  · have hd : ((l.length : Int) != (m.length : Int)) = true := by simp; omega
    have HL := Lib.hid hlen
    clear hlen
    go_enter Tryd.func29, Tryd.ntmps29
    go_wp2_with fail
    go_ret
    exact ⟨ret_bool (sameEs_len l m HL.out).symm, Below.refl _ _⟩

theorem eqExpr_all : ∀ (m : Nat) (x y : GE), x.size ≤ m → x.fit → y.fit → EqExprC x y := by
  intro m
  induction m with
  | zero => exact fun x y h => by have := size_args x; omega
  | succ m ih =>
    intro x y h fx fy
    have := size_args x
    obtain ⟨_, _, _, _, h5, h6⟩ := fitE_open fx
    obtain ⟨_, _, _, _, g5, g6⟩ := fitE_open fy
    exact eqExpr_step x y fx fy (eqExprs_step x.args y.args h5 g5 fun u hu v hv => ih u v (by have := sizeE_mem hu; omega) (fitE_mem h6 u hu) (fitE_mem g6 v hv))
theorem eqExpr_any (x y : GE) (fx : x.fit) (fy : y.fit) : EqExprC x y := eqExpr_all x.size x y (Nat.le_refl _) fx fy
end Go.Proofs.YtnmolgmchoihmaaDoor
