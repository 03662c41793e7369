/-
  A row of values in a block, opened at a place; two values of it change places; swapRangeCmpFunc. Conditions: lists and texts shorter than 2^31.
-/
import Derived.Test.YtaclkegoaajdgaaGreatDoorIns
import Derived.Test.YtaclkegoaajdgaaGreatDoorSortP
namespace Go.Proofs.YtaclkegoaajdgaaGreatDoor
open Go Go.RowKit
set_option maxRecDepth 100000
set_option linter.unusedVariables false
theorem row_open {w : World} {g cap B : Nat} {l : List GV} (h : rowO w g cap B l) {j : Nat} (hj : j < l.length) : ∃ a c, w.cell? ⟨g, j * 5, none⟩ = some (.int .i64 (vat l j).k) ∧ w.cell? ⟨g, j * 5 + 1, none⟩ = some (.bool (vat l j).b) ∧ w.cell? ⟨g, j * 5 + 2, none⟩ = some (.int .i64 (vat l j).n) ∧ w.cell? ⟨g, j * 5 + 3, none⟩ = some (.string (vat l j).t) ∧ w.cell? ⟨g, j * 5 + 4, none⟩ = some (.slice a (vat l j).l.length c) ∧ isL w 0 B (.slice a (vat l j).l.length c) (vat l j).l := by
  obtain ⟨cur, hh, hs, hl, hc⟩ := h
  obtain ⟨a, c, b0, b1, b2, b3, b4, b5⟩ := hc j hj
  rw [vat_get hj]
  exact ⟨a, c, (cell_of hh _).trans b0, (cell_of hh _).trans b1, (cell_of hh _).trans b2, (cell_of hh _).trans b3, (cell_of hh _).trans b4, b5⟩
theorem row_lt {w : World} {g cap B : Nat} {l : List GV} (h : rowO w g cap B l) : g < w.heap.size := by
  obtain ⟨cur, hh, _⟩ := h
  exact (Array.getElem?_eq_some_iff.1 hh).1
theorem row_frozen {w : World} {g cap B : Nat} {l : List GV} (h : rowO w g cap B l) (o : Nat) : w.frozen? ⟨g, o, none⟩ = false := by
  obtain ⟨cur, hh, _⟩ := h
  exact frozen_of hh o
theorem row_swap {w : World} {g cap B : Nat} {m : List GV} (h : rowO w g cap B m) (hB : B ≤ g) {p q : Nat} (hp : p < m.length) (hq : q < m.length) {ax ay : Option Addr} {cx cy : Nat} (hx : isL w 0 B (.slice ax (vat m p).l.length cx) (vat m p).l) (hy : isL w 0 B (.slice ay (vat m q).l.length cy) (vat m q).l) :
    rowO (((((((((((w.setCell ⟨g, p * 5, none⟩ (.int .i64 (vat m q).k)).setCell ⟨g, p * 5 + 1, none⟩ (.bool (vat m q).b)).setCell ⟨g, p * 5 + 2, none⟩ (.int .i64 (vat m q).n)).setCell ⟨g, p * 5 + 3, none⟩ (.string (vat m q).t)).setCell ⟨g, p * 5 + 4, none⟩ (.slice ay (vat m q).l.length cy)).setCell ⟨g, q * 5, none⟩ (.int .i64 (vat m p).k)).setCell ⟨g, q * 5 + 1, none⟩ (.bool (vat m p).b)).setCell ⟨g, q * 5 + 2, none⟩ (.int .i64 (vat m p).n)).setCell ⟨g, q * 5 + 3, none⟩ (.string (vat m p).t)).setCell ⟨g, q * 5 + 4, none⟩ (.slice ax (vat m p).l.length cx)).drew) g cap B (swp m p q) :=
  rowO_below (rowO_set (rowO_set h hB p hp _ ay cy hy) hB q (by simpa using hq) _ ax cx (isL_set5 hB hx)) (Below.refl _ _).drew hB
theorem kg_swap {w0 w : World} {g : Nat} {o0 o1 o2 o3 o4 o5 o6 o7 o8 o9 : Nat} {v0 v1 v2 v3 v4 v5 v6 v7 v8 v9 : Value} (h : Kg g w0 w) : Kg g w0 (((((((((((w.setCell ⟨g, o0, none⟩ v0).setCell ⟨g, o1, none⟩ v1).setCell ⟨g, o2, none⟩ v2).setCell ⟨g, o3, none⟩ v3).setCell ⟨g, o4, none⟩ v4).setCell ⟨g, o5, none⟩ v5).setCell ⟨g, o6, none⟩ v6).setCell ⟨g, o7, none⟩ v7).setCell ⟨g, o8, none⟩ v8).setCell ⟨g, o9, none⟩ v9).drew) :=
  Kg.drew (Kg.set (Kg.set (Kg.set (Kg.set (Kg.set (Kg.set (Kg.set (Kg.set (Kg.set (Kg.set h))))))))))
theorem Kg.trans {g : Nat} {w w1 w2 : World} (h : Kg g w w1) (k : Kg g w1 w2) : Kg g w w2 :=
  ⟨k.1.trans h.1, k.2.1.trans h.2.1, k.2.2.1.trans h.2.2.1, Nat.le_trans h.2.2.2.1 k.2.2.2.1, fun b h1 h2 => (k.2.2.2.2 b (Nat.lt_of_lt_of_le h1 h.2.2.2.1) h2).trans (h.2.2.2.2 b h1 h2)⟩
theorem row_order {wr : World} {g cap B : Nat} {m : List GV} (hrow : rowO wr g cap B m) (hB : B ≤ g) (fl : fitL m) {p q : Nat} (hp : p < m.length) (hq : q < m.length) {ax ay : Option Addr} {cx cy : Nat} (hx : isL wr 0 B (.slice ax (vat m p).l.length cx) (vat m p).l) (hy : isL wr 0 B (.slice ay (vat m q).l.length cy) (vat m q).l) :
    ∀ d os, Calls Tryz.prog 16 #[(vat m p).agg (.slice ax (vat m p).l.length cx), (vat m q).agg (.slice ay (vat m q).l.length cy)] (Go.Sort.grow (redrawn wr d) os) fun e w' => e = .returned (.int .i64 (ordV (vat m p) (vat m q))) ∧ Below (Go.Sort.grow (redrawn wr d) os).heap.size (Go.Sort.grow (redrawn wr d) os) w' := fun d os =>
  have hg := row_lt hrow
  have hbg : Below wr.heap.size wr (Go.Sort.grow (redrawn wr d) os) := below_grow (Below.refl wr.heap.size wr) (Nat.le_refl _) d os
  have hle : B ≤ wr.heap.size := Nat.le_of_lt (Nat.lt_of_le_of_lt hB hg)
  vOrder_any _ _ (vat_fit fl hp) (vat_fit fl hq) _ _ _ B (Nat.le_trans hle hbg.size) (isL_below hx hbg hle) (isL_below hy hbg hle)
def SwI (w wr : World) (g cap B : Nat) (l : List GV) (a b k i : Nat) : Prop := ∃ m, (∀ q, vat m q = vat l (swpI a b i q)) ∧ Mov a (b + k) l m ∧ rowO wr g cap B m ∧ Kg g w wr
set_option maxHeartbeats 800000 in
theorem swr_any (l : List GV) (hl : l.length ≤ 2147483647) (a b k g cap B : Nat) (hab : a + k ≤ b) (hbk : b + k ≤ l.length) (w : World) (hB : B ≤ g) (hr : rowO w g cap B l) :
    Calls Tryz.prog 120 #[.slice (some ⟨g, 0, none⟩) l.length cap, .int .i64 a, .int .i64 b, .int .i64 k, .func (.func 16) #[] #[]] w fun e w' => e = .returned (.tuple #[]) ∧ SwI w w' g cap B l a b k k := by
  have HR0 : Hid (SwI w w g cap B l a b k 0) := ⟨l, fun q => by rw [swpI_zero], Mov.refl _ _ _, hr, Kg.refl g w⟩
  obtain ⟨n, hn⟩ : ∃ n, n = l.length := ⟨_, rfl⟩
  rw [← hn] at hl hbk ⊢
  have HN := Lib.hid hn
  clear hr hn
  go_enter Tryz.func120, Tryz.ntmps120
  go_wp2_with fail
  go_loopw [10] (fun i wr => ∃ t : Nat, t ≤ k ∧ i = .int .i64 t ∧ Hid (SwI w wr g cap B l a b k t)) (fun i _ => k - (intOf i).toNat)
  case atStart => exact ⟨0, Nat.zero_le _, rfl, HR0⟩
  case round =>
    obtain ⟨t, ht, rfl, HR⟩ := hrel
    by_cases hlt : t < k
    rotate_left
    · obtain rfl : t = k := by omega
      go_wp2_with fail
      go_end0
      exact ⟨rfl, HR.out⟩
    obtain ⟨m, hq, hm, hrow, hkg⟩ := HR.out
    have hml : m.length = n := hm.1.trans HN.out.symm
    obtain ⟨p, hp⟩ : ∃ p, p = a + t := ⟨_, rfl⟩
    obtain ⟨q, hq'⟩ : ∃ q, q = b + t := ⟨_, rfl⟩
    have hpn : p < m.length := by omega
    have hqn : q < m.length := by omega
    obtain ⟨ax, cx, X0, X1, X2, X3, X4, hsx⟩ := row_open hrow hpn
    obtain ⟨ay, cy, Y0, Y1, Y2, Y3, Y4, hsy⟩ := row_open hrow hqn
    have hg := row_lt hrow
    have ff := row_frozen hrow
    have hw := row_swap hrow hB hpn hqn hsx hsy
    have HK := Lib.hid (fun q => hq q)
    have i1 : (a : Int) + (t : Int) = (p : Int) := by omega
    have i2 : (b : Int) + (t : Int) = (q : Int) := by omega
    have i3 : IntKind.i64.wrap (p : Int) = (p : Int) := IntWalk.i64_in _ (by omega)
    have i4 : IntKind.i64.wrap (q : Int) = (q : Int) := IntWalk.i64_in _ (by omega)
    have j0 : (0 : Int) ≤ (p : Int) := by omega
    have j1 : (p : Int) < (n : Int) := by omega
    have j2 : (0 : Int) ≤ (q : Int) := by omega
    have j3 : (q : Int) < (n : Int) := by omega
    have HSW : Hid (∃ m', (∀ i, vat m' i = vat l (swpI a b (t + 1) i)) ∧ Mov a (b + k) l m' ∧ m' = swp m p q) := ⟨swp m p q, by rw [hp, hq']; exact swpI_step hq (by omega) (by omega), hm.trans (swp_mov hpn hqn (by omega) (by omega) (by omega) (by omega)), rfl⟩
    have HW := Lib.hid hw
    have HKG := Lib.hid hkg
    obtain ⟨x, hx⟩ : ∃ x, x = vat m p := ⟨_, rfl⟩
    obtain ⟨y, hy⟩ : ∃ y, y = vat m q := ⟨_, rfl⟩
    rw [← hx, ← hy] at HW
    rw [← hx] at X0 X1 X2 X3 X4
    rw [← hy] at Y0 Y1 Y2 Y3 Y4
    clear hx hy hw hkg hsx hsy hq hm hrow hml hp hq' hpn hqn HK HR
    go_wp2_with fail
    go_region
    go_wp2_with fail
    go_roundw
    case rel =>
      obtain ⟨m', h1, h2, h3⟩ := HSW.out
      exact ⟨t + 1, by omega, by go_num, m', h1, h2, by rw [h3]; exact HW.out, kg_swap HKG.out⟩
    case measure => simp [intOf]; omega
end Go.Proofs.YtaclkegoaajdgaaGreatDoor
