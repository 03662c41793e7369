/-
  slices.insertionSortCmpFunc over value.Order: it ends, the row holds values that fit, no other memory is written. Conditions: lists and texts shorter than 2^31.
-/
import Derived.Test.YtaclkegoaajdgaaGreatDoorMO
import Derived.Test.YtaclkegoaajdgaaGreatDoorMD
import Derived.Test.YtaclkegoaajdgaaGreatDoorMG
import Derived.BigRegion
import Derived.Deep.DrawnRows
namespace Go.Proofs.YtaclkegoaajdgaaGreatDoor
open Go Go.RowKit
set_option maxRecDepth 100000
set_option linter.unusedVariables false
/-- block g holds the values l, one behind the other, their lists below B -/
def rowO (w : World) (g cap B : Nat) (l : List GV) : Prop := ∃ cur : Array Value, w.heap[g]? = some (.cells cur 29 (0, 0)) ∧ cur.size = cap * 5 ∧ l.length ≤ cap ∧
  ∀ i (h : i < l.length), ∃ a c, cur[i * 5]? = some (.int .i64 l[i].k) ∧ cur[i * 5 + 1]? = some (.bool l[i].b) ∧ cur[i * 5 + 2]? = some (.int .i64 l[i].n) ∧ cur[i * 5 + 3]? = some (.string l[i].t) ∧ cur[i * 5 + 4]? = some (.slice a l[i].l.length c) ∧ isL w 0 B (.slice a l[i].l.length c) l[i].l
theorem set5_at (cur : Array Value) (p : Nat) (a0 a1 a2 a3 a4 : Value) (hp : p + 5 ≤ cur.size) (o : Nat) :
    (((((cur.setIfInBounds p a0).setIfInBounds (p + 1) a1).setIfInBounds (p + 2) a2).setIfInBounds (p + 3) a3).setIfInBounds (p + 4) a4)[o]? = if o = p then some a0 else if o = p + 1 then some a1 else if o = p + 2 then some a2 else if o = p + 3 then some a3 else if o = p + 4 then some a4 else cur[o]? := by
  simp only [Array.getElem?_setIfInBounds, Array.size_setIfInBounds]
  by_cases h4 : p + 4 = o
  · subst h4
    rw [if_pos rfl, if_pos (by omega), if_neg (by omega), if_neg (by omega), if_neg (by omega), if_neg (by omega), if_pos rfl]
  rw [if_neg h4]
  by_cases h3 : p + 3 = o
  · subst h3
    rw [if_pos rfl, if_pos (by omega), if_neg (by omega), if_neg (by omega), if_neg (by omega), if_pos rfl]
  rw [if_neg h3]
  by_cases h2 : p + 2 = o
  · subst h2
    rw [if_pos rfl, if_pos (by omega), if_neg (by omega), if_neg (by omega), if_pos rfl]
  rw [if_neg h2]
  by_cases h1 : p + 1 = o
  · subst h1
    rw [if_pos rfl, if_pos (by omega), if_neg (by omega), if_pos rfl]
  rw [if_neg h1]
  by_cases h0 : p = o
  · subst h0
    rw [if_pos rfl, if_pos (by omega), if_pos rfl]
  rw [if_neg h0, if_neg (fun e => h0 e.symm), if_neg (fun e => h1 e.symm), if_neg (fun e => h2 e.symm), if_neg (fun e => h3 e.symm), if_neg (fun e => h4 e.symm)]
theorem isL_set5 {w : World} {g B o0 o1 o2 o3 o4 : Nat} {a0 a1 a2 a3 a4 s : Value} {m : List GV} (hB : B ≤ g) (hm : isL w 0 B s m) : isL (((((w.setCell ⟨g, o0, none⟩ a0).setCell ⟨g, o1, none⟩ a1).setCell ⟨g, o2, none⟩ a2).setCell ⟨g, o3, none⟩ a3).setCell ⟨g, o4, none⟩ a4) 0 B s m :=
  isL_mono hm (fun b off _ hb => World.cell?_of_block (a := ⟨b, off, none⟩) (by
      have hne : b ≠ g := by omega
      rw [Below.heap_setCell _ _ _ _ hne, Below.heap_setCell _ _ _ _ hne, Below.heap_setCell _ _ _ _ hne, Below.heap_setCell _ _ _ _ hne, Below.heap_setCell _ _ _ _ hne])) (Nat.le_refl _) (Nat.le_refl _)
/-- a value laid over the i-th -/
theorem rowO_set {w : World} {g cap B : Nat} {l : List GV} (h : rowO w g cap B l) (hB : B ≤ g) (i : Nat) (hi : i < l.length) (y : GV) (a : Option Addr) (c : Nat) (hy : isL w 0 B (.slice a y.l.length c) y.l) :
    rowO (((((w.setCell ⟨g, i * 5, none⟩ (.int .i64 y.k)).setCell ⟨g, i * 5 + 1, none⟩ (.bool y.b)).setCell ⟨g, i * 5 + 2, none⟩ (.int .i64 y.n)).setCell ⟨g, i * 5 + 3, none⟩ (.string y.t)).setCell ⟨g, i * 5 + 4, none⟩ (.slice a y.l.length c)) g cap B (l.set i y) := by
  obtain ⟨cur, hh, hs, hl, hc⟩ := h
  have far : ∀ (s : Value) (m : List GV), isL w 0 B s m → isL (((((w.setCell ⟨g, i * 5, none⟩ (.int .i64 y.k)).setCell ⟨g, i * 5 + 1, none⟩ (.bool y.b)).setCell ⟨g, i * 5 + 2, none⟩ (.int .i64 y.n)).setCell ⟨g, i * 5 + 3, none⟩ (.string y.t)).setCell ⟨g, i * 5 + 4, none⟩ (.slice a y.l.length c)) 0 B s m := fun s m hm =>
    isL_mono hm (fun b off _ hb => World.cell?_of_block (a := ⟨b, off, none⟩) (by
      have hne : b ≠ g := by omega
      rw [Below.heap_setCell _ _ _ _ hne, Below.heap_setCell _ _ _ _ hne, Below.heap_setCell _ _ _ _ hne, Below.heap_setCell _ _ _ _ hne, Below.heap_setCell _ _ _ _ hne])) (Nat.le_refl _) (Nat.le_refl _)
  refine ⟨_, heap_setCell2 (heap_setCell2 (heap_setCell2 (heap_setCell2 (heap_setCell2 hh)))), by simpa using hs, by simpa using hl, fun q hq => ?_⟩
  have hq' : q < l.length := by simpa using hq
  have hp : i * 5 + 5 ≤ cur.size := by omega
  by_cases hqi : q = i
  · subst hqi
    have e : (l.set q y)[q] = y := by simp
    rw [e]
    refine ⟨a, c, ?_, ?_, ?_, ?_, ?_, far _ _ hy⟩
    · rw [set5_at cur (q * 5) _ _ _ _ _ hp, if_pos rfl]
    · rw [set5_at cur (q * 5) _ _ _ _ _ hp, if_neg (by omega), if_pos rfl]
    · rw [set5_at cur (q * 5) _ _ _ _ _ hp, if_neg (by omega), if_neg (by omega), if_pos rfl]
    · rw [set5_at cur (q * 5) _ _ _ _ _ hp, if_neg (by omega), if_neg (by omega), if_neg (by omega), if_pos rfl]
    · rw [set5_at cur (q * 5) _ _ _ _ _ hp, if_neg (by omega), if_neg (by omega), if_neg (by omega), if_neg (by omega), if_pos rfl]
  · have e : (l.set i y)[q] = l[q] := by rw [List.getElem_set_ne (fun e => hqi e.symm)]
    obtain ⟨a2, c2, b0, b1, b2, b3, b4, b5⟩ := hc q hq'
    have k : ∀ r, r < 5 → (((((cur.setIfInBounds (i * 5) (.int .i64 y.k)).setIfInBounds (i * 5 + 1) (.bool y.b)).setIfInBounds (i * 5 + 2) (.int .i64 y.n)).setIfInBounds (i * 5 + 3) (.string y.t)).setIfInBounds (i * 5 + 4) (.slice a y.l.length c))[q * 5 + r]? = cur[q * 5 + r]? := fun r hr => by
      rw [set5_at cur (i * 5) _ _ _ _ _ hp, if_neg (by omega), if_neg (by omega), if_neg (by omega), if_neg (by omega), if_neg (by omega)]
    rw [e]
    exact ⟨a2, c2, (k 0 (by omega)).trans b0, (k 1 (by omega)).trans b1, (k 2 (by omega)).trans b2, (k 3 (by omega)).trans b3, (k 4 (by omega)).trans b4, far _ _ b5⟩
theorem rowO_below {w w' : World} {g cap B : Nat} {l : List GV} (h : rowO w g cap B l) (hb : Below w.heap.size w w') (hB : B ≤ g) : rowO w' g cap B l := by
  obtain ⟨cur, hh, hs, hl, hc⟩ := h
  have hlt : g < w.heap.size := (Array.getElem?_eq_some_iff.1 hh).1
  refine ⟨cur, (hb.block g hlt).trans hh, hs, hl, fun i hi => ?_⟩
  obtain ⟨a, c, b0, b1, b2, b3, b4, b5⟩ := hc i hi
  exact ⟨a, c, b0, b1, b2, b3, b4, isL_below b5 hb (by omega)⟩
theorem fitL_set : ∀ {l : List GV} {i : Nat} {y : GV}, fitL l → y.fit → fitL (l.set i y)
  | [], _, _, _, _ => trivial
  | x :: r, 0, y, h, hy => ⟨hy, h.2⟩
  | x :: r, i + 1, y, h, hy => ⟨h.1, fitL_set h.2 hy⟩
/-- no block but g is written -/
def Kg (g : Nat) (w w' : World) : Prop := w'.os = w.os ∧ w'.tape = w.tape ∧ w'.output = w.output ∧ w.heap.size ≤ w'.heap.size ∧ ∀ b, b < w.heap.size → b ≠ g → w'.heap[b]? = w.heap[b]?
theorem Kg.refl (g : Nat) (w : World) : Kg g w w := ⟨rfl, rfl, rfl, Nat.le_refl _, fun _ _ _ => rfl⟩
theorem Kg.below {g : Nat} {w w1 w2 : World} (h : Kg g w w1) (hb : Below w1.heap.size w1 w2) : Kg g w w2 :=
  ⟨hb.os.trans h.1, hb.tape.trans h.2.1, hb.output.trans h.2.2.1, Nat.le_trans h.2.2.2.1 hb.size, fun b h1 h2 => (hb.block b (Nat.lt_of_lt_of_le h1 h.2.2.2.1)).trans (h.2.2.2.2 b h1 h2)⟩
theorem Kg.set {g o : Nat} {w w1 : World} {v : Value} (h : Kg g w w1) : Kg g w (w1.setCell ⟨g, o, none⟩ v) :=
  ⟨h.1, h.2.1, h.2.2.1, by simpa [World.setCell] using h.2.2.2.1, fun b h1 h2 => (Below.heap_setCell _ _ _ _ h2).trans (h.2.2.2.2 b h1 h2)⟩
theorem Kg.drew {g : Nat} {w w1 : World} (h : Kg g w w1) : Kg g w w1.drew := h
/-- the row after some rounds -/
def RowI (w wr : World) (g cap B n : Nat) : Prop := ∃ m : List GV, m.length = n ∧ fitL m ∧ rowO wr g cap B m ∧ Kg g w wr
theorem RowI.below {w w1 w2 : World} {g cap B n : Nat} (h : RowI w w1 g cap B n) (hb : Below w1.heap.size w1 w2) (hB : B ≤ g) : RowI w w2 g cap B n := by
  obtain ⟨m, h1, h2, h3, h4⟩ := h
  exact ⟨m, h1, h2, rowO_below h3 hb hB, h4.below hb⟩
set_option maxHeartbeats 1600000 in
theorem ins_any (l : List GV) (hl : l.length ≤ 2147483647) (fl : fitL l) (g cap B : Nat) (w : World) (hB : B ≤ g) (hr : rowO w g cap B l) : Calls Tryz.prog 106 #[.slice (some ⟨g, 0, none⟩) l.length cap, .int .i64 0, .int .i64 l.length, .func (.func 16) #[] #[]] w fun e w' => e = .returned (.tuple #[]) ∧ RowI w w' g cap B l.length := by
  have HR0 : Hid (RowI w w g cap B l.length) := ⟨l, rfl, fl, hr, Kg.refl g w⟩
  obtain ⟨n, hn⟩ : ∃ n, n = l.length := ⟨_, rfl⟩
  rw [← hn] at HR0 hl ⊢
  clear hr fl hn
  go_enter Tryz.func106, Tryz.ntmps106
  go_wp2_with fail
  go_loopw [8] (fun i wr => ∃ k : Nat, 1 ≤ k ∧ (k ≤ n ∨ k = 1) ∧ i = .int .i64 k ∧ Hid (RowI w wr g cap B n)) (fun i _ => n + 1 - (intOf i).toNat)
  case atStart => exact ⟨1, Nat.le_refl _, .inr rfl, rfl, HR0⟩
  case round =>
    obtain ⟨k, hk1, hk, rfl, HR⟩ := hrel
    by_cases hlt : k < n
    rotate_left
    · have d1 : decide ((k : Int) < (n : Int)) = false := by simp; omega
      have d2 : decide (k < n) = false := by simp; omega
      go_wp2_with fail
      go_end0
      exact ⟨rfl, HR.out⟩
    go_wp2_with fail
    go_loopw [9] (fun i wr => ∃ j : Nat, j ≤ k ∧ i = .int .i64 j ∧ Hid (RowI w wr g cap B n)) (fun i _ => (intOf i).toNat)
    case atStart => exact ⟨k, Nat.le_refl _, rfl, HR⟩
    case round =>
      obtain ⟨j, hj, rfl, HR2⟩ := hrel
      by_cases hj0 : 0 < j
      rotate_left
      · obtain rfl : j = 0 := by omega
        go_wp2_with fail
        go_quiet (fail)
        go_wp2_with fail
        go_roundw
        case rel => exact ⟨k + 1, by omega, .inl (by omega), by go_num, HR2.out.below ⟨rfl, rfl, rfl, Nat.le_refl _, fun _ _ => rfl⟩ hB⟩
        case measure => simp [intOf]; omega
      obtain ⟨m, hml, hmf, hrow, hkg⟩ := HR2.out
      have HROW := Lib.hid hrow
      obtain ⟨cur, hh, hcs, hcap, hcell⟩ := hrow
      obtain ⟨p, hp⟩ : ∃ p, p = j - 1 := ⟨_, rfl⟩
      have hjn : j < m.length := by omega
      have hpn : p < m.length := by omega
      obtain ⟨ax, cx, x0, x1, x2, x3, x4, hsx⟩ := hcell j hjn
      obtain ⟨ay, cy, y0, y1, y2, y3, y4, hsy⟩ := hcell p hpn
      obtain ⟨x, hx⟩ : ∃ x, x = m[j] := ⟨_, rfl⟩
      obtain ⟨y, hy⟩ : ∃ y, y = m[p] := ⟨_, rfl⟩
      have HFX : Hid x.fit := by rw [hx]; exact fitL_mem hmf _ (List.getElem_mem hjn)
      have HFY : Hid y.fit := by rw [hy]; exact fitL_mem hmf _ (List.getElem_mem hpn)
      rw [← hx] at x0 x1 x2 x3 x4 hsx
      rw [← hy] at y0 y1 y2 y3 y4 hsy
      have hg : g < wr.heap.size := (Array.getElem?_eq_some_iff.1 hh).1
      have qc : ∀ o u, cur[o]? = some u → wr.cell? ⟨g, o, none⟩ = some u := fun o u hu => (cell_of hh o).trans hu
      have X0 := qc _ _ x0
      have X1 := qc _ _ x1
      have X2 := qc _ _ x2
      have X3 := qc _ _ x3
      have X4 := qc _ _ x4
      have Y0 := qc _ _ y0
      have Y1 := qc _ _ y1
      have Y2 := qc _ _ y2
      have Y3 := qc _ _ y3
      have Y4 := qc _ _ y4
      have gg := cell_grow (Below.refl wr.heap.size wr) (Nat.le_refl _) hg
      obtain ⟨C, hC⟩ : ∃ C, C = ordV x y := ⟨_, rfl⟩
      have HBG := Lib.hid (fun d os => below_grow (Below.refl wr.heap.size wr) (Nat.le_refl _) d os)
      have HC1 : Hid (∀ d os, Calls Tryz.prog 16 #[x.agg (.slice ax x.l.length cx), y.agg (.slice ay y.l.length cy)] (Go.Sort.grow (redrawn wr d) os) fun e w' => e = .returned (.int .i64 C) ∧ Below (Go.Sort.grow (redrawn wr d) os).heap.size (Go.Sort.grow (redrawn wr d) os) w') := fun d os => by
        rw [hC]
        exact vOrder_any x y HFX.out HFY.out (.slice ax x.l.length cx) (.slice ay y.l.length cy) _ B (Nat.le_trans (Nat.le_of_lt (Nat.lt_of_le_of_lt hB hg)) (HBG.out d os).size) (isL_below hsx (HBG.out d os) (Nat.le_of_lt (Nat.lt_of_le_of_lt hB hg))) (isL_below hsy (HBG.out d os) (Nat.le_of_lt (Nat.lt_of_le_of_lt hB hg)))
      simp only [GV.agg] at HC1
      have i3 : (j : Int) - 1 = (p : Int) := by omega
      have i4 : IntKind.i64.wrap (p : Int) = (p : Int) := IntWalk.i64_in _ (by omega)
      have j0 : (0 : Int) ≤ (p : Int) := by omega
      have j1 : (p : Int) < (n : Int) := by omega
      have j2 : (0 : Int) ≤ (j : Int) := by omega
      have j3 : (j : Int) < (n : Int) := by omega
      have HHX := Lib.hid hx
      have HHY := Lib.hid hy
      have HSX := Lib.hid hsx
      have HSY := Lib.hid hsy
      have HMF := Lib.hid hmf
      have HKG := Lib.hid hkg
      have HML := Lib.hid hml
      have HP := Lib.hid hp
      have HJN := Lib.hid hjn
      have HPN := Lib.hid hpn
      clear hC HBG hsx hsy hx hy hh hcs hcap hcell qc x0 x1 x2 x3 x4 y0 y1 y2 y3 y4 hmf hkg hml hp HR2
      go_wp2_with fail
      refine wp_region_quiet_below (by kernel_rfl) (by kernel_rfl) ?_
      repeat (quiet_step (fail))
      quiet_step (exact Calls.regrown_of (HC1.out _ _))
      repeat (quiet_step (fail))
      refine wpQuiet_nil ?_
      intro w3 hw3
      have hb3 : Below wr.heap.size wr w3 := by
        obtain ⟨q, hq⟩ := hw3
        rw [hq]
        exact below_grow (Below.refl _ _) (Nat.le_refl _) _ _
      have hg3 : g < w3.heap.size := Nat.lt_of_lt_of_le hg hb3.size
      have HROW3 := Lib.hid (rowO_below HROW.out hb3 hB)
      have HKG3 := Lib.hid (HKG.out.below hb3)
      have HSX3 := Lib.hid (isL_below HSX.out hb3 (Nat.le_of_lt (Nat.lt_of_le_of_lt hB hg)))
      have HSY3 := Lib.hid (isL_below HSY.out hb3 (Nat.le_of_lt (Nat.lt_of_le_of_lt hB hg)))
      have kc : ∀ o u, wr.cell? ⟨g, o, none⟩ = some u → w3.cell? ⟨g, o, none⟩ = some u := fun o u hu => (hb3.cell (p := ⟨g, o, none⟩) hg).trans hu
      have X0 := kc _ _ X0
      have X1 := kc _ _ X1
      have X2 := kc _ _ X2
      have X3 := kc _ _ X3
      have X4 := kc _ _ X4
      have Y0 := kc _ _ Y0
      have Y1 := kc _ _ Y1
      have Y2 := kc _ _ Y2
      have Y3 := kc _ _ Y3
      have Y4 := kc _ _ Y4
      clear hw3 hb3 gg kc HC1
      by_cases hc0 : C < 0
      rotate_left
      · have d1 : decide (C < 0) = false := by simpa using hc0
        have HRI : Hid (RowI w w3 g cap B n) := ⟨m, HML.out, HMF.out, HROW3.out, HKG3.out⟩
        go_wp2_with fail
        go_roundw
        case rel => exact ⟨k + 1, by omega, .inl (by omega), by go_num, HRI⟩
        case measure => simp [intOf]; omega
      have ff : ∀ o, w3.frozen? ⟨g, o, none⟩ = false := by
        obtain ⟨cur, hh, _⟩ := HROW3.out
        exact fun o => frozen_of hh o
      go_wp2_with fail
      go_region
      go_wp2_with fail
      go_roundw
      case rel =>
        have hjn : j < m.length := HJN.out
        have hpn : p < m.length := HPN.out
        have hpj := HP.out
        refine ⟨p, by omega, rfl, (m.set j y).set p x, by simp [HML.out], fitL_set (fitL_set HMF.out HFY.out) HFX.out, ?_, ?_⟩
        · exact rowO_below (rowO_set (rowO_set HROW3.out hB j hjn y ay cy HSY3.out) hB p (by simpa using hpn) x ax cx (isL_set5 hB HSX3.out)) (Below.refl _ _).drew hB
        · exact Kg.drew (Kg.set (Kg.set (Kg.set (Kg.set (Kg.set (Kg.set (Kg.set (Kg.set (Kg.set (Kg.set HKG3.out))))))))))
      case measure => have hpj := HP.out; simp [intOf]; omega
end Go.Proofs.YtaclkegoaajdgaaGreatDoor
