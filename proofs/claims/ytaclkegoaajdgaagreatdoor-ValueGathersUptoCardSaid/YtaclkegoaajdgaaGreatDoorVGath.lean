/-
  ValueGathers returns true, whatever values it is handed. Conditions: lists and texts shorter than 2^31, values of bulk at most 2^40; the table of the tests lies.
-/
import Derived.Test.YtaclkegoaajdgaaGreatDoorRAgg
import Derived.Test.YtaclkegoaajdgaaGreatDoorLight
import Derived.Test.YtaclkegoaajdgaaGreatDoorMO
import Derived.Test.YtaclkegoaajdgaaGreatDoorMJ
import Derived.Deep.RegionHeld3
import Derived.Deep.DeepCutAuto
import Derived.Deep.CutBlock
import Derived.Deep.CutRange
namespace Go.Proofs.YtaclkegoaajdgaaGreatDoor
open Go Go.RowKit
set_option maxRecDepth 100000
set_option linter.unusedVariables false
theorem le_allocG {n : Nat} {w : World} {o : Obj} (h : n ≤ w.heap.size) : n ≤ (w.alloc o).heap.size := by simp; omega
theorem lt_allocG {n : Nat} {w : World} {o : Obj} (h : n < w.heap.size) : n < (w.alloc o).heap.size := by simp; omega
theorem far_allocG {b : Nat} {w : World} {o : Obj} (h : b < w.heap.size) : (w.alloc o).heap[b]? = w.heap[b]? := Below.heap_alloc _ _ _ h
def gnames : List ByteArray := [⟨#[99, 111, 117, 110, 116]⟩, ⟨#[115, 117, 109]⟩, ⟨#[109, 105, 110]⟩, ⟨#[109, 97, 120]⟩, ⟨#[108, 105, 115, 116]⟩, ⟨#[97, 118, 103]⟩, ⟨#[]⟩]
def gname (k : Nat) : ByteArray := gnames.getD k ByteArray.empty
theorem gname_ok (k : Nat) (hk : k < 7) : gname k = ⟨#[99, 111, 117, 110, 116]⟩ ∨ gname k = ⟨#[115, 117, 109]⟩ ∨ gname k = ⟨#[109, 105, 110]⟩ ∨ gname k = ⟨#[109, 97, 120]⟩ ∨ gname k = ⟨#[108, 105, 115, 116]⟩ ∨ Lib.containsS waysL (gname k) = false := by
  match k, hk with
  | 0, _ => exact .inl rfl
  | 1, _ => exact .inr (.inl rfl)
  | 2, _ => exact .inr (.inr (.inl rfl))
  | 3, _ => exact .inr (.inr (.inr (.inl rfl)))
  | 4, _ => exact .inr (.inr (.inr (.inr (.inl rfl))))
  | 5, _ => exact .inr (.inr (.inr (.inr (.inr (by decide)))))
  | 6, _ => exact .inr (.inr (.inr (.inr (.inr (by decide)))))
theorem gname_cell (k : Nat) (hk : k < 7) : (#[.string { data := #[99, 111, 117, 110, 116] }, .string { data := #[115, 117, 109] }, .string { data := #[109, 105, 110] }, .string { data := #[109, 97, 120] }, .string { data := #[108, 105, 115, 116] }, .string { data := #[97, 118, 103] }, .string { data := #[] }] : Array Value)[k]? = some (.string (gname k)) := by
  match k, hk with
  | 0, _ => rfl
  | 1, _ => rfl
  | 2, _ => rfl
  | 3, _ => rfl
  | 4, _ => rfl
  | 5, _ => rfl
  | 6, _ => rfl
theorem noP_fit (n : Int) : (noP n).1.fit := by
  show GV.fit ⟨0, false, 0, ⟨#[]⟩, []⟩
  simp only [GV.fit]
  exact ⟨by omega, by omega, by omega, by omega, by decide, by simp, trivial⟩
theorem numP_fit (n : Int) (h : inI n) : (numP n).1.fit := by
  show GV.fit ⟨2, false, n, ⟨#[]⟩, []⟩
  simp only [GV.fit]
  exact ⟨by omega, by omega, h.1, h.2, by decide, by simp, trivial⟩
theorem aggP_fit (x : ByteArray) (l : List GV) (hl : l.length ≤ 2147483647) (fl : fitL l) : (aggP x l).1.fit := by
  have hm : ∀ i, i < (sortG l).length → (vat (sortG l) i).fit := fun i h => vat_fit (sortG_fit fl) h
  unfold aggP
  split
  · exact noP_fit _
  · split
    · exact numP_fit _ (by unfold inI; omega)
    · split
      · unfold sumP
        split
        · split
          · rename_i h; exact numP_fit _ h
          · exact noP_fit _
        · exact noP_fit _
      · split
        · unfold listP
          split
          · show GV.fit ⟨4, false, 0, ⟨#[]⟩, sortG l⟩
            simp only [GV.fit]
            exact ⟨by omega, by omega, by omega, by omega, by decide, by rw [sortG_len]; exact hl, sortG_fit fl⟩
          · exact noP_fit _
        · split
          · unfold minP
            split
            · exact noP_fit _
            · exact hm _ (by omega)
          · unfold maxP
            split
            · exact noP_fit _
            · exact hm _ (by omega)
/-- what the rounds keep -/
def RelG (w wr : World) (o o2 : Obj) (bn : Nat) : Prop := Below w.heap.size w wr ∧ w.heap.size < bn ∧ wr.heap[w.heap.size]? = some o ∧ wr.heap[bn]? = some o2
theorem RelG.lt {w wr : World} {o o2 : Obj} {bn : Nat} (h : RelG w wr o o2 bn) : bn < wr.heap.size := (Array.getElem?_eq_some_iff.1 h.2.2.2).1
theorem RelG.step {w wr w' : World} {o o2 : Obj} {bn D : Nat} (h : RelG w wr o o2 bn) (hb : Below D wr w') (hD : bn < D) : RelG w w' o o2 bn :=
  ⟨h.1.trans (hb.mono (Nat.le_of_lt (Nat.lt_trans h.2.1 hD))), h.2.1, (hb.block _ (Nat.lt_trans h.2.1 hD)).trans h.2.2.1, (hb.block _ hD).trans h.2.2.2⟩
/-- the answer's lists, in memory that may be written over -/
def OwnG (wx : World) (lo : Nat) (s : Value) (l : List GV) : Prop := ∃ S : Nat → Prop, isR wx S s l ∧ ∀ b, S b → lo ≤ b ∧ b < wx.heap.size
theorem ownG_box {wC : World} {lo m b : Nat} {s : Value} {l : List GV} (h : isR wC (since lo wC) s l) (hb : b < lo) (hm : m ≤ lo) (a0 a1 a2 a3 a4 : Value) : OwnG (((((wC.setCell ⟨b, 0, none⟩ a0).setCell ⟨b, 1, none⟩ a1).setCell ⟨b, 2, none⟩ a2).setCell ⟨b, 3, none⟩ a3).setCell ⟨b, 4, none⟩ a4) m s l :=
  ⟨since lo wC, isR_set5 h (fun g => Nat.lt_irrefl b (Nat.lt_of_lt_of_le hb g.1)) _ _ _ _ _, fun c hc => ⟨Nat.le_trans hm hc.1, by simpa [World.setCell] using hc.2⟩⟩
theorem ownG_new {wC : World} {lo m : Nat} {s : Value} {l : List GV} (h : isR wC (since lo wC) s l) (hm : m ≤ lo) (o : Obj) : OwnG (wC.alloc o) m s l :=
  ⟨since lo wC, isR_below h ((Below.refl _ _).alloc (Nat.le_refl _) o) (fun b hb => hb.2), fun c hc => ⟨Nat.le_trans hm hc.1, lt_allocG hc.2⟩⟩
theorem ownG_below {wx w' : World} {lo : Nat} {s : Value} {l : List GV} (h : OwnG wx lo s l) (hb : Below wx.heap.size wx w') : OwnG w' lo s l := by
  obtain ⟨S, h1, h2⟩ := h
  exact ⟨S, isR_below h1 hb (fun b hb => (h2 b hb).2), fun b hs => ⟨(h2 b hs).1, Nat.lt_of_lt_of_le (h2 b hs).2 hb.size⟩⟩
theorem ownG_isR {wx : World} {lo : Nat} {s : Value} {l : List GV} (h : OwnG wx lo s l) : isR wx (since lo wx) s l := by
  obtain ⟨S, h1, h2⟩ := h
  exact isR_sub h1 h2
theorem ownG_isL {wx : World} {lo : Nat} {s : Value} {l : List GV} (h : OwnG wx lo s l) : isL wx 0 wx.heap.size s l := by
  obtain ⟨S, h1, h2⟩ := h
  exact isR_isL h1 (fun b hb => ⟨Nat.zero_le _, (h2 b hb).2⟩)
theorem set5G {w : World} {b : Nat} {a0 a1 a2 a3 a4 : Value} {TT : TypeId} (h : w.heap[b]? = some (.cells #[a0, a1, a2, a3, a4] TT (0, 0))) (c0 c1 c2 c3 c4 : Value) : (((((w.setCell ⟨b, 0, none⟩ c0).setCell ⟨b, 1, none⟩ c1).setCell ⟨b, 2, none⟩ c2).setCell ⟨b, 3, none⟩ c3).setCell ⟨b, 4, none⟩ c4).heap[b]? = some (.cells #[c0, c1, c2, c3, c4] TT (0, 0)) := set5R h c0 c1 c2 c3 c4
theorem isL_newG {w : World} {lo m : Nat} {s : Value} {l : List GV} (h : isL w m w.heap.size s l) (o : Obj) : isL (w.alloc o) 0 (w.alloc o).heap.size s l := isL_wide (isL_below h ((Below.refl _ _).alloc (Nat.le_refl _) o) (Nat.le_refl _)) (Nat.zero_le _) (le_allocG (Nat.le_refl _))
theorem isL_boxG {w : World} {lo b : Nat} {s : Value} {l : List GV} (h : isL w lo w.heap.size s l) (hb : b < lo) (a0 a1 a2 a3 a4 : Value) : isL (((((w.setCell ⟨b, 0, none⟩ a0).setCell ⟨b, 1, none⟩ a1).setCell ⟨b, 2, none⟩ a2).setCell ⟨b, 3, none⟩ a3).setCell ⟨b, 4, none⟩ a4) 0 (((((w.setCell ⟨b, 0, none⟩ a0).setCell ⟨b, 1, none⟩ a1).setCell ⟨b, 2, none⟩ a2).setCell ⟨b, 3, none⟩ a3).setCell ⟨b, 4, none⟩ a4).heap.size s l :=
  isL_wide (isL_set5lo h hb) (Nat.zero_le _) (by simp [World.setCell])
theorem boxG0 {w wA : World} {o : Obj} (h : Below (w.alloc o).drew.heap.size (w.alloc o).drew wA) : wA.heap[w.heap.size]? = some o := (h.block w.heap.size (by show _ < (w.alloc o).heap.size; simp)).trans heap_last
theorem boxG1 {w wC : World} {o : Obj} (h : Below (w.alloc o).heap.size (w.alloc o) wC) : wC.heap[w.heap.size]? = some o := (h.block w.heap.size (by simp)).trans heap_last
theorem roomG {w : World} {S : Nat → Prop} {a : Option Addr} {n c : Nat} {l : List GV} (h : isR w S (.slice a n c) l) (ha : a = none) : c = 0 := by
  obtain ⟨a', cap, b, off, e, hc, hr, _⟩ := isS_open h
  cases e
  rcases Nat.eq_zero_or_pos c with h0 | h0
  · exact h0
  · obtain ⟨_, _, _, _, e2, _⟩ := hr h0
    rw [ha] at e2
    cases e2
theorem lowG {w wC : World} {o : Obj} {s : Value} {l : List GV} (h : isL wC (w.alloc o).drew.heap.size wC.heap.size s l) : isL wC (w.heap.size + 1) wC.heap.size s l := isL_wide h (by show _ ≤ (w.alloc o).heap.size; simp) (Nat.le_refl _)
attribute [local go_sem ↓] Go.wp_at_zero Go.wp_at_succ
set_option maxHeartbeats 6400000 in
theorem vgath_any (l : List GV) (fl : fitL l) (hbk : bulkL l ≤ 1099511627776) (hll : l.length ≤ 2147483647) (s : Value) (w : World) (B : Nat) (hB : B ≤ w.heap.size) (ht : tabOk w) (hs : isL w 0 B s l) :
    Calls Tryz.prog 3 #[.agg #[s]] w fun e w' => e = .returned (.bool true) ∧ Below w.heap.size w w' := by
  obtain ⟨a, c, rfl⟩ := isL_form hs
  have HS := Lib.hid hs
  have HFL := Lib.hid fl
  have HT := Lib.hid ht
  have HLL := Lib.hid hll
  have hb0 := (Below.refl w.heap.size w).alloc (Nat.le_refl _) (.cells #[.slice a l.length c] 24)
  have HLT := Lib.hid (light_any l hbk (.slice a l.length c) _ B (Nat.le_trans hB hb0.size) (isL_below hs hb0 hB))
  have HB0 := Lib.hid hb0
  clear fl ht hs hbk hb0 hll
  have hfin : Hid (∀ w2, Below w.heap.size w w2 → Calls Tryz.prog 5 #[] w2 fun e w' => e = .returned (.bool true) ∧ Below w2.heap.size w2 w') := fun w2 h2 => wakesV_any w2 (tabOk_below HT.out h2)
  go_enter Tryz.func3, Tryz.ntmps3
  go_wp2_with fail
  refine HLT.out.mono ?_
  rintro e w1 ⟨rfl, hb1⟩
  have HB1 := Lib.hid (below_down HB0.out hb1 (Nat.le_refl _))
  have HX1 := Lib.hid ((hb1.block w.heap.size (by simp)).trans (heap_last (w := w)))
  have hs1 : w.heap.size + 1 ≤ w1.heap.size := by have := hb1.size; simpa using this
  clear hb1 HLT HB0
  cases hd0 : decide (vsize l ≤ 9000)
  · go_wp2_with fail
    refine (hfin.out _ HB1.out).mono ?_
    rintro e w2 ⟨rfl, hb2⟩
    go_wp2_with fail
    go_ret
    exact ⟨rfl, below_down HB1.out hb2 (Nat.le_refl _)⟩
  clear hd0
  go_upto_region 4 with fail
  obtain ⟨w2, hw2⟩ : ∃ v, v = w1.alloc (.cells #[.string { data := #[99, 111, 117, 110, 116] }, .string { data := #[115, 117, 109] }, .string { data := #[109, 105, 110] }, .string { data := #[109, 97, 120] }, .string { data := #[108, 105, 115, 116] }, .string { data := #[97, 118, 103] }, .string { data := #[] }] 9) := ⟨_, rfl⟩
  have hb2 : Below w1.heap.size w1 w2 := by rw [hw2]; exact (Below.refl _ _).alloc (Nat.le_refl _) _
  have hx2 : w2.heap[w1.heap.size]? = some (.cells #[.string { data := #[99, 111, 117, 110, 116] }, .string { data := #[115, 117, 109] }, .string { data := #[109, 105, 110] }, .string { data := #[109, 97, 120] }, .string { data := #[108, 105, 115, 116] }, .string { data := #[97, 118, 103] }, .string { data := #[] }] 9 (0, 0)) := by rw [hw2]; exact heap_last
  rw [← hw2]
  obtain ⟨bn, hbn⟩ : ∃ b, b = w1.heap.size := ⟨_, rfl⟩
  rw [← hbn] at hx2 ⊢
  obtain ⟨NM, hNM⟩ : ∃ o, o = (.cells #[.string { data := #[99, 111, 117, 110, 116] }, .string { data := #[115, 117, 109] }, .string { data := #[109, 105, 110] }, .string { data := #[109, 97, 120] }, .string { data := #[108, 105, 115, 116] }, .string { data := #[97, 118, 103] }, .string { data := #[] }] 9 (0, 0) : Obj) := ⟨_, rfl⟩
  obtain ⟨PB, hPB⟩ : ∃ o, o = ((.cells #[.slice a l.length c] 24 (0, 0)) : Obj) := ⟨_, rfl⟩
  have HNM := Lib.hid hNM
  have HPB := Lib.hid hPB
  have HR0 : Hid (RelG w w2 PB NM bn) := ⟨below_down HB1.out hb2 (Nat.le_refl _), by omega, by rw [hPB]; exact (hb2.block _ (by omega)).trans HX1.out, by rw [hNM]; exact hx2⟩
  clear hw2 hb2 hx2 hbn HB1 HX1 hs1 hNM hPB
  go_wp2_with fail
  go_loopw [4] (fun i wr => ∃ k : Nat, k ≤ 7 ∧ i = .int .i64 k ∧ Hid (RelG w wr PB NM bn)) (fun i _ => 7 - (intOf i).toNat)
  case atStart => exact ⟨0, by omega, rfl, HR0⟩
  case round =>
    obtain ⟨k, hk, rfl, HR⟩ := hrel
    by_cases h7 : k < 7
    rotate_left
    · obtain rfl : k = 7 := by omega
      go_wp2_with fail
      refine (hfin.out _ HR.out.1).mono ?_
      rintro e w3 ⟨rfl, hb3⟩
      go_wp2_with fail
      go_ret
      exact ⟨rfl, below_down HR.out.1 hb3 (Nat.le_refl _)⟩
    have HOK := Lib.hid (gname_ok k h7)
    obtain ⟨x, hx⟩ : ∃ x, x = gname k := ⟨_, rfl⟩
    have hnc := gname_cell k h7
    rw [← hx] at HOK hnc
    have HNC := Lib.hid hnc
    clear hx hnc
    obtain ⟨R, hRR⟩ : ∃ R, R = aggP x l := ⟨_, rfl⟩
    have HRR := Lib.hid hRR
    have HRF : Hid (R.1.fit) := by rw [Hid, hRR]; exact aggP_fit _ _ HLL.out HFL.out
    clear hRR
    have k7 : (k : Int) < 7 := by omega
    go_upto_region 7 with fail
    have hw0 : wr.heap.size ≤ wr.heap.size := Nat.le_refl _
    have hlt := HR.out.lt
    have hlw : w.heap.size < wr.heap.size := Nat.lt_trans HR.out.2.1 hlt
    have hc1 : wr.cell? ⟨bn, k, none⟩ = some (.string x) := (cell_of (HNM.out ▸ HR.out.2.2.2) k).trans HNC.out
    have hc2 : wr.cell? ⟨w.heap.size, 0, none⟩ = some (.slice a l.length c) := (cell_of (HPB.out ▸ HR.out.2.2.1) 0).trans rfl
    have SH : Hid (∀ w' : World, Below wr.heap.size wr w' → (w'.cell? ⟨bn, k, none⟩ = some (.string x) ∧ w'.cell? ⟨w.heap.size, 0, none⟩ = some (.slice a l.length c) ∧ w.heap.size < w'.heap.size ∧ bn < w'.heap.size)) := fun w' h => ⟨(h.cell (p := ⟨bn, k, none⟩) hlt).trans hc1, (h.cell (p := ⟨w.heap.size, 0, none⟩) hlw).trans hc2, Nat.lt_of_lt_of_le hlw h.size, Nat.lt_of_lt_of_le hlt h.size⟩
    have HCV : Hid (∀ w' : World, Below wr.heap.size wr w' → Calls Tryz.prog 7 #[.slice a l.length c] w' fun e w3 => ∃ a1 c1, e = .returned (.slice a1 l.length c1) ∧ isR w3 (since w'.heap.size w3) (.slice a1 l.length c1) l ∧ Below w'.heap.size w' w3) := fun w' h => by
      have hb := HR.out.1.trans (h.mono (Nat.le_of_lt hlw))
      exact zCopyVals_any l HLL.out HFL.out (.slice a l.length c) w' B (Nat.le_trans hB hb.size) (isL_below HS.out hb hB)
    have HAG : Hid (∀ (w' : World) (a1 : Option Addr) (c1 : Nat), isL w' 0 w'.heap.size (.slice a1 l.length c1) l → (a1 = none → c1 = 0) → Calls Tryz.prog 6 #[.string x, .slice a1 l.length c1] w' (GivesO w' R)) := fun w' a1 c1 h h0 => by
      rw [HRR.out]
      exact agg_all x HOK.out l HLL.out HFL.out _ w' w'.heap.size (Nat.le_refl _) h (fun n c e => by cases e; exact h0 rfl)
    go_cut [5, 6] (fun s5 s6 wx => ∃ (p : Nat) (a2 : Option Addr) (c2 : Nat), s5 = .pointer (some ⟨p, 0, none⟩) ∧ s6 = .int .i64 R.2 ∧ wr.heap.size ≤ p ∧ Hid (wx.heap[p]? = some (.cells #[.int .i64 R.1.k, .bool R.1.b, .int .i64 R.1.n, .string R.1.t, .slice a2 R.1.l.length c2] 29 (0, 0))) ∧ Hid (OwnG wx wr.heap.size (.slice a2 R.1.l.length c2) R.1.l) ∧ Hid (Below wr.heap.size wr wx))
    case first =>
      go_region_held3 (fun w' => w'.cell? ⟨bn, k, none⟩ = some (.string x) ∧ w'.cell? ⟨w.heap.size, 0, none⟩ = some (.slice a l.length c) ∧ w.heap.size < w'.heap.size ∧ bn < w'.heap.size)
        (first
          | (with_reducible refine SH.out _ ?_; repeat (with_reducible first | exact HBc.out | exact HBa.out | exact Below.refl _ _ | refine Below.setCell (p := ⟨wr.heap.size, _, none⟩) ?_ hw0 _ | refine Below.setCell (p := ⟨wA.heap.size, _, none⟩) ?_ hwa _ | refine Below.setCell (p := ⟨wC.heap.size, _, none⟩) ?_ hwc _ | refine Below.alloc ?_ hw0 _ | refine Below.alloc ?_ hwa _ | refine Below.alloc ?_ (le_allocG hwa) _ | refine Below.alloc ?_ hwc _ | refine Below.drew ?_)))
        (first
          | (have hguard := HBa
             clear hguard
             go_simp
             go_at_call 6
             refine (HAG.out _ a1 c1 ?hl ?hn).mono ?_
             case hl => first | exact HI1.out | exact isL_wide (isL_below HI1.out ((Below.refl _ _).alloc (Nat.le_refl _) _) (Nat.le_refl _)) (Nat.le_refl _) (le_allocG (Nat.le_refl _))
             case hn => exact HN1.out
             rintro e wC ⟨aC, cC, rfl, hrC, hbC⟩
             have hbc : Below wr.heap.size wr wC := by
               first
                 | exact HBa.out.trans (hbC.mono hwa)
                 | exact (HBa.out.alloc hwa _).trans (hbC.mono (le_allocG hwa))
             have HBc := Lib.hid hbc
             have hwc : wr.heap.size ≤ wC.heap.size := hbc.size
             have lc : w.heap.size < wC.heap.size := Nat.lt_of_lt_of_le hlw hwc
             have lcn : bn < wC.heap.size := Nat.lt_of_lt_of_le hlt hwc
             have HRC := Lib.hid hrC
             first
               | (with_reducible have hz := boxG1 hbC
                  have HZc := Lib.hid hz
                  have qz := fun o => cell_of hz o
                  have fz := fun o => frozen_of hz o
                  have lz : wA.heap.size < wC.heap.size := (Array.getElem?_eq_some_iff.1 hz).1
                  clear hz)
               | (have hz := (hbC.block wr.heap.size hwra).trans HZ0.out
                  have HZc := Lib.hid hz
                  have qz := fun o => cell_of hz o
                  have fz := fun o => frozen_of hz o
                  have lz : wr.heap.size < wC.heap.size := (Array.getElem?_eq_some_iff.1 hz).1
                  clear hz)
               | skip
             simp only [GV.agg]
             clear hbC hrC hbc)
          | (go_simp
             go_at_call 7
             refine (HCV.out _ ?hb).mono ?_
             case hb => repeat (with_reducible first | exact Below.refl _ _ | refine Below.alloc ?_ hw0 _ | refine Below.drew ?_)
             rintro e wA ⟨a1, c1, rfl, hrA, hbA⟩
             have hba : Below wr.heap.size wr wA := by
               first
                 | exact (Below.refl _ wr).drew.trans (hbA.mono hw0)
                 | exact ((Below.refl _ wr).alloc hw0 _).drew.trans (hbA.mono (le_allocG hw0))
             have HBa := Lib.hid hba
             have hwa : wr.heap.size ≤ wA.heap.size := hba.size
             have la : w.heap.size < wA.heap.size := Nat.lt_of_lt_of_le hlw hwa
             have lan : bn < wA.heap.size := Nat.lt_of_lt_of_le hlt hwa
             have na : w.heap.size ≠ wA.heap.size := by omega
             have nan : bn ≠ wA.heap.size := by omega
             have HI1 : Hid (isL wA 0 wA.heap.size (.slice a1 l.length c1) l) := isR_isL hrA (fun b hb => ⟨Nat.zero_le _, hb.2⟩)
             have HN1 : Hid (a1 = none → c1 = 0) := roomG hrA
             first
               | (with_reducible have hz := boxG0 hbA
                  have HZ0 := Lib.hid hz
                  have hwra : wr.heap.size < wA.heap.size := (Array.getElem?_eq_some_iff.1 hz).1
                  clear hz)
               | skip
             clear hbA hba hrA))
      all_goals
        clear SH HAG HCV
        go_wp2_with fail
        go_meet
        first
          | exact ⟨wr.heap.size, aC, cC, rfl, rfl, Nat.le_refl _, set5G HZc.out _ _ _ _ _, ownG_box HRC.out hwra (Nat.le_of_lt hwra) _ _ _ _ _, below_set5 HBc.out (Nat.le_refl _) _ _ _ _ _⟩
          | exact ⟨wA.heap.size, aC, cC, rfl, rfl, hwa, set5G HZc.out _ _ _ _ _, ownG_box HRC.out (by simp) (le_allocG hwa) _ _ _ _ _, below_set5 HBc.out hwa _ _ _ _ _⟩
          | exact ⟨wC.heap.size, aC, cC, rfl, rfl, hwc, heap_last, ownG_new HRC.out hwa _, HBc.out.alloc hwc _⟩
    case rest =>
      obtain ⟨p, a2, c2, rfl, rfl, hp, HP3, HO3, HBC⟩ := hcut
      obtain ⟨w3, hw3⟩ : ∃ v, v = wc := ⟨_, rfl⟩
      rw [← hw3] at HP3 HO3 HBC ⊢
      have H3 := Lib.hid (HR.out.step HBC.out hlt)
      have HBR := Lib.hid HBC.out
      clear SH HCV HAG hw3 HBC hc1 hc2 hw0
      go_upto_region 8 with fail
      have hw0 : w3.heap.size ≤ w3.heap.size := Nat.le_refl _
      have hlt3 := H3.out.lt
      have hlw3 : w.heap.size < w3.heap.size := Nat.lt_trans H3.out.2.1 hlt3
      have hc1 : w3.cell? ⟨bn, k, none⟩ = some (.string x) := (cell_of (HNM.out ▸ H3.out.2.2.2) k).trans HNC.out
      have hc2 : w3.cell? ⟨w.heap.size, 0, none⟩ = some (.slice a l.length c) := (cell_of (HPB.out ▸ H3.out.2.2.1) 0).trans rfl
      have SH : Hid (∀ w' : World, Below w3.heap.size w3 w' → (w'.cell? ⟨bn, k, none⟩ = some (.string x) ∧ w'.cell? ⟨w.heap.size, 0, none⟩ = some (.slice a l.length c) ∧ w.heap.size < w'.heap.size ∧ bn < w'.heap.size)) := fun w' h => ⟨(h.cell (p := ⟨bn, k, none⟩) hlt3).trans hc1, (h.cell (p := ⟨w.heap.size, 0, none⟩) hlw3).trans hc2, Nat.lt_of_lt_of_le hlw3 h.size, Nat.lt_of_lt_of_le hlt3 h.size⟩
      have HRA : Hid (∀ w' : World, Below w3.heap.size w3 w' → Calls Tryz.prog 8 #[.string x, .slice a l.length c] w' (RefP w' R)) := fun w' h => by
        have hb := H3.out.1.trans (h.mono (Nat.le_of_lt hlw3))
        rw [HRR.out]
        exact rAgg_all x HOK.out l HLL.out HFL.out (.slice a l.length c) w' B (Nat.le_trans hB hb.size) (isL_below HS.out hb hB)
      go_cut [7, 8] (fun s7 s8 wx => ∃ (q : Nat) (a4 : Option Addr) (c4 : Nat), s7 = .pointer (some ⟨q, 0, none⟩) ∧ s8 = .int .i64 R.2 ∧ w3.heap.size ≤ q ∧ Hid (wx.heap[q]? = some (.cells #[.int .i64 R.1.k, .bool R.1.b, .int .i64 R.1.n, .string R.1.t, .slice a4 R.1.l.length c4] 29 (0, 0))) ∧ Hid (isL wx 0 wx.heap.size (.slice a4 R.1.l.length c4) R.1.l) ∧ Hid (Below w3.heap.size w3 wx))
      case first =>
        go_region_held3 (fun w' => w'.cell? ⟨bn, k, none⟩ = some (.string x) ∧ w'.cell? ⟨w.heap.size, 0, none⟩ = some (.slice a l.length c) ∧ w.heap.size < w'.heap.size ∧ bn < w'.heap.size)
          (first
            | (with_reducible refine SH.out _ ?_; repeat (with_reducible first | exact HBc.out | exact Below.refl _ _ | refine Below.setCell (p := ⟨w3.heap.size, _, none⟩) ?_ hw0 _ | refine Below.setCell (p := ⟨wC.heap.size, _, none⟩) ?_ hwc _ | refine Below.alloc ?_ hw0 _ | refine Below.alloc ?_ hwc _ | refine Below.drew ?_)))
          (first
            | (go_simp
               go_at_call 8
               refine (HRA.out _ ?hb).mono ?_
               case hb => repeat (with_reducible first | exact Below.refl _ _ | refine Below.alloc ?_ hw0 _ | refine Below.drew ?_)
               rintro e wC ⟨sC, rfl, hrC, hbC⟩
               obtain ⟨aC, cC, rfl⟩ := isL_form hrC
               have hbc : Below w3.heap.size w3 wC := by
                 first
                   | exact (Below.refl _ w3).drew.trans (hbC.mono hw0)
                   | exact ((Below.refl _ w3).alloc hw0 _).drew.trans (hbC.mono (le_allocG hw0))
               have HBc := Lib.hid hbc
               have hwc : w3.heap.size ≤ wC.heap.size := hbc.size
               have lc : w.heap.size < wC.heap.size := Nat.lt_of_lt_of_le hlw3 hwc
               have lcn : bn < wC.heap.size := Nat.lt_of_lt_of_le hlt3 hwc
               first
                 | (with_reducible have hz := boxG0 hbC
                    have HZc := Lib.hid hz
                    have HRC := Lib.hid (lowG hrC)
                    have qz := fun o => cell_of hz o
                    have fz := fun o => frozen_of hz o
                    have lz : w3.heap.size < wC.heap.size := (Array.getElem?_eq_some_iff.1 hz).1
                    clear hz)
                 | (have HRC := Lib.hid (isL_wide hrC (Nat.zero_le _) (Nat.le_refl _)))
               simp only [GV.agg]
               clear hbC hrC hbc))
        all_goals
          clear SH HRA
          go_wp2_with fail
          go_meet
          first
            | exact ⟨w3.heap.size, aC, cC, rfl, rfl, Nat.le_refl _, set5G HZc.out _ _ _ _ _, isL_boxG HRC.out (Nat.lt_succ_self _) _ _ _ _ _, below_set5 HBc.out (Nat.le_refl _) _ _ _ _ _⟩
            | exact ⟨wC.heap.size, aC, cC, rfl, rfl, hwc, heap_last, isL_newG (lo := 0) HRC.out _, HBc.out.alloc hwc _⟩
      case rest =>
        obtain ⟨q, a4, c4, rfl, rfl, hq, HQ4, HL4, HBC⟩ := hcut
        obtain ⟨w4, hw4⟩ : ∃ v, v = wc := ⟨_, rfl⟩
        rw [← hw4] at HQ4 HL4 HBC ⊢
        have H4 := Lib.hid (H3.out.step HBC.out hlt3)
        have hp3 : p < w3.heap.size := (Array.getElem?_eq_some_iff.1 HP3.out).1
        have HP4 := Lib.hid ((HBC.out.block p hp3).trans HP3.out)
        have HO4 := Lib.hid (ownG_below HO3.out HBC.out)
        have hw34 := HBC.out.size
        clear SH HRA hw4 HBC hc1 hc2 hw0 HP3 HO3
        have q4 := fun o => cell_of HQ4.out o
        have p4 := fun o => cell_of HP4.out o
        have lp4 : p < w4.heap.size := Nat.lt_of_lt_of_le hp3 hw34
        have lq4 : q < w4.heap.size := (Array.getElem?_eq_some_iff.1 HQ4.out).1
        have hne : (R.2 != R.2) = false := by simp
        go_wp2_with fail
        refine (zSame_any R.1 R.1 HRF.out HRF.out (.slice a2 R.1.l.length c2) (.slice a4 R.1.l.length c4) w4 w4.heap.size (Nat.le_refl _) (ownG_isL HO4.out) HL4.out).mono ?_
        rintro e w5 ⟨rfl, hb5⟩
        rw [(same_iff R.1 R.1).2 rfl]
        have H5 := Lib.hid (H4.out.step hb5 H4.out.lt)
        have HO5 := Lib.hid (ownG_below HO4.out hb5)
        have hx5 := (hb5.block p lp4).trans HP4.out
        have p5 := fun o => cell_of hx5 o
        have lp5 : p < w5.heap.size := Nat.lt_of_lt_of_le lp4 hb5.size
        have hle5 : wr.heap.size ≤ w5.heap.size := Nat.le_trans hp (Nat.le_of_lt lp5)
        clear hb5 hx5 p4 q4 hne
        go_wp2_with fail
        refine (over_any R.1 HRF.out wr.heap.size (.slice a2 R.1.l.length c2) w5 hle5 (ownG_isR HO5.out)).mono ?_
        rintro e w6 ⟨rfl, hb6⟩
        have H6 := Lib.hid (H5.out.step hb6 hlt)
        clear hb6 p5
        go_wp2_with fail
        go_roundw
        case rel => exact ⟨k + 1, by omega, by go_num, H6⟩
        case measure => simp [intOf]; omega
end Go.Proofs.YtaclkegoaajdgaaGreatDoor
