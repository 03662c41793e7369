/-
  The reference's reader: so many bytes from the front, and a number of them, the highest first; or the reader is bad. Conditions: at most eight bytes a number.
-/
import Derived.Test.YtkpfaeodgjbodaaGreatDoorRdL
namespace Go.Proofs.YtkpfaeodgjbodaaGreatDoor
open Go Go.RowKit
set_option maxRecDepth 100000
set_option linter.unusedVariables false
/-- the reader is bad -/
def RBad (w' : World) (rb : Nat) : Prop := ∃ a n c, w'.heap[rb]? = some (.cells #[.slice a n c, .bool true] 53 (0, 0))
/-- the reader is good, r is left -/
def RGood (w' : World) (rb hi : Nat) (r : List Nat) : Prop := ∃ a c, w'.heap[rb]? = some (.cells #[.slice (some a) r.length c, .bool false] 53 (0, 0)) ∧ isB w' hi (some a) r ∧ r.length ≤ c
set_option maxHeartbeats 800000 in
theorem take_bad (rb m : Nat) (w : World) (h : RBad w rb) :
    Calls Tryz.prog 44 #[.pointer (some ⟨rb, 0, none⟩), .int .i64 m] w fun e w' => e = .returned (.slice none 0 0) ∧ RBad w' rb ∧ Kg rb w w' := by
  obtain ⟨a, n, c, hh⟩ := h
  have q := fun o => cell_of hh o
  have f := fun o => frozen_of hh o
  have l0 : rb < w.heap.size := (Array.getElem?_eq_some_iff.1 hh).1
  have HH := Lib.hid hh
  clear hh
  go_enter Tryz.func44, Tryz.ntmps44
  go_wp2_with fail
  go_ret
  exact ⟨rfl, ⟨_, _, _, heap_setCell2 HH.out⟩, Kg.set (Kg.refl _ _)⟩
set_option maxHeartbeats 800000 in
theorem take_long (rb m : Nat) (a : Option Addr) (n c : Nat) (w : World) (hm : n < m) (hh : w.heap[rb]? = some (.cells #[.slice a n c, .bool false] 53 (0, 0))) :
    Calls Tryz.prog 44 #[.pointer (some ⟨rb, 0, none⟩), .int .i64 m] w fun e w' => e = .returned (.slice none 0 0) ∧ RBad w' rb ∧ Kg rb w w' := by
  have q := fun o => cell_of hh o
  have f := fun o => frozen_of hh o
  have l0 : rb < w.heap.size := (Array.getElem?_eq_some_iff.1 hh).1
  have HH := Lib.hid hh
  have d0 : decide ((m : Int) < 0) = false := by simp
  have d1 : decide ((n : Int) < (m : Int)) = true := by simp; omega
  have d2 : decide (n < m) = true := by simp; omega
  clear hh
  go_enter Tryz.func44, Tryz.ntmps44
  go_wp2_with fail
  go_ret
  exact ⟨rfl, ⟨_, _, _, heap_setCell2 HH.out⟩, Kg.set (Kg.refl _ _)⟩
set_option maxHeartbeats 1600000 in
theorem take_ok (rb hi m : Nat) (a : Addr) (bs : List Nat) (c : Nat) (w : World) (hm : m ≤ bs.length) (hc : bs.length ≤ c) (hhi : hi ≤ rb) (hB : isB w hi (some a) bs) (hh : w.heap[rb]? = some (.cells #[.slice (some a) bs.length c, .bool false] 53 (0, 0))) :
    Calls Tryz.prog 44 #[.pointer (some ⟨rb, 0, none⟩), .int .i64 m] w fun e w' => e = .returned (.slice (some a) m c) ∧ RGood w' rb hi (bs.drop m) ∧ Kg rb w w' := by
  have q := fun o => cell_of hh o
  have f := fun o => frozen_of hh o
  have l0 : rb < w.heap.size := (Array.getElem?_eq_some_iff.1 hh).1
  have HH := Lib.hid hh
  have HB := Lib.hid hB
  have d0 : decide ((m : Int) < 0) = false := by simp
  have d1 : decide ((bs.length : Int) < (m : Int)) = false := by simp; omega
  have d2 : decide (bs.length < m) = false := by simp; omega
  have w1 : (m : Int) ≤ (c : Int) := by omega
  have w2 : m ≤ c := by omega
  have w3 : m ≤ bs.length := by omega
  have e1 : (bs.drop m).length = bs.length - m := List.length_drop
  have HE := Lib.hid e1
  have hcz : c - m = 0 ∨ ¬ c - m = 0 := by omega
  clear hh hB e1
  rcases hcz with hcz | hcz
  · go_enter Tryz.func44, Tryz.ntmps44
    go_wp2_with fail
    go_ret
    refine ⟨rfl, ⟨a, 0, by rw [HE.out]; exact heap_setCell2 HH.out, fun h0 => by have := HE.out; omega, by have := HE.out; omega⟩, Kg.set (Kg.refl _ _)⟩
  · go_enter Tryz.func44, Tryz.ntmps44
    go_wp2_with fail
    go_ret
    refine ⟨rfl, ⟨a.add m, c - m, by rw [HE.out]; exact heap_setCell2 HH.out, ?_, by have := HE.out; omega⟩, Kg.set (Kg.refl _ _)⟩
    by_cases hr0 : 0 < bs.length
    · obtain ⟨b, off, e2, hb, _⟩ := HB.out hr0
      cases e2
      rw [addr_add]
      exact isB_kg (isB_drop HB.out m) (Kg.set (Kg.refl _ _)) hhi (by omega)
    · exact fun h0 => by simp at h0; omega
theorem or_byte_i (m c : Nat) (hc : c < 256) : bits .or .i64 (wrap64 (wrap64 (m : Int) * 256)) (c : Int) = wrap64 ((m * 256 + c : Nat) : Int) := by
  show IntKind.i64.wrap ((BitVec.ofInt 64 (wrap64 (wrap64 (m : Int) * 256)) ||| BitVec.ofInt 64 (c : Int)).toNat : Int) = _
  obtain ⟨k, hk⟩ : ∃ k, k = m % 72057594037927936 := ⟨_, rfl⟩
  have h1 : (BitVec.ofInt 64 (wrap64 (wrap64 (m : Int) * 256))).toNat = k * 256 := by
    rw [BitVec.toNat_ofInt]; unfold wrap64; omega
  have h2 : (BitVec.ofInt 64 (c : Int)).toNat = c := by
    rw [BitVec.toNat_ofInt]; omega
  have h3 : k * 256 ||| c = k * 256 + c := by
    have := Nat.shiftLeft_add_eq_or_of_lt (i := 8) (b := c) (by omega) k
    rw [Nat.shiftLeft_eq] at this
    exact this.symm
  rw [BitVec.toNat_or, h1, h2, h3, IntWalk.i64_left]
  unfold wrap64
  omega
/-- what num tells, and what is left -/
def RnP (w' : World) (rb hi : Nat) (o : Option (Nat × List Nat)) (e : Ending) : Prop := match o with
  | none => e = .returned (.int .i64 0) ∧ RBad w' rb
  | some (m, r) => e = .returned (.int .i64 (ofU m)) ∧ RGood w' rb hi r
theorem isB_kgd {w w' : World} {g hi : Nat} {a : Option Addr} {bs : List Nat} (h : isB w hi a bs) (hk : Kg g w w') (hg : hi ≤ g) (hw : g < w.heap.size) : isB w' hi a bs := isB_kg h hk hg (by omega)
set_option maxHeartbeats 1600000 in
theorem rnum_any (rb hi : Nat) (a : Option Addr) (c : Nat) (bs : List Nat) (width : Nat) (w : World) (hh : w.heap[rb]? = some (.cells #[.slice a bs.length c, .bool false] 53 (0, 0))) (hhi : hi ≤ rb) (hB : isB w hi a bs) (hc : bs.length ≤ c) (hb : ∀ b ∈ bs, b < 256) (hw : 1 ≤ width ∧ width ≤ 8) :
    Calls Tryz.prog 43 #[.pointer (some ⟨rb, 0, none⟩), .int .i64 width] w fun e w' => RnP w' rb hi (takeN width bs) e ∧ Kg rb w w' := by
  have l0 : rb < w.heap.size := (Array.getElem?_eq_some_iff.1 hh).1
  have HH := Lib.hid hh
  have HB := Lib.hid hB
  have HBY := Lib.hid hb
  clear hh hB hb
  by_cases hlt : bs.length < width
  · have hT : Hid (takeN width bs = none) := by rw [Hid, takeN, if_pos hlt]
    go_enter Tryz.func43, Tryz.ntmps43
    go_wp2_with fail
    refine (take_long rb width a bs.length c w hlt HH.out).mono ?_
    rintro e w1 ⟨rfl, hbad, hk⟩
    have HBAD := Lib.hid hbad
    have HK := Lib.hid hk
    clear hbad hk
    go_wp2_with fail
    go_loopw [6, 7] (fun v i wr => v = .int .i64 0 ∧ i = .int .i64 0 ∧ wr = w1) (fun _ _ _ => 0)
    case atStart => exact ⟨rfl, rfl, rfl⟩
    case round =>
      obtain ⟨rfl, rfl, rfl⟩ := hrel
      go_wp2_with fail
      go_ret
      rw [hT.out]
      exact ⟨⟨rfl, HBAD.out⟩, HK.out⟩
  · have hT : Hid (takeN width bs = some (unBe (bs.take width), bs.drop width)) := by rw [Hid, takeN, if_neg hlt]
    obtain ⟨b, off, rfl, hbh, hcell⟩ := HB.out (by omega)
    have w3 : width ≤ bs.length := by omega
    go_enter Tryz.func43, Tryz.ntmps43
    go_wp2_with fail
    refine (take_ok rb hi width ⟨b, off, none⟩ bs c w w3 hc hhi HB.out HH.out).mono ?_
    rintro e w1 ⟨rfl, hgood, hk⟩
    have hcell1 : ∀ i (h : i < bs.length), w1.cell? ⟨b, off + i, none⟩ = some (.int .u8 (bs[i] : Int)) := fun i h => (World.cell?_of_block (a := ⟨b, off + i, none⟩) (hk.2.2.2.2 b (by omega) (by omega))).trans (hcell i h)
    have HCL := Lib.hid hcell1
    have HGOOD := Lib.hid hgood
    have HK := Lib.hid hk
    clear hgood hk hcell hcell1
    go_wp2_with fail
    go_loopw [6, 7] (fun v i wr => ∃ k : Nat, k ≤ width ∧ i = .int .i64 k ∧ v = .int .i64 (ofU (unBe (bs.take k))) ∧ wr = w1) (fun _ i _ => width - (intOf i).toNat)
    case atStart => exact ⟨0, Nat.zero_le _, rfl, by rw [List.take_zero]; simp [unBe, ofU, wrap64], rfl⟩
    case round =>
      obtain ⟨k, hk, rfl, rfl, rfl⟩ := hrel
      by_cases hkw : k < width
      · have hkl : k < bs.length := by omega
        obtain ⟨m, hm⟩ : ∃ m, m = unBe (bs.take k) := ⟨_, rfl⟩
        obtain ⟨d, hd⟩ : ∃ d, d = bs[k] := ⟨_, rfl⟩
        have hck := HCL.out k hkl
        rw [← hd] at hck
        have hd256 : d < 256 := by rw [hd]; exact HBY.out _ (List.getElem_mem hkl)
        rw [← hm]
        have ho := or_byte_i m d hd256
        have hnx : unBe (bs.take (k + 1)) = m * 256 + d := by rw [unBe_take bs k hkl, ← hm, ← hd]
        obtain ⟨V, hV⟩ : ∃ V, V = ofU m := ⟨_, rfl⟩
        obtain ⟨V2, hV2⟩ : ∃ V2, V2 = ofU (m * 256 + d) := ⟨_, rfl⟩
        have ho1 : bits .or .i64 (wrap64 (V * 256)) (d : Int) = V2 := by rw [hV, hV2]; exact ho
        have ho2 : bits .or .i64 (IntKind.i64.wrap (V * 256)) (d : Int) = V2 := by rw [IntWalk.i64_left]; exact ho1
        rw [← hV]
        have HNX : Hid (ofU (unBe (bs.take (k + 1))) = V2) := by rw [Hid, hnx, hV2]
        clear hm hd hnx hV hV2 ho
        go_wp2_with fail
        go_roundw
        case rel => exact ⟨k + 1, by omega, by go_num, by first | (rw [HNX.out]; done) | (rw [HNX.out]; simp; done), by first | rfl | trivial⟩
        case measure => simp [intOf]; omega
      · obtain rfl : k = width := by omega
        go_wp2_with fail
        go_ret
        rw [hT.out]
        exact ⟨⟨rfl, HGOOD.out⟩, HK.out⟩
end Go.Proofs.YtkpfaeodgjbodaaGreatDoor
