/-
  A reader's number: so many bytes from the front, the highest first; or the reader is bad. Conditions: at most eight bytes.
-/
import Derived.Test.YtkpfaeodgjbodaaGreatDoorCodeP
import Derived.Test.YtkpfaeodgjbodaaGreatDoorRowK
import Derived.Laws.Bits64b
namespace Go.Proofs.YtkpfaeodgjbodaaGreatDoor
open Go Go.RowKit
set_option maxRecDepth 100000
set_option linter.unusedVariables false
/-- the address reads as these bytes, in a block below hi -/
def isB (w : World) (hi : Nat) (a : Option Addr) (bs : List Nat) : Prop := 0 < bs.length → ∃ b off, a = some ⟨b, off, none⟩ ∧ b < hi ∧ ∀ i (h : i < bs.length), w.cell? ⟨b, off + i, none⟩ = some (.int .u8 (bs[i] : Int))
theorem isB_kg {w w' : World} {g hi : Nat} {a : Option Addr} {bs : List Nat} (h : isB w hi a bs) (hk : Kg g w w') (hg : hi ≤ g) (hw : hi ≤ w.heap.size) : isB w' hi a bs := fun h0 => by
  obtain ⟨b, off, e, hb, hc⟩ := h h0
  exact ⟨b, off, e, hb, fun i hi' => (World.cell?_of_block (a := ⟨b, off + i, none⟩) (hk.2.2.2.2 b (by omega) (by omega))).trans (hc i hi')⟩
theorem isB_drop {w : World} {hi b off : Nat} {bs : List Nat} (h : isB w hi (some ⟨b, off, none⟩) bs) (n : Nat) : isB w hi (some ⟨b, off + n, none⟩) (bs.drop n) := fun h0 => by
  have hl : n < bs.length := by simp at h0; omega
  obtain ⟨b', off', e, hb, hc⟩ := h (by omega)
  cases e
  refine ⟨b, off + n, rfl, hb, fun i hi' => ?_⟩
  have hi2 : n + i < bs.length := by simp at hi'; omega
  rw [Nat.add_assoc, hc (n + i) hi2, List.getElem_drop]
theorem or_byte (m c : Nat) (hm : m < 72057594037927936) (hc : c < 256) : bits .or .u64 ((m : Int) * 256) (c : Int) = ((m * 256 + c : Nat) : Int) := by
  show IntKind.u64.wrap ((BitVec.ofInt 64 ((m : Int) * 256) ||| BitVec.ofInt 64 (c : Int)).toNat : Int) = _
  have h1 : (BitVec.ofInt 64 ((m : Int) * 256)).toNat = m * 256 := by
    rw [BitVec.toNat_ofInt]; omega
  have h2 : (BitVec.ofInt 64 (c : Int)).toNat = c := by
    rw [BitVec.toNat_ofInt]; omega
  have h3 : m * 256 ||| c = m * 256 + c := by
    have := Nat.shiftLeft_add_eq_or_of_lt (i := 8) (b := c) (by omega) m
    rw [Nat.shiftLeft_eq] at this
    exact this.symm
  rw [BitVec.toNat_or, h1, h2, h3]
  show ((m * 256 + c : Nat) : Int) % 18446744073709551616 = _
  omega
theorem unBe_take (bs : List Nat) (k : Nat) (h : k < bs.length) : unBe (bs.take (k + 1)) = unBe (bs.take k) * 256 + bs[k] := by
  rw [List.take_add_one, List.getElem?_eq_getElem h]
  unfold unBe
  rw [List.foldl_append]
  rfl
theorem unBe_bound (bs : List Nat) (k : Nat) (hb : ∀ b ∈ bs, b < 256) : unBe (bs.take k) < 2 ^ (8 * k) := by
  have := unBe_lt (bs.take k) 0 (fun b h => hb b (List.mem_of_mem_take h))
  have h2 : 2 ^ (8 * (bs.take k).length) ≤ 2 ^ (8 * k) := Nat.pow_le_pow_right (by omega) (by have := List.length_take_le k bs; omega)
  unfold unBe
  omega
/-- what is left of a reader -/
def RdN (w' : World) (rb hi : Nat) (o : Option (Nat × List Nat)) (e : Ending) : Prop := match o with
  | none => e = .returned (.int .u64 0) ∧ ∃ a n c, w'.heap[rb]? = some (.cells #[.slice a n c, .bool true] 49 (0, 0))
  | some (m, r) => e = .returned (.int .u64 (m : Int)) ∧ ∃ a c, w'.heap[rb]? = some (.cells #[.slice (some a) r.length c, .bool false] 49 (0, 0)) ∧ isB w' hi (some a) r ∧ r.length ≤ c
set_option maxHeartbeats 1600000 in
theorem number_any (rb hi : Nat) (a : Option Addr) (c : Nat) (bs : List Nat) (width : Nat) (w : World) (hh : w.heap[rb]? = some (.cells #[.slice a bs.length c, .bool false] 49 (0, 0))) (hhi : hi ≤ rb) (hB : isB w hi a bs) (hc : bs.length ≤ c) (hb : ∀ b ∈ bs, b < 256) (hl : bs.length ≤ 2147483647) (hw : 1 ≤ width ∧ width ≤ 8) :
    Calls Tryz.prog 42 #[.pointer (some ⟨rb, 0, none⟩), .int .i64 width] w fun e w' => RdN w' rb hi (takeN width bs) e ∧ Kg rb w w' := by
  have q := fun o => cell_of hh o
  have f := fun o => frozen_of hh o
  have l0 : rb < w.heap.size := (Array.getElem?_eq_some_iff.1 hh).1
  have HH := Lib.hid hh
  have HB := Lib.hid hB
  have HBY := Lib.hid hb
  clear hh hB hb
  by_cases hlt : bs.length < width
  · have hT : Hid (takeN width bs = none) := by rw [Hid, takeN, if_pos hlt]
    have d1 : decide ((bs.length : Int) < (width : Int)) = true := by simp; omega
    have d2 : decide (bs.length < width) = true := by simp; omega
    go_enter Tryz.func42, Tryz.ntmps42
    go_wp2_with fail
    go_ret
    rw [hT.out]
    exact ⟨⟨rfl, a, bs.length, c, heap_setCell2 HH.out⟩, Kg.set (Kg.refl _ _)⟩
  · have hT : Hid (takeN width bs = some (unBe (bs.take width), bs.drop width)) := by rw [Hid, takeN, if_neg hlt]
    have d1 : decide ((bs.length : Int) < (width : Int)) = false := by simp; omega
    have d2 : decide (bs.length < width) = false := by simp; omega
    obtain ⟨b, off, rfl, hbh, hcell⟩ := HB.out (by omega)
    have HCL := Lib.hid hcell
    have w1 : (width : Int) ≤ (c : Int) := by omega
    have w2 : width ≤ c := by omega
    have w3 : width ≤ bs.length := by omega
    obtain ⟨A, C, hAC, hdr⟩ : ∃ (A : Addr) (C : Nat), (A = (if c - width = 0 then ⟨b, off, none⟩ else ⟨b, off + width, none⟩) ∧ C = c - width) ∧ isB w hi (some A) (bs.drop width) := by
      by_cases e : c - width = 0
      · exact ⟨_, _, ⟨rfl, rfl⟩, fun h0 => by simp at h0; omega⟩
      · refine ⟨_, _, ⟨rfl, rfl⟩, ?_⟩
        rw [if_neg e]
        exact isB_drop HB.out width
    have HAC := Lib.hid hAC
    have HDR := Lib.hid hdr
    clear hcell hAC hdr
    have hcz : c - width = 0 ∨ ¬ c - width = 0 := by omega
    rcases hcz with hcz | hcz
    all_goals
      go_enter Tryz.func42, Tryz.ntmps42
      go_wp2_with fail
      go_loopw [5, 25] (fun n i wr => ∃ k : Nat, k ≤ width ∧ i = .int .i64 k ∧ n = .int .u64 ((unBe (bs.take k) : Nat) : Int) ∧ wr = w) (fun _ i _ => width - (intOf i).toNat)
      case atStart => exact ⟨0, Nat.zero_le _, rfl, rfl, rfl⟩
      case round =>
        obtain ⟨k, hk, rfl, rfl, rfl⟩ := hrel
        by_cases hkw : k < width
        · have hkl : k < bs.length := by omega
          obtain ⟨m, hm⟩ : ∃ m, m = unBe (bs.take k) := ⟨_, rfl⟩
          obtain ⟨d, hd⟩ : ∃ d, d = bs[k] := ⟨_, rfl⟩
          have hck := HCL.out k hkl
          rw [← hd] at hck
          have hd256 : d < 256 := by rw [hd]; exact HBY.out _ (List.getElem_mem hkl)
          have hmb : m < 72057594037927936 := by
            have h1 := unBe_bound bs k HBY.out
            have h2 : 2 ^ (8 * k) ≤ 2 ^ (8 * 7) := Nat.pow_le_pow_right (by omega) (by omega)
            rw [hm]
            simp only [Nat.reduceMul, Nat.reducePow] at h2
            omega
          rw [← hm]
          have ho := or_byte m d hmb hd256
          have hmw : IntKind.u64.wrap ((m : Int) * 256) = (m : Int) * 256 := by show ((m : Int) * 256) % 18446744073709551616 = _; omega
          have hnx : unBe (bs.take (k + 1)) = m * 256 + d := by rw [unBe_take bs k hkl, ← hm, ← hd]
          have HNX := Lib.hid hnx
          clear hm hd hnx
          go_wp2_with fail
          go_roundw
          case rel => exact ⟨k + 1, by omega, by go_num, by rw [HNX.out]; first | rfl | (simp; done), by first | rfl | trivial⟩
          case measure => simp [intOf]; omega
        · obtain rfl : k = width := by omega
          go_wp2_with fail
          go_ret
          rw [hT.out]
          have e1 : (bs.drop k).length = bs.length - k := List.length_drop
          have hac := HAC.out
          first
            | rw [if_pos hcz] at hac
            | rw [if_neg hcz] at hac
          obtain ⟨rfl, rfl⟩ := hac
          have hk2 := fun (v : Value) => Kg.set (g := rb) (o := 0) (v := v) (Kg.refl rb wr)
          first
            | exact ⟨⟨rfl, _, c - k, by rw [e1]; exact heap_setCell2 HH.out, isB_kg HDR.out (hk2 _) hhi (by omega), by omega⟩, hk2 _⟩
            | exact ⟨⟨rfl, _, 0, by rw [e1]; exact heap_setCell2 HH.out, isB_kg HDR.out (hk2 _) hhi (by omega), by omega⟩, hk2 _⟩
end Go.Proofs.YtkpfaeodgjbodaaGreatDoor
