/-
  proctorref0.EqBytes: whether two lists of bytes are the same; what Encode tells, as bytes that can be read; a byte more. Conditions: fewer than 2^45 bytes.
-/
import Derived.Test.YtkpfaeodgjbodaaGreatDoorDec
import Derived.Test.YtkpfaeodgjbodaaGreatDoorLay3
import Derived.Laws.BytesArg
import Derived.Lib.AppendZeros
namespace Go.Proofs.YtkpfaeodgjbodaaGreatDoor
open Go Go.RowKit
set_option maxRecDepth 100000
set_option linter.unusedVariables false
theorem conv_of {w : World} {hi : Nat} {a : Option Addr} {bs : List Nat} (h : isB w hi a bs) (hb : ∀ b ∈ bs, b < 256) (c : Nat) : (convert 28 9 (.slice a bs.length c)).run Tryz.prog w = .ok (.string (txOf bs)) w := by
  cases a with
  | none =>
    have h0 : bs = [] := by
      rcases Nat.eq_zero_or_pos bs.length with e | e
      · exact List.eq_nil_of_length_eq_zero e
      · obtain ⟨b, off, e2, _⟩ := h e
        cases e2
    subst h0
    exact run_convert_bytes_nil (P := Tryz.prog) w 28 5 Tryz.underlying28 Tryz.underlying5 0 c 9 Tryz.underlying9
  | some A =>
    have := text_of h hb bs.length c (Nat.le_refl _)
    rwa [List.take_of_length_le (Nat.le_refl _)] at this
theorem txB_txOf {bs : List Nat} (hb : ∀ b ∈ bs, b < 256) : txB (txOf bs) = bs := by
  unfold txB txOf
  simp only [List.map_map]
  conv => rhs; rw [← List.map_id bs]
  exact List.map_congr_left fun x hx => UInt8.toNat_ofNat_of_lt' (hb x hx)
theorem eqB_any (h1 h2 : Nat) (a1 a2 : Option Addr) (c1 c2 : Nat) (bs cs : List Nat) (w : World) (hb : isB w h1 a1 bs) (hc : isB w h2 a2 cs) (hb2 : ∀ b ∈ bs, b < 256) (hc2 : ∀ b ∈ cs, b < 256) :
    Calls Tryz.prog 8 #[.slice a1 bs.length c1, .slice a2 cs.length c2] w fun e w' => e = .returned (.bool (decide (bs = cs))) ∧ w' = w := by
  have e1 := conv_of hb hb2 c1
  have e2 := conv_of hc hc2 c2
  obtain ⟨X, hX⟩ : ∃ X, X = txOf bs := ⟨_, rfl⟩
  obtain ⟨Y, hY⟩ : ∃ Y, Y = txOf cs := ⟨_, rfl⟩
  rw [← hX] at e1
  rw [← hY] at e2
  have HXY := Lib.hid (show (X.toList == Y.toList) = decide (bs = cs) by
    rw [Bool.eq_iff_iff]
    simp only [beq_iff_eq, decide_eq_true_eq]
    constructor
    · intro h
      have h3 := bytes_ext h
      rw [hX, hY] at h3
      rw [← txB_txOf hb2, ← txB_txOf hc2, h3]
    · intro h
      rw [hX, hY, h])
  clear hX hY hb hc hb2 hc2
  go_enter Tryz.func8, Tryz.ntmps8
  go_wp2_with fail
  go_ret
  exact ⟨ret_bool HXY.out, rfl⟩
theorem isB_of {w : World} {base : Nat} {v : Value} {bs : List Nat} (h : bytesR w base v bs) (h0 : 0 < bs.length) : ∃ g c, v = .slice (some ⟨g, 0, none⟩) bs.length c ∧ base ≤ g ∧ g < w.heap.size ∧ isB w w.heap.size (some ⟨g, 0, none⟩) bs ∧ bs.length ≤ c ∧ c ≤ maxLen ∧ ∀ i (h : i < bs.length), w.cell? ⟨g, i, none⟩ = some (.int .u8 (bs[i] : Int)) := by
  obtain ⟨h1, ⟨_, h2⟩ | ⟨g, cap, cur, rfl, hg, hh, hn, hcap, hsz, htk⟩⟩ := h
  · omega
  · have hlt := (Array.getElem?_eq_some_iff.1 hh).1
    have hc : ∀ i (h : i < bs.length), w.cell? ⟨g, i, none⟩ = some (.int .u8 (bs[i] : Int)) := fun i hi => by
      rw [cell_of hh, ← Array.getElem?_toList]
      have := congrArg (fun l => l[i]?) htk
      simp only [List.getElem?_take, Nat.mul_one, if_pos hi] at this
      rw [this, List.getElem?_map, List.getElem?_eq_getElem hi]
      rfl
    exact ⟨g, cap, rfl, hg, hlt, fun _ => ⟨g, 0, rfl, hlt, fun i hi => by rw [Nat.zero_add]; exact hc i hi⟩, hn, hcap, hc⟩
theorem isB_here {w w' : World} {hi : Nat} {a : Option Addr} {bs : List Nat} (h : isB w hi a bs) (hb : Below hi w w') : isB w' hi a bs := isB_far h (fun b k => hb.block b k)
theorem isB_wide {w : World} {hi hi' : Nat} {a : Option Addr} {bs : List Nat} (h : isB w hi a bs) (hh : hi ≤ hi') : isB w hi' a bs := fun h0 => by
  obtain ⟨b, off, e, hb, hc⟩ := h h0
  exact ⟨b, off, e, by omega, hc⟩
theorem beN_lt (m : Nat) : ∀ w, ∀ b ∈ beN m w, b < 256
  | 0, b, h => by cases h
  | w + 1, b, h => by
    simp only [beN, List.mem_cons] at h
    rcases h with rfl | h
    · exact Nat.mod_lt _ (by omega)
    · exact beN_lt m w b h
theorem enc_lt : ∀ (m : Nat) (x : GV), x.size ≤ m → ∀ b ∈ enc x, b < 256
  | 0, x, h, _, _ => by have := size_l x; omega
  | m + 1, x, h, b, hb => by
    have hs := size_l x
    have hl : ∀ l : List GV, sizeL l ≤ m → ∀ b ∈ encL l, b < 256 := fun l => by
      induction l with
      | nil => intro _ b hb; cases hb
      | cons y r ih =>
        intro h2 b hb
        simp only [sizeL] at h2
        simp only [encL, List.mem_append] at hb
        rcases hb with hb | hb
        · exact enc_lt m y (by omega) b hb
        · exact ih (by omega) b hb
    rw [enc_eq] at hb
    simp only [List.mem_cons] at hb
    rcases hb with rfl | hb
    · omega
    · split at hb
      · simp only [List.mem_cons, List.not_mem_nil, or_false] at hb
        subst hb
        split <;> omega
      · split at hb
        · exact beN_lt _ _ b hb
        · split at hb
          · rcases List.mem_append.1 hb with hb | hb
            · exact beN_lt _ _ b hb
            · exact txB_lt _ b hb
          · split at hb
            · rcases List.mem_append.1 hb with hb | hb
              · exact beN_lt _ _ b hb
              · exact hl x.l (by omega) b hb
            · cases hb
/-- a byte more, in memory of its own: the append of one byte to a slice that is full -/
theorem more_run {w : World} {g k : Nat} {bs : List Nat} (hn : bs.length ≤ 70368744177664) (hc : ∀ i (h : i < bs.length), w.cell? ⟨g, i, none⟩ = some (.int .u8 (bs[i] : Int))) (h0 : w.cell? ⟨k, 0, none⟩ = some (.int .u8 0)) (ty : TypeId) :
    ∃ (v' : Nat) (w' : World), (Builtin.append_ #[28, 28] ty #[.slice (some ⟨g, 0, none⟩) bs.length bs.length, .slice (some ⟨k, 0, none⟩) 1 1]).run Tryz.prog w = .ok (.slice (some ⟨w.heap.size, 0, none⟩) (bs.length + 1) v') w' ∧ bs.length + 1 ≤ v' ∧ Below w.heap.size w w' ∧ isB w' w'.heap.size (some ⟨w.heap.size, 0, none⟩) (bs ++ [0]) := by
  obtain ⟨i0, hi, hz0, hz1, hz2⟩ := info_parts binfo
  have hr := run_append_grow (P := Tryz.prog) (w := w) 28 ty 5 i0 (.int .u8 0) Tryz.underlying28 hi hz0 ⟨g, 0, none⟩ bs.length bs.length (bs.map fun (b : Nat) => Value.int .u8 (b : Int)) (by simp [hz1]) (fun j v hj => by
      have hjl : j < bs.length := by have := (List.getElem?_eq_some_iff.1 hj).1; simpa using this
      rw [addr_add, Nat.zero_add, hc j hjl]
      rw [List.getElem?_map, List.getElem?_eq_getElem hjl] at hj
      exact hj) ⟨k, 0, none⟩ 1 1 [.int .u8 0] (by simp [hz1]) (fun j v hj => by
      have hj0 : j = 0 := by have := (List.getElem?_eq_some_iff.1 hj).1; simp at this; exact this
      subst hj0
      rw [addr_add, h0]
      exact hj) (by omega) (by omega) (by rw [hz2]; exact growslice_fits (by omega) (by omega))
  refine ⟨_, _, hr, grownCap_ge _ _ _ _, ((Below.refl w.heap.size w).drew.alloc (Nat.le_refl _) _), fun _ => ⟨w.heap.size, 0, rfl, by simp, fun i hi2 => ?_⟩⟩
  have hh := @heap_last w.drew (.cells (((bs.map fun (b : Nat) => Value.int .u8 (b : Int)).toArray ++ [Value.int .u8 0].toArray) ++ Builtin.zeroCells (Value.int .u8 0).cells (grownCap w (bs.length + 1) bs.length 5 - (bs.length + 1))) 5)
  have hi3 : i < bs.length + 1 := by simpa using hi2
  have e := cell_of hh (0 + i)
  refine e.trans ?_
  rw [Nat.zero_add, Array.getElem?_append_left (by simp; omega)]
  rw [← Array.getElem?_toList]
  simp only [Array.toList_append]
  have e2 : (bs.map (fun (b : Nat) => Value.int .u8 (b : Int)) ++ [Value.int .u8 0]) = (bs ++ [0]).map fun (b : Nat) => Value.int .u8 (b : Int) := by simp
  rw [e2, List.getElem?_map, List.getElem?_eq_getElem hi2]
  rfl
end Go.Proofs.YtkpfaeodgjbodaaGreatDoor
