/-
  value.sorted at every length tells the one sorted list, in memory of its own. Conditions: lists and texts shorter than 2^31; the values may be.
-/
import Derived.Test.YtaclkegoaajdgaaGreatDoorStab
namespace Go.Proofs.YtaclkegoaajdgaaGreatDoor
open Go Go.RowKit Go.Lib
set_option maxRecDepth 100000
set_option linter.unusedVariables false
theorem flat_len : ∀ (l : List GV) (ss : List Value), ss.length = l.length → (flat l ss).length = l.length * 5 := flat_length
theorem catL_of {w : World} {base B g cap : Nat} {m : List GV} (h : rowO w g cap B m) (hg : base ≤ g) (hc : cap ≤ maxLen) : catL w base B (.slice (some ⟨g, 0, none⟩) m.length cap) m := by
  obtain ⟨cur, hh, hs, hl, hcell⟩ := h
  have hsl : ((List.range m.length).map fun i => cur.getD (i * 5 + 4) (.bool false)).length = m.length := by simp
  have hget : ∀ i (h : i < ((List.range m.length).map fun i => cur.getD (i * 5 + 4) (.bool false)).length), ((List.range m.length).map fun i => cur.getD (i * 5 + 4) (.bool false))[i] = cur.getD (i * 5 + 4) (.bool false) := fun i h => by simp
  have hcd : ∀ (i : Nat) (v : Value), cur[i * 5 + 4]? = some v → cur.getD (i * 5 + 4) (.bool false) = v := fun i v e => by simp [Array.getD_eq_getD_getElem?, e]
  generalize hss : ((List.range m.length).map fun i => cur.getD (i * 5 + 4) (.bool false)) = ss at hsl hget
  have hfl := flat_len m ss hsl
  refine ⟨ss, hsl, ⟨hfl, .inr ⟨g, cap, cur, rfl, hg, hh, hl, hc, hs, ?_⟩⟩, fun i h h' => ?_⟩
  · apply List.ext_getElem?
    intro p
    by_cases hp : p < m.length * 5
    · rw [List.getElem?_take, if_pos hp, Array.getElem?_toList]
      have hi : p / 5 < m.length := by omega
      obtain ⟨a, c, b0, b1, b2, b3, b4, b5⟩ := hcell (p / 5) hi
      obtain ⟨f0, f1, f2, f3, f4⟩ := flat_get m ss (p / 5) hi (by omega)
      have h5 : p % 5 = 0 ∨ p % 5 = 1 ∨ p % 5 = 2 ∨ p % 5 = 3 ∨ p % 5 = 4 := by omega
      rcases h5 with e | e | e | e | e
      · rw [show p = p / 5 * 5 by omega, b0, f0]
      · rw [show p = p / 5 * 5 + 1 by omega, b1, f1]
      · rw [show p = p / 5 * 5 + 2 by omega, b2, f2]
      · rw [show p = p / 5 * 5 + 3 by omega, b3, f3]
      · rw [show p = p / 5 * 5 + 4 by omega, b4, f4, hget _ (by omega), hcd _ _ b4]
    · rw [List.getElem?_take, if_neg hp, List.getElem?_eq_none (by omega)]
  · obtain ⟨a, c, b0, b1, b2, b3, b4, b5⟩ := hcell i h
    rw [hget i h', hcd _ _ b4]
    exact b5
theorem rowO_cat {w : World} {base B : Nat} {v : Value} {l : List GV} (h : catL w base B v l) (h0 : 0 < l.length) : ∃ g cap, v = .slice (some ⟨g, 0, none⟩) l.length cap ∧ base ≤ g ∧ cap ≤ maxLen ∧ rowO w g cap B l := by
  obtain ⟨g, cap, e, hg, hr⟩ := rowO_of h h0
  obtain ⟨ss, hl, ⟨h1, h2⟩, hin⟩ := h
  rcases h2 with ⟨_, h2⟩ | ⟨g', cap', cur, e', hg', hh, hn, hcap, _⟩
  · omega
  · rw [e] at e'
    cases e'
    exact ⟨g, cap, e, hg, hcap, hr⟩
theorem catL_empty {w w' : World} {base B : Nat} {v : Value} (h : catL w base B v []) (hb : Below w.heap.size w w') : catL w' base B v [] := by
  obtain ⟨ss, hl, ⟨h1, h2⟩, hin⟩ := h
  refine ⟨ss, hl, ⟨h1, ?_⟩, fun i h => by simp at h⟩
  rcases h2 with h2 | ⟨g, cap, cur, e, hg, hh, hn⟩
  · exact .inl h2
  · exact .inr ⟨g, cap, cur, e, hg, (hb.block g (Array.getElem?_eq_some_iff.1 hh).1).trans hh, hn⟩
theorem sorted_all (l : List GV) (hl : l.length ≤ 2147483647) (fl : fitL l) (hm : ∀ x ∈ l, vmay x = true) : SortedC l (sortG l) := fun s w B hB hs hn => by
  have HC := Lib.hid (clone_any l hl s w B hB hs hn)
  have HFL := Lib.hid fl
  have HMAY := Lib.hid hm
  have HL := Lib.hid hl
  obtain ⟨a, c, rfl⟩ := isL_form hs
  clear hs hn fl hm hl
  go_enter Tryz.func22, Tryz.ntmps22
  go_wp2_with fail
  refine HC.out.mono ?_
  rintro e w1 ⟨v, rfl, hc, hb⟩
  by_cases h0 : l.length = 0
  · have HE := Lib.hid (List.eq_nil_of_length_eq_zero h0)
    have HCC := Lib.hid hc
    obtain ⟨a1, c1, rfl⟩ := isL_form (catL_isL hc (Nat.le_trans hB hb.size))
    have HBB := Lib.hid hb
    rw [h0]
    rw [h0] at HCC
    clear hc hb HC
    go_wp2_with fail
    refine (ssf_nil a1 c1 _).mono ?_
    rintro e w2 ⟨rfl, rfl⟩
    go_wp2_with fail
    go_ret
    have hcc := HCC.out
    rw [HE.out] at hcc ⊢
    exact ⟨.slice a1 0 c1, rfl, by rw [show sortG [] = [] by simp [sortG]]; exact hcc, HBB.out⟩
  · obtain ⟨g, cap, rfl, hg, hcap, hrow⟩ := rowO_cat hc (by omega)
    have HR := Lib.hid hrow
    have HBB := Lib.hid hb
    have HG := Lib.hid hg
    have HCP := Lib.hid hcap
    clear hc hrow hb hg hcap HC
    go_wp2_with fail
    refine (ssfr_any l HL.out HFL.out g cap B _ (Nat.le_trans hB HG.out) HR.out).mono ?_
    rintro e w2 ⟨rfl, m, hmv, hsr, hro, hk⟩
    have hms := sort_is HMAY.out hmv hsr
    have hb := HBB.out
    have hg := HG.out
    have HQ := Lib.hid (show catL w2 w.heap.size B (.slice (some ⟨g, 0, none⟩) l.length cap) (sortG l) ∧ Below w.heap.size w w2 by
      refine ⟨?_, hk.1.trans hb.os, hk.2.1.trans hb.tape, hk.2.2.1.trans hb.output, Nat.le_trans hb.size hk.2.2.2.1, fun b h => (hk.2.2.2.2 b (Nat.lt_of_lt_of_le h hb.size) (by omega)).trans (hb.block b h)⟩
      rw [← hms, ← hmv.1]
      exact catL_of hro hg HCP.out)
    clear hmv hsr hro hk hms hb hg
    go_wp2_with fail
    go_ret
    exact ⟨_, rfl, HQ.out.1, HQ.out.2⟩
end Go.Proofs.YtaclkegoaajdgaaGreatDoor
