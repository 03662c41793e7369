/-
  What the references' EqCode computes: whether two lists of instructions are the same. Conditions: lists and texts shorter than 2^31.
-/
import Derived.Test.YtnmolgmchoihmaaDoorSame1
import Derived.Test.YtnmolgmchoihmaaDoorReach
import Derived.Deep.DrawnRows
import Derived.StillTailTactics
namespace Go.Proofs.YtnmolgmchoihmaaDoor
open Go Go.RowKit
set_option maxRecDepth 100000
set_option linter.unusedVariables false
attribute [local go_sem ↓] Go.wp_at_zero Go.wp_at_succ
set_option maxHeartbeats 6400000 in
theorem eqCode_any (l m : List GI) (hl : l.length ≤ 2147483647) (hm : m.length ≤ 2147483647) (fl : fitI l) (fm : fitI m) (s t : Value) (w : World) (B : Nat) (hB : B ≤ w.heap.size) (hs : isI w B s l) (ht : isI w B t m) :
    Calls Tryd.prog 11 #[s, t] w fun e w' => e = .returned (.bool (sameIs l m)) ∧ Below w.heap.size w w' := by
  obtain ⟨a, c, b, off, rfl, hc, ha, hA⟩ := hs
  obtain ⟨a', c', b', off', rfl, hc', ha', hA'⟩ := ht
  have HA := Lib.hid hA
  have HA' := Lib.hid hA'
  have Ha := Lib.hid ha
  have Ha' := Lib.hid ha'
  have HFL := Lib.hid fl
  have HFM := Lib.hid fm
  clear hA hA' ha ha' fl fm
  by_cases hlen : l.length = m.length
  · have hd : ((l.length : Int) != (m.length : Int)) = false := by simp [hlen]
    have HL := Lib.hid hlen
    clear hlen
    go_enter Tryd.func11, Tryd.ntmps11
    go_wp2_with fail
    go_loopw [5] (fun i wr => ∃ k : Nat, k ≤ l.length ∧ i = .int .i64 k ∧ Below w.heap.size w wr ∧ Hid (∀ j (g : j < l.length) (g' : j < m.length), j < k → sameI l[j] m[j] = true)) (fun i _ => l.length - (intOf i).toNat)
    case atStart => exact ⟨0, Nat.zero_le _, rfl, Below.refl _ _, fun j _ _ hj => by omega⟩
    case round =>
      obtain ⟨k, hk, rfl, hbel, hR⟩ := hrel
      by_cases hlt : k < l.length
      · have hlt' : k < m.length := by rw [← HL.out]; exact hlt
        obtain ⟨rfl, hb2⟩ := Ha.out (by omega)
        obtain ⟨rfl, hb2'⟩ := Ha'.out (by omega)
        obtain ⟨ax, cx, x0, x1, x2, x3, x4, x5, x6, x7, hsx⟩ := HA.out k hlt
        obtain ⟨ay, cy, y0, y1, y2, y3, y4, y5, y6, y7, hsy⟩ := HA'.out k hlt'
        have hg : ∀ o, wr.cell? ⟨b, o, none⟩ = w.cell? ⟨b, o, none⟩ := fun o => hbel.cell (p := ⟨b, o, none⟩) (Nat.lt_of_lt_of_le hb2 hB)
        have hg' : ∀ o, wr.cell? ⟨b', o, none⟩ = w.cell? ⟨b', o, none⟩ := fun o => hbel.cell (p := ⟨b', o, none⟩) (Nat.lt_of_lt_of_le hb2' hB)
        have HC : Hid (∀ w', Below w.heap.size w w' → Calls Tryd.prog 26 #[GV.agg l[k].v (.slice ax l[k].v.l.length cx), GV.agg m[k].v (.slice ay m[k].v.l.length cy)] w' fun e w2 => e = .returned (.bool (same l[k].v m[k].v)) ∧ Below w'.heap.size w' w2) := fun w' hb =>
          zSame_any l[k].v m[k].v (HFL.out _ (List.getElem_mem _)).1 (HFM.out _ (List.getElem_mem _)).1 _ _ _ B (Nat.le_trans hB hb.size) (isL_below hsx hb hB) (isL_below hsy hb hB)
        have HEQ : Hid (sameI l[k] m[k] = ((l[k].op == m[k].op) && ((l[k].arg == m[k].arg) && ((l[k].s.toList == m[k].s.toList) && same l[k].v m[k].v)))) := (rfl : sameI l[k] m[k] = _)
        have hend : Hid (∀ w2, Below w.heap.size w w2 → sameI l[k] m[k] = false → (Ending.returned (.bool false) = .returned (.bool (sameIs l m)) ∧ Below w.heap.size w w2)) := fun w2 h h2 => ⟨ret_bool (sameIs_at l m k hlt hlt' h2).symm, h⟩
        clear hsx hsy
        cases h1 : (l[k].op == m[k].op)
        · have n1 : (l[k].op != m[k].op) = true := by simp [bne, h1]
          have HB := Lib.hid hbel
          clear hbel
          go_wp2_with fail
          go_region
          all_goals
            go_wp2_with fail
            go_ret
            exact hend.out _ HB.out.drew (by rw [HEQ.out, h1]; rfl)
        have n1 : (l[k].op != m[k].op) = false := by simp [bne, h1]
        cases h2 : (l[k].arg == m[k].arg)
        · have n2 : (l[k].arg != m[k].arg) = true := by simp [bne, h2]
          have HB := Lib.hid hbel
          clear hbel
          go_wp2_with fail
          go_region
          all_goals
            go_wp2_with fail
            go_ret
            exact hend.out _ HB.out.drew (by rw [HEQ.out, h1, h2]; rfl)
        have n2 : (l[k].arg != m[k].arg) = false := by simp [bne, h2]
        cases h3 : (l[k].s.toList == m[k].s.toList)
        · have n3 : (l[k].s.toList != m[k].s.toList) = true := by simp [bne, h3]
          have HB := Lib.hid hbel
          clear hbel
          go_wp2_with fail
          go_region
          all_goals
            go_wp2_with fail
            go_ret
            exact hend.out _ HB.out.drew (by rw [HEQ.out, h1, h2, h3]; rfl)
        have n3 : (l[k].s.toList != m[k].s.toList) = false := by simp [bne, h3]
        have HB := Lib.hid hbel
        clear hbel
        go_wp2_with fail
        go_still_tail 48, (by kernel_rfl)
        change wpList _ _ _ _ _ wr.drew
        obtain ⟨w1, hw1⟩ : ∃ w1, w1 = wr.drew := ⟨_, rfl⟩
        have HBD : Hid (Below w.heap.size w w1) := by rw [hw1]; exact HB.out.drew
        rw [← hw1]
        clear hw1 hg hg' x0 x1 x2 x3 x4 x5 x6 x7 y0 y1 y2 y3 y4 y5 y6 y7
        go_wp2_with fail
        refine (HC.out _ HBD.out).mono ?_
        rintro e w2 ⟨rfl, hb2w⟩
        have HB3 := Lib.hid (below_down HBD.out hb2w (Nat.le_refl _))
        clear hb2w
        cases hsm : same l[k].v m[k].v
        · have HS := Lib.hid hsm
          clear hsm
          go_wp2_with fail
          go_ret
          exact hend.out _ HB3.out (by rw [HEQ.out, h1, h2, h3, HS.out]; rfl)
        · have HS := Lib.hid hsm
          clear hsm
          go_wp2_with fail
          go_roundw
          case rel => exact ⟨k + 1, by omega, by go_num, HB3.out, fun j g g' hj => by
            by_cases e : j = k
            · subst e; rw [HEQ.out, h1, h2, h3, HS.out]; rfl
            · exact hR.out j g g' (by omega)⟩
          case measure => simp [intOf]; omega
      · go_wp2_with fail
        go_ret
        exact ⟨ret_bool (sameIs_all l m HL.out (fun i h h' => hR.out i h h' (by omega))).symm, hbel⟩
  · have hd : ((l.length : Int) != (m.length : Int)) = true := by simp; omega
    have HL := Lib.hid hlen
    clear hlen
    go_enter Tryd.func11, Tryd.ntmps11
    go_wp2_with fail
    go_ret
    exact ⟨ret_bool (sameIs_len l m HL.out).symm, Below.refl _ _⟩
end Go.Proofs.YtnmolgmchoihmaaDoor
