/-
  proctorlaw11.world and light. Conditions: lists shorter than 2^31, values of bulk at most 2^40.
-/
import Derived.Test.YtljljhjdlicfeaaGreatNI
import Derived.Test.YtljljhjdlicfeaaGreatMA
import Derived.Test.YtljljhjdlicfeaaGreatPAF
import Derived.Deep.CutBlock
import Derived.Deep.DeepCutAuto
namespace Go.Proofs.YtljljhjdlicfeaaGreat
open Go Go.RowKit
set_option maxRecDepth 100000
set_option linter.unusedVariables false
def isAsk (w : World) (B : Nat) (W : WV) (s0 s1 s2 s3 : Value) : Prop := isG w B 6 (RP B) s0 W.vars ∧ isG w B 6 (RP B) s1 W.flds ∧ isG w B 6 (RF B) s2 W.facts ∧ isG w B 3 (RK B) s3 W.clss
theorem isAsk_below {w w' : World} {B : Nat} {W : WV} {s0 s1 s2 s3 : Value} (h : isAsk w B W s0 s1 s2 s3) (hb : Below B w w') : isAsk w' B W s0 s1 s2 s3 :=
  ⟨isG_below h.1 hb (Nat.le_refl _) (RP_below hb (Nat.le_refl _)), isG_below h.2.1 hb (Nat.le_refl _) (RP_below hb (Nat.le_refl _)), isG_below h.2.2.1 hb (Nat.le_refl _) (RF_below hb (Nat.le_refl _)), isG_below h.2.2.2 hb (Nat.le_refl _) (RK_below hb (Nat.le_refl _))⟩
theorem isG_upB {α : Type} {w : World} {B B' sz : Nat} {R R' : World → α → List Value → Prop} {s : Value} {l : List α} (h : isG w B sz R s l) (hB : B ≤ B') (hR : ∀ g cs, R w g cs → R' w g cs) : isG w B' sz R' s l := by
  obtain ⟨a, c, b, off, e, hc, ha, hA⟩ := h
  refine ⟨a, c, b, off, e, hc, fun h => ⟨(ha h).1, Nat.lt_of_lt_of_le (ha h).2 hB⟩, fun i hi => ?_⟩
  obtain ⟨cs, h1, h2⟩ := hA i hi
  exact ⟨cs, hR _ _ h1, h2⟩
theorem RP_up {B B' : Nat} {w : World} (hB : B ≤ B') (g : PV) (cs : List Value) (h : RP B w g cs) : RP B' w g cs := by
  obtain ⟨s, e, hs⟩ := h
  exact ⟨s, e, isL_wide hs (Nat.le_refl _) hB⟩
theorem RF_up {B B' : Nat} {w : World} (hB : B ≤ B') (g : FV) (cs : List Value) (h : RF B w g cs) : RF B' w g cs := by
  obtain ⟨s, b, m, a2, n2, c2, e, hs⟩ := h
  exact ⟨s, b, m, a2, n2, c2, e, isL_wide hs (Nat.le_refl _) hB⟩
theorem RK_up {B B' : Nat} {w : World} (hB : B ≤ B') (g : KV) (cs : List Value) (h : RK B w g cs) : RK B' w g cs := by
  obtain ⟨s, e, hs⟩ := h
  exact ⟨s, e, isG_upB hs hB fun _ _ h => h⟩
theorem isAsk_up {w : World} {B B' : Nat} {W : WV} {s0 s1 s2 s3 : Value} (h : isAsk w B W s0 s1 s2 s3) (hB : B ≤ B') : isAsk w B' W s0 s1 s2 s3 :=
  ⟨isG_upB h.1 hB (RP_up hB), isG_upB h.2.1 hB (RP_up hB), isG_upB h.2.2.1 hB (RF_up hB), isG_upB h.2.2.2 hB (RK_up hB)⟩
theorem world_any (W : WV) (sL sI s0 s1 s2 s3 : Value) (fuel : Int) (w : World) (B : Nat) (hB : B ≤ w.heap.size) (h : isAsk w B W s0 s1 s2 s3)
    (l0 : W.vars.length ≤ 2147483647) (l1 : W.flds.length ≤ 2147483647) (l2 : W.facts.length ≤ 2147483647) (l3 : W.clss.length ≤ 1000) (l4 : ∀ c ∈ W.clss, c.flds.length ≤ 1000) :
    Calls Tryz.prog 6 #[.agg #[sL, sI, s0, s1, s2, s3, .int .i64 fuel]] w fun e w' => ∃ be, e = .returned (.pointer (some ⟨be, 0, none⟩)) ∧ isEnv w' be w'.heap.size W ∧ Below w.heap.size w w' := by
  obtain ⟨a0, c0, rfl⟩ := isG_form h.1
  obtain ⟨a1, c1, rfl⟩ := isG_form h.2.1
  obtain ⟨a2, c2, rfl⟩ := isG_form h.2.2.1
  obtain ⟨a3, c3, rfl⟩ := isG_form h.2.2.2
  have H := Lib.hid h
  clear h
  go_enter Tryz.func6, Tryz.ntmps6
  go_wp2_with fail
  obtain ⟨w1, hw1⟩ : ∃ u, u = w.alloc (.cells #[sL, sI, .slice a0 W.vars.length c0, .slice a1 W.flds.length c1, .slice a2 W.facts.length c2, .slice a3 W.clss.length c3, .int .i64 fuel] 28) := ⟨_, rfl⟩
  have hb1 : Below w.heap.size w w1 := by rw [hw1]; exact (Below.refl _ _).alloc (Nat.le_refl _) _
  have hz1 : w1.heap.size = w.heap.size + 1 := by rw [hw1]; simp
  try rw [← hw1]
  go_ret
  refine ⟨_, rfl, ?_, hb1.alloc hb1.size _⟩
  have hx := heap_last (w := w1) (o := .cells #[.slice a0 W.vars.length c0, .slice a1 W.flds.length c1, .slice a2 W.facts.length c2, .slice a3 W.clss.length c3] 64)
  have hb2 := hb1.alloc hb1.size (.cells #[.slice a0 W.vars.length c0, .slice a1 W.flds.length c1, .slice a2 W.facts.length c2, .slice a3 W.clss.length c3] 64)
  have hA := isAsk_up (isAsk_below H.out (hb2.mono hB)) (Nat.le_trans hB hb2.size)
  rw [hz1] at hx
  exact ⟨by simp [hz1], Nat.le_refl _, l0, l1, l2, l3, l4, _, _, _, _, hx, hA.1, hA.2.1, hA.2.2.1, hA.2.2.2⟩
end Go.Proofs.YtljljhjdlicfeaaGreat
namespace Go.Proofs.YtljljhjdlicfeaaGreat
open Go Go.RowKit
set_option maxRecDepth 100000
set_option linter.unusedVariables false
def WV.small (W : WV) : Prop := W.vars.length ≤ 1048576 ∧ W.flds.length ≤ 1048576 ∧ W.facts.length ≤ 1048576 ∧ W.clss.length ≤ 1048576 ∧
  (∀ p ∈ W.vars, bulkL [p.v] ≤ 1048576) ∧ (∀ p ∈ W.flds, bulkL [p.v] ≤ 1048576) ∧ (∀ f ∈ W.facts, bulkL f.vals ≤ 1048576) ∧ ∀ c ∈ W.clss, c.flds.length ≤ 1048576
def WV.few (W : WV) : Prop := W.vars.length ≤ 100 ∧ W.flds.length ≤ 100 ∧ W.facts.length ≤ 50 ∧ W.clss.length ≤ 50 ∧ ∀ c ∈ W.clss, c.flds.length ≤ 800
def LightO (W : WV) (w : World) (e : Ending) (w' : World) : Prop := ∃ b : Bool, e = .returned (.bool b) ∧ (b = true → W.few) ∧ Below w.heap.size w w'
theorem vsize_le {l : List GV} (h : bulkL l ≤ 1048576) : vsize l ≤ 1099512676352 := by
  have := szL_le l 0
  have : (bulkL l + 1) * 1048576 ≤ 1048577 * 1048576 := Nat.mul_le_mul_right _ (by omega)
  unfold vsize
  omega
set_option maxHeartbeats 6400000 in
theorem light_any (W : WV) (sL sI s0 s1 s2 s3 : Value) (fuel : Int) (w : World) (B : Nat) (hB : B ≤ w.heap.size) (h : isAsk w B W s0 s1 s2 s3) (hW : W.small) :
    Calls Tryz.prog 4 #[.agg #[sL, sI, s0, s1, s2, s3, .int .i64 fuel]] w (LightO W w) := by
  obtain ⟨a0, c0, rfl⟩ := isG_form h.1
  obtain ⟨a1, c1, rfl⟩ := isG_form h.2.1
  obtain ⟨a2, c2, rfl⟩ := isG_form h.2.2.1
  obtain ⟨a3, c3, rfl⟩ := isG_form h.2.2.2
  have H0 := Lib.hid h.1
  have H1 := Lib.hid h.2.1
  have H2 := Lib.hid h.2.2.1
  have H3 := Lib.hid h.2.2.2
  have HW := Lib.hid hW
  have lt0 := hW.1
  have lt1 := hW.2.1
  have lt2 := hW.2.2.1
  have lt3 := hW.2.2.2.1
  clear h hW
  go_enter Tryz.func4, Tryz.ntmps4
  go_upto_region 1 with fail
  obtain ⟨w1, hw1⟩ : ∃ u, u = w.alloc (.cells #[sL, sI, .slice a0 W.vars.length c0, .slice a1 W.flds.length c1, .slice a2 W.facts.length c2, .slice a3 W.clss.length c3, .int .i64 fuel] 28) := ⟨_, rfl⟩
  have hb1 : Below w.heap.size w w1 := by rw [hw1]; exact (Below.refl _ _).alloc (Nat.le_refl _) _
  have hx1 : w1.heap[w.heap.size]? = some (.cells #[sL, sI, .slice a0 W.vars.length c0, .slice a1 W.flds.length c1, .slice a2 W.facts.length c2, .slice a3 W.clss.length c3, .int .i64 fuel] 28 (0, 0)) := by rw [hw1]; exact heap_last
  rw [← hw1]
  clear hw1
  have HB0 := Lib.hid hb1
  have HX0 := Lib.hid hx1
  have HZ0 : Hid (w.heap.size < w1.heap.size) := (Array.getElem?_eq_some_iff.1 hx1).1
  have q0 := fun o => cell_of hx1 o
  clear hb1 hx1
  go_upto_block 0 with fail
  go_cut [3, 4] (fun s3 s4 wx => ∃ m : Nat, s3 = .int .i64 m ∧ m ≤ (2097152 + 109951267635300) ∧ Below w.heap.size w wx ∧ Hid (wx.heap[w.heap.size]? = some (.cells #[sL, sI, .slice a0 W.vars.length c0, .slice a1 W.flds.length c1, .slice a2 W.facts.length c2, .slice a3 W.clss.length c3, .int .i64 fuel] 28 (0, 0))))
  case first =>
    go_wp2_with fail
    go_loopw [3, 4] (fun n i wr => ∃ k m : Nat, k ≤ W.vars.length ∧ k ≤ 100 ∧ n = .int .i64 m ∧ i = .int .i64 k ∧ m ≤ 2097152 + k * 1099512676353 ∧ Below w.heap.size w wr ∧ w.heap.size < wr.heap.size ∧ Hid (wr.heap[w.heap.size]? = some (.cells #[sL, sI, .slice a0 W.vars.length c0, .slice a1 W.flds.length c1, .slice a2 W.facts.length c2, .slice a3 W.clss.length c3, .int .i64 fuel] 28 (0, 0)))) (fun _ i _ => 100 - (intOf i).toNat)
    case atStart => exact ⟨0, _, Nat.zero_le _, by omega, rfl, rfl, by omega, HB0.out, by have := HZ0.out; omega, HX0.out⟩
    case round =>
      obtain ⟨k, m, hk, hkc, rfl, rfl, hm, hbel, hsz, hbox⟩ := hrel
      have q1 := fun o => cell_of hbox.out o
      have HB := Lib.hid hbel
      skip
      by_cases hlt : k < W.vars.length
      · by_cases h6 : k < 100
        · obtain ⟨a, c, b, off, e, hc, ha, hA⟩ := H0.out
          simp only [Value.slice.injEq] at e
          obtain ⟨rfl, _, rfl⟩ := e
          obtain ⟨rfl, hb2⟩ := ha (by omega)
          obtain ⟨cs, ⟨sl, rfl, hsl⟩, hc2⟩ := hA k hlt
          obtain ⟨al, cl, rfl⟩ := isL_form hsl
          have hg : ∀ o, wr.cell? ⟨b, o, none⟩ = w.cell? ⟨b, o, none⟩ := fun o => hbel.cell (p := ⟨b, o, none⟩) (Nat.lt_of_lt_of_le hb2 hB)
          have y1 : w.cell? ⟨b, off + k * 6 + 1, none⟩ = some (.int .i64 W.vars[k].v.k) := hc2 1 _ rfl
          have y2 : w.cell? ⟨b, off + k * 6 + 2, none⟩ = some (.bool W.vars[k].v.b) := hc2 2 _ rfl
          have y3 : w.cell? ⟨b, off + k * 6 + 3, none⟩ = some (.int .i64 W.vars[k].v.n) := hc2 3 _ rfl
          have y4 : w.cell? ⟨b, off + k * 6 + 4, none⟩ = some (.string W.vars[k].v.t) := hc2 4 _ rfl
          have y5 : w.cell? ⟨b, off + k * 6 + 5, none⟩ = some (.slice al W.vars[k].v.l.length cl) := hc2 5 _ rfl
          have HSL := Lib.hid (isL_below hsl HB.out hB)
          have hbz : b < wr.heap.size := by have := HB.out.size; omega
          have HBK := Lib.hid (HW.out.2.2.2.2.1 _ (List.getElem_mem hlt))
          obtain ⟨p, hp⟩ : ∃ p, p = W.vars[k] := ⟨_, rfl⟩
          rw [← hp] at y1 y2 y3 y4 y5 HSL HBK
          clear hp hsl hc2 ha hA hbel
          go_wp2_with fail
          have hb3 : Below wr.heap.size wr (wr.alloc (.cells #[.int .i64 p.v.k, .bool p.v.b, .int .i64 p.v.n, .string p.v.t, .slice al p.v.l.length cl] 36)) := (Below.refl _ _).alloc (Nat.le_refl _) _
          have hl3 := one_isL (w := wr.alloc (.cells #[.int .i64 p.v.k, .bool p.v.b, .int .i64 p.v.n, .string p.v.t, .slice al p.v.l.length cl] 36)) (hi := wr.heap.size + 1) (x := p.v) heap_last (by omega) (isL_wide (isL_below HSL.out hb3 (Nat.le_trans hB HB.out.size)) (Nat.le_refl _) (by have := HB.out.size; omega))
          refine (Size_any [p.v] (by have := HBK.out; omega) _ _ (wr.heap.size + 1) (by simp) hl3).mono ?_
          rintro e w3 ⟨rfl, hb4⟩
          have hv := vsize_le HBK.out
          obtain ⟨V, hV⟩ : ∃ V, V = vsize [p.v] := ⟨_, rfl⟩
          rw [← hV] at hv ⊢
          have HB3 := Lib.hid (below_down HB.out (hb3.trans (hb4.mono hb3.size)) (Nat.le_refl _))
          have HX3 := Lib.hid (((hb3.trans (hb4.mono hb3.size)).block w.heap.size hsz).trans hbox.out)
          have hz3 : w.heap.size < w3.heap.size := by have := (hb3.trans (hb4.mono hb3.size)).size; omega
          clear hV hb3 hb4 hl3 q1
          go_wp2_with fail
          go_roundw
          case rel => exact ⟨k + 1, m + 1 + V, by omega, by omega, by go_num, by go_num, by omega, HB3.out, hz3, HX3.out⟩
          case measure => simp [intOf]; omega
        · clear hbel
          go_wp2_with fail
          go_meet
          case rel => exact ⟨m, rfl, by omega, HB.out, hbox⟩
      · clear hbel
        go_wp2_with fail
        go_meet
        case rel => exact ⟨m, rfl, by omega, HB.out, hbox⟩
  case rest =>
  obtain ⟨m1, rfl, hm1, hbel, hbox⟩ := hcut
  have HB1 := Lib.hid hbel
  have HX1 := hbox
  have HZ1 : Hid (w.heap.size < wc.heap.size) := (Array.getElem?_eq_some_iff.1 hbox.out).1
  have q1 := fun o => cell_of hbox.out o
  clear hbel hbox
  go_upto_block 2 with fail
  go_cut [3, 5] (fun s3 s5 wx => ∃ m : Nat, s3 = .int .i64 m ∧ m ≤ (2097152 + 219922535270600) ∧ Below w.heap.size w wx ∧ Hid (wx.heap[w.heap.size]? = some (.cells #[sL, sI, .slice a0 W.vars.length c0, .slice a1 W.flds.length c1, .slice a2 W.facts.length c2, .slice a3 W.clss.length c3, .int .i64 fuel] 28 (0, 0))))
  case first =>
    go_wp2_with fail
    go_loopw [3, 5] (fun n i wr => ∃ k m : Nat, k ≤ W.flds.length ∧ k ≤ 100 ∧ n = .int .i64 m ∧ i = .int .i64 k ∧ m ≤ (2097152 + 109951267635300) + k * 1099512676353 ∧ Below w.heap.size w wr ∧ w.heap.size < wr.heap.size ∧ Hid (wr.heap[w.heap.size]? = some (.cells #[sL, sI, .slice a0 W.vars.length c0, .slice a1 W.flds.length c1, .slice a2 W.facts.length c2, .slice a3 W.clss.length c3, .int .i64 fuel] 28 (0, 0)))) (fun _ i _ => 100 - (intOf i).toNat)
    case atStart => exact ⟨0, _, Nat.zero_le _, by omega, rfl, rfl, by omega, HB1.out, by have := HZ1.out; omega, HX1.out⟩
    case round =>
      obtain ⟨k, m, hk, hkc, rfl, rfl, hm, hbel, hsz, hbox⟩ := hrel
      have q1 := fun o => cell_of hbox.out o
      have HB := Lib.hid hbel
      skip
      by_cases hlt : k < W.flds.length
      · by_cases h6 : k < 100
        · obtain ⟨a, c, b, off, e, hc, ha, hA⟩ := H1.out
          simp only [Value.slice.injEq] at e
          obtain ⟨rfl, _, rfl⟩ := e
          obtain ⟨rfl, hb2⟩ := ha (by omega)
          obtain ⟨cs, ⟨sl, rfl, hsl⟩, hc2⟩ := hA k hlt
          obtain ⟨al, cl, rfl⟩ := isL_form hsl
          have hg : ∀ o, wr.cell? ⟨b, o, none⟩ = w.cell? ⟨b, o, none⟩ := fun o => hbel.cell (p := ⟨b, o, none⟩) (Nat.lt_of_lt_of_le hb2 hB)
          have y1 : w.cell? ⟨b, off + k * 6 + 1, none⟩ = some (.int .i64 W.flds[k].v.k) := hc2 1 _ rfl
          have y2 : w.cell? ⟨b, off + k * 6 + 2, none⟩ = some (.bool W.flds[k].v.b) := hc2 2 _ rfl
          have y3 : w.cell? ⟨b, off + k * 6 + 3, none⟩ = some (.int .i64 W.flds[k].v.n) := hc2 3 _ rfl
          have y4 : w.cell? ⟨b, off + k * 6 + 4, none⟩ = some (.string W.flds[k].v.t) := hc2 4 _ rfl
          have y5 : w.cell? ⟨b, off + k * 6 + 5, none⟩ = some (.slice al W.flds[k].v.l.length cl) := hc2 5 _ rfl
          have HSL := Lib.hid (isL_below hsl HB.out hB)
          have hbz : b < wr.heap.size := by have := HB.out.size; omega
          have HBK := Lib.hid (HW.out.2.2.2.2.2.1 _ (List.getElem_mem hlt))
          obtain ⟨p, hp⟩ : ∃ p, p = W.flds[k] := ⟨_, rfl⟩
          rw [← hp] at y1 y2 y3 y4 y5 HSL HBK
          clear hp hsl hc2 ha hA hbel
          go_wp2_with fail
          have hb3 : Below wr.heap.size wr (wr.alloc (.cells #[.int .i64 p.v.k, .bool p.v.b, .int .i64 p.v.n, .string p.v.t, .slice al p.v.l.length cl] 36)) := (Below.refl _ _).alloc (Nat.le_refl _) _
          have hl3 := one_isL (w := wr.alloc (.cells #[.int .i64 p.v.k, .bool p.v.b, .int .i64 p.v.n, .string p.v.t, .slice al p.v.l.length cl] 36)) (hi := wr.heap.size + 1) (x := p.v) heap_last (by omega) (isL_wide (isL_below HSL.out hb3 (Nat.le_trans hB HB.out.size)) (Nat.le_refl _) (by have := HB.out.size; omega))
          refine (Size_any [p.v] (by have := HBK.out; omega) _ _ (wr.heap.size + 1) (by simp) hl3).mono ?_
          rintro e w3 ⟨rfl, hb4⟩
          have hv := vsize_le HBK.out
          obtain ⟨V, hV⟩ : ∃ V, V = vsize [p.v] := ⟨_, rfl⟩
          rw [← hV] at hv ⊢
          have HB3 := Lib.hid (below_down HB.out (hb3.trans (hb4.mono hb3.size)) (Nat.le_refl _))
          have HX3 := Lib.hid (((hb3.trans (hb4.mono hb3.size)).block w.heap.size hsz).trans hbox.out)
          have hz3 : w.heap.size < w3.heap.size := by have := (hb3.trans (hb4.mono hb3.size)).size; omega
          clear hV hb3 hb4 hl3 q1
          go_wp2_with fail
          go_roundw
          case rel => exact ⟨k + 1, m + 1 + V, by omega, by omega, by go_num, by go_num, by omega, HB3.out, hz3, HX3.out⟩
          case measure => simp [intOf]; omega
        · clear hbel
          go_wp2_with fail
          go_meet
          case rel => exact ⟨m, rfl, by omega, HB.out, hbox⟩
      · clear hbel
        go_wp2_with fail
        go_meet
        case rel => exact ⟨m, rfl, by omega, HB.out, hbox⟩
  case rest =>
  obtain ⟨m2, rfl, hm2, hbel, hbox⟩ := hcut
  have HB2 := Lib.hid hbel
  have HX2 := hbox
  have HZ2 : Hid (w.heap.size < wc.heap.size) := (Array.getElem?_eq_some_iff.1 hbox.out).1
  have q2 := fun o => cell_of hbox.out o
  clear hbel hbox
  go_upto_block 4 with fail
  go_cut [3, 6] (fun s3 s6 wx => ∃ m : Nat, s3 = .int .i64 m ∧ m ≤ (2097152 + 274903169088250) ∧ Below w.heap.size w wx ∧ Hid (wx.heap[w.heap.size]? = some (.cells #[sL, sI, .slice a0 W.vars.length c0, .slice a1 W.flds.length c1, .slice a2 W.facts.length c2, .slice a3 W.clss.length c3, .int .i64 fuel] 28 (0, 0))))
  case first =>
    go_wp2_with fail
    go_loopw [3, 6] (fun n i wr => ∃ k m : Nat, k ≤ W.facts.length ∧ k ≤ 50 ∧ n = .int .i64 m ∧ i = .int .i64 k ∧ m ≤ (2097152 + 219922535270600) + k * 1099512676353 ∧ Below w.heap.size w wr ∧ w.heap.size < wr.heap.size ∧ Hid (wr.heap[w.heap.size]? = some (.cells #[sL, sI, .slice a0 W.vars.length c0, .slice a1 W.flds.length c1, .slice a2 W.facts.length c2, .slice a3 W.clss.length c3, .int .i64 fuel] 28 (0, 0)))) (fun _ i _ => 50 - (intOf i).toNat)
    case atStart => exact ⟨0, _, Nat.zero_le _, by omega, rfl, rfl, by omega, HB2.out, by have := HZ2.out; omega, HX2.out⟩
    case round =>
      obtain ⟨k, m, hk, hkc, rfl, rfl, hm, hbel, hsz, hbox⟩ := hrel
      have q1 := fun o => cell_of hbox.out o
      have HB := Lib.hid hbel
      skip
      by_cases hlt : k < W.facts.length
      · by_cases h6 : k < 50
        · obtain ⟨a, c, b, off, e, hc, ha, hA⟩ := H2.out
          simp only [Value.slice.injEq] at e
          obtain ⟨rfl, _, rfl⟩ := e
          obtain ⟨rfl, hb2⟩ := ha (by omega)
          obtain ⟨cs, ⟨sl, bb, mm, a9, n9, c9, rfl, hsl⟩, hc2⟩ := hA k hlt
          obtain ⟨al, cl, rfl⟩ := isL_form hsl
          have hg : ∀ o, wr.cell? ⟨b, o, none⟩ = w.cell? ⟨b, o, none⟩ := fun o => hbel.cell (p := ⟨b, o, none⟩) (Nat.lt_of_lt_of_le hb2 hB)
          have y2 : w.cell? ⟨b, off + k * 6 + 2, none⟩ = some (.slice al W.facts[k].vals.length cl) := hc2 2 _ rfl
          have HSL := Lib.hid (isL_below hsl HB.out hB)
          have hbz : b < wr.heap.size := by have := HB.out.size; omega
          have HBK := Lib.hid (HW.out.2.2.2.2.2.2.1 _ (List.getElem_mem hlt))
          obtain ⟨p, hp⟩ : ∃ p, p = W.facts[k] := ⟨_, rfl⟩
          rw [← hp] at y2 HSL HBK
          clear hp hsl hc2 ha hA hbel
          go_wp2_with fail
          refine (Size_any p.vals (by have := HBK.out; omega) _ _ B (Nat.le_trans hB HB.out.size) HSL.out).mono ?_
          rintro e w3 ⟨rfl, hb4⟩
          have hv := vsize_le HBK.out
          obtain ⟨V, hV⟩ : ∃ V, V = vsize p.vals := ⟨_, rfl⟩
          rw [← hV] at hv ⊢
          have HB3 := Lib.hid (below_down HB.out hb4 (Nat.le_refl _))
          have HX3 := Lib.hid ((hb4.block w.heap.size hsz).trans hbox.out)
          have hz3 : w.heap.size < w3.heap.size := by have := hb4.size; omega
          clear hV hb4 q1
          go_wp2_with fail
          go_roundw
          case rel => exact ⟨k + 1, m + 1 + V, by omega, by omega, by go_num, by go_num, by omega, HB3.out, hz3, HX3.out⟩
          case measure => simp [intOf]; omega
        · clear hbel
          go_wp2_with fail
          go_meet
          case rel => exact ⟨m, rfl, by omega, HB.out, hbox⟩
      · clear hbel
        go_wp2_with fail
        go_meet
        case rel => exact ⟨m, rfl, by omega, HB.out, hbox⟩
  case rest =>
  obtain ⟨m3, rfl, hm3, hbel, hbox⟩ := hcut
  have HB3 := Lib.hid hbel
  have HX3 := hbox
  have HZ3 : Hid (w.heap.size < wc.heap.size) := (Array.getElem?_eq_some_iff.1 hbox.out).1
  have q3 := fun o => cell_of hbox.out o
  clear hbel hbox
  go_upto_block 6 with fail
  go_cut [3, 7] (fun s3 s7 wx => ∃ m : Nat, s3 = .int .i64 m ∧ m ≤ (2097152 + 274903169088250 + 52428850) ∧ Below w.heap.size w wx ∧ Hid (wx.heap[w.heap.size]? = some (.cells #[sL, sI, .slice a0 W.vars.length c0, .slice a1 W.flds.length c1, .slice a2 W.facts.length c2, .slice a3 W.clss.length c3, .int .i64 fuel] 28 (0, 0))) ∧ (∀ c ∈ W.clss.take 50, c.flds.length ≤ m))
  case first =>
    go_wp2_with fail
    go_loopw [3, 7] (fun n i wr => ∃ k m : Nat, k ≤ W.clss.length ∧ k ≤ 50 ∧ n = .int .i64 m ∧ i = .int .i64 k ∧ m ≤ (2097152 + 274903169088250) + k * 1048577 ∧ Below w.heap.size w wr ∧ w.heap.size < wr.heap.size ∧ Hid (wr.heap[w.heap.size]? = some (.cells #[sL, sI, .slice a0 W.vars.length c0, .slice a1 W.flds.length c1, .slice a2 W.facts.length c2, .slice a3 W.clss.length c3, .int .i64 fuel] 28 (0, 0))) ∧ (∀ c ∈ W.clss.take k, c.flds.length ≤ m)) (fun _ i _ => 50 - (intOf i).toNat)
    case atStart => exact ⟨0, _, Nat.zero_le _, by omega, rfl, rfl, by omega, HB3.out, by have := HZ3.out; omega, HX3.out, by simp⟩
    case round =>
      obtain ⟨k, m, hk, hkc, rfl, rfl, hm, hbel, hsz, hbox, hsm⟩ := hrel
      have q1 := fun o => cell_of hbox.out o
      have HB := Lib.hid hbel
      have HSM := Lib.hid hsm
      by_cases hlt : k < W.clss.length
      · by_cases h6 : k < 50
        · obtain ⟨a, c, b, off, e, hc, ha, hA⟩ := H3.out
          simp only [Value.slice.injEq] at e
          obtain ⟨rfl, _, rfl⟩ := e
          obtain ⟨rfl, hb2⟩ := ha (by omega)
          obtain ⟨cs, ⟨sl, rfl, hsl⟩, hc2⟩ := hA k hlt
          obtain ⟨al, cl, rfl⟩ := isG_form hsl
          have hg : ∀ o, wr.cell? ⟨b, o, none⟩ = w.cell? ⟨b, o, none⟩ := fun o => hbel.cell (p := ⟨b, o, none⟩) (Nat.lt_of_lt_of_le hb2 hB)
          have y2 : w.cell? ⟨b, off + k * 3 + 2, none⟩ = some (.slice al W.clss[k].flds.length cl) := hc2 2 _ rfl
          have hbz : b < wr.heap.size := by have := HB.out.size; omega
          have hv := HW.out.2.2.2.2.2.2.2 _ (List.getElem_mem hlt)
          obtain ⟨p, hp⟩ : ∃ p, p = W.clss[k] := ⟨_, rfl⟩
          rw [← hp] at y2 hv
          have HSM2 : Hid (∀ c ∈ W.clss.take (k + 1), c.flds.length ≤ m + 1 + p.flds.length) := by
            intro c hc
            rw [List.take_add_one, List.getElem?_eq_getElem hlt] at hc
            simp only [Option.toList_some, List.mem_append, List.mem_singleton] at hc
            rcases hc with hc | hc
            · have := HSM.out c hc; omega
            · rw [hc, ← hp]; omega
          clear hp hsl hc2 ha hA hbel hsm
          go_wp2_with fail
          go_roundw
          case rel => exact ⟨k + 1, m + 1 + p.flds.length, by omega, by omega, by go_num, by go_num, by omega, HB.out, hsz, hbox, HSM2.out⟩
          case measure => simp [intOf]; omega
        · have hsm' : ∀ c ∈ W.clss.take 50, c.flds.length ≤ m := by rwa [show k = 50 by omega] at hsm
          clear hbel hsm
          have HSM' := Lib.hid hsm'
          clear hsm'
          go_wp2_with fail
          go_meet
          case rel => exact ⟨m, rfl, by omega, HB.out, hbox, HSM'.out⟩
      · have hsm' : ∀ c ∈ W.clss.take 50, c.flds.length ≤ m := fun c hc => hsm c (by rw [List.take_of_length_le (by omega)]; exact List.mem_of_mem_take hc)
        clear hbel hsm
        have HSM' := Lib.hid hsm'
        clear hsm'
        go_wp2_with fail
        go_meet
        case rel => exact ⟨m, rfl, by omega, HB.out, hbox, HSM'.out⟩
  case rest =>
  obtain ⟨m4, rfl, hm4, hbel, hbox, hsm⟩ := hcut
  have HB4 := Lib.hid hbel
  have HX4 := hbox
  have HZ4 : Hid (w.heap.size < wc.heap.size) := (Array.getElem?_eq_some_iff.1 hbox.out).1
  have q4 := fun o => cell_of hbox.out o
  clear hbel hbox
  have HSM4 := Lib.hid hsm
  clear hsm lt0 lt1 lt2 lt3
  by_cases g0 : m4 ≤ 800
  case neg =>
    go_wp2_with fail
    exact bodyPost_ret (v := .bool false) (by simp [results, Tryz.results4, go_sem]) rfl ⟨false, rfl, fun h => absurd h (by simp), HB4.out⟩
  by_cases g1 : W.vars.length ≤ 100
  case neg =>
    go_wp2_with fail
    exact bodyPost_ret (v := .bool false) (by simp [results, Tryz.results4, go_sem]) rfl ⟨false, rfl, fun h => absurd h (by simp), HB4.out⟩
  by_cases g2 : W.flds.length ≤ 100
  case neg =>
    go_wp2_with fail
    exact bodyPost_ret (v := .bool false) (by simp [results, Tryz.results4, go_sem]) rfl ⟨false, rfl, fun h => absurd h (by simp), HB4.out⟩
  by_cases g3 : W.facts.length ≤ 50
  case neg =>
    go_wp2_with fail
    exact bodyPost_ret (v := .bool false) (by simp [results, Tryz.results4, go_sem]) rfl ⟨false, rfl, fun h => absurd h (by simp), HB4.out⟩
  go_wp2_with fail
  refine bodyPost_ret (v := .bool (decide ((W.clss.length : Int) ≤ 50))) (by simp [results, Tryz.results4, go_sem]) rfl ⟨_, rfl, fun hd => ?_, HB4.out⟩
  have g4 : W.clss.length ≤ 50 := by have := of_decide_eq_true hd; omega
  exact ⟨g1, g2, g3, g4, fun c hc => Nat.le_trans (HSM4.out c (by rw [List.take_of_length_le (by omega)]; exact hc)) g0⟩
end Go.Proofs.YtljljhjdlicfeaaGreat
