/-
  Variables, fields and facts in plain words, and how memory holds them. Conditions: none.
-/
import Derived.Test.YtljljhjdlicfeaaGreatNO
import Derived.Test.YtljljhjdlicfeaaGreatPAC
import Derived.Test.YtljljhjdlicfeaaGreatNG
import Derived.Deep.RegionLaw
import Derived.Test.YtljljhjdlicfeaaGreatMD
import Derived.Test.YtljljhjdlicfeaaGreatPAK
namespace Go.Proofs.YtljljhjdlicfeaaGreat
open Go Go.RowKit
set_option linter.unusedVariables false
def isG {α : Type} (w : World) (B sz : Nat) (R : World → α → List Value → Prop) (s : Value) (l : List α) : Prop :=
  ∃ a c b off, s = .slice a l.length c ∧ l.length ≤ c ∧ (0 < l.length → a = some ⟨b, off, none⟩ ∧ b < B) ∧
    ∀ i (h : i < l.length), ∃ cs, R w l[i] cs ∧ ∀ o u, cs[o]? = some u → w.cell? ⟨b, off + i * sz + o, none⟩ = some u
theorem isG_nil {α : Type} (w : World) (B sz : Nat) (R : World → α → List Value → Prop) : isG w B sz R (.slice none 0 0) [] :=
  ⟨none, 0, 0, 0, rfl, Nat.le_refl _, fun h => absurd h (by simp), fun i h => absurd h (by simp)⟩
theorem isG_form {α : Type} {w : World} {B sz : Nat} {R : World → α → List Value → Prop} {s : Value} {l : List α} (h : isG w B sz R s l) : ∃ a c, s = .slice a l.length c := by
  obtain ⟨a, c, b, off, e, _⟩ := h
  exact ⟨a, c, e⟩
theorem isG_below {α : Type} {w w' : World} {B B' sz : Nat} {R : World → α → List Value → Prop} {s : Value} {l : List α} (h : isG w B sz R s l) (hb : Below B' w w') (hB : B ≤ B') (hR : ∀ g cs, R w g cs → R w' g cs) : isG w' B sz R s l := by
  obtain ⟨a, c, b, off, e, hc, ha, hA⟩ := h
  refine ⟨a, c, b, off, e, hc, ha, fun i hi => ?_⟩
  obtain ⟨cs, h1, h2⟩ := hA i hi
  exact ⟨cs, hR _ _ h1, fun o u hu => (hb.cell (p := ⟨b, off + i * sz + o, none⟩) (Nat.lt_of_lt_of_le (ha (by omega)).2 hB)).trans (h2 o u hu)⟩
structure PV where
  nm : ByteArray
  v : GV
structure FV where
  h : Int
  cls : ByteArray
  vals : List GV
structure KV where
  nm : ByteArray
  sup : ByteArray
  flds : List ByteArray
def RP (B : Nat) (w : World) (g : PV) (cs : List Value) : Prop := ∃ s, cs = [.string g.nm, .int .i64 g.v.k, .bool g.v.b, .int .i64 g.v.n, .string g.v.t, s] ∧ isL w 0 B s g.v.l
def RF (B : Nat) (w : World) (g : FV) (cs : List Value) : Prop := ∃ s b m a2 n2 c2, cs = [.int .i64 g.h, .string g.cls, s, .bool b, .int .i64 m, .slice a2 n2 c2] ∧ isL w 0 B s g.vals
def RD (w : World) (g : ByteArray) (cs : List Value) : Prop := ∃ n t, cs = [.string g, .int .i64 n, .string t]
def RK (B : Nat) (w : World) (g : KV) (cs : List Value) : Prop := ∃ s, cs = [.string g.nm, .string g.sup, s] ∧ isG w B 3 RD s g.flds
theorem RP_below {B B' : Nat} {w w' : World} (hb : Below B' w w') (hB : B ≤ B') (g : PV) (cs : List Value) (h : RP B w g cs) : RP B w' g cs := by
  obtain ⟨s, e, hs⟩ := h
  exact ⟨s, e, isL_below hs hb hB⟩
theorem RF_below {B B' : Nat} {w w' : World} (hb : Below B' w w') (hB : B ≤ B') (g : FV) (cs : List Value) (h : RF B w g cs) : RF B w' g cs := by
  obtain ⟨s, b, m, a2, n2, c2, e, hs⟩ := h
  exact ⟨s, b, m, a2, n2, c2, e, isL_below hs hb hB⟩
theorem RK_below {B B' : Nat} {w w' : World} (hb : Below B' w w') (hB : B ≤ B') (g : KV) (cs : List Value) (h : RK B w g cs) : RK B w' g cs := by
  obtain ⟨s, e, hs⟩ := h
  exact ⟨s, e, isG_below hs hb hB (fun _ _ h => h)⟩
def lookP (l : List PV) (s : ByteArray) : Nat → GV × Bool
  | 0 => (nullG, false)
  | k + 1 => match l[k]? with
    | none => lookP l s k
    | some p => if (p.nm.toList == s.toList) = true then (p.v, true) else lookP l s k
def namesP (l : List KV) : Nat → ByteArray → List ByteArray
  | 0, _ => []
  | g + 1, s => match l.find? (fun c => c.nm.toList == s.toList) with
    | none => []
    | some c => namesP l g c.sup ++ c.flds
def indexP (s : ByteArray) : List ByteArray → Nat → Int
  | [], _ => -1
  | x :: r, k => if (x.toList == s.toList) = true then (k : Int) else indexP s r (k + 1)
structure WV where
  vars : List PV
  flds : List PV
  facts : List FV
  clss : List KV
def getP (W : WV) (n : Int) (s : ByteArray) : GV × Int := match W.facts.find? (fun f => f.h == n) with
  | none => (nullG, 7)
  | some f =>
    let k := indexP s (namesP W.clss (W.clss.length + 1) f.cls) 0
    if k < 0 ∨ (f.vals.length : Int) ≤ k then (nullG, 11) else (f.vals.getD k.toNat nullG, 0)
def WV.fit (W : WV) : Prop := (∀ p ∈ W.vars, p.v.fit) ∧ (∀ p ∈ W.flds, p.v.fit) ∧ (∀ f ∈ W.facts, fitL f.vals)
theorem nullG_fit : nullG.fit := by simp only [nullG, GV.fit]; exact ⟨by decide, by decide, by decide, by decide, by decide, by decide, trivial⟩
theorem lookP_fit {l : List PV} (h : ∀ p ∈ l, p.v.fit) (s : ByteArray) : ∀ k, (lookP l s k).1.fit
  | 0 => nullG_fit
  | k + 1 => by
    unfold lookP
    split
    · exact lookP_fit h s k
    · rename_i p e
      split
      · exact h p (List.mem_of_getElem? e)
      · exact lookP_fit h s k
theorem getP_fit {W : WV} (h : W.fit) (n : Int) (s : ByteArray) : (getP W n s).1.fit := by
  unfold getP
  split
  · exact nullG_fit
  · rename_i f e
    dsimp only
    split
    · exact nullG_fit
    · rw [List.getD_eq_getElem?_getD]
      cases e2 : f.vals[(indexP s (namesP W.clss (W.clss.length + 1) f.cls) 0).toNat]? with
      | none => exact nullG_fit
      | some x => exact fitL_mem (h.2.2 f (List.mem_of_find?_eq_some e)) x (List.mem_of_getElem? e2)
end Go.Proofs.YtljljhjdlicfeaaGreat
namespace Go.Proofs.YtljljhjdlicfeaaGreat
open Go Go.RowKit
set_option maxRecDepth 100000
set_option linter.unusedVariables false
def TellO (B : Nat) (x : GV) (b : Value) (w : World) (e : Ending) (w' : World) : Prop := ∃ a c, e = .returned (.tuple #[x.agg (.slice a x.l.length c), b]) ∧ isL w' 0 B (.slice a x.l.length c) x.l ∧ Below w.heap.size w w'
theorem tell_set {w w' : World} {b : Nat} {x : GV} {a : Option Addr} {c : Nat} {B : Nat} {r : Value} (h : Below w.heap.size w w') (hb : w.heap.size ≤ b) (hB : B ≤ b) (hs : isL w' 0 B (.slice a x.l.length c) x.l) :
    TellO B x r w (.returned (.tuple #[.agg #[.int .i64 x.k, .bool x.b, .int .i64 x.n, .string x.t, .slice a x.l.length c], r])) (((((w'.setCell ⟨b, 0, none⟩ (.int .i64 x.k)).setCell ⟨b, 1, none⟩ (.bool x.b)).setCell ⟨b, 2, none⟩ (.int .i64 x.n)).setCell ⟨b, 3, none⟩ (.string x.t)).setCell ⟨b, 4, none⟩ (.slice a x.l.length c)) := by
  exact ⟨a, c, rfl, isL_below hs (set5B (Below.refl B w') hB (.int .i64 x.k) (.bool x.b) (.int .i64 x.n) (.string x.t) (.slice a x.l.length c)) (Nat.le_refl _), set5B h hb _ _ _ _ _⟩
theorem tell_null {w w' : World} {b B : Nat} {r : Value} (h : Below w.heap.size w w') (hb : w.heap.size ≤ b) :
    TellO B nullG r w (.returned (.tuple #[.agg #[.int .i64 0, .bool false, .int .i64 0, .string { data := #[] }, .slice none 0 0], r])) (((((w'.setCell ⟨b, 0, none⟩ (.int .i64 0)).setCell ⟨b, 1, none⟩ (.bool false)).setCell ⟨b, 2, none⟩ (.int .i64 0)).setCell ⟨b, 3, none⟩ (.string { data := #[] })).setCell ⟨b, 4, none⟩ (.slice none 0 0)) :=
  ⟨none, 0, rfl, isL_nil _ _, set5B h hb _ _ _ _ _⟩
set_option maxHeartbeats 1600000 in
theorem look_any (l : List PV) (hl : l.length ≤ 2147483647) (s : Value) (nm : ByteArray) (w : World) (B : Nat) (hB : B ≤ w.heap.size) (hs : isG w B 6 (RP B) s l) :
    Calls Tryz.prog 50 #[s, .string nm] w (TellO B (lookP l nm l.length).1 (.bool (lookP l nm l.length).2) w) := by
  obtain ⟨a, c, b, off, rfl, hc, ha, hA⟩ := hs
  have HA := Lib.hid hA
  have Ha := Lib.hid ha
  clear hA ha
  go_enter Tryz.func50, Tryz.ntmps50
  go_upto_region 1 with fail
  obtain ⟨w1, hw1⟩ : ∃ u, u = w.alloc (.cells #[.int .i64 0, .bool false, .int .i64 0, .string { data := #[] }, .slice none 0 0] 36) := ⟨_, rfl⟩
  have hb1 : Below w.heap.size w w1 := by rw [hw1]; exact (Below.refl _ _).alloc (Nat.le_refl _) _
  have hx1 : w1.heap[w.heap.size]? = some (.cells #[.int .i64 0, .bool false, .int .i64 0, .string { data := #[] }, .slice none 0 0] 36 (0, 0)) := by rw [hw1]; exact heap_last
  rw [← hw1]
  clear hw1
  have HX1 := Lib.hid hx1
  have HB1 := Lib.hid hb1
  have hsz := hb1.size
  have l1 : w.heap.size < w1.heap.size := (Array.getElem?_eq_some_iff.1 hx1).1
  have q1 := fun o => cell_of hx1 o
  have f1 := fun o => frozen_of hx1 o
  clear hx1 hb1
  go_wp2_with fail
  go_loopw [6] (fun i wr => ∃ (k : Nat) (I : Int), k ≤ l.length ∧ i = .int .i64 I ∧ I = (k : Int) - 1 ∧ wr = w1 ∧ Hid (lookP l nm k = lookP l nm l.length)) (fun i _ => (intOf i + 1).toNat)
  case atStart => exact ⟨l.length, _, Nat.le_refl _, rfl, by first | rfl | (unfold wrap64; omega), rfl, rfl⟩
  case round =>
    obtain ⟨k, I, hk, rfl, hI, rfl, HL⟩ := hrel
    cases k with
    | zero =>
      have hd : decide (0 ≤ I) = false := by simp; omega
      go_wp2_with fail
      refine bodyPost_ret (v := .tuple #[.agg #[.int .i64 0, .bool false, .int .i64 0, .string { data := #[] }, .slice none 0 0], .bool false]) (by simp [results, Tryz.results50, go_sem, q1]) rfl ?_
      rw [← HL.out]
      exact tell_null HB1.out (Nat.le_refl _)
    | succ k =>
      obtain rfl : I = (k : Int) := by omega
      have hd : decide (0 ≤ (k : Int)) = true := by simp
      clear hI
      obtain ⟨rfl, hb2⟩ := Ha.out (by omega)
      obtain ⟨cs, ⟨sl, rfl, hsl⟩, hc2⟩ := HA.out k (by omega)
      obtain ⟨al, cl, rfl⟩ := isL_form hsl
      have y0 : w.cell? ⟨b, off + k * 6, none⟩ = some (.string l[k].nm) := hc2 0 _ rfl
      have y1 : w.cell? ⟨b, off + k * 6 + 1, none⟩ = some (.int .i64 l[k].v.k) := hc2 1 _ rfl
      have y2 : w.cell? ⟨b, off + k * 6 + 2, none⟩ = some (.bool l[k].v.b) := hc2 2 _ rfl
      have y3 : w.cell? ⟨b, off + k * 6 + 3, none⟩ = some (.int .i64 l[k].v.n) := hc2 3 _ rfl
      have y4 : w.cell? ⟨b, off + k * 6 + 4, none⟩ = some (.string l[k].v.t) := hc2 4 _ rfl
      have y5 : w.cell? ⟨b, off + k * 6 + 5, none⟩ = some (.slice al l[k].v.l.length cl) := hc2 5 _ rfl
      have hg : ∀ o, wr.cell? ⟨b, o, none⟩ = w.cell? ⟨b, o, none⟩ := fun o => HB1.out.cell (p := ⟨b, o, none⟩) (Nat.lt_of_lt_of_le hb2 hB)
      have HSL := Lib.hid (isL_below hsl HB1.out hB)
      have hkl : k < l.length := by omega
      have hkz : (k : Int) < (l.length : Int) := by omega
      have hbz : b < wr.heap.size := by omega
      have hstep : lookP l nm (k + 1) = if (l[k].nm.toList == nm.toList) = true then (l[k].v, true) else lookP l nm k := by
        rw [lookP, List.getElem?_eq_getElem hkl]
      obtain ⟨p, hp⟩ : ∃ p, p = l[k] := ⟨_, rfl⟩
      rw [← hp] at y0 y1 y2 y3 y4 y5 HSL hstep
      rw [hstep] at HL
      clear hstep hsl hc2 hp
      cases hq : (p.nm.toList == nm.toList)
      · go_wp2_with fail
        go_roundw
        case rel => exact ⟨k, _, by omega, rfl, by first | rfl | (unfold wrap64; omega), by first | rfl | trivial, by rw [Hid, ← HL.out, hq]; rfl⟩
        case measure => simp [intOf]; try omega
      · go_wp2_with fail
        refine bodyPost_ret (v := .tuple #[.agg #[.int .i64 p.v.k, .bool p.v.b, .int .i64 p.v.n, .string p.v.t, .slice al p.v.l.length cl], .bool true]) (by simp [results, Tryz.results50, go_sem, q1]) rfl ?_
        rw [← HL.out, hq]
        exact tell_set HB1.out (Nat.le_refl _) hB HSL.out
def textsR (w : World) (base : Nat) (v : Value) (l : List ByteArray) : Prop := w.ownsRow base 9 1 v l.length (l.map Value.string)
theorem textsR_open {w : World} {base : Nat} {v : Value} {l : List ByteArray} (h : textsR w base v l) : ∃ a c b, v = .slice a l.length c ∧ (0 < l.length → a = some ⟨b, 0, none⟩ ∧ b < w.heap.size) ∧ ∀ i (h : i < l.length), w.cell? ⟨b, i, none⟩ = some (.string l[i]) := by
  obtain ⟨h1, ⟨h2, h3⟩ | ⟨g, cap, cur, rfl, hg, hh, hn, hcap, hsz, htk⟩⟩ := h
  · exact ⟨none, 0, 0, by rw [h2, h3], fun h => by omega, fun i h => by omega⟩
  · refine ⟨_, cap, g, rfl, fun _ => ⟨rfl, (Array.getElem?_eq_some_iff.1 hh).1⟩, fun i hi => ?_⟩
    rw [cell_of hh, ← Array.getElem?_toList]
    have := congrArg (fun l => l[i]?) htk
    simp only [List.getElem?_take, Nat.mul_one, if_pos hi] at this
    rw [this, List.getElem?_map, List.getElem?_eq_getElem hi]
    rfl
theorem indexP_drop (s : ByteArray) (l : List ByteArray) (k : Nat) (hk : k < l.length) : indexP s (l.drop k) k = if (l[k].toList == s.toList) = true then (k : Int) else indexP s (l.drop (k + 1)) (k + 1) := by
  rw [List.drop_eq_getElem_cons hk, indexP]
set_option maxHeartbeats 800000 in
theorem Index_any (l : List ByteArray) (hl : l.length ≤ 2147483647) (v : Value) (nm : ByteArray) (w : World) (base : Nat) (hv : textsR w base v l) :
    Calls Tryz.prog 51 #[v, .string nm] w fun e w' => e = .returned (.int .i64 (indexP nm l 0)) ∧ w' = w := by
  obtain ⟨a, c, b, rfl, ha, hA⟩ := textsR_open hv
  have HA := Lib.hid hA
  have Ha := Lib.hid ha
  clear hA ha hv
  go_enter Tryz.func51, Tryz.ntmps51
  go_wp2_with fail
  go_loopw [5] (fun i wr => ∃ (k : Nat), k ≤ l.length ∧ i = .int .i64 k ∧ wr = w ∧ Hid (indexP nm (l.drop k) k = indexP nm l 0)) (fun i _ => l.length - (intOf i).toNat)
  case atStart => exact ⟨0, Nat.zero_le _, rfl, rfl, rfl⟩
  case round =>
    obtain ⟨k, hk, rfl, rfl, HL⟩ := hrel
    by_cases hlt : k < l.length
    · obtain ⟨rfl, hb2⟩ := Ha.out (by omega)
      have y0 := HA.out k hlt
      have hstep := indexP_drop nm l k hlt
      obtain ⟨p, hp⟩ : ∃ p, p = l[k] := ⟨_, rfl⟩
      rw [← hp] at y0 hstep
      rw [hstep] at HL
      clear hp hstep
      cases hq : (p.toList == nm.toList)
      · go_wp2_with fail
        go_roundw
        case rel => exact ⟨k + 1, by omega, by go_num, by first | rfl | trivial, by rw [Hid, ← HL.out, hq]; rfl⟩
        case measure => simp [intOf]; omega
      · go_wp2_with fail
        go_ret
        refine ⟨?_, rfl⟩
        rw [← HL.out, hq]
        rfl
    · obtain rfl : k = l.length := by omega
      go_wp2_with fail
      go_ret
      refine ⟨?_, rfl⟩
      rw [← HL.out, List.drop_of_length_le (Nat.le_refl _)]
      rfl
end Go.Proofs.YtljljhjdlicfeaaGreat
namespace Go.Proofs.YtljljhjdlicfeaaGreat
open Go Go.RowKit
set_option maxRecDepth 100000
set_option linter.unusedVariables false
def isEnv (w : World) (be B : Nat) (W : WV) : Prop := be < B ∧ B ≤ w.heap.size ∧ W.vars.length ≤ 2147483647 ∧ W.flds.length ≤ 2147483647 ∧ W.facts.length ≤ 2147483647 ∧ W.clss.length ≤ 1000 ∧ (∀ c ∈ W.clss, c.flds.length ≤ 1000) ∧
  ∃ s0 s1 s2 s3, w.heap[be]? = some (.cells #[s0, s1, s2, s3] 64 (0, 0)) ∧ isG w B 6 (RP B) s0 W.vars ∧ isG w B 6 (RP B) s1 W.flds ∧ isG w B 6 (RF B) s2 W.facts ∧ isG w B 3 (RK B) s3 W.clss
theorem isEnv_below {w w' : World} {be B : Nat} {W : WV} (h : isEnv w be B W) (hb : Below B w w') : isEnv w' be B W := by
  obtain ⟨h1, h2, l0, l1, l2, l3, l4, s0, s1, s2, s3, hh, g0, g1, g2, g3⟩ := h
  exact ⟨h1, Nat.le_trans h2 hb.size, l0, l1, l2, l3, l4, s0, s1, s2, s3, (hb.block be h1).trans hh, isG_below g0 hb (Nat.le_refl _) (RP_below hb (Nat.le_refl _)), isG_below g1 hb (Nat.le_refl _) (RP_below hb (Nat.le_refl _)), isG_below g2 hb (Nat.le_refl _) (RF_below hb (Nat.le_refl _)), isG_below g3 hb (Nat.le_refl _) (RK_below hb (Nat.le_refl _))⟩
def varP (W : WV) (s : ByteArray) : GV × Bool := lookP W.vars s W.vars.length
def fieldP (W : WV) (s : ByteArray) : GV × Bool := lookP W.flds s W.flds.length
theorem tellR_set {w w' : World} {b lo : Nat} {x : GV} {a : Option Addr} {c : Nat} {r : Value} (h : Below w.heap.size w w') (hb : w.heap.size ≤ b) (hlo : b < lo) (hs : isR w' (since lo w') (.slice a x.l.length c) x.l) :
    TellR x r w (.returned (.tuple #[.agg #[.int .i64 x.k, .bool x.b, .int .i64 x.n, .string x.t, .slice a x.l.length c], r])) (((((w'.setCell ⟨b, 0, none⟩ (.int .i64 x.k)).setCell ⟨b, 1, none⟩ (.bool x.b)).setCell ⟨b, 2, none⟩ (.int .i64 x.n)).setCell ⟨b, 3, none⟩ (.string x.t)).setCell ⟨b, 4, none⟩ (.slice a x.l.length c)) := by
  refine ⟨a, c, rfl, ?_, set5B h hb _ _ _ _ _⟩
  refine isR_sub (isR_setCell (isR_setCell (isR_setCell (isR_setCell (isR_setCell hs ?_ _) ?_ _) ?_ _) ?_ _) ?_ _) (S' := since w.heap.size _) (fun c hc => ⟨by have := hc.1; omega, by have := hc.2; simpa [World.setCell] using this⟩)
  all_goals (intro hx; have := hx.1; dsimp only at this; omega)
set_option maxHeartbeats 800000 in
theorem envVar_any (be B : Nat) (W : WV) (nm : ByteArray) (w : World) (h : isEnv w be B W) :
    Calls Tryz.prog 32 #[.pointer (some ⟨be, 0, none⟩), .string nm] w (TellO B (varP W nm).1 (.bool (varP W nm).2) w) := by
  have h0 := h
  obtain ⟨h1, h2, l0, l1, l2, l3, l4, s0, s1, s2, s3, hh, g0, g1, g2, g3⟩ := h
  obtain ⟨a, c, rfl⟩ := isG_form g0
  have HG := Lib.hid g0
  obtain ⟨X, hX⟩ : ∃ X, X = (varP W nm).1 := ⟨_, rfl⟩
  obtain ⟨Y, hY⟩ : ∃ Y, Y = (varP W nm).2 := ⟨_, rfl⟩
  rw [← hX, ← hY]
  have HXY : Hid (X = (lookP W.vars nm W.vars.length).1 ∧ Y = (lookP W.vars nm W.vars.length).2) := ⟨hX, hY⟩
  clear g0 g1 g2 g3 hX hY h0
  go_enter Tryz.func32, Tryz.ntmps32
  go_upto_region 1 with fail
  obtain ⟨w1, hw1⟩ : ∃ u, u = w.alloc (.cells #[.int .i64 0, .bool false, .int .i64 0, .string { data := #[] }, .slice none 0 0] 36) := ⟨_, rfl⟩
  have hb1 : Below w.heap.size w w1 := by rw [hw1]; exact (Below.refl _ _).alloc (Nat.le_refl _) _
  have hx1 : w1.heap[w.heap.size]? = some (.cells #[.int .i64 0, .bool false, .int .i64 0, .string { data := #[] }, .slice none 0 0] 36 (0, 0)) := by rw [hw1]; exact heap_last
  rw [← hw1]
  clear hw1
  have HX1 := Lib.hid hx1
  have HB1 := Lib.hid hb1
  have hsz := hb1.size
  have hhe := (hb1.block be (by omega)).trans hh
  have q1 := fun o => cell_of hhe o
  have lb : be < w1.heap.size := by omega
  have l9 : w.heap.size < w1.heap.size := (Array.getElem?_eq_some_iff.1 hx1).1
  clear hx1 hb1 hh hhe
  go_wp2_with fail
  refine (look_any W.vars l0 (.slice a W.vars.length c) nm w1 B (Nat.le_trans h2 hsz) (isG_below HG.out (HB1.out.mono h2) (Nat.le_refl _) (RP_below (HB1.out.mono h2) (Nat.le_refl _)))).mono ?_
  rintro e w2 ⟨a2, c2, rfl, hl2, hb2⟩
  rw [← HXY.out.1] at hl2
  rw [← HXY.out.1, ← HXY.out.2]
  have HL2 := Lib.hid hl2
  have HB2 := Lib.hid (below_down HB1.out hb2 (Nat.le_refl _))
  have hx2 := (hb2.block w.heap.size l9).trans HX1.out
  have p2 := fun o => cell_of hx2 o
  have f2 := fun o => frozen_of hx2 o
  have l8 : w.heap.size < w2.heap.size := (Array.getElem?_eq_some_iff.1 hx2).1
  clear hl2 hb2 hx2 q1
  simp only [GV.agg]
  go_wp2_with fail
  refine bodyPost_ret (v := .tuple #[.agg #[.int .i64 X.k, .bool X.b, .int .i64 X.n, .string X.t, .slice a2 X.l.length c2], .bool Y]) (by simp [results, Tryz.results32, go_sem, p2]) rfl ?_
  exact tell_set HB2.out (Nat.le_refl _) h2 HL2.out
set_option maxHeartbeats 800000 in
theorem lawVar_any (be B : Nat) (W : WV) (fW : W.fit) (nm : ByteArray) (w : World) (h : isEnv w be B W) :
    Calls Tryz.prog 141 #[.agg #[.pointer (some ⟨be, 0, none⟩)], .string nm] w (TellR (varP W nm).1 (.bool (varP W nm).2) w) := by
  have hB := h.2.1
  have H := Lib.hid h
  obtain ⟨X, hX⟩ : ∃ X, X = (varP W nm).1 := ⟨_, rfl⟩
  obtain ⟨Y, hY⟩ : ∃ Y, Y = (varP W nm).2 := ⟨_, rfl⟩
  rw [← hX, ← hY]
  have HXY : Hid (X = (varP W nm).1 ∧ Y = (varP W nm).2) := ⟨hX, hY⟩
  have HFX : Hid X.fit := by rw [Hid, hX]; exact lookP_fit fW.1 nm _
  clear hX hY h
  go_enter Tryz.func141, Tryz.ntmps141
  go_upto_region 1 with fail
  obtain ⟨w1, hw1⟩ : ∃ u, u = (w.alloc (.cells #[.pointer (some ⟨be, 0, none⟩)] 43)).alloc (.cells #[.int .i64 0, .bool false, .int .i64 0, .string { data := #[] }, .slice none 0 0] 36) := ⟨_, rfl⟩
  have hb1 : Below w.heap.size w w1 := by rw [hw1]; exact ((Below.refl _ _).alloc (Nat.le_refl _) _).alloc (by simp) _
  have hy1 : w1.heap[w.heap.size]? = some (.cells #[.pointer (some ⟨be, 0, none⟩)] 43 (0, 0)) := by rw [hw1]; exact heap_two
  have hx1 : w1.heap[w.heap.size + 1]? = some (.cells #[.int .i64 0, .bool false, .int .i64 0, .string { data := #[] }, .slice none 0 0] 36 (0, 0)) := by rw [hw1]; exact heap_second
  rw [← hw1]
  have HX1 := Lib.hid hx1
  have HB1 := Lib.hid hb1
  have q1 := fun o => cell_of hy1 o
  have l8 : w.heap.size < w1.heap.size := (Array.getElem?_eq_some_iff.1 hy1).1
  have l9 : w.heap.size + 1 < w1.heap.size := (Array.getElem?_eq_some_iff.1 hx1).1
  clear hx1 hb1 hw1 hy1
  go_wp2_with fail
  refine (envVar_any be B W nm w1 (isEnv_below H.out (HB1.out.mono hB))).mono ?_
  rintro e w2 ⟨a2, c2, rfl, hl2, hb2⟩
  rw [← HXY.out.1] at hl2
  rw [← HXY.out.1, ← HXY.out.2]
  have HL2 := Lib.hid hl2
  have HB2 := Lib.hid (below_down HB1.out hb2 (Nat.le_refl _))
  have HX2 := Lib.hid ((hb2.block _ l9).trans HX1.out)
  have hs2 := hb2.size
  clear hl2 hb2 q1
  simp only [GV.agg]
  go_upto_region 2 with fail
  obtain ⟨w3, hw3⟩ : ∃ u, u = w2.alloc (.cells #[.int .i64 X.k, .bool X.b, .int .i64 X.n, .string X.t, .slice a2 X.l.length c2] 36) := ⟨_, rfl⟩
  have hb3 : Below w2.heap.size w2 w3 := by rw [hw3]; exact (Below.refl _ _).alloc (Nat.le_refl _) _
  have hx3 : w3.heap[w2.heap.size]? = some (.cells #[.int .i64 X.k, .bool X.b, .int .i64 X.n, .string X.t, .slice a2 X.l.length c2] 36 (0, 0)) := by rw [hw3]; exact heap_last
  rw [← hw3]
  clear hw3
  have HB3 := Lib.hid hb3
  have q3 := fun o => cell_of hx3 o
  have l3 : w2.heap.size < w3.heap.size := (Array.getElem?_eq_some_iff.1 hx3).1
  clear hx3 hb3
  go_wp2_with fail
  refine (zCopyValue_any X HFX.out (.slice a2 X.l.length c2) w3 B (by have := HB2.out.size; omega) (isL_below HL2.out HB3.out (by have := HB2.out.size; omega))).mono ?_
  rintro e w4 ⟨a4, c4, rfl, hr4, hb4⟩
  have HR4 := Lib.hid hr4
  have HB4 := Lib.hid (below_down (below_down HB2.out HB3.out (Nat.le_refl _)) hb4 (Nat.le_refl _))
  have hx4 := (hb4.block (w.heap.size + 1) (by omega)).trans ((HB3.out.block (w.heap.size + 1) (by omega)).trans HX2.out)
  have p4 := fun o => cell_of hx4 o
  have f4 := fun o => frozen_of hx4 o
  have l4 : w.heap.size + 1 < w4.heap.size := (Array.getElem?_eq_some_iff.1 hx4).1
  clear hr4 hb4 hx4 q3
  simp only [GV.agg]
  go_wp2_with fail
  refine bodyPost_ret (v := .tuple #[.agg #[.int .i64 X.k, .bool X.b, .int .i64 X.n, .string X.t, .slice a4 X.l.length c4], .bool Y]) (by simp [results, Tryz.results141, go_sem, p4]) rfl ?_
  exact tellR_set HB4.out (Nat.le_succ _) (show w.heap.size + 1 < w3.heap.size by omega) HR4.out
set_option maxHeartbeats 800000 in
theorem envField_any (be B : Nat) (W : WV) (nm : ByteArray) (w : World) (h : isEnv w be B W) :
    Calls Tryz.prog 33 #[.pointer (some ⟨be, 0, none⟩), .string nm] w (TellO B (fieldP W nm).1 (.bool (fieldP W nm).2) w) := by
  have h0 := h
  obtain ⟨h1, h2, l0, l1, l2, l3, l4, s0, s1, s2, s3, hh, g0, g1, g2, g3⟩ := h
  obtain ⟨a, c, rfl⟩ := isG_form g1
  have HG := Lib.hid g1
  obtain ⟨X, hX⟩ : ∃ X, X = (fieldP W nm).1 := ⟨_, rfl⟩
  obtain ⟨Y, hY⟩ : ∃ Y, Y = (fieldP W nm).2 := ⟨_, rfl⟩
  rw [← hX, ← hY]
  have HXY : Hid (X = (lookP W.flds nm W.flds.length).1 ∧ Y = (lookP W.flds nm W.flds.length).2) := ⟨hX, hY⟩
  clear g0 g1 g2 g3 hX hY h0
  go_enter Tryz.func33, Tryz.ntmps33
  go_upto_region 1 with fail
  obtain ⟨w1, hw1⟩ : ∃ u, u = w.alloc (.cells #[.int .i64 0, .bool false, .int .i64 0, .string { data := #[] }, .slice none 0 0] 36) := ⟨_, rfl⟩
  have hb1 : Below w.heap.size w w1 := by rw [hw1]; exact (Below.refl _ _).alloc (Nat.le_refl _) _
  have hx1 : w1.heap[w.heap.size]? = some (.cells #[.int .i64 0, .bool false, .int .i64 0, .string { data := #[] }, .slice none 0 0] 36 (0, 0)) := by rw [hw1]; exact heap_last
  rw [← hw1]
  clear hw1
  have HX1 := Lib.hid hx1
  have HB1 := Lib.hid hb1
  have hsz := hb1.size
  have hhe := (hb1.block be (by omega)).trans hh
  have q1 := fun o => cell_of hhe o
  have lb : be < w1.heap.size := by omega
  have l9 : w.heap.size < w1.heap.size := (Array.getElem?_eq_some_iff.1 hx1).1
  clear hx1 hb1 hh hhe
  go_wp2_with fail
  refine (look_any W.flds l1 (.slice a W.flds.length c) nm w1 B (Nat.le_trans h2 hsz) (isG_below HG.out (HB1.out.mono h2) (Nat.le_refl _) (RP_below (HB1.out.mono h2) (Nat.le_refl _)))).mono ?_
  rintro e w2 ⟨a2, c2, rfl, hl2, hb2⟩
  rw [← HXY.out.1] at hl2
  rw [← HXY.out.1, ← HXY.out.2]
  have HL2 := Lib.hid hl2
  have HB2 := Lib.hid (below_down HB1.out hb2 (Nat.le_refl _))
  have hx2 := (hb2.block w.heap.size l9).trans HX1.out
  have p2 := fun o => cell_of hx2 o
  have f2 := fun o => frozen_of hx2 o
  have l8 : w.heap.size < w2.heap.size := (Array.getElem?_eq_some_iff.1 hx2).1
  clear hl2 hb2 hx2 q1
  simp only [GV.agg]
  go_wp2_with fail
  refine bodyPost_ret (v := .tuple #[.agg #[.int .i64 X.k, .bool X.b, .int .i64 X.n, .string X.t, .slice a2 X.l.length c2], .bool Y]) (by simp [results, Tryz.results33, go_sem, p2]) rfl ?_
  exact tell_set HB2.out (Nat.le_refl _) h2 HL2.out
set_option maxHeartbeats 800000 in
theorem lawField_any (be B : Nat) (W : WV) (fW : W.fit) (nm : ByteArray) (w : World) (h : isEnv w be B W) :
    Calls Tryz.prog 139 #[.agg #[.pointer (some ⟨be, 0, none⟩)], .string nm] w (TellR (fieldP W nm).1 (.bool (fieldP W nm).2) w) := by
  have hB := h.2.1
  have H := Lib.hid h
  obtain ⟨X, hX⟩ : ∃ X, X = (fieldP W nm).1 := ⟨_, rfl⟩
  obtain ⟨Y, hY⟩ : ∃ Y, Y = (fieldP W nm).2 := ⟨_, rfl⟩
  rw [← hX, ← hY]
  have HXY : Hid (X = (fieldP W nm).1 ∧ Y = (fieldP W nm).2) := ⟨hX, hY⟩
  have HFX : Hid X.fit := by rw [Hid, hX]; exact lookP_fit fW.2.1 nm _
  clear hX hY h
  go_enter Tryz.func139, Tryz.ntmps139
  go_upto_region 1 with fail
  obtain ⟨w1, hw1⟩ : ∃ u, u = (w.alloc (.cells #[.pointer (some ⟨be, 0, none⟩)] 43)).alloc (.cells #[.int .i64 0, .bool false, .int .i64 0, .string { data := #[] }, .slice none 0 0] 36) := ⟨_, rfl⟩
  have hb1 : Below w.heap.size w w1 := by rw [hw1]; exact ((Below.refl _ _).alloc (Nat.le_refl _) _).alloc (by simp) _
  have hy1 : w1.heap[w.heap.size]? = some (.cells #[.pointer (some ⟨be, 0, none⟩)] 43 (0, 0)) := by rw [hw1]; exact heap_two
  have hx1 : w1.heap[w.heap.size + 1]? = some (.cells #[.int .i64 0, .bool false, .int .i64 0, .string { data := #[] }, .slice none 0 0] 36 (0, 0)) := by rw [hw1]; exact heap_second
  rw [← hw1]
  have HX1 := Lib.hid hx1
  have HB1 := Lib.hid hb1
  have q1 := fun o => cell_of hy1 o
  have l8 : w.heap.size < w1.heap.size := (Array.getElem?_eq_some_iff.1 hy1).1
  have l9 : w.heap.size + 1 < w1.heap.size := (Array.getElem?_eq_some_iff.1 hx1).1
  clear hx1 hb1 hw1 hy1
  go_wp2_with fail
  refine (envField_any be B W nm w1 (isEnv_below H.out (HB1.out.mono hB))).mono ?_
  rintro e w2 ⟨a2, c2, rfl, hl2, hb2⟩
  rw [← HXY.out.1] at hl2
  rw [← HXY.out.1, ← HXY.out.2]
  have HL2 := Lib.hid hl2
  have HB2 := Lib.hid (below_down HB1.out hb2 (Nat.le_refl _))
  have HX2 := Lib.hid ((hb2.block _ l9).trans HX1.out)
  have hs2 := hb2.size
  clear hl2 hb2 q1
  simp only [GV.agg]
  go_upto_region 2 with fail
  obtain ⟨w3, hw3⟩ : ∃ u, u = w2.alloc (.cells #[.int .i64 X.k, .bool X.b, .int .i64 X.n, .string X.t, .slice a2 X.l.length c2] 36) := ⟨_, rfl⟩
  have hb3 : Below w2.heap.size w2 w3 := by rw [hw3]; exact (Below.refl _ _).alloc (Nat.le_refl _) _
  have hx3 : w3.heap[w2.heap.size]? = some (.cells #[.int .i64 X.k, .bool X.b, .int .i64 X.n, .string X.t, .slice a2 X.l.length c2] 36 (0, 0)) := by rw [hw3]; exact heap_last
  rw [← hw3]
  clear hw3
  have HB3 := Lib.hid hb3
  have q3 := fun o => cell_of hx3 o
  have l3 : w2.heap.size < w3.heap.size := (Array.getElem?_eq_some_iff.1 hx3).1
  clear hx3 hb3
  go_wp2_with fail
  refine (zCopyValue_any X HFX.out (.slice a2 X.l.length c2) w3 B (by have := HB2.out.size; omega) (isL_below HL2.out HB3.out (by have := HB2.out.size; omega))).mono ?_
  rintro e w4 ⟨a4, c4, rfl, hr4, hb4⟩
  have HR4 := Lib.hid hr4
  have HB4 := Lib.hid (below_down (below_down HB2.out HB3.out (Nat.le_refl _)) hb4 (Nat.le_refl _))
  have hx4 := (hb4.block (w.heap.size + 1) (by omega)).trans ((HB3.out.block (w.heap.size + 1) (by omega)).trans HX2.out)
  have p4 := fun o => cell_of hx4 o
  have f4 := fun o => frozen_of hx4 o
  have l4 : w.heap.size + 1 < w4.heap.size := (Array.getElem?_eq_some_iff.1 hx4).1
  clear hr4 hb4 hx4 q3
  simp only [GV.agg]
  go_wp2_with fail
  refine bodyPost_ret (v := .tuple #[.agg #[.int .i64 X.k, .bool X.b, .int .i64 X.n, .string X.t, .slice a4 X.l.length c4], .bool Y]) (by simp [results, Tryz.results139, go_sem, p4]) rfl ?_
  exact tellR_set HB4.out (Nat.le_succ _) (show w.heap.size + 1 < w3.heap.size by omega) HR4.out
end Go.Proofs.YtljljhjdlicfeaaGreat
namespace Go.Proofs.YtljljhjdlicfeaaGreat
open Go Go.RowKit
set_option maxRecDepth 100000
set_option linter.unusedVariables false
theorem sinfo : (Tryz.prog.info? 9).map (fun i => (i.zero, i.size, i.bytes)) = some (some (.string { data := #[] }), 1, 16) := by kernel_rfl
theorem grown_below {w w1 w2 : World} {B : Nat} {o : Option Nat} (h : Below B w w1) (hB : B ≤ w1.heap.size) (hg : w1.grownBy w2 o) (ho : ∀ g, o = some g → B ≤ g) : Below B w w2 :=
  ⟨hg.os.trans h.os, hg.tape.trans h.tape, hg.output.trans h.output, Nat.le_trans h.size hg.size, fun b hb => (hg.block b (Nat.lt_of_lt_of_le hb hB) (fun e => by have := ho b e.symm; omega)).trans (h.block b hb)⟩
theorem texts_own {w : World} {base : Nat} {v : Value} {l : List ByteArray} (h : textsR w base v l) : ∀ g, v.ownBlock = some g → base ≤ g ∧ g < w.heap.size := fun g hg => ownBlock_lt h hg
theorem namesP_len (l : List KV) (hl : ∀ c ∈ l, c.flds.length ≤ 1000) : ∀ (g : Nat) (s : ByteArray), (namesP l g s).length ≤ g * 1000
  | 0, s => by simp [namesP]
  | g + 1, s => by
    unfold namesP
    split
    · simp
    · rename_i c e
      have h1 := namesP_len l hl g c.sup
      have h2 := hl c (List.mem_of_find?_eq_some e)
      simp only [List.length_append]
      omega
def NamesC (s : Value) (l : List KV) (B g deep : Nat) : Prop := ∀ (nm : ByteArray) (w : World), B ≤ w.heap.size → isG w B 3 (RK B) s l →
  Calls Tryz.prog 52 #[s, .string nm, .int .i64 deep] w fun e w' => ∃ v, e = .returned v ∧ textsR w' w.heap.size v (namesP l g nm) ∧ Below w.heap.size w w'
theorem find_drop (l : List KV) (p : KV → Bool) (k : Nat) (hk : k < l.length) (h : p l[k] = false) : (l.drop (k + 1)).find? p = (l.drop k).find? p := by
  rw [List.drop_eq_getElem_cons hk, List.find?_cons, h]
set_option maxHeartbeats 3200000 in
theorem names_step (l : List KV) (hl : l.length ≤ 1000) (hf : ∀ c ∈ l, c.flds.length ≤ 1000) (s : Value) (B g deep : Nat) (hd : deep + g = l.length + 1) (ih : ∀ g', g = g' + 1 → NamesC s l B g' (deep + 1)) : NamesC s l B g deep := by
  intro nm w hB hs
  have HSG := Lib.hid hs
  obtain ⟨a, c, b, off, rfl, hc, ha, hA⟩ := hs
  have HA := Lib.hid hA
  have Ha := Lib.hid ha
  have HF := Lib.hid hf
  have HIH := Lib.hid ih
  clear hA ha hf ih
  go_enter Tryz.func52, Tryz.ntmps52
  go_wp2_with fail
  go_loopw [7] (fun i wr => ∃ (k : Nat), k ≤ l.length ∧ i = .int .i64 k ∧ wr = w ∧ Hid (g = 0 ∨ (l.drop k).find? (fun c => c.nm.toList == nm.toList) = l.find? (fun c => c.nm.toList == nm.toList))) (fun i _ => l.length - (intOf i).toNat)
  case atStart => exact ⟨0, Nat.zero_le _, rfl, rfl, .inr rfl⟩
  case round =>
    obtain ⟨k, hk, rfl, rfl, HL⟩ := hrel
    by_cases hlt : k < l.length
    rotate_left
    · obtain rfl : k = l.length := by omega
      go_wp2_with fail
      go_ret
      refine ⟨.slice none 0 0, rfl, ?_, Below.refl _ _⟩
      have : namesP l g nm = [] := by
        rcases HL.out with h | h
        · subst h; rfl
        · rw [List.drop_of_length_le (Nat.le_refl _)] at h
          cases g with
          | zero => rfl
          | succ g => rw [namesP, ← h]; rfl
      rw [this]
      exact ⟨rfl, .inl ⟨rfl, rfl⟩⟩
    obtain ⟨rfl, hb2⟩ := Ha.out (by omega)
    obtain ⟨cs, ⟨sl, rfl, hsl⟩, hc2⟩ := HA.out k hlt
    have y0 : wr.cell? ⟨b, off + k * 3, none⟩ = some (.string l[k].nm) := hc2 0 _ rfl
    have y1 : wr.cell? ⟨b, off + k * 3 + 1, none⟩ = some (.string l[k].sup) := hc2 1 _ rfl
    have y2 : wr.cell? ⟨b, off + k * 3 + 2, none⟩ = some sl := hc2 2 _ rfl
    have hkz : (k : Int) < (l.length : Int) := by omega
    obtain ⟨p, hp⟩ : ∃ p, p = l[k] := ⟨_, rfl⟩
    have HP := Lib.hid hp
    rw [← hp] at y0 y1 hsl
    have HKL := Lib.hid hlt
    have HSL := Lib.hid hsl
    clear hp hsl hc2
    cases hq : (p.nm.toList == nm.toList)
    · have HN : Hid (g = 0 ∨ (l.drop (k + 1)).find? (fun c => c.nm.toList == nm.toList) = l.find? (fun c => c.nm.toList == nm.toList)) := by
        rcases HL.out with h | h
        · exact .inl h
        · exact .inr ((find_drop l _ k HKL.out (by rw [← HP.out]; exact hq)).trans h)
      go_wp2_with fail
      go_roundw
      case rel => exact ⟨k + 1, by omega, by go_num, by first | rfl | trivial, HN⟩
      case measure => simp [intOf]; omega
    by_cases hg0 : g = 0
    · have hd1 : decide (deep ≤ l.length) = false := by simp; omega
      have hd2 : decide ((deep : Int) ≤ (l.length : Int)) = false := by simp; omega
      go_wp2_with fail
      go_roundw
      case rel => exact ⟨k + 1, by omega, by go_num, by first | rfl | trivial, .inl hg0⟩
      case measure => simp [intOf]; omega
    have hd1 : decide (deep ≤ l.length) = true := by simp; omega
    have hd2 : decide ((deep : Int) ≤ (l.length : Int)) = true := by simp; omega
    obtain ⟨g', hg'⟩ : ∃ g', g = g' + 1 := ⟨g - 1, by omega⟩
    have HG := Lib.hid hg'
    have HNP : Hid (namesP l g nm = namesP l g' p.sup ++ p.flds) := by
      rcases HL.out with h | h
      · omega
      · have hkl := HKL.out
        have this : ((l[k]'hkl).nm.toList == nm.toList) = true := by rw [← (show p = l[k]'hkl from HP.out)]; exact hq
        rw [Hid, hg', namesP, ← h, List.drop_eq_getElem_cons hkl, List.find?_cons]
        simp only [this]
        rw [← (show p = l[k]'hkl from HP.out)]
    have HPF : Hid (p.flds.length ≤ 1000) := by rw [Hid, HP.out]; exact HF.out _ (List.getElem_mem _)
    obtain ⟨d', hd'⟩ : ∃ d', d' = deep + 1 := ⟨_, rfl⟩
    have HD := Lib.hid hd'
    have hdd : (deep : Int) + 1 = (d' : Int) := by omega
    have hdw : IntKind.i64.wrap (d' : Int) = (d' : Int) := IntWalk.i64_in _ (by omega)
    obtain ⟨w0, rfl⟩ : ∃ w0, w0 = wr := ⟨_, rfl⟩
    clear hd' hg'
    go_wp2_with fail
    refine (by have := HIH.out g' HG.out; rw [← HD.out] at this; exact this p.sup w0 hB HSG.out : Calls Tryz.prog 52 #[.slice (some ⟨b, off, none⟩) l.length c, .string p.sup, .int .i64 d'] w0 fun e w' => ∃ v, e = .returned v ∧ textsR w' w0.heap.size v (namesP l g' p.sup) ∧ Below w0.heap.size w0 w').mono ?_
    rintro e w2 ⟨v2, rfl, hv2, hb2'⟩
    obtain ⟨N, hN⟩ : ∃ N, N = namesP l g' p.sup := ⟨_, rfl⟩
    have HNL : Hid (N.length ≤ 1001000) := by
      rw [Hid, hN]
      have := namesP_len l HF.out g' p.sup
      have := HG.out
      omega
    rw [← hN] at hv2 HNP
    have HV2 := Lib.hid hv2
    have HB2 := Lib.hid hb2'
    obtain ⟨i0, hi, hz0, hz1, hz2⟩ := info_parts sinfo
    have HI := Lib.hid (And.intro hi (And.intro hz0 (And.intro hz1 hz2)))
    obtain ⟨af, cf, bf, of, hsle, hcf, haf, hAf⟩ := HSL.out
    have HAF := Lib.hid hAf
    have Haf := Lib.hid haf
    subst hsle
    have HBB := Lib.hid (show b < w0.heap.size by omega)
    clear hN hv2 hb2' hi hz0 hz1 hz2 hAf haf
    go_wp2_with fail
    go_loopw [8, 9] (fun u i wr => ∃ (j : Nat), j ≤ p.flds.length ∧ i = .int .i64 j ∧ Hid (textsR wr w0.heap.size u (N ++ p.flds.take j)) ∧ Hid (Below w0.heap.size w0 wr)) (fun _ i _ => p.flds.length - (intOf i).toNat)
    case atStart => exact ⟨0, Nat.zero_le _, rfl, by rw [List.take_zero, List.append_nil]; exact HV2, HB2⟩
    case round =>
      obtain ⟨j, hj, rfl, HU, HBR⟩ := hrel
      have hg : ∀ o, wr.cell? ⟨b, o, none⟩ = w0.cell? ⟨b, o, none⟩ := fun o => HBR.out.cell (p := ⟨b, o, none⟩) HBB.out
      have lb : b < wr.heap.size := Nat.lt_of_lt_of_le HBB.out HBR.out.size
      by_cases hjl : j < p.flds.length
      · obtain ⟨rfl, hbf⟩ := Haf.out (by omega)
        obtain ⟨cs, ⟨fn, ft, rfl⟩, hc3⟩ := HAF.out j hjl
        have hgf : ∀ o, wr.cell? ⟨bf, o, none⟩ = w0.cell? ⟨bf, o, none⟩ := fun o => HBR.out.cell (p := ⟨bf, o, none⟩) (by show bf < w0.heap.size; omega)
        have z0 : w0.cell? ⟨bf, of + j * 3, none⟩ = some (.string p.flds[j]) := hc3 0 _ rfl
        have lf : bf < wr.heap.size := by have := HBR.out.size; omega
        have hjz : (j : Int) < (p.flds.length : Int) := by omega
        have hj1000 : j ≤ 1000 := by have := HPF.out; omega
        obtain ⟨x, hx⟩ : ∃ x, x = p.flds[j] := ⟨_, rfl⟩
        rw [← hx] at z0
        have HX : Hid (N ++ p.flds.take (j + 1) = (N ++ p.flds.take j) ++ [x]) := by rw [Hid, hx, List.append_assoc, List.take_succ_eq_append_getElem hjl]
        have HLEN : Hid ((N ++ p.flds.take j).length ≤ 1002000) := by
          have h1 := HNL.out
          have h2 := HPF.out
          rw [Hid, List.length_append, List.length_take]
          omega
        obtain ⟨Q, hQ⟩ : ∃ Q, Q = N ++ p.flds.take j := ⟨_, rfl⟩
        rw [← hQ] at HU HX HLEN
        have HUO := Lib.hid (texts_own HU.out)
        clear hx hc3 hQ
        go_wp2_with (at_builtin; refine wpList_append_own_at _ rfl _ _ 110 rfl w0.heap.size 9 i0 (.string { data := #[] }) 1 16 Tryz.underlying110 HI.out.1 HI.out.2.1 HI.out.2.2.1 HI.out.2.2.2 rfl (by decide) _ Q.length (Q.map Value.string) rfl (World.ownsRow.alloc HU.out _) ⟨wr.heap.size, 0, none⟩ 1 1 [.string x] rfl rfl ?c1 ?c2 ?c3 ?c4 ?c5 ?_)
        case c2 => first | rfl | (intro u hu; simp only [List.mem_cons, List.not_mem_nil, or_false] at hu; subst hu; rfl)
        case c3 => have := HLEN.out; unfold maxLen; omega
        case c4 => have := HLEN.out; omega
        case c5 => have := HBR.out.size; simp; omega
        intro v' w5 hown5 hgrow _ hat
        have HU5 : Hid (textsR w5 w0.heap.size v' (N ++ p.flds.take (j + 1))) := by
          rw [HX.out, Hid, textsR, List.map_append, List.length_append]
          exact hown5
        have HB5 : Hid (Below w0.heap.size w0 w5) := grown_below (HBR.out.alloc HBR.out.size _) (by have := HBR.out.size; simp; omega) hgrow (fun g hg => (HUO.out g hg).1)
        clear hown5 hgrow hat
        go_wp2_with fail
        go_roundw
        case rel => exact ⟨j + 1, by omega, by go_num, HU5, HB5⟩
        case measure => simp [intOf]; omega
      · obtain rfl : j = p.flds.length := by omega
        go_wp2_with fail
        go_ret
        have hu := HU.out
        rw [List.take_of_length_le (Nat.le_refl _), ← HNP.out] at hu
        exact ⟨_, rfl, hu, HBR.out⟩
theorem names_all (l : List KV) (hl : l.length ≤ 1000) (hf : ∀ c ∈ l, c.flds.length ≤ 1000) (s : Value) (B : Nat) : ∀ (g deep : Nat), deep + g = l.length + 1 → NamesC s l B g deep
  | 0, deep, hd => names_step l hl hf s B 0 deep hd (fun g' e => by omega)
  | g + 1, deep, hd => names_step l hl hf s B (g + 1) deep hd (fun g' e => by
    obtain rfl : g' = g := by omega
    exact names_all l hl hf s B g' (deep + 1) (by omega))
end Go.Proofs.YtljljhjdlicfeaaGreat
namespace Go.Proofs.YtljljhjdlicfeaaGreat
open Go Go.RowKit
set_option maxRecDepth 100000
set_option linter.unusedVariables false
theorem findF_drop (l : List FV) (p : FV → Bool) (k : Nat) (hk : k < l.length) (h : p l[k] = false) : (l.drop (k + 1)).find? p = (l.drop k).find? p := by
  rw [List.drop_eq_getElem_cons hk, List.find?_cons, h]
theorem indexP_lo (s : ByteArray) : ∀ (l : List ByteArray) (k : Nat), -1 ≤ indexP s l k ∧ indexP s l k ≤ (k + l.length : Nat)
  | [], k => by simp only [indexP]; omega
  | x :: r, k => by
    have := indexP_lo s r (k + 1)
    simp only [indexP, List.length_cons] at this ⊢
    split <;> omega
set_option maxHeartbeats 3200000 in
theorem envGet_any (be B : Nat) (W : WV) (hd : Int) (nm : ByteArray) (w : World) (h : isEnv w be B W) (fv : ∀ f ∈ W.facts, f.vals.length ≤ 2147483647) :
    Calls Tryz.prog 34 #[.pointer (some ⟨be, 0, none⟩), .int .i64 hd, .string nm] w (TellO B (getP W hd nm).1 (.int .i64 (getP W hd nm).2) w) := by
  have HE := Lib.hid h
  obtain ⟨h1, h2, l0, l1, l2, l3, l4, s0, s1, s2, s3, hh, g0, g1, g2, g3⟩ := h
  obtain ⟨a, c, b, off, rfl, hc, ha, hA⟩ := g2
  obtain ⟨ac, cc, rfl⟩ := isG_form g3
  have HA := Lib.hid hA
  have Ha := Lib.hid ha
  have HG3 := Lib.hid g3
  have HH := Lib.hid hh
  have HFV := Lib.hid fv
  have HL3 := Lib.hid l3
  have HL4 := Lib.hid l4
  clear hA ha g0 g1 g3 hh fv l0 l1 l3 l4
  go_enter Tryz.func34, Tryz.ntmps34
  go_upto_region 1 with fail
  obtain ⟨w1, hw1⟩ : ∃ u, u = w.alloc (.cells #[.int .i64 0, .bool false, .int .i64 0, .string { data := #[] }, .slice none 0 0] 36) := ⟨_, rfl⟩
  have hb1 : Below w.heap.size w w1 := by rw [hw1]; exact (Below.refl _ _).alloc (Nat.le_refl _) _
  have hx1 : w1.heap[w.heap.size]? = some (.cells #[.int .i64 0, .bool false, .int .i64 0, .string { data := #[] }, .slice none 0 0] 36 (0, 0)) := by rw [hw1]; exact heap_last
  rw [← hw1]
  clear hw1
  have HX1 := Lib.hid hx1
  have HB1 := Lib.hid hb1
  have l9 : w.heap.size < w1.heap.size := (Array.getElem?_eq_some_iff.1 hx1).1
  clear hx1 hb1
  go_wp2_with fail
  go_loopw [8] (fun i wr => ∃ (k : Nat), k ≤ W.facts.length ∧ i = .int .i64 k ∧ Hid (Below w.heap.size w wr) ∧ Hid (wr.heap[w.heap.size]? = some (.cells #[.int .i64 0, .bool false, .int .i64 0, .string { data := #[] }, .slice none 0 0] 36 (0, 0))) ∧ Hid ((W.facts.drop k).find? (fun f => f.h == hd) = W.facts.find? (fun f => f.h == hd))) (fun i _ => W.facts.length - (intOf i).toNat)
  case atStart => exact ⟨0, Nat.zero_le _, rfl, HB1, HX1, rfl⟩
  case round =>
    obtain ⟨k, hk, rfl, HBR, HXR, HL⟩ := hrel
    have hhr := (HBR.out.block be (by omega)).trans HH.out
    have q1 := fun o => cell_of hhr o
    have p1 := fun o => cell_of HXR.out o
    have f1 := fun o => frozen_of HXR.out o
    have lx : w.heap.size < wr.heap.size := (Array.getElem?_eq_some_iff.1 HXR.out).1
    have lb : be < wr.heap.size := by omega
    have nbe : be ≠ w.heap.size := by omega
    clear hhr
    by_cases hlt : k < W.facts.length
    rotate_left
    · obtain rfl : k = W.facts.length := by omega
      go_wp2_with fail
      refine bodyPost_ret (v := .tuple #[.agg #[.int .i64 0, .bool false, .int .i64 0, .string { data := #[] }, .slice none 0 0], .int .i64 7]) (by simp [results, Tryz.results34, go_sem, p1]) rfl ?_
      have hn : getP W hd nm = (nullG, 7) := by
        have h := HL.out
        rw [List.drop_of_length_le (Nat.le_refl _)] at h
        unfold getP
        rw [← h]
        rfl
      rw [hn]
      exact tell_null HBR.out (Nat.le_refl _)
    obtain ⟨rfl, hbb⟩ := Ha.out (by omega)
    obtain ⟨cs, ⟨sl, fb, fm, xa, xn, xc, rfl, hsl⟩, hc2⟩ := HA.out k hlt
    obtain ⟨p, hp⟩ : ∃ p, p = W.facts[k] := ⟨_, rfl⟩
    have HP := Lib.hid hp
    rw [← hp] at hc2 hsl
    obtain ⟨av, cv, rfl⟩ := isL_form hsl
    have hgr : ∀ o, wr.cell? ⟨b, o, none⟩ = w.cell? ⟨b, o, none⟩ := fun o => HBR.out.cell (p := ⟨b, o, none⟩) (by show b < w.heap.size; omega)
    have y0 : w.cell? ⟨b, off + k * 6, none⟩ = some (.int .i64 p.h) := hc2 0 _ rfl
    have y1 : w.cell? ⟨b, off + k * 6 + 1, none⟩ = some (.string p.cls) := hc2 1 _ rfl
    have y2 : w.cell? ⟨b, off + k * 6 + 2, none⟩ = some (.slice av p.vals.length cv) := hc2 2 _ rfl
    have y3 : w.cell? ⟨b, off + k * 6 + 3, none⟩ = some (.bool fb) := hc2 3 _ rfl
    have y4 : w.cell? ⟨b, off + k * 6 + 4, none⟩ = some (.int .i64 fm) := hc2 4 _ rfl
    have y5 : w.cell? ⟨b, off + k * 6 + 5, none⟩ = some (.slice xa xn xc) := hc2 5 _ rfl
    have lbb : b < wr.heap.size := by omega
    have hkz : (k : Int) < (W.facts.length : Int) := by omega
    have HKL := Lib.hid hlt
    have HSL := Lib.hid hsl
    clear hp hsl hc2
    go_upto_region 5 with fail
    obtain ⟨w2, hw2⟩ : ∃ u, u = wr.alloc (.cells #[.int .i64 p.h, .string p.cls, .slice av p.vals.length cv, .bool fb, .int .i64 fm, .slice xa xn xc] 52) := ⟨_, rfl⟩
    have hb2 : Below wr.heap.size wr w2 := by rw [hw2]; exact (Below.refl _ _).alloc (Nat.le_refl _) _
    have hx2 : w2.heap[wr.heap.size]? = some (.cells #[.int .i64 p.h, .string p.cls, .slice av p.vals.length cv, .bool fb, .int .i64 fm, .slice xa xn xc] 52 (0, 0)) := by rw [hw2]; exact heap_last
    rw [← hw2]
    clear hw2
    have hs2 := hb2.size
    have HX2 := Lib.hid hx2
    have HB2 := Lib.hid (below_down HBR.out hb2 (Nat.le_refl _))
    have HR2 := Lib.hid ((hb2.block w.heap.size lx).trans HXR.out)
    have hhe2 := (HB2.out.block be (by omega)).trans HH.out
    have z2 := fun o => cell_of hx2 o
    have q2 := fun o => cell_of hhe2 o
    have lz2 : wr.heap.size < w2.heap.size := (Array.getElem?_eq_some_iff.1 hx2).1
    have lb2 : be < w2.heap.size := by omega
    obtain ⟨bF, hbF⟩ : ∃ u, u = wr.heap.size := ⟨_, rfl⟩
    have HBF := Lib.hid (show w.heap.size < bF ∧ bF < w2.heap.size by omega)
    rw [← hbF] at z2 lz2 HX2 ⊢
    clear hb2 hx2 q1 p1 f1 hgr y0 y1 y2 y3 y4 y5 hhe2 hbF
    cases hq : (p.h != hd)
    rotate_left
    · have HN : Hid ((W.facts.drop (k + 1)).find? (fun f => f.h == hd) = W.facts.find? (fun f => f.h == hd)) :=
        (findF_drop W.facts _ k HKL.out (by rw [← HP.out]; simpa using hq)).trans HL.out
      go_wp2_with fail
      go_roundw
      case rel => exact ⟨k + 1, by omega, by go_num, HB2, HR2, HN⟩
      case measure => simp [intOf]; omega
    obtain ⟨N, hN⟩ : ∃ N, N = namesP W.clss (W.clss.length + 1) p.cls := ⟨_, rfl⟩
    obtain ⟨I, hI⟩ : ∃ I, I = indexP nm N 0 := ⟨_, rfl⟩
    have HNL : Hid (N.length ≤ 1001000) := by
      rw [Hid, hN]
      have h1 := namesP_len W.clss HL4.out (W.clss.length + 1) p.cls
      have h2 := HL3.out
      omega
    have HI : Hid (-1 ≤ I ∧ I ≤ N.length) := by
      rw [Hid, hI]
      have := indexP_lo nm N 0
      omega
    have HGP : Hid (getP W hd nm = if I < 0 ∨ (p.vals.length : Int) ≤ I then (nullG, 11) else (p.vals.getD I.toNat nullG, 0)) := by
      have h := HL.out
      have hkl := HKL.out
      have this : ((W.facts[k]'hkl).h == hd) = true := by rw [← (show p = W.facts[k]'hkl from HP.out)]; simpa using hq
      rw [List.drop_eq_getElem_cons hkl, List.find?_cons] at h
      simp only [this] at h
      rw [Hid, getP, ← h, ← (show p = W.facts[k]'hkl from HP.out), hI, hN]
    have HNM : Hid (∀ w', Below w2.heap.size w2 w' → Calls Tryz.prog 52 #[.slice ac W.clss.length cc, .string p.cls, .int .i64 0] w' fun e w'' => ∃ v, e = .returned v ∧ textsR w'' w'.heap.size v N ∧ Below w'.heap.size w' w'') := fun w' hb' => by
      have hbw := below_down HB2.out hb' (Nat.le_refl _)
      rw [hN]
      have := names_all W.clss HL3.out HL4.out (.slice ac W.clss.length cc) B (W.clss.length + 1) 0 (by omega) p.cls w' (Nat.le_trans h2 hbw.size) (isG_below HG3.out (hbw.mono h2) (Nat.le_refl _) (RK_below (hbw.mono h2) (Nat.le_refl _)))
      exact this
    have HIX : Hid (∀ (w' : World) (base : Nat) (v : Value), textsR w' base v N → Calls Tryz.prog 51 #[v, .string nm] w' fun e w'' => e = .returned (.int .i64 I) ∧ w'' = w') := fun w' base v hv => by
      rw [hI]
      exact Index_any N (by have := HNL.out; omega) v nm w' base hv
    clear hN hI
    go_wp2_with fail
    go_cut [10] (fun s10 wx => s10 = .int .i64 I ∧ Hid (Below w2.heap.size w2 wx))
    case first =>
      go_region_law (first
        | (have hguard := HV3
           clear hguard
           go_simp
           go_at_call 51
           refine (HIX.out _ _ _ HV3.out).mono ?_
           rintro e w4 ⟨rfl, rfl⟩)
        | (go_simp
           go_at_call 52
           refine (HNM.out _ (Below.refl _ w2).drew).mono ?_
           rintro e w3 ⟨v3, rfl, hv3, hb3'⟩
           have hb3 : Below w2.heap.size w2 w3 := (Below.refl w2.heap.size w2).drew.trans hb3'
           have HV3 := Lib.hid hv3
           have HB3 := Lib.hid hb3
           have hhe3 := (hb3.block be lb2).trans ((HB2.out.block be (by omega)).trans HH.out)
           have q3 := fun o => cell_of hhe3 o
           have hx3 := (hb3.block bF HBF.out.2).trans HX2.out
           have z3 := fun o => cell_of hx3 o
           have ls3 := hb3.size
           clear hv3 hb3 hb3' hhe3 hx3))
      all_goals
        go_wp2_with fail
        go_meet
        exact ⟨rfl, HB3⟩
    case rest =>
      obtain ⟨rfl, HBC⟩ := hcut
      have HBW := Lib.hid (below_down HB2.out HBC.out (Nat.le_refl _))
      have hxc := (HBC.out.block bF HBF.out.2).trans HX2.out
      have zc := fun o => cell_of hxc o
      have lzc : bF < wc.heap.size := (Array.getElem?_eq_some_iff.1 hxc).1
      have hrc := (HBC.out.block w.heap.size (by omega)).trans HR2.out
      have pc := fun o => cell_of hrc o
      have fc := fun o => frozen_of hrc o
      have lrc : w.heap.size < wc.heap.size := (Array.getElem?_eq_some_iff.1 hrc).1
      have nrf : w.heap.size ≠ bF := by have := HBF.out; omega
      have hpl : p.vals.length ≤ 2147483647 := by rw [HP.out]; exact HFV.out _ (List.getElem_mem _)
      clear hxc hrc z2 q2
      by_cases hbad : I < 0 ∨ (p.vals.length : Int) ≤ I
      · have HG : Hid (getP W hd nm = (nullG, 11)) := by rw [Hid, HGP.out, if_pos hbad]
        have hbad2 : I < 0 ∨ (0 ≤ I ∧ (p.vals.length : Int) ≤ I) := by omega
        clear hbad
        rcases hbad2 with h0 | ⟨h0, h1⟩
        · have e1 : decide (I < 0) = true := by simp; omega
          go_wp2_with fail
          refine bodyPost_ret (v := .tuple #[.agg #[.int .i64 0, .bool false, .int .i64 0, .string { data := #[] }, .slice none 0 0], .int .i64 11]) (by simp [results, Tryz.results34, go_sem, pc]) rfl ?_
          rw [HG.out]
          exact tell_null HBW.out (Nat.le_refl _)
        · have e1 : decide (I < 0) = false := by simp; omega
          have e2 : decide ((p.vals.length : Int) ≤ I) = true := by simp; omega
          go_wp2_with fail
          refine bodyPost_ret (v := .tuple #[.agg #[.int .i64 0, .bool false, .int .i64 0, .string { data := #[] }, .slice none 0 0], .int .i64 11]) (by simp [results, Tryz.results34, go_sem, pc]) rfl ?_
          rw [HG.out]
          exact tell_null HBW.out (Nat.le_refl _)
      · obtain ⟨m, hm⟩ : ∃ m : Nat, I = (m : Int) := ⟨I.toNat, by omega⟩
        subst hm
        have hml : m < p.vals.length := by omega
        have HG : Hid (getP W hd nm = (p.vals[m], 0)) := by
          rw [Hid, HGP.out, if_neg hbad, List.getD_eq_getElem?_getD, Int.toNat_natCast, List.getElem?_eq_getElem hml]
          rfl
        have e1 : decide ((m : Int) < 0) = false := by simp
        have e2 : decide ((p.vals.length : Int) ≤ (m : Int)) = false := by simp; omega
        have e3 : decide (p.vals.length ≤ m) = false := by simp; omega
        have e4 : (m : Int) < (p.vals.length : Int) := by omega
        have hsc := isL_below HSL.out (HBW.out.mono h2) (Nat.le_refl _)
        obtain ⟨a', c', bb', off', hse, hc', ha', hA'⟩ := isL_open hsc
        simp only [Value.slice.injEq] at hse
        obtain ⟨rfl, _, rfl⟩ := hse
        obtain ⟨rfl, _, hbv⟩ := ha' (by omega)
        obtain ⟨ax, cx, x0, x1, x2, x3, x4, hsx⟩ := cellsV_slice (hA' m hml)
        have HSX := Lib.hid hsx
        have lbv : bb' < wc.heap.size := by have := HBW.out.size; omega
        obtain ⟨X, hX⟩ : ∃ X, X = p.vals[m] := ⟨_, rfl⟩
        rw [← hX] at x0 x1 x2 x3 x4 HSX HG
        clear hX hA' ha' hsx hbad
        go_wp2_with fail
        refine bodyPost_ret (v := .tuple #[.agg #[.int .i64 X.k, .bool X.b, .int .i64 X.n, .string X.t, .slice ax X.l.length cx], .int .i64 0]) (by simp [results, Tryz.results34, go_sem, pc]) rfl ?_
        rw [HG.out]
        exact tell_set HBW.out (Nat.le_refl _) h2 HSX.out
end Go.Proofs.YtljljhjdlicfeaaGreat
namespace Go.Proofs.YtljljhjdlicfeaaGreat
open Go Go.RowKit
set_option maxRecDepth 100000
set_option linter.unusedVariables false
set_option maxHeartbeats 800000 in
theorem lawGet_any (be B : Nat) (W : WV) (fW : W.fit) (fv : ∀ f ∈ W.facts, f.vals.length ≤ 2147483647) (hd : Int) (nm : ByteArray) (w : World) (h : isEnv w be B W) :
    Calls Tryz.prog 140 #[.agg #[.pointer (some ⟨be, 0, none⟩)], .int .i64 hd, .string nm] w (TellR (getP W hd nm).1 (.int .i64 (getP W hd nm).2) w) := by
  have hB := h.2.1
  have H := Lib.hid h
  obtain ⟨X, hX⟩ : ∃ X, X = (getP W hd nm).1 := ⟨_, rfl⟩
  obtain ⟨Y, hY⟩ : ∃ Y, Y = (getP W hd nm).2 := ⟨_, rfl⟩
  rw [← hX, ← hY]
  have HXY : Hid (X = (getP W hd nm).1 ∧ Y = (getP W hd nm).2) := ⟨hX, hY⟩
  have HFX : Hid X.fit := by rw [Hid, hX]; exact getP_fit fW hd nm
  clear hX hY h
  go_enter Tryz.func140, Tryz.ntmps140
  go_upto_region 1 with fail
  obtain ⟨w1, hw1⟩ : ∃ u, u = (w.alloc (.cells #[.pointer (some ⟨be, 0, none⟩)] 43)).alloc (.cells #[.int .i64 0, .bool false, .int .i64 0, .string { data := #[] }, .slice none 0 0] 36) := ⟨_, rfl⟩
  have hb1 : Below w.heap.size w w1 := by rw [hw1]; exact ((Below.refl _ _).alloc (Nat.le_refl _) _).alloc (by simp) _
  have hy1 : w1.heap[w.heap.size]? = some (.cells #[.pointer (some ⟨be, 0, none⟩)] 43 (0, 0)) := by rw [hw1]; exact heap_two
  have hx1 : w1.heap[w.heap.size + 1]? = some (.cells #[.int .i64 0, .bool false, .int .i64 0, .string { data := #[] }, .slice none 0 0] 36 (0, 0)) := by rw [hw1]; exact heap_second
  rw [← hw1]
  have HX1 := Lib.hid hx1
  have HB1 := Lib.hid hb1
  have q1 := fun o => cell_of hy1 o
  have l8 : w.heap.size < w1.heap.size := (Array.getElem?_eq_some_iff.1 hy1).1
  have l9 : w.heap.size + 1 < w1.heap.size := (Array.getElem?_eq_some_iff.1 hx1).1
  clear hx1 hb1 hw1 hy1
  go_wp2_with fail
  refine (envGet_any be B W hd nm w1 (isEnv_below H.out (HB1.out.mono hB)) fv).mono ?_
  rintro e w2 ⟨a2, c2, rfl, hl2, hb2⟩
  rw [← HXY.out.1] at hl2
  rw [← HXY.out.1, ← HXY.out.2]
  have HL2 := Lib.hid hl2
  have HB2 := Lib.hid (below_down HB1.out hb2 (Nat.le_refl _))
  have HX2 := Lib.hid ((hb2.block _ l9).trans HX1.out)
  have hs2 := hb2.size
  clear hl2 hb2 q1
  simp only [GV.agg]
  go_upto_region 2 with fail
  obtain ⟨w3, hw3⟩ : ∃ u, u = w2.alloc (.cells #[.int .i64 X.k, .bool X.b, .int .i64 X.n, .string X.t, .slice a2 X.l.length c2] 36) := ⟨_, rfl⟩
  have hb3 : Below w2.heap.size w2 w3 := by rw [hw3]; exact (Below.refl _ _).alloc (Nat.le_refl _) _
  have hx3 : w3.heap[w2.heap.size]? = some (.cells #[.int .i64 X.k, .bool X.b, .int .i64 X.n, .string X.t, .slice a2 X.l.length c2] 36 (0, 0)) := by rw [hw3]; exact heap_last
  rw [← hw3]
  clear hw3
  have HB3 := Lib.hid hb3
  have q3 := fun o => cell_of hx3 o
  have l3 : w2.heap.size < w3.heap.size := (Array.getElem?_eq_some_iff.1 hx3).1
  clear hx3 hb3
  go_wp2_with fail
  refine (zCopyValue_any X HFX.out (.slice a2 X.l.length c2) w3 B (by have := HB2.out.size; omega) (isL_below HL2.out HB3.out (by have := HB2.out.size; omega))).mono ?_
  rintro e w4 ⟨a4, c4, rfl, hr4, hb4⟩
  have HR4 := Lib.hid hr4
  have HB4 := Lib.hid (below_down (below_down HB2.out HB3.out (Nat.le_refl _)) hb4 (Nat.le_refl _))
  have hx4 := (hb4.block (w.heap.size + 1) (by omega)).trans ((HB3.out.block (w.heap.size + 1) (by omega)).trans HX2.out)
  have p4 := fun o => cell_of hx4 o
  have f4 := fun o => frozen_of hx4 o
  have l4 : w.heap.size + 1 < w4.heap.size := (Array.getElem?_eq_some_iff.1 hx4).1
  clear hr4 hb4 hx4 q3
  simp only [GV.agg]
  go_wp2_with fail
  refine bodyPost_ret (v := .tuple #[.agg #[.int .i64 X.k, .bool X.b, .int .i64 X.n, .string X.t, .slice a4 X.l.length c4], .int .i64 Y]) (by simp [results, Tryz.results140, go_sem, p4]) rfl ?_
  exact tellR_set HB4.out (Nat.le_succ _) (show w.heap.size + 1 < w3.heap.size by omega) HR4.out
def envP (W : WV) : EP := ⟨varP W, fieldP W, getP W⟩
theorem envP_fit {W : WV} (h : W.fit) : (envP W).fit := ⟨fun s => lookP_fit h.1 s _, fun s => lookP_fit h.2.1 s _, fun n s => getP_fit h n s⟩
theorem env_ok (be B : Nat) (W : WV) (fW : W.fit) (fv : ∀ f ∈ W.facts, f.vals.length ≤ 2147483647) (w : World) (h : isEnv w be B W) : EnvOk (envP W) (.agg #[.pointer (some ⟨be, 0, none⟩)]) B w := fun w' hb hs =>
  have h' := isEnv_below h hb
  ⟨fun s => lawVar_any be B W fW s w' h', fun s => lawField_any be B W fW s w' h', fun n s => lawGet_any be B W fW fv n s w' h'⟩
end Go.Proofs.YtljljhjdlicfeaaGreat
