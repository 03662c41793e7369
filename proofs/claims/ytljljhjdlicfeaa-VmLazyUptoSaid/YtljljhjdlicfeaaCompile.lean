/-
  What code.Compile tells: compE of an expression that may be; else the refusal. Conditions: none.
-/
import Derived.Test.YtljljhjdlicfeaaNC
import Derived.Test.YtljljhjdlicfeaaNB
namespace Go.Proofs.Ytljljhjdlicfeaa
open Go Go.RowKit
set_option maxRecDepth 100000
set_option linter.unusedVariables false
mutual
theorem mayC_true : ∀ (x : GE) (d n : Nat), (mayC x d n).1 = true → x.wf ∧ (mayC x d n).2 = n + x.size
  | ⟨op, text, v, args⟩, d, n, h => by
    rw [mayC] at h ⊢
    split at h
    · cases h
    · rename_i hc
      rw [if_neg hc]
      have ih := maysC_true args (d + 1) (n + 1) h
      refine ⟨⟨fun h8 => ?_, ih.1⟩, by rw [ih.2, GE.size]; omega⟩
      have hn : nodeOk ⟨op, text, v, args⟩ = true := by simp at hc; exact hc.2.2
      unfold nodeOk at hn
      dsimp only at hn
      rw [if_neg (by omega), if_neg (by omega), if_neg (by omega), if_neg (by omega), if_pos h8] at hn
      simp at hn
      exact hn.2.2
theorem maysC_true : ∀ (l : List GE) (d n : Nat), (maysC l d n).1 = true → wfE l ∧ (maysC l d n).2 = n + sizeE l
  | [], d, n, _ => ⟨trivial, by simp [maysC, sizeE]⟩
  | x :: r, d, n, h => by
    rw [maysC] at h ⊢
    split at h
    · rename_i hc
      rw [if_pos hc]
      have h1 := mayC_true x d n hc
      have h2 := maysC_true r d _ h
      exact ⟨⟨h1.1, h2.1⟩, by rw [h2.2, h1.2, sizeE]; omega⟩
    · cases h
end
theorem inner_wide {full : Bool} {w : World} {lo lo' : Nat} {ob : Option Nat} {s : Value} {l : List GV} (h : inner full w lo ob s l) (hl : lo' ≤ lo) : inner full w lo' ob s l :=
  isS_mono h (fun _ _ _ => rfl) (fun b g => ⟨Nat.le_trans hl g.1, g.2⟩) (fun a c hr hf hc => by
    obtain ⟨b, off, cs, T, ea, hb, r⟩ := hr hf hc
    exact ⟨b, off, cs, T, ea, ⟨Nat.le_trans hl hb.1, hb.2⟩, r⟩)
theorem ownI_wide {full : Bool} {w : World} {lo lo' base base' : Nat} {T : TypeId} {v : Value} {l : List GI} (h : ownI full w lo base T v l) (hl : lo' ≤ lo) (hb : base' ≤ base) : ownI full w lo' base' T v l := by
  obtain ⟨ss, hls, ⟨h1, h2⟩, hin⟩ := h
  refine ⟨ss, hls, ⟨h1, ?_⟩, fun i h h' => inner_wide (hin i h h') hl⟩
  rcases h2 with h2 | ⟨g, cap, cur, e, hg, r⟩
  · exact .inl h2
  · exact .inr ⟨g, cap, cur, e, Nat.le_trans hb hg, r⟩
/-- what Compile tells -/
def codeOf (x : GE) : List GI := if emay x = true then compE x 0 else []
def errOf (x : GE) : Int := if emay x = true then 0 else 1

set_option maxHeartbeats 1600000 in
theorem Compile_any (x : GE) (fx : x.fit) (s sa : Value) (w : World) (B : Nat) (hB : B ≤ w.heap.size) (hs : isL w 0 B s x.v.l) (hsa : isX w B sa x.args) :
    Calls Try.prog 18 #[x.agg s sa] w fun e w' => ∃ v, e = .returned (.tuple #[v, .int .i64 (errOf x)]) ∧ ownI true w' w.heap.size w.heap.size 110 v (codeOf x) ∧ Below w.heap.size w w' := by
  obtain ⟨aa, ca, rfl⟩ := isE_form hsa
  obtain ⟨a, c, rfl⟩ := isL_form hs
  have HS := Lib.hid hs
  have HSA := Lib.hid hsa
  clear hs hsa
  simp only [GE.agg]
  have hb0 : Below w.heap.size w (w.alloc (.cells #[.int .i64 x.op, .string x.text, .int .i64 x.v.k, .bool x.v.b, .int .i64 x.v.n, .string x.v.t, .slice a x.v.l.length c, .slice aa x.args.length ca] 40)) := (Below.refl w.heap.size w).alloc (Nat.le_refl _) _
  have HB0 := Lib.hid hb0
  clear hb0
  go_enter Try.func18, Try.ntmps18
  go_wp2_with fail
  refine (May_any x fx _ _ _ B (by have := HB0.out.size; omega) (isL_below HS.out HB0.out hB) (isX_below HSA.out HB0.out hB)).mono ?_
  rintro e w1 ⟨rfl, hb⟩
  have hb1 := HB0.out.trans (hb.mono HB0.out.size)
  have p1 := hb.block w.heap.size (by simp)
  rw [heap_last] at p1
  have q1 := fun o => cell_of p1 o
  have HB := Lib.hid hb
  have HB1 := Lib.hid hb1
  clear hb hb1 p1
  cases hm : emay x
  · have HM := Lib.hid hm
    clear hm
    go_wp2_with fail
    refine bodyPost_ret (v := .tuple #[.slice none 0 0, .int .i64 1]) (by simp [results, Try.results18, go_sem]) rfl ⟨_, by rw [errOf, HM.out]; rfl, by rw [codeOf, HM.out]; exact ownI_nil _ _ _ _ _, HB1.out⟩
  · have HM := Lib.hid hm
    have hsz : x.size ≤ 4096 := by
      have h1 := (mayC_true x 1 0 hm).2
      have h2 := mayC_le x 1 0 hm
      omega
    have hwf := (mayC_true x 1 0 hm).1
    have HWF := Lib.hid hwf
    clear hm hwf
    have hz1 : w.heap.size + 1 ≤ w1.heap.size := by have := HB.out.size; simpa using this
    have hz2 : w.heap.size < w1.heap.size := by omega
    have hz3 : w.heap.size ≠ w1.heap.size := by omega
    go_wp2_with fail
    have hb2 : Below w1.heap.size w1 (w1.alloc (.cells #[.slice none 0 0] 86)) := (Below.refl w1.heap.size w1).alloc (Nat.le_refl _) _
    have hbb := HB1.out.trans (hb2.mono HB1.out.size)
    have hst : St (w1.alloc (.cells #[.slice none 0 0] 86)) w1.heap.size (w1.heap.size + 1) [] none := ⟨_, heap_last, rfl, ownI_nil _ _ _ _ _, by omega, by simp⟩
    refine (expr_any x fx HWF.out [] w1.heap.size (w1.heap.size + 1) none _ _ _ B (by simp; omega) (by omega) hst (isL_below HS.out hbb hB) (isX_below HSA.out hbb hB)).mono ?_
    rintro e w2 ⟨rfl, ob, hst2, hgr⟩
    obtain ⟨v, h1, h2, h3, h4, h5⟩ := hst2
    have q2 := fun o => cell_of h1 o
    have hb3 : Below w.heap.size w w2 := hbb.trans (hgr.below (B := w.heap.size) (by simp; omega) (fun k hk => by omega) (fun g hg => by cases hg))
    have H3 := Lib.hid h3
    have HB3 := Lib.hid hb3
    clear h1 h3 hb3 hbb hb2 hgr hst
    go_wp2_with fail
    have hown : ownI true w2 w.heap.size w.heap.size 110 v (codeOf x) := by
      rw [codeOf, if_pos HM.out]
      exact ownI_wide H3.out (by omega) (by omega)
    exact bodyPost_ret (v := .tuple #[v, .int .i64 0]) (by simp [results, Try.results18, go_sem]) rfl ⟨v, by rw [errOf, if_pos HM.out], hown, HB3.out⟩
end Go.Proofs.Ytljljhjdlicfeaa
