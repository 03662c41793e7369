/-
  What code.Compile tells: compE of an expression that may be; else the refusal. Conditions: none.
-/
import Derived.Test.YtljljhjdlicfeaaGreatNC
import Derived.Test.YtljljhjdlicfeaaGreatNB
import Derived.Test.YtljljhjdlicfeaaGreatMC
import Derived.Test.YtljljhjdlicfeaaGreatMA
import Derived.Lib.ItoaLen
import Derived.Lib.Join
import Derived.Shelf.Small.Wraps
import Derived.Test.YtljljhjdlicfeaaGreatPAG
import Derived.Lib.ItoaMem
import Derived.Test.YtljljhjdlicfeaaGreatProg
import Derived.WalkLawsBesides
import Derived.Deep.QuietTactic
import Derived.BigQuiet
import Derived.Outline
import Derived.Test.YtljljhjdlicfeaaGreatOwnR
import Derived.Test.YtljljhjdlicfeaaGreatRCompU
import Derived.Test.YtljljhjdlicfeaaGreatPAH
namespace Go.Proofs.YtljljhjdlicfeaaGreat
open Go Go.RowKit
set_option maxRecDepth 100000
set_option linter.unusedVariables false
mutual
theorem mayC_true : ∀ (x : GE) (d n : Nat), (mayC x d n).1 = true → x.wf ∧ (mayC x d n).2 = n + x.size
  | ⟨op, text, v, args⟩, d, n, h => by
    rw [mayC] at h ⊢
    split at h
    · cases h
    · rename_i hc
      rw [if_neg hc]
      have ih := maysC_true args (d + 1) (n + 1) h
      refine ⟨⟨fun h8 => ?_, ih.1⟩, by rw [ih.2, GE.size]; omega⟩
      have hn : nodeOk ⟨op, text, v, args⟩ = true := by simp at hc; exact hc.2.2
      unfold nodeOk at hn
      dsimp only at hn
      rw [if_neg (by omega), if_neg (by omega), if_neg (by omega), if_neg (by omega), if_pos h8] at hn
      simp at hn
      exact hn.2.2
theorem maysC_true : ∀ (l : List GE) (d n : Nat), (maysC l d n).1 = true → wfE l ∧ (maysC l d n).2 = n + sizeE l
  | [], d, n, _ => ⟨trivial, by simp [maysC, sizeE]⟩
  | x :: r, d, n, h => by
    rw [maysC] at h ⊢
    split at h
    · rename_i hc
      rw [if_pos hc]
      have h1 := mayC_true x d n hc
      have h2 := maysC_true r d _ h
      exact ⟨⟨h1.1, h2.1⟩, by rw [h2.2, h1.2, sizeE]; omega⟩
    · cases h
end
theorem inner_wide {full : Bool} {w : World} {lo lo' : Nat} {ob : Option Nat} {s : Value} {l : List GV} (h : inner full w lo ob s l) (hl : lo' ≤ lo) : inner full w lo' ob s l :=
  isS_mono h (fun _ _ _ => rfl) (fun b g => ⟨Nat.le_trans hl g.1, g.2⟩) (fun a c hr hf hc => by
    obtain ⟨b, off, cs, T, ea, hb, r⟩ := hr hf hc
    exact ⟨b, off, cs, T, ea, ⟨Nat.le_trans hl hb.1, hb.2⟩, r⟩)
theorem ownI_wide {full : Bool} {w : World} {lo lo' base base' : Nat} {T : TypeId} {v : Value} {l : List GI} (h : ownI full w lo base T v l) (hl : lo' ≤ lo) (hb : base' ≤ base) : ownI full w lo' base' T v l := by
  obtain ⟨ss, hls, ⟨h1, h2⟩, hin⟩ := h
  refine ⟨ss, hls, ⟨h1, ?_⟩, fun i h h' => inner_wide (hin i h h') hl⟩
  rcases h2 with h2 | ⟨g, cap, cur, e, hg, r⟩
  · exact .inl h2
  · exact .inr ⟨g, cap, cur, e, Nat.le_trans hb hg, r⟩
def codeOf (x : GE) : List GI := if emay x = true then compE x 0 else []
def errOf (x : GE) : Int := if emay x = true then 0 else 1
set_option maxHeartbeats 1600000 in
theorem Compile_any (x : GE) (fx : x.fit) (s sa : Value) (w : World) (B : Nat) (hB : B ≤ w.heap.size) (hs : isL w 0 B s x.v.l) (hsa : isX w B sa x.args) :
    Calls Tryz.prog 13 #[x.agg s sa] w fun e w' => ∃ v, e = .returned (.tuple #[v, .int .i64 (errOf x)]) ∧ ownI true w' w.heap.size w.heap.size 86 v (codeOf x) ∧ Below w.heap.size w w' := by
  obtain ⟨aa, ca, rfl⟩ := isE_form hsa
  obtain ⟨a, c, rfl⟩ := isL_form hs
  have HS := Lib.hid hs
  have HSA := Lib.hid hsa
  clear hs hsa
  simp only [GE.agg]
  have hb0 : Below w.heap.size w (w.alloc (.cells #[.int .i64 x.op, .string x.text, .int .i64 x.v.k, .bool x.v.b, .int .i64 x.v.n, .string x.v.t, .slice a x.v.l.length c, .slice aa x.args.length ca] 38)) := (Below.refl w.heap.size w).alloc (Nat.le_refl _) _
  have HB0 := Lib.hid hb0
  clear hb0
  go_enter Tryz.func13, Tryz.ntmps13
  go_wp2_with fail
  refine (May_any x fx _ _ _ B (by have := HB0.out.size; omega) (isL_below HS.out HB0.out hB) (isX_below HSA.out HB0.out hB)).mono ?_
  rintro e w1 ⟨rfl, hb⟩
  have hb1 := HB0.out.trans (hb.mono HB0.out.size)
  have p1 := hb.block w.heap.size (by simp)
  rw [heap_last] at p1
  have q1 := fun o => cell_of p1 o
  have HB := Lib.hid hb
  have HB1 := Lib.hid hb1
  clear hb hb1 p1
  cases hm : emay x
  · have HM := Lib.hid hm
    clear hm
    go_wp2_with fail
    refine bodyPost_ret (v := .tuple #[.slice none 0 0, .int .i64 1]) (by simp [results, Tryz.results13, go_sem]) rfl ⟨_, by rw [errOf, HM.out]; rfl, by rw [codeOf, HM.out]; exact ownI_nil _ _ _ _ _, HB1.out⟩
  · have HM := Lib.hid hm
    have hsz : x.size ≤ 4096 := by
      have h1 := (mayC_true x 1 0 hm).2
      have h2 := mayC_le x 1 0 hm
      omega
    have hwf := (mayC_true x 1 0 hm).1
    have HWF := Lib.hid hwf
    clear hm hwf
    have hz1 : w.heap.size + 1 ≤ w1.heap.size := by have := HB.out.size; simpa using this
    have hz2 : w.heap.size < w1.heap.size := by omega
    have hz3 : w.heap.size ≠ w1.heap.size := by omega
    go_wp2_with fail
    have hb2 : Below w1.heap.size w1 (w1.alloc (.cells #[.slice none 0 0] 73)) := (Below.refl w1.heap.size w1).alloc (Nat.le_refl _) _
    have hbb := HB1.out.trans (hb2.mono HB1.out.size)
    have hst : St (w1.alloc (.cells #[.slice none 0 0] 73)) w1.heap.size (w1.heap.size + 1) [] none := ⟨_, heap_last, rfl, ownI_nil _ _ _ _ _, by omega, by simp⟩
    refine (expr_any x fx HWF.out [] w1.heap.size (w1.heap.size + 1) none _ _ _ B (by simp; omega) (by omega) hst (isL_below HS.out hbb hB) (isX_below HSA.out hbb hB)).mono ?_
    rintro e w2 ⟨rfl, ob, hst2, hgr⟩
    obtain ⟨v, h1, h2, h3, h4, h5⟩ := hst2
    have q2 := fun o => cell_of h1 o
    have hb3 : Below w.heap.size w w2 := hbb.trans (hgr.below (B := w.heap.size) (by simp; omega) (fun k hk => by omega) (fun g hg => by cases hg))
    have H3 := Lib.hid h3
    have HB3 := Lib.hid hb3
    clear h1 h3 hb3 hbb hb2 hgr hst
    go_wp2_with fail
    have hown : ownI true w2 w.heap.size w.heap.size 86 v (codeOf x) := by
      rw [codeOf, if_pos HM.out]
      exact ownI_wide H3.out (by omega) (by omega)
    exact bodyPost_ret (v := .tuple #[v, .int .i64 0]) (by simp [results, Tryz.results13, go_sem]) rfl ⟨v, by rw [errOf, if_pos HM.out], hown, HB3.out⟩
end Go.Proofs.YtljljhjdlicfeaaGreat
namespace Go.Proofs.YtljljhjdlicfeaaGreat
open Go Go.RowKit
set_option linter.unusedVariables false
end Go.Proofs.YtljljhjdlicfeaaGreat
namespace Go.Proofs.YtljljhjdlicfeaaGreat
open Go Go.RowKit
set_option linter.unusedVariables false
theorem text_eq {a b : ByteArray} (h : a.data.toList = b.data.toList) : a = b := by
  cases a; cases b
  simp only [ByteArray.mk.injEq]
  exact Array.toList_inj.1 h
end Go.Proofs.YtljljhjdlicfeaaGreat
namespace Go.Proofs.YtljljhjdlicfeaaGreat
open Go Go.RowKit
set_option maxRecDepth 100000
set_option linter.unusedVariables false
def faultE (k : Int) : Ending := .panicked [{ v := .iface 80 (.agg #[.int .i64 k]), recovered := false }]
theorem need_ok (k : Int) (w : World) : Calls Tryz.prog 43 #[.bool true, .int .i64 k] w fun e w' => e = .returned (.tuple #[]) ∧ w' = w := by
  go_enter Tryz.func43, Tryz.ntmps43
  go_wp2_with fail
  go_end0
  exact ⟨rfl, rfl⟩
theorem need_no (k : Int) (w : World) : Calls Tryz.prog 43 #[.bool false, .int .i64 k] w fun e w' => e = faultE k ∧ w' = w := by
  go_enter Tryz.func43, Tryz.ntmps43
  go_wp2_with fail
  exact ⟨rfl, rfl, rfl⟩
end Go.Proofs.YtljljhjdlicfeaaGreat
namespace Go.Proofs.YtljljhjdlicfeaaGreat
open Go Go.RowKit
set_option linter.unusedVariables false
mutual
def partsC : GE → Nat → Nat
  | ⟨op, text, v, args⟩, d => if 30 < d ∨ nodeOk ⟨op, text, v, args⟩ = false then 4097 else partsS args (d + 1) 1
def partsS : List GE → Nat → Nat → Nat
  | [], _, n => n
  | x :: r, d, n => if n ≤ 4096 then partsS r d (n + partsC x d) else n
end
theorem partsC_eq (x : GE) (d : Nat) : partsC x d = if 30 < d ∨ nodeOk x = false then 4097 else partsS x.args (d + 1) 1 := by
  cases x; rw [partsC]
theorem partsS_ge : ∀ (l : List GE) (d n : Nat), n ≤ partsS l d n
  | [], _, _ => Nat.le_refl _
  | x :: r, d, n => by
    rw [partsS]
    split
    · exact Nat.le_trans (Nat.le_add_right _ _) (partsS_ge r d _)
    · exact Nat.le_refl _
theorem partsC_pos (x : GE) (d : Nat) : 1 ≤ partsC x d := by
  rw [partsC_eq]
  split
  · omega
  · exact partsS_ge _ _ _
theorem partsS_shift : ∀ (l : List GE) (d n k : Nat), (partsS l d (n + k) ≤ 4096 ↔ n + partsS l d k ≤ 4096) ∧ (partsS l d (n + k) ≤ 4096 → partsS l d (n + k) = n + partsS l d k)
  | [], d, n, k => by simp [partsS]
  | x :: r, d, n, k => by
    have ih := partsS_shift r d n (k + partsC x d)
    rw [← Nat.add_assoc] at ih
    simp only [partsS]
    by_cases h1 : n + k ≤ 4096
    · rw [if_pos h1, if_pos (by omega)]
      exact ih
    · rw [if_neg h1]
      have := partsS_ge r d (k + partsC x d)
      refine ⟨⟨fun h => absurd h h1, fun h => ?_⟩, fun h => absurd h h1⟩
      split at h <;> omega
mutual
theorem mayC_parts : ∀ (x : GE) (d n : Nat), n ≤ 4096 → ((mayC x d n).1 = true ↔ n + partsC x d ≤ 4096) ∧ ((mayC x d n).1 = true → (mayC x d n).2 = n + partsC x d)
  | ⟨op, text, v, args⟩, d, n, hn => by
    have hp := partsC_pos ⟨op, text, v, args⟩ d
    have ih := fun h => maysC_parts args (d + 1) (n + 1) h
    have sh := partsS_shift args (d + 1) n 1
    rw [mayC]
    by_cases hc : 30 < d ∨ nodeOk ⟨op, text, v, args⟩ = false
    · have e : partsC ⟨op, text, v, args⟩ d = 4097 := by rw [partsC, if_pos hc]
      rw [if_pos (.inr hc), e]
      simp
    · have e : partsC ⟨op, text, v, args⟩ d = partsS args (d + 1) 1 := by rw [partsC, if_neg hc]
      by_cases h1 : 4096 < n + 1
      · rw [if_pos (.inl h1)]
        simp
        omega
      · rw [if_neg (by rintro (h | h) <;> contradiction), e]
        obtain ⟨a, b⟩ := ih (by omega)
        refine ⟨a.trans sh.1, fun h => ?_⟩
        rw [b h, sh.2 (a.1 h)]
theorem maysC_parts : ∀ (l : List GE) (d n : Nat), n ≤ 4096 → ((maysC l d n).1 = true ↔ partsS l d n ≤ 4096) ∧ ((maysC l d n).1 = true → (maysC l d n).2 = partsS l d n)
  | [], d, n, hn => by simp [maysC, partsS, hn]
  | x :: r, d, n, hn => by
    obtain ⟨a, b⟩ := mayC_parts x d n hn
    rw [maysC, partsS, if_pos hn]
    by_cases h : (mayC x d n).1 = true
    · rw [if_pos h, b h]
      exact maysC_parts r d _ (a.1 h)
    · rw [if_neg h]
      have h2 : ¬ n + partsC x d ≤ 4096 := fun h' => h (a.2 h')
      have := partsS_ge r d (n + partsC x d)
      refine ⟨⟨fun h => (by simp at h), fun h => by omega⟩, fun h => (by simp at h)⟩
end
theorem emay_parts (x : GE) : (mayC x 1 0).1 = decide (partsC x 1 ≤ 4096) := by
  have := (mayC_parts x 1 0 (by omega)).1
  rw [Nat.zero_add] at this
  rw [Bool.eq_iff_iff, this]
  simp
mutual
theorem partsC_le : ∀ (x : GE) (d : Nat), d ≤ 31 → partsC x d ≤ 4097 * (32 - d)
  | ⟨op, text, v, args⟩, d, hd => by
    rw [partsC]
    split
    · omega
    · have h30 : d ≤ 30 := by rename_i h; omega
      have := partsS_le args (d + 1) 1 (by omega) (by omega)
      omega
theorem partsS_le : ∀ (l : List GE) (d n : Nat), d ≤ 31 → n ≤ 4096 + 4097 * (32 - d) → partsS l d n ≤ 4096 + 4097 * (32 - d)
  | [], d, n, hd, hn => by simpa [partsS] using hn
  | x :: r, d, n, hd, hn => by
    rw [partsS]
    split
    · exact partsS_le r d _ hd (by have := partsC_le x d hd; omega)
    · exact hn
end
end Go.Proofs.YtljljhjdlicfeaaGreat
namespace Go.Proofs.YtljljhjdlicfeaaGreat
open Go Go.RowKit
set_option maxRecDepth 100000
set_option linter.unusedVariables false
def PartsC (x : GE) (d : Nat) : Prop := ∀ (s sa : Value) (w : World) (B : Nat), B ≤ w.heap.size → isL w 0 B s x.v.l → isX w B sa x.args →
  Calls Tryz.prog 46 #[x.agg s sa, .int .i64 (d : Nat)] w fun e w' => e = .returned (.int .i64 (partsC x d : Nat)) ∧ Below w.heap.size w w'
theorem partsS_stop (l : List GE) (d n : Nat) (h : ¬ n ≤ 4096) : partsS l d n = n := by
  cases l with
  | nil => rfl
  | cons x r => rw [partsS, if_neg h]
theorem partsS_at (l : List GE) (k d n : Nat) (hk : k < l.length) (h : n ≤ 4096) : partsS (l.drop k) d n = partsS (l.drop (k + 1)) d (n + partsC l[k] d) := by
  rw [List.drop_eq_getElem_cons hk, partsS, if_pos h]
theorem partsS_end (l : List GE) (k d n : Nat) (hk : l.length ≤ k) : partsS (l.drop k) d n = n := by
  rw [List.drop_of_length_le hk]; rfl
set_option maxHeartbeats 1600000 in
theorem parts_step (x : GE) (fx : x.fit) (d : Nat) (hd : d ≤ 31) (h : d ≤ 30 → ∀ y ∈ x.args, PartsC y (d + 1)) : PartsC x d := by
  intro s sa w B hB hs hsa
  have hsa0 := hsa
  obtain ⟨aa, ca, bb, off, rfl, hc, ha, hA⟩ := isX_open hsa
  obtain ⟨a, c, rfl⟩ := isL_form hs
  have HS := Lib.hid hs
  have HSA := Lib.hid hsa0
  have HA := Lib.hid hA
  have Ha := Lib.hid ha
  have HH := Lib.hid h
  have FX := Lib.hid fx
  have HE := Lib.hid (partsC_eq x d)
  have hal := (fitE_open fx).2.2.2.2.1
  clear hs hsa hsa0 hA ha h fx
  simp only [GE.agg]
  have hb0 : Below w.heap.size w (w.alloc (.cells #[.int .i64 x.op, .string x.text, .int .i64 x.v.k, .bool x.v.b, .int .i64 x.v.n, .string x.v.t, .slice a x.v.l.length c, .slice aa x.args.length ca] 38)) := (Below.refl w.heap.size w).alloc (Nat.le_refl _) _
  have HB0 := Lib.hid hb0
  clear hb0
  by_cases h30 : 30 < d
  · go_enter Tryz.func46, Tryz.ntmps46
    go_wp2_with fail
    go_ret
    exact ⟨ret_int (by rw [HE.out, if_pos (.inl h30)]; rfl), HB0.out⟩
  go_enter Tryz.func46, Tryz.ntmps46
  go_wp2_with fail
  refine (own_any x FX.out _ _ _ B (by have := HB0.out.size; omega) (isL_below HS.out HB0.out hB) (isX_below HSA.out HB0.out hB)).mono ?_
  rintro e w1 ⟨rfl, hb1⟩
  have hsz1 : w.heap.size + 1 ≤ w1.heap.size := by have := hb1.size; simpa using this
  have HP := Lib.hid ((hb1.block w.heap.size (by simp)).trans heap_last)
  have HB1 := Lib.hid (below_down HB0.out hb1 (Nat.le_refl _))
  clear hb1
  cases hn : nodeOk x
  · have HN := Lib.hid hn
    clear hn
    go_wp2_with fail
    go_ret
    exact ⟨ret_int (by rw [HE.out, if_pos (.inr HN.out)]; rfl), HB1.out⟩
  have HE2 : Hid (partsC x d = partsS x.args (d + 1) 1) := HE.out.trans (if_neg (by rw [hn]; simp; omega))
  have HBD : Hid (∀ y ∈ x.args, partsC y (d + 1) ≤ 200000) := fun y _ => by have := partsC_le y (d + 1) (by omega); omega
  clear hn HE
  go_wp2_with fail
  go_loopw [5, 6] (fun n i wr => ∃ (k m : Nat), k ≤ x.args.length ∧ m ≤ 300000 ∧ n = .int .i64 m ∧ i = .int .i64 k ∧ Below w.heap.size w wr ∧ w.heap.size + 1 ≤ wr.heap.size ∧
    Hid (wr.heap[w.heap.size]? = some (.cells #[.int .i64 x.op, .string x.text, .int .i64 x.v.k, .bool x.v.b, .int .i64 x.v.n, .string x.v.t, .slice a x.v.l.length c, .slice aa x.args.length ca] 38 (0, 0))) ∧ Hid (partsC x d = partsS (x.args.drop k) (d + 1) m)) (fun _ i _ => x.args.length - (intOf i).toNat)
  case atStart => exact ⟨0, 1, Nat.zero_le _, by omega, rfl, rfl, HB1.out, hsz1, HP.out, by rw [List.drop_zero]; exact HE2.out⟩
  case round =>
    obtain ⟨k, m, hk, hm, rfl, rfl, hbel, hsz, hbox, hR⟩ := hrel
    have q1 := fun o => cell_of hbox.out o
    have HB := Lib.hid hbel
    by_cases hlt : k < x.args.length
    rotate_left
    · clear hbel
      go_wp2_with fail
      go_ret
      exact ⟨ret_int (by rw [hR.out, partsS_end _ _ _ _ (by omega)]), HB.out⟩
    by_cases hm2 : m ≤ 4096
    rotate_left
    · clear hbel
      go_wp2_with fail
      go_ret
      exact ⟨ret_int (by rw [hR.out, partsS_stop _ _ _ hm2]), HB.out⟩
    obtain ⟨rfl, hb2⟩ := Ha.out (by omega)
    obtain ⟨ax, cx, aax, cax, x0, x1, x2, x3, x4, x5, x6, x7, hsx, hsax⟩ := cellsE_open (HA.out k hlt)
    have hg : ∀ o, wr.cell? ⟨bb, o, none⟩ = w.cell? ⟨bb, o, none⟩ := fun o => hbel.cell (p := ⟨bb, o, none⟩) (Nat.lt_of_lt_of_le hb2 hB)
    have HC : Hid (Calls Tryz.prog 46 #[GE.agg x.args[k] (.slice ax x.args[k].v.l.length cx) (.slice aax x.args[k].args.length cax), .int .i64 ((d : Int) + 1)] wr fun e w' => e = .returned (.int .i64 (partsC x.args[k] (d + 1) : Nat)) ∧ Below wr.heap.size wr w') :=
      HH.out (by omega) _ (List.getElem_mem hlt) _ _ wr B (Nat.le_trans hB hbel.size) (isL_below hsx hbel hB) (isX_below hsax hbel hB)
    have hbd := HBD.out _ (List.getElem_mem hlt)
    have HR2 := Lib.hid (hR.out.trans (partsS_at _ k _ _ hlt hm2))
    generalize partsC x.args[k] (d + 1) = P at *
    have hz1 : w.heap.size < wr.heap.size := by omega
    clear hsx hsax hbel Ha
    go_wp2_with fail
    refine HC.out.mono ?_
    rintro e w2 ⟨rfl, hb2⟩
    have HB2 := Lib.hid (below_down HB.out hb2 (Nat.le_refl _))
    have HX2 := Lib.hid ((hb2.block w.heap.size hz1).trans hbox.out)
    have hz2 : w.heap.size + 1 ≤ w2.heap.size := Nat.le_trans hsz hb2.size
    clear hb2 q1
    go_wp2_with fail
    go_roundw
    case rel => exact ⟨k + 1, m + P, by omega, by omega, by go_num, by go_num, HB2.out, hz2, HX2.out, HR2.out⟩
    case measure => simp [intOf]; omega
theorem parts_all : ∀ (m : Nat) (x : GE) (d : Nat), x.size ≤ m → x.fit → d ≤ 31 → PartsC x d := by
  intro m
  induction m with
  | zero => exact fun x d h => by have := size_args x; omega
  | succ m ih =>
    intro x d h fx hd
    have := size_args x
    exact parts_step x fx d hd fun h30 y hy => ih y (d + 1) (by have := sizeE_mem hy; omega) (fitE_mem (fitE_open fx).2.2.2.2.2 y hy) (by omega)
set_option maxHeartbeats 400000 in
theorem rMayE_any (x : GE) (fx : x.fit) (s sa : Value) (w : World) (B : Nat) (hB : B ≤ w.heap.size) (hs : isL w 0 B s x.v.l) (hsa : isX w B sa x.args) :
    Calls Tryz.prog 26 #[x.agg s sa] w fun e w' => e = .returned (.bool (emay x)) ∧ Below w.heap.size w w' := by
  obtain ⟨aa, ca, rfl⟩ := isE_form hsa
  obtain ⟨a, c, rfl⟩ := isL_form hs
  have HS := Lib.hid hs
  have HSA := Lib.hid hsa
  have HE := Lib.hid (emay_parts x)
  have HC := Lib.hid (parts_all x.size x 1 (Nat.le_refl _) fx (by omega))
  clear hs hsa
  simp only [GE.agg]
  have hb0 : Below w.heap.size w (w.alloc (.cells #[.int .i64 x.op, .string x.text, .int .i64 x.v.k, .bool x.v.b, .int .i64 x.v.n, .string x.v.t, .slice a x.v.l.length c, .slice aa x.args.length ca] 38)) := (Below.refl w.heap.size w).alloc (Nat.le_refl _) _
  have HB0 := Lib.hid hb0
  clear hb0
  go_enter Tryz.func26, Tryz.ntmps26
  go_wp2_with fail
  refine (HC.out _ _ _ B (by have := HB0.out.size; omega) (isL_below HS.out HB0.out hB) (isX_below HSA.out HB0.out hB)).mono ?_
  rintro e w1 ⟨rfl, hb1⟩
  have HB1 := Lib.hid (below_down HB0.out hb1 (Nat.le_refl _))
  clear hb1
  go_wp2_with fail
  go_ret
  exact ⟨ret_bool (by rw [emay, HE.out, Bool.eq_iff_iff]; simp; omega), HB1.out⟩
end Go.Proofs.YtljljhjdlicfeaaGreat
namespace Go.Proofs.YtljljhjdlicfeaaGreat
open Go Go.RowKit
set_option maxRecDepth 100000
set_option linter.unusedVariables false
theorem rcomp_all : ∀ (m : Nat) (x : GE), x.size ≤ m → x.fit → x.wf → RCompC x := by
  intro m
  induction m with
  | zero => exact fun x h => by have := size_args x; omega
  | succ m ih =>
    intro x h fx wx
    have hs := size_args x
    have hA : ∀ y ∈ x.args, RCompC y := fun y hy => ih y (by have := sizeE_mem hy; omega) (fitE_mem (fitE_open fx).2.2.2.2.2 y hy) (wfE_mem (wf_open wx).2 y hy)
    by_cases h1 : x.op = 1 ∨ x.op = 2 ∨ x.op = 3
    · exact rcomp_leaf x fx h1
    by_cases h2 : x.op = 8 ∨ x.op = 9
    · have hl := (wf_open wx).1 h2
      obtain ⟨y, z, e⟩ : ∃ y z, x.args = [y, z] := by
        match x.args, hl with
        | [y, z], _ => exact ⟨y, z, rfl⟩
      rcases h2 with h2 | h2
      · exact rcomp_two8 x y z fx h2 e (hA y (by rw [e]; simp)) (hA z (by rw [e]; simp))
      · exact rcomp_two9 x y z fx h2 e (hA y (by rw [e]; simp)) (hA z (by rw [e]; simp))
    · exact rcomp_many x fx (by omega) hA
theorem rcomp_any (x : GE) (fx : x.fit) (wx : x.wf) : RCompC x := rcomp_all x.size x (Nat.le_refl _) fx wx
def isI2 (w : World) (Br B : Nat) (s : Value) (l : List GI) : Prop :=
  ∃ a c b off, s = .slice a l.length c ∧ l.length ≤ c ∧ (0 < l.length → a = some ⟨b, off, none⟩ ∧ b < Br) ∧ ∀ i (h : i < l.length), cellsI w B l[i] b (off + i * 8)
theorem isI2_I {w : World} {Br B : Nat} {s : Value} {l : List GI} (h : isI2 w Br B s l) (hB : B ≤ Br) : isI w Br s l := by
  obtain ⟨a, c, b, off, e, hc, ha, hA⟩ := h
  refine ⟨a, c, b, off, e, hc, ha, fun i h => ?_⟩
  obtain ⟨a, c, a0, a1, a2, a3, a4, a5, a6, a7, hs⟩ := hA i h
  exact ⟨a, c, a0, a1, a2, a3, a4, a5, a6, a7, isL_wide hs (Nat.le_refl _) hB⟩
theorem litR_I2 {w : World} {base : Nat} {v : Value} {l : List GI} (h : litR w base v l) : isI2 w w.heap.size base v l := by
  obtain ⟨ss, ⟨hl, hbs, _⟩, hown, hin⟩ := h
  have hlt := fun g hg => ownBlock_lt hown (g := g) hg
  obtain ⟨h1, h2 | ⟨g, cap, cur, e, hg, hh, hn, hcap, hsz, htk⟩⟩ := hown
  · have : l = [] := List.eq_nil_of_length_eq_zero h2.2
    subst this
    exact ⟨none, 0, 0, 0, h2.1, Nat.le_refl _, fun h => by simp at h, fun i hi => by simp at hi⟩
  · subst e
    have hcell : ∀ j, j < l.length * 8 → w.cell? ⟨g, j, none⟩ = (flatI l ss)[j]? := fun j hj => by
      rw [← htk, List.getElem?_take, if_pos hj]
      simp [World.cell?, hh]
    refine ⟨some ⟨g, 0, none⟩, cap, g, 0, rfl, hn, fun _ => ⟨rfl, (hlt g rfl).2⟩, fun i hi => ?_⟩
    obtain ⟨a0, a1, a2, a3, a4, a5, a6, a7⟩ := flatI_get l ss i hi (by omega)
    obtain ⟨a, c, e⟩ := isS_form (hin i hi (by omega))
    have hL := (hin i hi (by omega))
    rw [e] at a7 hL
    rw [Nat.zero_add]
    exact ⟨a, c, by rw [hcell _ (by omega), a0], by rw [hcell _ (by omega), a1], by rw [hcell _ (by omega), a2], by rw [hcell _ (by omega), a3], by rw [hcell _ (by omega), a4], by rw [hcell _ (by omega), a5], by rw [hcell _ (by omega), a6], by rw [hcell _ (by omega), a7], hL⟩
set_option maxHeartbeats 1600000 in
theorem RCompile_any (x : GE) (fx : x.fit) (s sa : Value) (w : World) (B : Nat) (hB : B ≤ w.heap.size) (hs : isL w 0 B s x.v.l) (hsa : isX w B sa x.args) :
    Calls Tryz.prog 17 #[x.agg s sa] w fun e w' => ∃ v, e = .returned (.tuple #[v, .int .i64 (errOf x)]) ∧ isI2 w' w'.heap.size B v (codeOf x) ∧ Below w.heap.size w w' := by
  obtain ⟨aa, ca, rfl⟩ := isE_form hsa
  obtain ⟨a, c, rfl⟩ := isL_form hs
  have HS := Lib.hid hs
  have HSA := Lib.hid hsa
  clear hs hsa
  simp only [GE.agg]
  have hb0 : Below w.heap.size w (w.alloc (.cells #[.int .i64 x.op, .string x.text, .int .i64 x.v.k, .bool x.v.b, .int .i64 x.v.n, .string x.v.t, .slice a x.v.l.length c, .slice aa x.args.length ca] 38)) := (Below.refl w.heap.size w).alloc (Nat.le_refl _) _
  have HB0 := Lib.hid hb0
  clear hb0
  go_enter Tryz.func17, Tryz.ntmps17
  go_wp2_with fail
  refine (rMayE_any x fx _ _ _ B (by have := HB0.out.size; omega) (isL_below HS.out HB0.out hB) (isX_below HSA.out HB0.out hB)).mono ?_
  rintro e w1 ⟨rfl, hb⟩
  have hb1 := HB0.out.trans (hb.mono HB0.out.size)
  have p1 := hb.block w.heap.size (by simp)
  rw [heap_last] at p1
  have q1 := fun o => cell_of p1 o
  have HB := Lib.hid hb
  have HB1 := Lib.hid hb1
  clear hb hb1 p1
  cases hm : emay x
  · have HM := Lib.hid hm
    clear hm
    go_wp2_with fail
    refine bodyPost_ret (v := .tuple #[.slice none 0 0, .int .i64 1]) (by simp [results, Tryz.results17, go_sem]) rfl ⟨_, by rw [errOf, HM.out]; rfl, by rw [codeOf, HM.out]; exact litR_I2 (ownR_nil (base := B) (Nat.le_trans hB HB1.out.size)).1, HB1.out⟩
  · have HM := Lib.hid hm
    have hsz : x.size ≤ 4096 := by
      have h1 := (mayC_true x 1 0 hm).2
      have h2 := mayC_le x 1 0 hm
      omega
    have hwf := (mayC_true x 1 0 hm).1
    have HWF := Lib.hid hwf
    clear hm hwf
    have hz1 : w.heap.size + 1 ≤ w1.heap.size := by have := HB.out.size; simpa using this
    go_wp2_with fail
    refine (rcomp_any x fx HWF.out [] 0 B _ _ _ _ B (by omega) (Nat.le_refl _) (Nat.le_trans hB HB1.out.size) (ownR_nil (Nat.le_trans hB HB1.out.size)) (isL_below HS.out HB1.out hB) (isX_below HSA.out HB1.out hB)).mono ?_
    rintro e w2 ⟨v, n', rfl, ho, hgr⟩
    have hb3 : Below w.heap.size w w2 := HB1.out.trans (hgr.below (B := w.heap.size) (by omega) (fun k hk => hk.elim) (fun g hg => by cases hg))
    have HO := Lib.hid ho
    have HB3 := Lib.hid hb3
    clear ho hb3 hgr
    go_wp2_with fail
    have hown : isI2 w2 w2.heap.size B v (codeOf x) := by
      rw [codeOf, if_pos HM.out]
      exact litR_I2 (by simpa using HO.out.1)
    exact bodyPost_ret (v := .tuple #[v, .int .i64 0]) (by simp [results, Tryz.results17, go_sem]) rfl ⟨v, by rw [errOf, if_pos HM.out], hown, HB3.out⟩
end Go.Proofs.YtljljhjdlicfeaaGreat
