/-
  What the references' parts and May of proctorref10 tell: partsC, emay. Conditions: lists and texts shorter than 2^31.
-/
import Derived.Test.YtnmolgmchoihmaaDoorPartsP
import Derived.Test.YtnmolgmchoihmaaDoorOwnR
import Derived.Test.YtnmolgmchoihmaaDoorMayE
namespace Go.Proofs.YtnmolgmchoihmaaDoor
open Go Go.RowKit
set_option maxRecDepth 100000
set_option linter.unusedVariables false
def PartsC (x : GE) (d : Nat) : Prop := ∀ (s sa : Value) (w : World) (B : Nat), B ≤ w.heap.size → isL w 0 B s x.v.l → isX w B sa x.args →
  Calls Tryd.prog 28 #[x.agg s sa, .int .i64 (d : Nat)] w fun e w' => e = .returned (.int .i64 (partsC x d : Nat)) ∧ Below w.heap.size w w'
theorem partsS_stop (l : List GE) (d n : Nat) (h : ¬ n ≤ 4096) : partsS l d n = n := by
  cases l with
  | nil => rfl
  | cons x r => rw [partsS, if_neg h]
theorem partsS_at (l : List GE) (k d n : Nat) (hk : k < l.length) (h : n ≤ 4096) : partsS (l.drop k) d n = partsS (l.drop (k + 1)) d (n + partsC l[k] d) := by
  rw [List.drop_eq_getElem_cons hk, partsS, if_pos h]
theorem partsS_end (l : List GE) (k d n : Nat) (hk : l.length ≤ k) : partsS (l.drop k) d n = n := by
  rw [List.drop_of_length_le hk]; rfl
set_option maxHeartbeats 1600000 in
theorem parts_step (x : GE) (fx : x.fit) (d : Nat) (hd : d ≤ 31) (h : d ≤ 30 → ∀ y ∈ x.args, PartsC y (d + 1)) : PartsC x d := by
  intro s sa w B hB hs hsa
  have hsa0 := hsa
  obtain ⟨aa, ca, bb, off, rfl, hc, ha, hA⟩ := isX_open hsa
  obtain ⟨a, c, rfl⟩ := isL_form hs
  have HS := Lib.hid hs
  have HSA := Lib.hid hsa0
  have HA := Lib.hid hA
  have Ha := Lib.hid ha
  have HH := Lib.hid h
  have FX := Lib.hid fx
  have HE := Lib.hid (partsC_eq x d)
  have hal := (fitE_open fx).2.2.2.2.1
  clear hs hsa hsa0 hA ha h fx
  simp only [GE.agg]
  have hb0 : Below w.heap.size w (w.alloc (.cells #[.int .i64 x.op, .string x.text, .int .i64 x.v.k, .bool x.v.b, .int .i64 x.v.n, .string x.v.t, .slice a x.v.l.length c, .slice aa x.args.length ca] 30)) := (Below.refl w.heap.size w).alloc (Nat.le_refl _) _
  have HB0 := Lib.hid hb0
  clear hb0
  by_cases h30 : 30 < d
  · go_enter Tryd.func28, Tryd.ntmps28
    go_wp2_with fail
    go_ret
    exact ⟨ret_int (by rw [HE.out, if_pos (.inl h30)]; rfl), HB0.out⟩
  go_enter Tryd.func28, Tryd.ntmps28
  go_wp2_with fail
  refine (own_any x FX.out _ _ _ B (by have := HB0.out.size; omega) (isL_below HS.out HB0.out hB) (isX_below HSA.out HB0.out hB)).mono ?_
  rintro e w1 ⟨rfl, hb1⟩
  have hsz1 : w.heap.size + 1 ≤ w1.heap.size := by have := hb1.size; simpa using this
  have HP := Lib.hid ((hb1.block w.heap.size (by simp)).trans heap_last)
  have HB1 := Lib.hid (below_down HB0.out hb1 (Nat.le_refl _))
  clear hb1
  cases hn : nodeOk x
  · have HN := Lib.hid hn
    clear hn
    go_wp2_with fail
    go_ret
    exact ⟨ret_int (by rw [HE.out, if_pos (.inr HN.out)]; rfl), HB1.out⟩
  have HE2 : Hid (partsC x d = partsS x.args (d + 1) 1) := HE.out.trans (if_neg (by rw [hn]; simp; omega))
  have HBD : Hid (∀ y ∈ x.args, partsC y (d + 1) ≤ 200000) := fun y _ => by have := partsC_le y (d + 1) (by omega); omega
  clear hn HE
  go_wp2_with fail
  go_loopw [5, 6] (fun n i wr => ∃ (k m : Nat), k ≤ x.args.length ∧ m ≤ 300000 ∧ n = .int .i64 m ∧ i = .int .i64 k ∧ Below w.heap.size w wr ∧ w.heap.size + 1 ≤ wr.heap.size ∧
    Hid (wr.heap[w.heap.size]? = some (.cells #[.int .i64 x.op, .string x.text, .int .i64 x.v.k, .bool x.v.b, .int .i64 x.v.n, .string x.v.t, .slice a x.v.l.length c, .slice aa x.args.length ca] 30 (0, 0))) ∧ Hid (partsC x d = partsS (x.args.drop k) (d + 1) m)) (fun _ i _ => x.args.length - (intOf i).toNat)
  case atStart => exact ⟨0, 1, Nat.zero_le _, by omega, rfl, rfl, HB1.out, hsz1, HP.out, by rw [List.drop_zero]; exact HE2.out⟩
  case round =>
    obtain ⟨k, m, hk, hm, rfl, rfl, hbel, hsz, hbox, hR⟩ := hrel
    have q1 := fun o => cell_of hbox.out o
    have HB := Lib.hid hbel
    by_cases hlt : k < x.args.length
    rotate_left
    · clear hbel
      go_wp2_with fail
      go_ret
      exact ⟨ret_int (by rw [hR.out, partsS_end _ _ _ _ (by omega)]), HB.out⟩
    by_cases hm2 : m ≤ 4096
    rotate_left
    · clear hbel
      go_wp2_with fail
      go_ret
      exact ⟨ret_int (by rw [hR.out, partsS_stop _ _ _ hm2]), HB.out⟩
    obtain ⟨rfl, hb2⟩ := Ha.out (by omega)
    obtain ⟨ax, cx, aax, cax, x0, x1, x2, x3, x4, x5, x6, x7, hsx, hsax⟩ := cellsE_open (HA.out k hlt)
    have hg : ∀ o, wr.cell? ⟨bb, o, none⟩ = w.cell? ⟨bb, o, none⟩ := fun o => hbel.cell (p := ⟨bb, o, none⟩) (Nat.lt_of_lt_of_le hb2 hB)
    have HC : Hid (Calls Tryd.prog 28 #[GE.agg x.args[k] (.slice ax x.args[k].v.l.length cx) (.slice aax x.args[k].args.length cax), .int .i64 ((d : Int) + 1)] wr fun e w' => e = .returned (.int .i64 (partsC x.args[k] (d + 1) : Nat)) ∧ Below wr.heap.size wr w') :=
      HH.out (by omega) _ (List.getElem_mem hlt) _ _ wr B (Nat.le_trans hB hbel.size) (isL_below hsx hbel hB) (isX_below hsax hbel hB)
    have hbd := HBD.out _ (List.getElem_mem hlt)
    have HR2 := Lib.hid (hR.out.trans (partsS_at _ k _ _ hlt hm2))
    generalize partsC x.args[k] (d + 1) = P at *
    have hz1 : w.heap.size < wr.heap.size := by omega
    clear hsx hsax hbel Ha
    go_wp2_with fail
    refine HC.out.mono ?_
    rintro e w2 ⟨rfl, hb2⟩
    have HB2 := Lib.hid (below_down HB.out hb2 (Nat.le_refl _))
    have HX2 := Lib.hid ((hb2.block w.heap.size hz1).trans hbox.out)
    have hz2 : w.heap.size + 1 ≤ w2.heap.size := Nat.le_trans hsz hb2.size
    clear hb2 q1
    go_wp2_with fail
    go_roundw
    case rel => exact ⟨k + 1, m + P, by omega, by omega, by go_num, by go_num, HB2.out, hz2, HX2.out, HR2.out⟩
    case measure => simp [intOf]; omega
theorem parts_all : ∀ (m : Nat) (x : GE) (d : Nat), x.size ≤ m → x.fit → d ≤ 31 → PartsC x d := by
  intro m
  induction m with
  | zero => exact fun x d h => by have := size_args x; omega
  | succ m ih =>
    intro x d h fx hd
    have := size_args x
    exact parts_step x fx d hd fun h30 y hy => ih y (d + 1) (by have := sizeE_mem hy; omega) (fitE_mem (fitE_open fx).2.2.2.2.2 y hy) (by omega)
set_option maxHeartbeats 400000 in
theorem rMayE_any (x : GE) (fx : x.fit) (s sa : Value) (w : World) (B : Nat) (hB : B ≤ w.heap.size) (hs : isL w 0 B s x.v.l) (hsa : isX w B sa x.args) :
    Calls Tryd.prog 13 #[x.agg s sa] w fun e w' => e = .returned (.bool (emay x)) ∧ Below w.heap.size w w' := by
  obtain ⟨aa, ca, rfl⟩ := isE_form hsa
  obtain ⟨a, c, rfl⟩ := isL_form hs
  have HS := Lib.hid hs
  have HSA := Lib.hid hsa
  have HE := Lib.hid (emay_parts x)
  have HC := Lib.hid (parts_all x.size x 1 (Nat.le_refl _) fx (by omega))
  clear hs hsa
  simp only [GE.agg]
  have hb0 : Below w.heap.size w (w.alloc (.cells #[.int .i64 x.op, .string x.text, .int .i64 x.v.k, .bool x.v.b, .int .i64 x.v.n, .string x.v.t, .slice a x.v.l.length c, .slice aa x.args.length ca] 30)) := (Below.refl w.heap.size w).alloc (Nat.le_refl _) _
  have HB0 := Lib.hid hb0
  clear hb0
  go_enter Tryd.func13, Tryd.ntmps13
  go_wp2_with fail
  refine (HC.out _ _ _ B (by have := HB0.out.size; omega) (isL_below HS.out HB0.out hB) (isX_below HSA.out HB0.out hB)).mono ?_
  rintro e w1 ⟨rfl, hb1⟩
  have HB1 := Lib.hid (below_down HB0.out hb1 (Nat.le_refl _))
  clear hb1
  go_wp2_with fail
  go_ret
  exact ⟨ret_bool (by rw [emay, HE.out, Bool.eq_iff_iff]; simp; omega), HB1.out⟩
end Go.Proofs.YtnmolgmchoihmaaDoor
