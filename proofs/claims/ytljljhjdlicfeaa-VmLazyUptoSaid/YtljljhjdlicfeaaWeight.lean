/-
  proctorlaw11.weight returns a number. Conditions: values of bulk at most 2^40, lists shorter than 2^31.
-/
import Derived.Test.YtljljhjdlicfeaaMA
import Derived.Test.YtljljhjdlicfeaaExpr
import Derived.Test.YtljljhjdlicfeaaMD
namespace Go.Proofs.Ytljljhjdlicfeaa
open Go Go.RowKit
set_option maxRecDepth 100000
set_option linter.unusedVariables false
mutual
/-- the values' bulk is small enough -/
def GE.okW : GE → Prop
  | ⟨_, _, v, args⟩ => bulkL [v] ≤ 1099511627776 ∧ args.length ≤ 2147483647 ∧ okWs args
def okWs : List GE → Prop
  | [] => True
  | x :: r => x.okW ∧ okWs r
end
theorem okW_open {x : GE} (h : x.okW) : bulkL [x.v] ≤ 1099511627776 ∧ x.args.length ≤ 2147483647 ∧ okWs x.args := by
  obtain ⟨op, text, v, args⟩ := x
  simpa only [GE.okW] using h
theorem okWs_mem : ∀ {l : List GE}, okWs l → ∀ x ∈ l, x.okW
  | [], _, _, hx => by cases hx
  | y :: r, h, x, hx => by
    simp only [okWs] at h
    rcases List.mem_cons.1 hx with e | e
    · subst e; exact h.1
    · exact okWs_mem h.2 x e
def WeightC (x : GE) : Prop := ∀ (d : Nat) (s sa : Value) (w : World) (B : Nat), d ≤ 81 → B ≤ w.heap.size → isL w 0 B s x.v.l → isX w B sa x.args →
  Calls Try.prog 16 #[x.agg s sa, .int .i64 (d : Nat)] w fun e w' => (∃ n : Int, e = .returned (.int .i64 n)) ∧ Below w.heap.size w w'
theorem one_isL {w : World} {g hi : Nat} {T : TypeId} {x : GV} {a : Option Addr} {c : Nat} (h : w.heap[g]? = some (.cells #[.int .i64 x.k, .bool x.b, .int .i64 x.n, .string x.t, .slice a x.l.length c] T (0, 0))) (hg : g < hi) (hs : isL w 0 hi (.slice a x.l.length c) x.l) :
    isL w 0 hi (.slice (some ⟨g, 0, none⟩) 1 1) [x] := by
  have q := fun o => cell_of h o
  refine isL_mk (l := [x]) (cap := 1) (b := g) (off := 0) (by simp) (fun _ => ⟨rfl, Nat.zero_le _, hg⟩) ?_
  intro i hi'
  have e : i = 0 := by simp at hi'; omega
  subst e
  exact cellsV_mk ((q _).trans rfl) ((q _).trans rfl) ((q _).trans rfl) ((q _).trans rfl) ((q _).trans rfl) hs
set_option maxHeartbeats 1600000 in
theorem weight_step (x : GE) (ox : x.okW) (h : ∀ y ∈ x.args, WeightC y) : WeightC x := by
  intro d s sa w B hd hB hs hsa
  obtain ⟨aa, ca, bb, off, rfl, hc, ha, hA⟩ := isX_open hsa
  obtain ⟨a, c, rfl⟩ := isL_form hs
  have ho := okW_open ox
  have HO := Lib.hid ho
  have HS := Lib.hid hs
  have HA := Lib.hid hA
  have Ha := Lib.hid ha
  have HH := Lib.hid h
  have hal := ho.2.1
  clear hs hsa hA ha h ox ho
  simp only [GE.agg]
  by_cases h80 : 80 < d
  · go_enter Try.func16, Try.ntmps16
    go_wp2_with fail
    go_ret
    exact ⟨⟨_, rfl⟩, (Below.refl _ _).alloc (Nat.le_refl _) _⟩
  go_enter Try.func16, Try.ntmps16
  go_wp2_with fail
  have hb0 : Below w.heap.size w ((w.alloc (.cells #[.int .i64 x.op, .string x.text, .int .i64 x.v.k, .bool x.v.b, .int .i64 x.v.n, .string x.v.t, .slice a x.v.l.length c, .slice aa x.args.length ca] 40)).alloc (.cells #[.int .i64 x.v.k, .bool x.v.b, .int .i64 x.v.n, .string x.v.t, .slice a x.v.l.length c] 35)) := ((Below.refl w.heap.size w).alloc (Nat.le_refl _) _).alloc (by simp) _
  have hl1 : isL ((w.alloc (.cells #[.int .i64 x.op, .string x.text, .int .i64 x.v.k, .bool x.v.b, .int .i64 x.v.n, .string x.v.t, .slice a x.v.l.length c, .slice aa x.args.length ca] 40)).alloc (.cells #[.int .i64 x.v.k, .bool x.v.b, .int .i64 x.v.n, .string x.v.t, .slice a x.v.l.length c] 35)) 0 (w.heap.size + 2) (.slice (some ⟨w.heap.size + 1, 0, none⟩) 1 1) [x.v] :=
    one_isL heap_second (by omega) (isL_wide (isL_below HS.out hb0 hB) (Nat.le_refl _) (by omega))
  refine (Size_any [x.v] HO.out.1 _ _ (w.heap.size + 2) (by simp) hl1).mono ?_
  rintro e w1 ⟨rfl, hb1⟩
  have hsz1 : w.heap.size + 2 ≤ w1.heap.size := by have := hb1.size; simpa using this
  have p1 := (hb1.block w.heap.size (by simp; omega)).trans heap_two
  have HBW := Lib.hid (hb0.trans (hb1.mono hb0.size))
  have HP := Lib.hid p1
  clear hb0 hl1 hb1 p1
  go_wp2_with fail
  go_loopw [5, 6] (fun n i wr => ∃ (k : Nat) (m : Int), k ≤ x.args.length ∧ n = .int .i64 m ∧ i = .int .i64 k ∧ Below w.heap.size w wr ∧ w.heap.size + 2 ≤ wr.heap.size ∧ Hid (wr.heap[w.heap.size]? = some (.cells #[.int .i64 x.op, .string x.text, .int .i64 x.v.k, .bool x.v.b, .int .i64 x.v.n, .string x.v.t, .slice a x.v.l.length c, .slice aa x.args.length ca] 40 (0, 0)))) (fun _ i _ => x.args.length - (intOf i).toNat)
  case atStart => exact ⟨0, _, Nat.zero_le _, rfl, rfl, HBW.out, hsz1, HP.out⟩
  case round =>
    obtain ⟨k, m, hk, rfl, rfl, hbel, hsz, hbox⟩ := hrel
    have q1 := fun o => cell_of hbox.out o
    by_cases hlt : k < x.args.length
    · obtain ⟨rfl, hb2⟩ := Ha.out (by omega)
      obtain ⟨ax, cx, aax, cax, x0, x1, x2, x3, x4, x5, x6, x7, hsx, hsax⟩ := cellsE_open (HA.out k hlt)
      have hg : ∀ o, wr.cell? ⟨bb, o, none⟩ = w.cell? ⟨bb, o, none⟩ := fun o => hbel.cell (p := ⟨bb, o, none⟩) (Nat.lt_of_lt_of_le hb2 hB)
      have HC : Hid (Calls Try.prog 16 #[GE.agg x.args[k] (.slice ax x.args[k].v.l.length cx) (.slice aax x.args[k].args.length cax), .int .i64 ((d : Int) + 1)] wr fun e w' => (∃ n : Int, e = .returned (.int .i64 n)) ∧ Below wr.heap.size wr w') :=
        HH.out _ (List.getElem_mem hlt) (d + 1) _ _ wr B (by omega) (Nat.le_trans hB hbel.size) (isL_below hsx hbel hB) (isX_below hsax hbel hB)
      have HB := Lib.hid hbel
      have hz1 : w.heap.size < wr.heap.size := by omega
      clear hsx hsax hbel Ha
      go_wp2_with fail
      refine HC.out.mono ?_
      rintro e w2 ⟨⟨n, rfl⟩, hb2⟩
      have HB2 := Lib.hid (below_down HB.out hb2 (Nat.le_refl _))
      have HX2 := Lib.hid ((hb2.block w.heap.size hz1).trans hbox.out)
      have hz2 : w.heap.size + 2 ≤ w2.heap.size := Nat.le_trans hsz hb2.size
      clear hb2 q1
      go_wp2_with fail
      go_roundw
      case rel => exact ⟨k + 1, _, by omega, rfl, by go_num, HB2.out, hz2, HX2.out⟩
      case measure => simp [intOf]; omega
    · have HB := Lib.hid hbel
      clear hbel
      go_wp2_with fail
      go_ret
      exact ⟨⟨_, rfl⟩, HB.out⟩
theorem weight_all : ∀ (m : Nat) (x : GE), x.size ≤ m → x.okW → WeightC x := by
  intro m
  induction m with
  | zero => exact fun x h => by have := size_args x; omega
  | succ m ih =>
    intro x h ox
    have := size_args x
    exact weight_step x ox fun y hy => ih y (by have := sizeE_mem hy; omega) (okWs_mem (okW_open ox).2.2 y hy)
theorem weight_any (x : GE) (ox : x.okW) : WeightC x := weight_all x.size x (Nat.le_refl _) ox
end Go.Proofs.Ytljljhjdlicfeaa
