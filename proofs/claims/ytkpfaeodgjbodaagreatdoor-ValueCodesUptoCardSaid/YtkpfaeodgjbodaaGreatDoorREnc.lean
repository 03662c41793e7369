/-
  The reference's Encode. Conditions: bulk at most 2^24.
-/
import Derived.Test.YtkpfaeodgjbodaaGreatDoorRBytesA
import Derived.Test.YtkpfaeodgjbodaaGreatDoorLay3
namespace Go.Proofs.YtkpfaeodgjbodaaGreatDoor
open Go Go.RowKit
set_option maxRecDepth 100000
set_option linter.unusedVariables false
theorem renc_any (x : GV) (fx : x.fit) (hbk : x.bulk ≤ 16777216) (s : Value) (w : World) (B : Nat) (hB : B ≤ w.heap.size) (hs : isL w 0 B s x.l) : Calls Tryz.prog 7 #[x.agg s] w (EncO w x) := by
  have HB := Lib.hid (fun (w1 : World) (h : Below w.heap.size w w1) => rb_all x.size x (Nat.le_refl _) fx hbk s w1 B (Nat.le_trans hB h.size) (isL_below hs h hB))
  have HC := Lib.hid (fun (w1 : World) (h : Below w.heap.size w w1) => rCheck_any x fx s w1 B (Nat.le_trans hB h.size) (isL_below hs h hB))
  obtain ⟨a, c, rfl⟩ := isL_form hs
  clear hs
  unfold EncO
  obtain ⟨V, hV⟩ : ∃ V, V = vmay x := ⟨_, rfl⟩
  obtain ⟨bs, hbs⟩ : ∃ bs, bs = enc x := ⟨_, rfl⟩
  rw [← hV] at HC ⊢
  rw [← hbs] at HB ⊢
  clear hV hbs
  simp only [GV.agg] at HB HC ⊢
  go_enter Tryz.func7, Tryz.ntmps7
  go_upto_region 1 with fail
  obtain ⟨w1, hw1⟩ : ∃ v, v = w.alloc (.cells #[.int .i64 x.k, .bool x.b, .int .i64 x.n, .string x.t, .slice a x.l.length c] 33) := ⟨_, rfl⟩
  have hb1 : Below w.heap.size w w1 := by rw [hw1]; exact (Below.refl _ _).alloc (Nat.le_refl _) _
  have hx1 : w1.heap[w.heap.size]? = some (.cells #[.int .i64 x.k, .bool x.b, .int .i64 x.n, .string x.t, .slice a x.l.length c] 33 (0, 0)) := by rw [hw1]; exact heap_last
  rw [← hw1]
  have HX1 := Lib.hid hx1
  have HB1 := Lib.hid hb1
  have q1 := fun o => cell_of hx1 o
  have l1 : w.heap.size < w1.heap.size := (Array.getElem?_eq_some_iff.1 hx1).1
  clear hw1 hb1 hx1
  go_wp2_with fail
  refine (HC.out w1 HB1.out).mono ?_
  rintro e w2 ⟨rfl, hb2⟩
  have hx2 := (hb2.block _ l1).trans HX1.out
  have HB2 := Lib.hid (below_down HB1.out hb2 (Nat.le_refl _))
  have q2 := fun o => cell_of hx2 o
  have l2 : w.heap.size < w2.heap.size := (Array.getElem?_eq_some_iff.1 hx2).1
  clear hb2 hx2 q1
  cases V
  · go_wp2_with fail
    go_ret2
    exact ⟨rfl, HB2.out⟩
  · go_wp2_with fail
    refine (HB.out w2 HB2.out).mono ?_
    rintro e w3 ⟨v, rfl, hv, hb3⟩
    have HV := Lib.hid hv
    have HB3 := Lib.hid (below_down HB2.out hb3 (Nat.le_refl _))
    clear hv hb3 q2
    go_wp2_with fail
    go_ret2
    exact ⟨⟨v, rfl, bytesR_low HV.out (Nat.le_of_lt l2)⟩, HB3.out⟩
end Go.Proofs.YtkpfaeodgjbodaaGreatDoor
