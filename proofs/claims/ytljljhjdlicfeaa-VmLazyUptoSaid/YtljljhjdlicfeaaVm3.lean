/-
  The machine's told; what an instruction's outcome is in memory; instructions that push a value. Conditions: fewer than 2^31 values on the stack.
-/
import Derived.Test.YtljljhjdlicfeaaNO
import Derived.Test.YtljljhjdlicfeaaVm2
namespace Go.Proofs.Ytljljhjdlicfeaa
open Go Go.RowKit
set_option maxRecDepth 100000
set_option linter.unusedVariables false
/-- an instruction's outcome -/
def DoO (bM base : Nat) (env : Value) (o : VO) (n : Nat) (w : World) (e : Ending) (w' : World) : Prop := match o with
  | .go st => PushO bM base env st n w e w'
  | .stop k => e = faultE k ∧ KB base bM w w' ∧ ∃ v st, mach w' bM base env v st n
theorem inR_new {w' : World} {base lo : Nat} {v s : Value} {l : List GV} (h : isR w' (since lo w') s l) (hb : base ≤ lo) (hv : ∀ g, v.ownBlock = some g → g < lo) : inR w' base v s l :=
  isR_sub h (fun b k => ⟨⟨by have := k.1; omega, k.2⟩, fun e => by have := hv b e.symm; have := k.1; omega⟩)
theorem mach_own {w : World} {bM base n : Nat} {env v : Value} {st : List GV} (h : mach w bM base env v st n) : ∀ g, v.ownBlock = some g → base ≤ g ∧ g < w.heap.size := by
  obtain ⟨_, ⟨ss, _, hown, _⟩, _⟩ := h
  exact fun g hg => ownBlock_lt hown hg
theorem PushO.from {bM base n : Nat} {env : Value} {st : List GV} {w w1 w' : World} {e : Ending} (h : PushO bM base env st n w1 e w') (hk : KB base bM w w1) : PushO bM base env st n w e w' :=
  ⟨h.1, hk.trans h.2.1, h.2.2⟩
theorem DoO.from {bM base n : Nat} {env : Value} {o : VO} {w w1 w' : World} {e : Ending} (h : DoO bM base env o n w1 e w') (hk : KB base bM w w1) : DoO bM base env o n w e w' := by
  cases o with
  | go st => exact PushO.from h hk
  | stop k => exact ⟨h.1, hk.trans h.2.1, h.2.2⟩
set_option maxHeartbeats 800000 in
theorem told_any (bM base n : Nat) (env v : Value) (st : List GV) (x : GV) (fx : x.fit) (s : Value) (w : World) (B : Nat) (hB : B ≤ w.heap.size) (hl : st.length ≤ 2147483646) (hm : mach w bM base env v st n) (hs : isL w 0 B s x.l) :
    Calls Try.prog 77 #[.pointer (some ⟨bM, 0, none⟩), x.agg s] w (DoO bM base env (toldP x st) n w) := by
  obtain ⟨a, c, rfl⟩ := isL_form hs
  have HM := Lib.hid hm
  have HS := Lib.hid hs
  have HFX := Lib.hid fx
  have hbs := hm.2.2.2
  obtain ⟨V, hV⟩ : ∃ V, V = vmay x := ⟨_, rfl⟩
  have HV := Lib.hid hV
  clear hm hs fx hV
  simp only [GV.agg]
  go_enter Try.func77, Try.ntmps77
  go_upto_region 1 with fail
  obtain ⟨w1, hw1⟩ : ∃ u, u = w.alloc (.cells #[.int .i64 x.k, .bool x.b, .int .i64 x.n, .string x.t, .slice a x.l.length c] 35) := ⟨_, rfl⟩
  have hb1 : Below w.heap.size w w1 := by rw [hw1]; exact (Below.refl _ _).alloc (Nat.le_refl _) _
  have hx1 : w1.heap[w.heap.size]? = some (.cells #[.int .i64 x.k, .bool x.b, .int .i64 x.n, .string x.t, .slice a x.l.length c] 35 (0, 0)) := by rw [hw1]; exact heap_last
  rw [← hw1]
  have HX1 := Lib.hid hx1
  have HB1 := Lib.hid hb1
  have q1 := fun o => cell_of hx1 o
  have l1 : w.heap.size < w1.heap.size := (Array.getElem?_eq_some_iff.1 hx1).1
  clear hw1 hb1 hx1
  go_wp2_with fail
  refine (vCheck_any x HFX.out (.slice a x.l.length c) w1 B (Nat.le_trans hB HB1.out.size) (isL_below HS.out HB1.out hB)).mono ?_
  rintro e w2 ⟨rfl, hb2⟩
  rw [← HV.out]
  have hx2 := (hb2.block _ l1).trans HX1.out
  have HB2 := Lib.hid (below_down HB1.out hb2 (Nat.le_refl _))
  have q2 := fun o => cell_of hx2 o
  have l2 : w.heap.size < w2.heap.size := (Array.getElem?_eq_some_iff.1 hx2).1
  clear hb2 hx2 q1
  cases V
  · go_wp2_with fail
    refine (need_no 1 w2).mono ?_
    rintro e w3 ⟨rfl, rfl⟩
    have hT : toldP x st = .stop 1 := by unfold toldP; rw [if_neg (by rw [← HV.out]; simp)]
    rw [hT]
    exact ⟨rfl, rfl, KB.below HB2.out hbs, v, st, mach_below HM.out HB2.out⟩
  · go_wp2_with fail
    refine (need_ok 1 w2).mono ?_
    rintro e w3 ⟨rfl, hw3⟩
    rw [hw3]
    go_wp2_with fail
    refine (mCopied_any x HFX.out (.slice a x.l.length c) w2 B (Nat.le_trans hB HB2.out.size) (isL_below HS.out HB2.out hB)).mono ?_
    rintro e w4 ⟨a4, c4, rfl, hr4, hb4⟩
    have HR4 := Lib.hid hr4
    have HB4 := Lib.hid (below_down HB2.out hb4 (Nat.le_refl _))
    clear hr4 hb4 q2
    simp only [GV.agg]
    go_wp2_with fail
    refine (push_any bM base n env v st x (.slice a4 x.l.length c4) w4 hl (mach_below HM.out HB4.out) (inR_new HR4.out (by omega) (fun g hg => by have := (mach_own HM.out g hg).2; omega))).mono ?_
    rintro e w5 hP
    have hp1 := hP.1
    subst hp1
    have HP := Lib.hid hP
    clear hP
    go_wp2_with fail
    go_end0
    have hT : toldP x st = .go (st ++ [x]) := by unfold toldP; rw [if_pos HV.out.symm]
    rw [hT]
    exact PushO.from HP.out (KB.below HB4.out hbs)
/-! ### instructions -/
/-- a value in a box of its own -/
def BoxO (w1 wx : World) (p : Nat) (x : GV) (a : Option Addr) (c : Nat) : Prop := w1.heap.size ≤ p ∧ wx.heap[p]? = some (.cells #[.int .i64 x.k, .bool x.b, .int .i64 x.n, .string x.t, .slice a x.l.length c] 35 (0, 0)) ∧ isL wx 0 wx.heap.size (.slice a x.l.length c) x.l ∧ Below w1.heap.size w1 wx
theorem boxO_A {w1 w2 : World} {x : GV} {a : Option Addr} {c lo : Nat} {Z : Array Value} (hz : w2.heap[w1.heap.size]? = some (.cells Z 35 (0, 0))) (hZ : Z.size = 5) (hr : isR w2 (since lo w2) (.slice a x.l.length c) x.l) (hlo : w1.heap.size < lo) (hb : Below w1.heap.size w1 w2) :
    BoxO w1 (((((w2.setCell ⟨w1.heap.size, 0, none⟩ (.int .i64 x.k)).setCell ⟨w1.heap.size, 1, none⟩ (.bool x.b)).setCell ⟨w1.heap.size, 2, none⟩ (.int .i64 x.n)).setCell ⟨w1.heap.size, 3, none⟩ (.string x.t)).setCell ⟨w1.heap.size, 4, none⟩ (.slice a x.l.length c)) w1.heap.size x a c := by
  refine ⟨Nat.le_refl _, ?_, ?_, set5B hb (Nat.le_refl _) _ _ _ _ _⟩
  · rw [five_cells5 hz]
    match Z, hZ with
    | ⟨[z0, z1, z2, z3, z4]⟩, _ => rfl
  · have h5 := isR_setCell (isR_setCell (isR_setCell (isR_setCell (isR_setCell hr (p := ⟨w1.heap.size, 0, none⟩) (fun h => by have := h.1; dsimp only at this; omega) (.int .i64 x.k)) (p := ⟨w1.heap.size, 1, none⟩) (fun h => by have := h.1; dsimp only at this; omega) (.bool x.b)) (p := ⟨w1.heap.size, 2, none⟩) (fun h => by have := h.1; dsimp only at this; omega) (.int .i64 x.n)) (p := ⟨w1.heap.size, 3, none⟩) (fun h => by have := h.1; dsimp only at this; omega) (.string x.t)) (p := ⟨w1.heap.size, 4, none⟩) (fun h => by have := h.1; dsimp only at this; omega) (.slice a x.l.length c)
    exact isR_isL h5 (fun b hb => ⟨Nat.zero_le _, by simp only [hsz_setCell2]; exact hb.2⟩)
theorem boxO_B {w1 w2 : World} {x : GV} {a : Option Addr} {c lo : Nat} (hr : isR w2 (since lo w2) (.slice a x.l.length c) x.l) (hb : Below w1.heap.size w1 w2) :
    BoxO w1 (w2.alloc (.cells #[.int .i64 x.k, .bool x.b, .int .i64 x.n, .string x.t, .slice a x.l.length c] 35)) w2.heap.size x a c := by
  refine ⟨hb.size, heap_last, ?_, hb.alloc hb.size _⟩
  have h1 : isL w2 0 w2.heap.size (.slice a x.l.length c) x.l := isR_isL hr (fun b hb => ⟨Nat.zero_le _, hb.2⟩)
  exact isL_wide (isL_below h1 ((Below.refl w2.heap.size w2).alloc (Nat.le_refl _) _) (Nat.le_refl _)) (Nat.le_refl _) (by simp)
/-- the receiver ev tells what E says, as long as the blocks below B stay -/
def EnvOk (E : EP) (ev : Value) (B : Nat) (w : World) : Prop := ∀ w', Below B w w' → B ≤ w'.heap.size →
  (∀ s, Calls Try.prog 110 #[ev, .string s] w' (TellR (E.var s).1 (.bool (E.var s).2) w')) ∧
  (∀ s, Calls Try.prog 108 #[ev, .string s] w' (TellR (E.field s).1 (.bool (E.field s).2) w')) ∧
  ∀ n s, Calls Try.prog 109 #[ev, .int .i64 n, .string s] w' (TellR (E.get n s).1 (.int .i64 (E.get n s).2) w')
theorem EnvOk.keep {E : EP} {ev : Value} {B : Nat} {w w' : World} (h : EnvOk E ev B w) (hb : Below B w w') : EnvOk E ev B w' := fun w2 h2 hs => h w2 (hb.trans h2) hs
end Go.Proofs.Ytljljhjdlicfeaa
