/-
  How many values an instruction takes, as the references' takes tells; -1: it may not be. Conditions: texts and lists shorter than 2^31.
-/
import Derived.Test.YtnmolgmchoihmaaDoorCheckP
import Derived.Test.YtnmolgmchoihmaaDoorMay2
import Derived.Test.YtnmolgmchoihmaaDoorScal
namespace Go.Proofs.YtnmolgmchoihmaaDoor
open Go Go.RowKit
set_option maxRecDepth 100000
set_option linter.unusedVariables false
def takesR (x : GI) : Int := if okOf x = true then offOf x else -1
theorem ret_i64 {a b : Int} (h : a = b) : Ending.returned (.int .i64 a) = .returned (.int .i64 b) := by rw [h]
theorem takesR_of {x : GI} {r : Int} {b : Bool} (h : okOf x = b) (hr : r = if b = true then offOf x else -1) : takesR x = r := by
  rw [takesR, h, hr]
set_option maxHeartbeats 3200000 in
theorem takesR_any (x : GI) (fv : x.v.fit) (fs : x.s.size ≤ 2147483647) (s : Value) (w : World) (B : Nat) (hB : B ≤ w.heap.size) (hs : isL w 0 B s x.v.l) :
    Calls Tryd.prog 33 #[x.agg s] w fun e w' => e = .returned (.int .i64 (takesR x)) ∧ Below w.heap.size w w' := by
  obtain ⟨a, c, rfl⟩ := isL_form hs
  have HS := Lib.hid hs
  have FV := Lib.hid fv
  have HR : Hid (takesR x = if okOf x = true then offOf x else -1) := rfl
  obtain ⟨op, arg, st, v⟩ := x
  have hcase : op = 0 ∨ op = 1 ∨ op = 2 ∨ op = 3 ∨ op = 4 ∨ op = 5 ∨ op = 6 ∨ op = 7 ∨ op = 8 ∨ (op ≠ 0 ∧ op ≠ 1 ∧ op ≠ 2 ∧ op ≠ 3 ∧ op ≠ 4 ∧ op ≠ 5 ∧ op ≠ 6 ∧ op ≠ 7 ∧ op ≠ 8) := by omega
  clear hs fv
  dsimp only at fs HS FV
  simp only [GI.agg]
  go_enter Tryd.func33, Tryd.ntmps33
  go_wp2_with fail
  have hb0 := (Below.refl w.heap.size w).alloc (Nat.le_refl _) (.cells #[.int .i64 op, .int .i64 arg, .string st, .int .i64 v.k, .bool v.b, .int .i64 v.n, .string v.t, .slice a v.l.length c] 40)
  refine (zSame_any v zeroV FV.out zeroV_fit (.slice a v.l.length c) (.slice none 0 0) _ B (Nat.le_trans hB hb0.size) (isL_below HS.out hb0 hB) (isL_nil _ _)).mono ?_
  rintro e w1 ⟨rfl, hb1⟩
  have hbx := (hb1.block w.heap.size (by simp)).trans (heap_last (w := w))
  have HB1 := Lib.hid (below_down hb0 hb1 (Nat.le_refl _))
  have q1 := fun o => cell_of hbx o
  have hz1 : w.heap.size + 1 ≤ w1.heap.size := by have := hb1.size; simpa using this
  have HS1 := Lib.hid (isL_below HS.out HB1.out hB)
  have HWD := Lib.hid (rWord_any st fs w1)
  have HTK := Lib.hid (rTakes_any arg w1)
  clear hb0 hb1 hbx
  cases hs : (st.toList == [])
  all_goals
    first
      | have hs' : (st.toList != []) = true := by rw [bne, hs]; rfl
      | have hs' : (st.toList != []) = false := by rw [bne, hs]; rfl
    cases hv : same v zeroV
  all_goals
    cases ha : (arg == 0)
  all_goals
    first
      | have ha' : (arg != 0) = true := by rw [bne, ha]; rfl
      | have ha' : (arg != 0) = false := by rw [bne, ha]; rfl
    have HR1 := Lib.hid (And.intro hs (And.intro hv ha))
    rcases hcase with rfl | rfl | rfl | rfl | rfl | rfl | rfl | rfl | rfl | ⟨h0, h1, h2, h3, h4, h5, h6, h7, h8⟩
  all_goals try
    have e0 : (op == 0) = false := by simpa using h0
    have e1 : (op == 1) = false := by simpa using h1
    have e2 : (op == 2) = false := by simpa using h2
    have e3 : (op == 3) = false := by simpa using h3
    have e4 : (op == 4) = false := by simpa using h4
    have e5 : (op == 5) = false := by simpa using h5
    have e6 : (op == 6) = false := by simpa using h6
    have e7 : (op == 7) = false := by simpa using h7
    have e8 : (op == 8) = false := by simpa using h8
    have u0 : (op != 0) = true := by simpa using h0
    have u1 : (op != 1) = true := by simpa using h1
    have u2 : (op != 2) = true := by simpa using h2
    have u3 : (op != 3) = true := by simpa using h3
    have u4 : (op != 4) = true := by simpa using h4
    have u5 : (op != 5) = true := by simpa using h5
    have u7 : (op != 7) = true := by simpa using h7
    have u8 : (op != 8) = true := by simpa using h8
    have HN := Lib.hid (And.intro h0 (And.intro h1 (And.intro h2 (And.intro h3 (And.intro h4 (And.intro h5 (And.intro h6 (And.intro h7 h8))))))))
    clear h0 h1 h2 h3 h4 h5 h6 h7 h8
  all_goals go_wp2_with fail
  all_goals
    try
      refine HTK.out.mono ?_
      rintro e w2 ⟨rfl, rfl⟩
      rcases takesOf_cases arg with ht | ht | ht
      all_goals
        have HT2 := Lib.hid ht
        rw [ht]
        go_wp2_with fail
      all_goals try
        refine HTK.out.mono ?_
        rintro e w2 ⟨rfl, rfl⟩
        rw [ht]
        go_wp2_with fail
      all_goals
        go_ret
        refine ⟨ret_i64 ?_, HB1.out⟩
        have r0 := HR.out
        obtain ⟨r1, r2, r3⟩ := HR1.out
        rw [r0]
        simp [okOf, offOf, r1, r2, HT2.out]
  all_goals
    try
      refine HWD.out.mono ?_
      rintro e w2 ⟨rfl, rfl⟩
      cases hn : nameB st.data.toList
      all_goals
        have HN2 := Lib.hid hn
        go_wp2_with fail
        go_ret
        refine ⟨ret_i64 ?_, HB1.out⟩
        have r0 := HR.out
        obtain ⟨r1, r2, r3⟩ := HR1.out
        rw [r0]
        have r4 : arg = 0 := by simpa using r3
        simp [okOf, offOf, r2, r4, HN2.out]
  all_goals
    try
      refine (rCheck_any v FV.out (.slice a v.l.length c) w1 B (Nat.le_trans hB HB1.out.size) HS1.out).mono ?_
      rintro e w2 ⟨rfl, hb2⟩
      cases hn : vmay v
      all_goals
        have HN2 := Lib.hid hn
        go_wp2_with fail
        go_ret
        refine ⟨ret_i64 ?_, below_down HB1.out hb2 (Nat.le_refl _)⟩
        have r0 := HR.out
        obtain ⟨r1, r2, r3⟩ := HR1.out
        rw [r0]
        have r4 : arg = 0 := by simpa using r3
        simp [okOf, offOf, r1, r4, HN2.out]
  all_goals
    go_ret
    refine ⟨ret_i64 ?_, HB1.out⟩
    have r0 := HR.out
    obtain ⟨r1, r2, r3⟩ := HR1.out
    rw [r0]
    first
      | (have r4 : arg = 0 := by simpa using r3
         first | (exfalso; omega) | (simp [okOf, offOf, r1, r2, r4]; done) | (obtain ⟨g0, g1, g2, g3, g4, g5, g6, g7, g8⟩ := HN.out; simp [okOf, r1, r2, g0, g1, g2, g3, g4, g5, g6, g7, g8]; done))
      | (have r4 : arg ≠ 0 := by simpa using r3
         first | (simp [okOf, offOf, r1, r2, r4]; done) | (simp [okOf, offOf, r1, r2, r4]; omega) | (obtain ⟨g0, g1, g2, g3, g4, g5, g6, g7, g8⟩ := HN.out; simp [okOf, r1, r2, g0, g1, g2, g3, g4, g5, g6, g7, g8]; done))
end Go.Proofs.YtnmolgmchoihmaaDoor
