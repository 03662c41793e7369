/-
  proctorlaw10.wakes tells true. Conditions: the table of strconv lies as the program's text lays it.
-/
import Derived.Test.YtnmolgmchoihmaaDoorCheck
import Derived.Test.YtnmolgmchoihmaaDoorText
import Derived.Test.YtnmolgmchoihmaaDoorCompile
namespace Go.Proofs.YtnmolgmchoihmaaDoor
open Go Go.RowKit
set_option maxRecDepth 100000
set_option linter.unusedVariables false
def wk0 : GE := ⟨2, ⟨#[120]⟩, zeroV, []⟩
def wk1 : GE := ⟨1, ⟨#[]⟩, ⟨1, true, 0, ⟨#[]⟩, []⟩, []⟩
def wk : GE := ⟨8, ⟨#[]⟩, zeroV, [wk0, wk1]⟩
theorem wk_may : emay wk = true := by kernel_rfl
theorem wk_err : errOf wk = 0 := by rw [errOf, if_pos wk_may]
theorem wk_code : codeOf wk = [⟨1, 0, ⟨#[120]⟩, zeroV⟩, ⟨6, 0, ⟨#[]⟩, zeroV⟩, ⟨7, 5, ⟨#[]⟩, zeroV⟩, ⟨0, 0, ⟨#[]⟩, ⟨1, true, 0, ⟨#[]⟩, []⟩⟩, ⟨6, 0, ⟨#[]⟩, zeroV⟩] := by
  rw [codeOf, if_pos wk_may]; kernel_rfl
theorem wk_check : checkC (codeOf wk) = true := by rw [wk_code]; kernel_rfl
theorem wk_text (vt : GV → ByteArray) : textI vt ((codeOf wk).take 1) = [49, 32, 48, 32, 120, 32, 10] := by
  rw [wk_code]
  simp [textI, lineI, itoaB, Lib.itoa, Lib.decDigits]
theorem small_fit (k : Int) (b : Bool) (hk : k = 0 ∨ k = 1) : GV.fit ⟨k, b, 0, ⟨#[]⟩, []⟩ := by
  simp only [GV.fit, fitL]
  refine ⟨by omega, by omega, by omega, by omega, by decide, by simp, trivial⟩
theorem wk_fit : wk.fit := by
  have h0 : zeroV.fit := zeroV_fit
  have h1 := small_fit 1 true (.inr rfl)
  simp only [wk, wk0, wk1, GE.fit, fitE]
  refine ⟨by omega, by omega, by decide, h0, by simp, ⟨by omega, by omega, by decide, h0, by simp, trivial⟩, ⟨by omega, by omega, by decide, h1, by simp, trivial⟩, trivial⟩
theorem wk_fitI : fitI (codeOf wk) := by
  rw [wk_code]
  intro x hx
  have h0 : zeroV.fit := zeroV_fit
  have h1 := small_fit 1 true (.inr rfl)
  simp only [List.mem_cons, List.not_mem_nil, or_false] at hx
  rcases hx with rfl | rfl | rfl | rfl | rfl
  all_goals refine ⟨by first | exact h0 | exact h1, by decide⟩
def tX (n : Nat) : GV → ByteArray := fun _ => ⟨#[]⟩
theorem isX_nil (w : World) (B : Nat) : isX w B (.slice none 0 0) [] := ⟨none, 0, rfl, Nat.le_refl _, trivial, fun h => by simp at h⟩
theorem wk_isX {w : World} {g : Nat} {T : TypeId} (h : w.heap[g]? = some (.cells #[.int .i64 2, .string { data := #[120] }, .int .i64 0, .bool false, .int .i64 0, .string { data := #[] }, .slice none 0 0, .slice none 0 0, .int .i64 1, .string { data := #[] }, .int .i64 1, .bool true, .int .i64 0, .string { data := #[] }, .slice none 0 0, .slice none 0 0] T (0, 0))) : isX w (g + 1) (.slice (some ⟨g, 0, none⟩) 2 2) [wk0, wk1] := by
  have q := fun o => cell_of h o
  refine isE_mk (l := [wk0, wk1]) (cap := 2) (b := g) (off := 0) (by simp) trivial (fun _ => ⟨rfl, Nat.zero_le _, Nat.lt_succ_self _⟩) ?_
  intro i hi
  have hi' : i = 0 ∨ i = 1 := by simp at hi; omega
  rcases hi' with rfl | rfl
  · exact cellsE_mk (s := .slice none 0 0) (sa := .slice none 0 0) ((q _).trans rfl) ((q _).trans rfl) ((q _).trans rfl) ((q _).trans rfl) ((q _).trans rfl) ((q _).trans rfl) ((q _).trans rfl) ((q _).trans rfl) (isL_nil (lo := 0) (hi := g + 1) none 0) (isX_nil w (g + 1))
  · exact cellsE_mk (s := .slice none 0 0) (sa := .slice none 0 0) ((q _).trans rfl) ((q _).trans rfl) ((q _).trans rfl) ((q _).trans rfl) ((q _).trans rfl) ((q _).trans rfl) ((q _).trans rfl) ((q _).trans rfl) (isL_nil (lo := 0) (hi := g + 1) none 0) (isX_nil w (g + 1))
theorem isI_take {w : World} {B n c : Nat} {a : Option Addr} {l : List GI} (h : isI w B (.slice a n c) l) (k : Nat) (hk : k ≤ l.length) : isI w B (.slice a k c) (l.take k) := by
  obtain ⟨a', c', b, off, e, hc, ha, hA⟩ := h
  simp only [Value.slice.injEq] at e
  obtain ⟨rfl, _, rfl⟩ := e
  have hl : (l.take k).length = k := by simp; omega
  refine ⟨a, c, b, off, by rw [hl], by omega, fun h => ha (by omega), fun i hi => ?_⟩
  rw [List.getElem_take]
  exact hA i (by omega)
set_option maxHeartbeats 1600000 in
theorem wakes_any (w : World) (ht : tabOk w) : Calls Tryd.prog 16 #[] w fun e w' => e = .returned (.bool true) ∧ Below w.heap.size w w' := by
  have HT := Lib.hid ht
  clear ht
  go_enter Tryd.func16, Tryd.ntmps16
  go_wp2_with fail
  have hb0 : Below w.heap.size w ((w.alloc (.cells #[.int .i64 2, .string { data := #[120] }, .int .i64 0, .bool false, .int .i64 0, .string { data := #[] }, .slice none 0 0, .slice none 0 0, .int .i64 1, .string { data := #[] }, .int .i64 1, .bool true, .int .i64 0, .string { data := #[] }, .slice none 0 0, .slice none 0 0] 30)).alloc (.cells #[.int .i64 8, .string { data := #[] }, .int .i64 0, .bool false, .int .i64 0, .string { data := #[] }, .slice none 0 0, .slice (some ⟨w.heap.size, 0, none⟩) 2 2] 30)) := ((Below.refl w.heap.size w).alloc (Nat.le_refl _) _).alloc (by simp) _
  have hx0 := wk_isX (w := (w.alloc (.cells #[.int .i64 2, .string { data := #[120] }, .int .i64 0, .bool false, .int .i64 0, .string { data := #[] }, .slice none 0 0, .slice none 0 0, .int .i64 1, .string { data := #[] }, .int .i64 1, .bool true, .int .i64 0, .string { data := #[] }, .slice none 0 0, .slice none 0 0] 30)).alloc (.cells #[.int .i64 8, .string { data := #[] }, .int .i64 0, .bool false, .int .i64 0, .string { data := #[] }, .slice none 0 0, .slice (some ⟨w.heap.size, 0, none⟩) 2 2] 30)) heap_two
  have hy0 : ((w.alloc (.cells #[.int .i64 2, .string { data := #[120] }, .int .i64 0, .bool false, .int .i64 0, .string { data := #[] }, .slice none 0 0, .slice none 0 0, .int .i64 1, .string { data := #[] }, .int .i64 1, .bool true, .int .i64 0, .string { data := #[] }, .slice none 0 0, .slice none 0 0] 30)).alloc (.cells #[.int .i64 8, .string { data := #[] }, .int .i64 0, .bool false, .int .i64 0, .string { data := #[] }, .slice none 0 0, .slice (some ⟨w.heap.size, 0, none⟩) 2 2] 30)).heap[w.heap.size + 1]? = some (.cells #[.int .i64 8, .string { data := #[] }, .int .i64 0, .bool false, .int .i64 0, .string { data := #[] }, .slice none 0 0, .slice (some ⟨w.heap.size, 0, none⟩) 2 2] 30 (0, 0)) := heap_second
  obtain ⟨w0, hw0⟩ : ∃ w0, w0 = (w.alloc (.cells #[.int .i64 2, .string { data := #[120] }, .int .i64 0, .bool false, .int .i64 0, .string { data := #[] }, .slice none 0 0, .slice none 0 0, .int .i64 1, .string { data := #[] }, .int .i64 1, .bool true, .int .i64 0, .string { data := #[] }, .slice none 0 0, .slice none 0 0] 30)).alloc (.cells #[.int .i64 8, .string { data := #[] }, .int .i64 0, .bool false, .int .i64 0, .string { data := #[] }, .slice none 0 0, .slice (some ⟨w.heap.size, 0, none⟩) 2 2] 30) := ⟨_, rfl⟩
  rw [← hw0] at hb0 hx0 hy0 ⊢
  have hz0 : w0.heap.size = w.heap.size + 2 := by rw [hw0]; simp
  clear hw0
  have HB0 := Lib.hid hb0
  have HX0 := Lib.hid hx0
  have HY0 := Lib.hid hy0
  clear hb0 hx0 hy0
  refine (Compile_any wk wk_fit (.slice none 0 0) (.slice (some ⟨w.heap.size, 0, none⟩) 2 2) w0 (w.heap.size + 1) (by omega) (isL_nil none 0) HX0.out).mono ?_
  rintro e w1 ⟨v, rfl, hown, hb1⟩
  have hI := ownI_isI hown
  obtain ⟨a, c, b, off, rfl, hc, ha, hA⟩ := hI
  have hlen : (codeOf wk).length = 5 := by rw [wk_code]; rfl
  rw [hlen] at hc ha
  obtain ⟨rfl, hbb⟩ := ha (by omega)
  have h2 : w1.cell? ⟨b, off + 17, none⟩ = some (.int .i64 5) := by
    obtain ⟨_, _, _, h, _⟩ := hA 2 (by omega)
    have e : ((codeOf wk)[2]'(by omega)).arg = 5 := by simp only [wk_code]; rfl
    rw [e] at h
    exact h
  have hy1 : w1.heap[w.heap.size + 1]? = some (.cells #[.int .i64 8, .string { data := #[] }, .int .i64 0, .bool false, .int .i64 0, .string { data := #[] }, .slice none 0 0, .slice (some ⟨w.heap.size, 0, none⟩) 2 2] 30 (0, 0)) := (hb1.block _ (by omega)).trans HY0.out
  have q1 := fun o => cell_of hy1 o
  have HII := Lib.hid (ownI_isI hown)
  have HB1 := Lib.hid (HB0.out.trans (hb1.mono HB0.out.size))
  have HX1 := Lib.hid (isX_below HX0.out hb1 (by omega))
  have HT1 := Lib.hid (tabOk_below HT.out HB1.out)
  have HLEN := Lib.hid hlen
  have hz1 : w.heap.size + 2 ≤ w1.heap.size := by have := hb1.size; omega
  rw [wk_err, hlen]
  clear hy1 hA hown hb1 hlen ha HX0 HY0
  go_wp2_with fail
  refine (May_any wk wk_fit (.slice none 0 0) (.slice (some ⟨w.heap.size, 0, none⟩) 2 2) w1 (w.heap.size + 1) (by omega) (isL_nil none 0) HX1.out).mono ?_
  rintro e w2 ⟨rfl, hb2⟩
  have HB2 := Lib.hid (below_down HB1.out hb2 (Nat.le_refl _))
  have HI2 := Lib.hid (isI_below HII.out hb2 (Nat.le_refl _))
  have HT2 := Lib.hid (tabOk_below HT1.out hb2)
  have hz2 : w1.heap.size ≤ w2.heap.size := hb2.size
  rw [wk_may]
  clear hb2 q1 h2 HT1
  have HII2 : isI w2 w1.heap.size (.slice (some ⟨b, off, none⟩) 5 c) (codeOf wk) := by have := HI2.out; rwa [HLEN.out] at this
  have HI2' := Lib.hid HII2
  clear HII2 HI2 HII
  go_wp2_with fail
  refine (Check_any (codeOf wk) (by rw [HLEN.out]; omega) wk_fitI _ w2 w1.heap.size hz2 HI2'.out).mono ?_
  rintro e w3 ⟨rfl, hb3⟩
  have HB3 := Lib.hid (below_down HB2.out hb3 (Nat.le_refl _))
  have HI3 := Lib.hid (isI_take (isI_below HI2'.out hb3 hz2) 1 (by rw [HLEN.out]; omega))
  have HT3 := Lib.hid (tabOk_below HT2.out hb3)
  have hz3 : w1.heap.size ≤ w3.heap.size := Nat.le_trans hz2 hb3.size
  rw [wk_check]
  clear hb3 HT2 HI2'
  go_wp2_with fail
  refine (Text_any (tX 0) ((codeOf wk).take 1) (by simp; omega) (fun x hx => wk_fitI x (List.mem_of_mem_take hx)) ?_ ?_ ?_ _ w3 w1.heap.size hz3 HT3.out HI3.out).mono ?_
  · intro x hx
    rw [wk_code] at hx
    simp only [List.take_succ_cons, List.take_zero, List.mem_cons, List.not_mem_nil, or_false] at hx
    subst hx
    exact ⟨by decide, by decide, by decide, by decide, fun h => by simp at h⟩
  · intro x hx h
    rw [wk_code] at hx
    simp only [List.take_succ_cons, List.take_zero, List.mem_cons, List.not_mem_nil, or_false] at hx
    subst hx
    simp at h
  · rw [wk_text]; simp
  rintro e w4 ⟨rfl, hb4⟩
  have HB4 := Lib.hid (below_down HB3.out hb4 (Nat.le_refl _))
  rw [wk_text]
  clear hb4
  go_wp2_with fail
  go_ret
  exact ⟨rfl, HB4.out⟩
end Go.Proofs.YtnmolgmchoihmaaDoor
