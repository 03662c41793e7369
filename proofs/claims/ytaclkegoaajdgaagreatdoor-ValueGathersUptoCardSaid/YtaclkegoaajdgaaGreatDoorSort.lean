/-
  value.sorted of at most 19 values: it ends, what was there is as it was. Conditions: lists and texts shorter than 2^31.
-/
import Derived.Test.YtaclkegoaajdgaaGreatDoorIns
import Derived.Lib.LazyBuf
namespace Go.Proofs.YtaclkegoaajdgaaGreatDoor
open Go Go.RowKit Go.Lib
set_option maxRecDepth 100000
set_option linter.unusedVariables false
theorem ins_nil (a : Option Addr) (c : Nat) (w : World) : Calls Tryz.prog 106 #[.slice a 0 c, .int .i64 0, .int .i64 0, .func (.func 16) #[] #[]] w fun e w' => e = .returned (.tuple #[]) ∧ w' = w := by
  go_enter Tryz.func106, Tryz.ntmps106
  go_wp2_with fail
  go_loopw [8] (fun i wr => i = .int .i64 1 ∧ wr = w) (fun i _ => 0)
  case atStart => exact ⟨rfl, rfl⟩
  case round =>
    obtain ⟨rfl, rfl⟩ := hrel
    go_wp2_with fail
    go_end0
    exact ⟨rfl, rfl⟩
/-- a row that a call has made, as the insertion sort wants it -/
theorem rowO_of {w : World} {base B : Nat} {v : Value} {l : List GV} (h : catL w base B v l) (h0 : 0 < l.length) : ∃ g cap, v = .slice (some ⟨g, 0, none⟩) l.length cap ∧ base ≤ g ∧ rowO w g cap B l := by
  obtain ⟨ss, hl, hown, hin⟩ := h
  obtain ⟨h1, h2 | ⟨g, cap, cur, e, hg, hh, hn, hcap, hsz, htk⟩⟩ := hown
  · omega
  · refine ⟨g, cap, e, hg, cur, hh, hsz, hn, fun i hi => ?_⟩
    obtain ⟨a0, a1, a2, a3, a4⟩ := flat_get l ss i hi (by omega)
    have k : ∀ j, j < l.length * 5 → cur[j]? = (flat l ss)[j]? := fun j hj => by
      rw [← htk, List.getElem?_take, if_pos hj]; simp
    obtain ⟨a, c, es⟩ := isL_form (hin i hi (by omega))
    have hi2 := hin i hi (by omega)
    rw [es] at a4 hi2
    exact ⟨a, c, (k _ (by omega)).trans a0, (k _ (by omega)).trans a1, (k _ (by omega)).trans a2, (k _ (by omega)).trans a3, (k _ (by omega)).trans a4, hi2⟩
theorem clone_any (l : List GV) (hl : l.length ≤ 2147483647) (s : Value) (w : World) (B : Nat) (hB : B ≤ w.heap.size) (hs : isL w 0 B s l) (hn : ∀ n c, s = .slice none n c → c = 0) : Calls Tryz.prog 52 #[s] w fun e w' => ∃ v, e = .returned v ∧ catL w' w.heap.size B v l ∧ Below w.heap.size w w' := by
  obtain ⟨a, c, bq, oq, rfl, _, haq, _⟩ := isL_open hs
  have ha0 : Hid (0 < l.length → a = some ⟨bq, oq, none⟩) := fun h => (haq h).1
  clear haq
  have hb0 := (Below.refl w.heap.size w).alloc (Nat.le_refl _) (.cells #[] 29)
  have hown : (w.alloc (.cells #[] 29)).ownsRow w.heap.size 29 5 (.slice (some ⟨w.heap.size, 0, none⟩) 0 0) 0 [] := ⟨rfl, .inr ⟨w.heap.size, 0, #[], rfl, Nat.le_refl _, heap_last, Nat.le_refl _, by unfold maxLen; omega, rfl, rfl⟩⟩
  obtain ⟨v', w', hr, hc, hb⟩ := catL_app 22 (.slice (some ⟨w.heap.size, 0, none⟩) 0 0) [] (catL_nil hown) (.slice a l.length c) l (isL_below hs hb0 hB) (by simp; omega) hB hb0.size
  have HC := Lib.hid hc
  have HB := Lib.hid (hb0.trans hb)
  have HN : Hid (l = [] → catL w w.heap.size B (.slice none 0 0) l) := fun h => by subst h; exact catL_nil (World.ownsRow_nil _ _ _ _)
  clear hs hb0 hown hc hb
  cases a with
  | none =>
    obtain rfl : c = 0 := hn _ _ rfl
    have h0 : l.length = 0 := by
      rcases Nat.eq_zero_or_pos l.length with h | h
      · exact h
      · have := (ha0.out h); cases this
    have HNN := Lib.hid (HN.out (List.eq_nil_of_length_eq_zero h0))
    rw [h0]
    clear hr hn
    have hq := Go.run_eql_slice_nil (P := Tryz.prog) w 22 29 none 0 0 (by kernel_rfl)
    go_enter Tryz.func52, Tryz.ntmps52
    go_wp2_with fail
    go_ret
    exact ⟨_, rfl, HNN.out, Below.refl _ _⟩
  | some ad =>
    clear hn ha0
    have hq := Go.run_eql_slice_nil (P := Tryz.prog) w 22 29 (some ad) l.length c (by kernel_rfl)
    go_enter Tryz.func52, Tryz.ntmps52
    go_wp2_with (at_builtin; refine Lib.wpList_append_run _ rfl _ _ _ _ rfl _ _ rfl rfl _ _ hr ?_)
    go_ret
    exact ⟨v', rfl, HC.out, HB.out⟩
theorem stable_nil (a : Option Addr) (c : Nat) (w : World) : Calls Tryz.prog 89 #[.slice a 0 c, .int .i64 0, .func (.func 16) #[] #[]] w fun e w' => e = .returned (.tuple #[]) ∧ w' = w := by
  go_enter Tryz.func89, Tryz.ntmps89
  go_wp2_with fail
  go_loopw [7, 8] (fun j i wr => j = .int .i64 0 ∧ i = .int .i64 20 ∧ wr = w) (fun _ i _ => 0)
  case atStart => exact ⟨rfl, rfl, rfl⟩
  case round =>
    obtain ⟨rfl, rfl, rfl⟩ := hrel
    go_wp2_with fail
    refine (ins_nil a c _).mono ?_
    rintro e w1 ⟨rfl, hw1⟩
    rw [hw1]
    clear hw1 w1
    go_wp2_with fail
    go_loopw [6] (fun i w2 => i = .int .i64 20 ∧ w2 = wr) (fun i _ => 0)
    case atStart => exact ⟨rfl, rfl⟩
    case round =>
      obtain ⟨rfl, hw2⟩ := hrel
      go_wp2_with fail
      go_end0
      exact ⟨rfl, rfl⟩
theorem stable_any (l : List GV) (hl : l.length ≤ 19) (fl : fitL l) (g cap B : Nat) (w : World) (hB : B ≤ g) (hr : rowO w g cap B l) : Calls Tryz.prog 89 #[.slice (some ⟨g, 0, none⟩) l.length cap, .int .i64 l.length, .func (.func 16) #[] #[]] w fun e w' => e = .returned (.tuple #[]) ∧ RowI w w' g cap B l.length := by
  have HC := Lib.hid (ins_any l (by omega) fl g cap B w hB hr)
  have d1 : decide ((20 : Int) ≤ (l.length : Int)) = false := by simp; omega
  have d2 : decide (20 ≤ l.length) = false := by simp; omega
  have d3 : decide ((20 : Int) < (l.length : Int)) = false := by simp; omega
  have d4 : decide (20 < l.length) = false := by simp; omega
  clear hr fl
  go_enter Tryz.func89, Tryz.ntmps89
  go_wp2_with fail
  go_loopw [7, 8] (fun j i wr => j = .int .i64 0 ∧ i = .int .i64 20 ∧ wr = w) (fun _ i _ => 0)
  case atStart => exact ⟨rfl, rfl, rfl⟩
  case round =>
    obtain ⟨rfl, rfl, rfl⟩ := hrel
    go_wp2_with fail
    refine HC.out.mono ?_
    rintro e w1 ⟨rfl, hw1⟩
    have HW1 := Lib.hid hw1
    clear hw1
    go_wp2_with fail
    go_loopw [6] (fun i w2 => i = .int .i64 20 ∧ w2 = w1) (fun i _ => 0)
    case atStart => exact ⟨rfl, rfl⟩
    case round =>
      obtain ⟨rfl, rfl⟩ := hrel
      go_wp2_with fail
      go_end0
      exact ⟨rfl, HW1.out⟩
theorem ssf_nil (a : Option Addr) (c : Nat) (w : World) : Calls Tryz.prog 53 #[.slice a 0 c, .func (.func 16) #[] #[]] w fun e w' => e = .returned (.tuple #[]) ∧ w' = w := by
  go_enter Tryz.func53, Tryz.ntmps53
  go_wp2_with fail
  refine (stable_nil a c _).mono ?_
  rintro e w1 ⟨rfl, rfl⟩
  go_wp2_with fail
  go_end0
  exact ⟨rfl, rfl⟩
theorem ssf_any (l : List GV) (hl : l.length ≤ 19) (fl : fitL l) (g cap B : Nat) (w : World) (hB : B ≤ g) (hr : rowO w g cap B l) : Calls Tryz.prog 53 #[.slice (some ⟨g, 0, none⟩) l.length cap, .func (.func 16) #[] #[]] w fun e w' => e = .returned (.tuple #[]) ∧ RowI w w' g cap B l.length := by
  have HC := Lib.hid (stable_any l hl fl g cap B w hB hr)
  clear hr fl
  go_enter Tryz.func53, Tryz.ntmps53
  go_wp2_with fail
  refine HC.out.mono ?_
  rintro e w1 ⟨rfl, hw1⟩
  go_wp2_with fail
  go_end0
  exact ⟨rfl, hw1⟩
theorem sorted_any (l : List GV) (hl : l.length ≤ 19) (fl : fitL l) (s : Value) (w : World) (B : Nat) (hB : B ≤ w.heap.size) (hs : isL w 0 B s l) (hn : ∀ n c, s = .slice none n c → c = 0) : Calls Tryz.prog 22 #[s, .func (.func 16) #[] #[]] w fun e w' => (∃ v, e = .returned v) ∧ Below w.heap.size w w' := by
  have HC := Lib.hid (clone_any l (by omega) s w B hB hs hn)
  have HFL := Lib.hid fl
  obtain ⟨a, c, rfl⟩ := isL_form hs
  clear hs hn fl
  go_enter Tryz.func22, Tryz.ntmps22
  go_wp2_with fail
  refine HC.out.mono ?_
  rintro e w1 ⟨v, rfl, hc, hb⟩
  by_cases h0 : l.length = 0
  · obtain ⟨a1, c1, rfl⟩ := isL_form (catL_isL hc (Nat.le_trans hB hb.size))
    rw [h0]
    clear hc
    go_wp2_with fail
    refine (ssf_nil a1 c1 _).mono ?_
    rintro e w2 ⟨rfl, rfl⟩
    go_wp2_with fail
    go_ret
    exact ⟨⟨_, rfl⟩, hb⟩
  · obtain ⟨g, cap, rfl, hg, hrow⟩ := rowO_of hc (by omega)
    have HR := Lib.hid hrow
    clear hc hrow
    go_wp2_with fail
    refine (ssf_any l hl HFL.out g cap B _ (Nat.le_trans hB hg) HR.out).mono ?_
    rintro e w2 ⟨rfl, m, _, _, _, hk⟩
    go_wp2_with fail
    go_ret
    exact ⟨⟨_, rfl⟩, ⟨hk.1.trans hb.os, hk.2.1.trans hb.tape, hk.2.2.1.trans hb.output, Nat.le_trans hb.size hk.2.2.2.1, fun b h => (hk.2.2.2.2 b (Nat.lt_of_lt_of_le h hb.size) (by omega)).trans (hb.block b h)⟩⟩
end Go.Proofs.YtaclkegoaajdgaaGreatDoor
