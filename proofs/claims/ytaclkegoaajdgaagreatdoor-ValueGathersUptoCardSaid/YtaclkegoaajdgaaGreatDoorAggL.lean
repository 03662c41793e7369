/-
  value.Aggregate of "list": the sorted list where it may be, or the refusal, whatever sorts it; a list of one value is its own sorted list. Conditions: texts and lists shorter than 2^31.
-/
import Derived.Test.YtaclkegoaajdgaaGreatDoorAggN
import Derived.Test.YtaclkegoaajdgaaGreatDoorMO
namespace Go.Proofs.YtaclkegoaajdgaaGreatDoor
open Go Go.RowKit
set_option maxRecDepth 100000
set_option linter.unusedVariables false
/-- the contract of value.sorted: of l it tells m -/
def SortedC (l m : List GV) : Prop := ∀ (s : Value) (w : World) (B : Nat), B ≤ w.heap.size → isL w 0 B s l → (∀ n c, s = .slice none n c → c = 0) →
  Calls Tryz.prog 22 #[s, .func (.func 16) #[] #[]] w fun e w' => ∃ v, e = .returned v ∧ catL w' w.heap.size B v m ∧ Below w.heap.size w w'
theorem ins_one (a : Option Addr) (c : Nat) (w : World) : Calls Tryz.prog 106 #[.slice a 1 c, .int .i64 0, .int .i64 1, .func (.func 16) #[] #[]] w fun e w' => e = .returned (.tuple #[]) ∧ w' = w := by
  go_enter Tryz.func106, Tryz.ntmps106
  go_wp2_with fail
  go_loopw [8] (fun i wr => i = .int .i64 1 ∧ wr = w) (fun i _ => 0)
  case atStart => exact ⟨rfl, rfl⟩
  case round =>
    obtain ⟨rfl, rfl⟩ := hrel
    go_wp2_with fail
    go_end0
    exact ⟨rfl, rfl⟩
theorem stable_one (a : Option Addr) (c : Nat) (w : World) : Calls Tryz.prog 89 #[.slice a 1 c, .int .i64 1, .func (.func 16) #[] #[]] w fun e w' => e = .returned (.tuple #[]) ∧ w' = w := by
  go_enter Tryz.func89, Tryz.ntmps89
  go_wp2_with fail
  go_loopw [7, 8] (fun j i wr => j = .int .i64 0 ∧ i = .int .i64 20 ∧ wr = w) (fun _ i _ => 0)
  case atStart => exact ⟨rfl, rfl, rfl⟩
  case round =>
    obtain ⟨rfl, rfl, rfl⟩ := hrel
    go_wp2_with fail
    refine (ins_one a c _).mono ?_
    rintro e w1 ⟨rfl, hw1⟩
    rw [hw1]
    clear hw1 w1
    go_wp2_with fail
    go_loopw [6] (fun i w2 => i = .int .i64 20 ∧ w2 = wr) (fun i _ => 0)
    case atStart => exact ⟨rfl, rfl⟩
    case round =>
      obtain ⟨rfl, hw2⟩ := hrel
      go_wp2_with fail
      go_end0
      exact ⟨rfl, rfl⟩
theorem ssf_one (a : Option Addr) (c : Nat) (w : World) : Calls Tryz.prog 53 #[.slice a 1 c, .func (.func 16) #[] #[]] w fun e w' => e = .returned (.tuple #[]) ∧ w' = w := by
  go_enter Tryz.func53, Tryz.ntmps53
  go_wp2_with fail
  refine (stable_one a c _).mono ?_
  rintro e w1 ⟨rfl, rfl⟩
  go_wp2_with fail
  go_end0
  exact ⟨rfl, rfl⟩
theorem sorted_one (x : GV) : SortedC [x] [x] := by
  intro s w B hB hs hn
  have HC := Lib.hid (clone_any [x] (by simp) s w B hB hs hn)
  obtain ⟨a, c, rfl⟩ := isL_form hs
  clear hs hn
  go_enter Tryz.func22, Tryz.ntmps22
  go_wp2_with fail
  refine HC.out.mono ?_
  rintro e w1 ⟨v, rfl, hc, hb⟩
  obtain ⟨a1, c1, rfl⟩ := isL_form (catL_isL hc (Nat.le_trans hB hb.size))
  have HC1 := Lib.hid hc
  have HB1 := Lib.hid hb
  clear hc hb
  go_wp2_with fail
  refine (ssf_one a1 c1 _).mono ?_
  rintro e w2 ⟨rfl, rfl⟩
  go_wp2_with fail
  go_ret
  exact ⟨_, rfl, HC1.out, HB1.out⟩
def listP (m : List GV) : GV × Int := if vmay ⟨4, false, 0, ⟨#[]⟩, m⟩ = true then (⟨4, false, 0, ⟨#[]⟩, m⟩, 0) else noP 2
theorem box_twice {w : World} {o : Obj} : (w.alloc o).heap.size = w.heap.size + 1 := by simp
set_option maxHeartbeats 1600000 in
theorem aggList_any (l m : List GV) (hl : l.length ≤ 2147483647) (hm : m.length ≤ 2147483647) (fl : fitL l) (fm : fitL m) (hbad : badL l = false) (hS : SortedC l m) (s : Value) (w : World) (B : Nat) (hB : B ≤ w.heap.size) (hs : isL w 0 B s l) (hn : ∀ n c, s = .slice none n c → c = 0) : Calls Tryz.prog 6 #[.string { data := #[108, 105, 115, 116] }, s] w (GivesO w (listP m)) := by
  have HS := Lib.hid hs
  obtain ⟨a, c, rfl⟩ := isL_form hs
  have HSRT : Hid (∀ w1, Below w.heap.size w w1 → Calls Tryz.prog 22 #[.slice a l.length c, .func (.func 16) #[] #[]] w1 fun e w' => ∃ v, e = .returned v ∧ catL w' w1.heap.size B v m ∧ Below w1.heap.size w1 w') := fun w1 h1 => hS _ w1 B (Nat.le_trans hB h1.size) (isL_below HS.out h1 hB) hn
  have HBADC : Hid (∀ w1, Below w.heap.size w w1 → Calls Tryz.prog 19 #[.slice a l.length c, .func (.func 20) #[] #[]] w1 fun e w' => e = .returned (.bool false) ∧ Below w1.heap.size w1 w') := fun w1 h1 => by
    have := containsA_any l (by omega) fl _ w1 B (Nat.le_trans hB h1.size) (isL_below HS.out h1 hB)
    rw [hbad] at this
    exact this
  have fx : (GV.mk 4 false 0 ⟨#[]⟩ m).fit := by
    simp only [GV.fit]
    exact ⟨by omega, by omega, by omega, by omega, by decide, hm, fm⟩
  have HCHK : Hid (∀ (w1 : World) (a1 : Option Addr) (c1 : Nat), isL w1 0 w1.heap.size (.slice a1 m.length c1) m → Calls Tryz.prog 15 #[.agg #[.int .i64 4, .bool false, .int .i64 0, .string { data := #[] }, .slice a1 m.length c1]] w1 fun e w' => e = .returned (.bool (vmay ⟨4, false, 0, ⟨#[]⟩, m⟩)) ∧ Below w1.heap.size w1 w') := fun w1 a1 c1 h => vCheck_any ⟨4, false, 0, ⟨#[]⟩, m⟩ fx _ w1 w1.heap.size (Nat.le_refl _) h
  have HCOP : Hid (∀ (w1 : World) (a1 : Option Addr) (c1 : Nat), isL w1 0 w1.heap.size (.slice a1 m.length c1) m → Calls Tryz.prog 25 #[.agg #[.int .i64 4, .bool false, .int .i64 0, .string { data := #[] }, .slice a1 m.length c1]] w1 (GivesV w1 ⟨4, false, 0, ⟨#[]⟩, m⟩)) := fun w1 a1 c1 h => vCopied_any ⟨4, false, 0, ⟨#[]⟩, m⟩ fx _ w1 w1.heap.size (Nat.le_refl _) h
  obtain ⟨R, hR⟩ : ∃ R, R = listP m := ⟨_, rfl⟩
  obtain ⟨V, hV⟩ : ∃ V, V = vmay ⟨4, false, 0, ⟨#[]⟩, m⟩ := ⟨_, rfl⟩
  have HR0 : Hid (V = false → R = noP 2) := fun h => by rw [hR, listP, ← hV, h]; rfl
  have HR1 : Hid (V = true → R = (⟨4, false, 0, ⟨#[]⟩, m⟩, 0)) := fun h => by rw [hR, listP, ← hV, h]; rfl
  rw [← hR]
  rw [← hV] at HCHK
  clear hs fl fm hbad hn HS fx hS hR hV
  go_enter Tryz.func6, Tryz.ntmps6
  go_upto_region 1 with fail
  obtain ⟨wA, hwA, hb0, h0, hsz⟩ := zero_boxN w 29
  rw [← hwA]
  have HB0 := Lib.hid hb0
  have HZ := Lib.hid h0
  have s0 : w.heap.size < wA.heap.size := by omega
  have hw5 := ways_any ⟨#[108, 105, 115, 116]⟩ wA 9
  rw [show Lib.containsS waysL ⟨#[108, 105, 115, 116]⟩ = true by decide] at hw5
  have HW5 := Lib.hid hw5
  have hb5 : Below wA.heap.size wA (wA.alloc (.cells #[.string { data := #[99, 111, 117, 110, 116] }, .string { data := #[115, 117, 109] }, .string { data := #[109, 105, 110] }, .string { data := #[109, 97, 120] }, .string { data := #[108, 105, 115, 116] }] 9)) := (Below.refl _ _).alloc (Nat.le_refl _) _
  clear hwA hb0 h0 hsz hw5
  go_wp2_with fail
  refine HW5.out.mono ?_
  rintro e w1 ⟨rfl, rfl⟩
  have HB1 := Lib.hid (HB0.out.trans (hb5.mono (Nat.le_of_lt s0)))
  have HZ1 := Lib.hid ((hb5.block w.heap.size s0).trans HZ.out)
  have s1 := Nat.lt_of_lt_of_le s0 hb5.size
  clear hb5
  go_wp2_with fail
  refine (HBADC.out _ HB1.out).mono ?_
  rintro e w2 ⟨rfl, hb2⟩
  have HB2 := Lib.hid (below_down HB1.out hb2 (Nat.le_refl _))
  have HZ2 := Lib.hid ((hb2.block w.heap.size s1).trans HZ1.out)
  have s2 := Nat.lt_of_lt_of_le s1 hb2.size
  clear hb2
  go_wp2_with fail
  refine (HSRT.out _ HB2.out).mono ?_
  rintro e w3 ⟨v3, rfl, hc3, hb3⟩
  have HB3 := Lib.hid (below_down HB2.out hb3 (Nat.le_refl _))
  have HZ3 := Lib.hid ((hb3.block w.heap.size s2).trans HZ2.out)
  have s3 := Nat.lt_of_lt_of_le s2 hb3.size
  have hl3 := catL_isL hc3 (Nat.le_trans (Nat.le_trans hB HB2.out.size) hb3.size)
  obtain ⟨a3, c3, rfl⟩ := isL_form hl3
  have HL3 := Lib.hid hl3
  clear hb3 hc3 hl3
  have x1 : (({ data := #[108, 105, 115, 116] } : ByteArray) == { data := #[99, 111, 117, 110, 116] }) = false := by decide
  have x2 : (({ data := #[108, 105, 115, 116] } : ByteArray) == { data := #[115, 117, 109] }) = false := by decide
  go_upto_region 10 with fail
  obtain ⟨w4, hw4⟩ : ∃ v, v = w3.alloc (.cells #[.int .i64 4, .bool false, .int .i64 0, .string { data := #[] }, .slice a3 m.length c3] 29) := ⟨_, rfl⟩
  have hb4 : Below w3.heap.size w3 w4 := by rw [hw4]; exact (Below.refl _ _).alloc (Nat.le_refl _) _
  have hx4 : w4.heap[w3.heap.size]? = some (.cells #[.int .i64 4, .bool false, .int .i64 0, .string { data := #[] }, .slice a3 m.length c3] 29 (0, 0)) := by rw [hw4]; exact heap_last
  have hs4 : w4.heap.size = w3.heap.size + 1 := by rw [hw4]; simp
  rw [← hw4]
  clear hw4
  have HB4 := Lib.hid (below_down HB3.out hb4 (Nat.le_refl _))
  have HZ4 := Lib.hid ((hb4.block w.heap.size s3).trans HZ3.out)
  have HL4 := Lib.hid (isL_wide (isL_below HL3.out hb4 (Nat.le_refl _)) (Nat.le_refl _) hb4.size)
  have HX4 := Lib.hid hx4
  have q4 := fun o => cell_of hx4 o
  have l4 : w3.heap.size < w4.heap.size := by omega
  clear hb4 hx4 hs4 HZ3 HB3 HL3
  go_wp2_with fail
  refine (HCHK.out w4 a3 c3 HL4.out).mono ?_
  rintro e w5 ⟨rfl, hb5⟩
  have HB5 := Lib.hid (below_down HB4.out hb5 (Nat.le_refl _))
  have s4 : w.heap.size < w4.heap.size := Nat.lt_trans s3 l4
  have HZ5 := Lib.hid ((hb5.block w.heap.size s4).trans HZ4.out)
  have HL5 := Lib.hid (isL_wide (isL_below HL4.out hb5 (Nat.le_refl _)) (Nat.le_refl _) hb5.size)
  have hx5 := (hb5.block w3.heap.size l4).trans HX4.out
  have q5 := fun o => cell_of hx5 o
  have l5 : w3.heap.size < w5.heap.size := Nat.lt_of_lt_of_le l4 hb5.size
  have s5 : w.heap.size < w5.heap.size := Nat.lt_of_lt_of_le s4 hb5.size
  have hle5 := HB5.out.size
  clear hb5 hx5 HX4 HZ4 HB4 HL4 q4
  cases V
  · go_wp2_with fail
    refine (no_v 2 _).mono ?_
    rintro e w6 ⟨rfl, hb6⟩
    have HB6 := Lib.hid (below_down HB5.out hb6 (Nat.le_refl _))
    have hz6 := (hb6.block w.heap.size s5).trans HZ5.out
    have q6 := fun o => cell_of hz6 o
    have f6 := fun o => frozen_of hz6 o
    have s6 := Nat.lt_of_lt_of_le s5 hb6.size
    clear hb6 hz6 q5
    go_wp2_with fail
    refine bodyPost_ret (v := .tuple #[.agg #[.int .i64 0, .bool false, .int .i64 0, .string { data := #[] }, .slice none 0 0], .int .i64 2]) (by simp [results, Tryz.results6, go_sem, q6]) rfl ?_
    rw [HR0.out (by first | rfl | trivial)]
    exact gives_flat (r := noP 2) rfl rfl (below_set5 HB6.out (Nat.le_refl _) _ _ _ _ _)
  · go_wp2_with fail
    refine (HCOP.out w5 a3 c3 HL5.out).mono ?_
    rintro e w6 ⟨a6, c6, rfl, hr, hb6⟩
    have HB6 := Lib.hid (below_down HB5.out hb6 (Nat.le_refl _))
    have HR6 := Lib.hid hr
    have hz6 := (hb6.block w.heap.size s5).trans HZ5.out
    have q6 := fun o => cell_of hz6 o
    have f6 := fun o => frozen_of hz6 o
    have s6 := Nat.lt_of_lt_of_le s5 hb6.size
    simp only [GV.agg]
    clear hb6 hz6 q5 hr
    go_wp2_with fail
    refine bodyPost_ret (v := .tuple #[.agg #[.int .i64 4, .bool false, .int .i64 0, .string { data := #[] }, .slice a6 m.length c6], .int .i64 0]) (by simp [results, Tryz.results6, go_sem, q6]) rfl ?_
    rw [HR1.out (by first | rfl | trivial)]
    exact gives_box (r := (⟨4, false, 0, ⟨#[]⟩, m⟩, 0)) HR6.out HB6.out hle5 (Nat.le_refl _) s5 _ _ _ _ _
end Go.Proofs.YtaclkegoaajdgaaGreatDoor
