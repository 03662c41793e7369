/-
  Plain words on instructions that may be run: what code.Check and the references' Check tell. Conditions: none.
-/
import Derived.Test.YtljljhjdlicfeaaGreatPAH
import Derived.Test.YtljljhjdlicfeaaGreatNB
import Derived.Laws.MakeOwn
import Derived.WalkMore
import Derived.ScopeJumps
namespace Go.Proofs.YtljljhjdlicfeaaGreat
open Go Go.RowKit
set_option linter.unusedVariables false
def offOf (x : GI) : Int := if x.op = 3 ∨ x.op = 6 ∨ x.op = 7 ∨ x.op = 8 then 1 else if x.op = 4 then x.arg else if x.op = 5 then takesOf x.arg else 0
def leftOf (x : GI) : Int := if 0 ≤ x.op ∧ x.op ≤ 6 then 1 else 0
def okOf (x : GI) : Bool :=
  if x.op = 0 then vmay x.v && ((x.arg == 0) && (x.s.toList == []))
  else (if x.op = 1 ∨ x.op = 2 ∨ x.op = 3 then nameB x.s.data.toList && (x.arg == 0)
    else (x.s.toList == []) && (if x.op = 4 then decide (0 ≤ x.arg ∧ x.arg ≤ 4096) else if x.op = 5 then takesOf x.arg != 0 else if x.op = 6 then x.arg == 0 else decide (x.op = 7 ∨ x.op = 8))) && same x.v zeroV
theorem okOf_off {x : GI} (h : okOf x = true) : 0 ≤ offOf x ∧ offOf x ≤ 4096 := by
  unfold okOf at h
  unfold offOf
  have := takesOf_cases x.arg
  split
  · omega
  · split
    · rename_i h1 h2
      rw [if_neg (by omega), if_neg (by omega), if_pos h2] at h
      simp at h; omega
    · split <;> omega
def reachB (hs : List Int) (i : Nat) (h : Int) : Bool := (hs.getD i 0 == 0) || (hs.getD i 0 == h + 1)
def stepC (n : Nat) (x : GI) (i : Nat) (hs : List Int) : Bool × List Int :=
  if okOf x = true ∧ offOf x ≤ hs.getD i 0 - 1 ∧ reachB hs (i + 1) (hs.getD i 0 - 1 - offOf x + leftOf x) = true then
    (if x.op = 7 ∨ x.op = 8 then
      (if x.arg ≤ i ∨ (n : Int) < x.arg then (false, hs) else
        (reachB (hs.set (i + 1) (hs.getD i 0 - offOf x + leftOf x)) x.arg.toNat (hs.getD i 0 - 1), (hs.set (i + 1) (hs.getD i 0 - offOf x + leftOf x)).set x.arg.toNat (hs.getD i 0)))
     else (true, hs.set (i + 1) (hs.getD i 0 - offOf x + leftOf x)))
  else (false, hs)
def inH (m : Int) (hs : List Int) : Prop := ∀ h ∈ hs, 0 ≤ h ∧ h ≤ m
theorem inH_get {m : Int} {hs : List Int} (h : inH m hs) (hm : 0 ≤ m) (i : Nat) : 0 ≤ hs.getD i 0 ∧ hs.getD i 0 ≤ m := by
  rw [List.getD_eq_getElem?_getD]
  cases e : hs[i]? with
  | none => simp; exact hm
  | some x => exact h x (List.mem_of_getElem? e)
theorem inH_set {m m' : Int} {hs : List Int} (h : inH m hs) (hm : m ≤ m') (i : Nat) (x : Int) (h0 : 0 ≤ x) (h1 : x ≤ m') : inH m' (hs.set i x) := fun y hy => by
  rcases List.mem_or_eq_of_mem_set hy with hy | rfl
  · have := h y hy; omega
  · exact ⟨h0, h1⟩
theorem leftOf_le (x : GI) : 0 ≤ leftOf x ∧ leftOf x ≤ 1 := by unfold leftOf; split <;> omega
theorem stepC_len (n : Nat) (x : GI) (i : Nat) (hs : List Int) : (stepC n x i hs).2.length = hs.length := by
  unfold stepC
  split
  · split
    · split
      · rfl
      · simp
    · simp
  · rfl
theorem stepC_in {m : Int} {n : Nat} {x : GI} {i : Nat} {hs : List Int} (hm : 0 ≤ m) (h : inH m hs) : inH (m + 1) (stepC n x i hs).2 := by
  have hg := inH_get h hm i
  have hl := leftOf_le x
  have hw : inH (m + 1) hs := fun y hy => by have := h y hy; omega
  unfold stepC
  split
  · rename_i hc
    have ho := okOf_off hc.1
    have h1 : inH (m + 1) (hs.set (i + 1) (hs.getD i 0 - offOf x + leftOf x)) := inH_set h (by omega) _ _ (by omega) (by omega)
    split
    · split
      · exact hw
      · exact inH_set h1 (Int.le_refl _) _ _ hg.1 (by omega)
    · exact h1
  · exact hw
def stepR (n : Nat) (x : GI) (i : Nat) (hs : List Int) : Bool × List Int :=
  if okOf x = true ∧ 0 ≤ hs.getD i 0 - 1 ∧ offOf x ≤ hs.getD i 0 - 1 then
    (if x.op = 7 ∨ x.op = 8 then
      (if x.arg ≤ i ∨ (n : Int) < x.arg ∨ (0 ≤ hs.getD x.arg.toNat 0 - 1 ∧ hs.getD x.arg.toNat 0 ≠ hs.getD i 0) then (false, hs) else
        (if 0 ≤ (hs.set x.arg.toNat (hs.getD i 0)).getD (i + 1) 0 - 1 ∧ (hs.set x.arg.toNat (hs.getD i 0)).getD (i + 1) 0 ≠ hs.getD i 0 - 1 then (false, hs) else
          (true, (hs.set x.arg.toNat (hs.getD i 0)).set (i + 1) (hs.getD i 0 - 1))))
     else (if 0 ≤ hs.getD (i + 1) 0 - 1 ∧ hs.getD (i + 1) 0 - 1 ≠ hs.getD i 0 - 1 - offOf x + 1 then (false, hs) else (true, hs.set (i + 1) (hs.getD i 0 - offOf x + 1))))
  else (false, hs)
theorem getD_set (hs : List Int) (i j : Nat) (x : Int) (h : i < hs.length) : (hs.set i x).getD j 0 = if i = j then x else hs.getD j 0 := by
  rw [List.getD_eq_getElem?_getD, List.getD_eq_getElem?_getD, List.getElem?_set]
  split
  · simp_all
  · rfl
theorem okOf_op {x : GI} (h : okOf x = true) : 0 ≤ x.op ∧ x.op ≤ 8 := by
  unfold okOf at h
  split at h
  · omega
  · split at h
    · omega
    · split at h
      · omega
      · split at h
        · omega
        · split at h
          · omega
          · simp at h; omega
theorem stepR_eq {m : Int} {n : Nat} {x : GI} {i : Nat} {hs : List Int} (hm : 0 ≤ m) (h : inH m hs) (hl : hs.length = n + 1) (hi : i < n) :
    (stepR n x i hs).1 = (stepC n x i hs).1 ∧ ((stepC n x i hs).1 = true → (stepR n x i hs).2 = (stepC n x i hs).2) := by
  have hg := inH_get h hm
  have hgi := hg i
  have hgj := hg (i + 1)
  have hga := hg x.arg.toNat
  have gs := getD_set hs
  unfold stepR stepC reachB
  simp only [Bool.or_eq_true, beq_iff_eq]
  cases hok : okOf x
  · simp
  have hoff := okOf_off hok
  have hop := okOf_op hok
  by_cases hj : x.op = 7 ∨ x.op = 8
  · have ho1 : offOf x = 1 := by unfold offOf; rw [if_pos (by omega)]
    have hl0 : leftOf x = 0 := by unfold leftOf; rw [if_neg (by omega)]
    simp only [if_pos hj, ho1, hl0]
    by_cases hb : x.arg ≤ i ∨ (n : Int) < x.arg
    · simp only [if_pos hb]
      have hc : x.arg ≤ i ∨ (n : Int) < x.arg ∨ (0 ≤ hs.getD x.arg.toNat 0 - 1 ∧ hs.getD x.arg.toNat 0 ≠ hs.getD i 0) := by omega
      simp only [if_pos hc]
      simp
    have hai : x.arg.toNat < hs.length := by omega
    simp only [if_neg hb]
    rw [gs _ (i + 1) _ hai, gs (i + 1) _ _ (by omega)]
    by_cases he : x.arg.toNat = i + 1
    · have he' : i + 1 = x.arg.toNat := he.symm
      simp only [if_pos he, if_pos he']
      generalize hs.getD i 0 = A at *
      generalize hs.getD (i + 1) 0 = D at *
      generalize hs.getD x.arg.toNat 0 = C at *
      repeat' split
      all_goals first
        | (refine ⟨?_, fun hh => ?_⟩ <;> first | rfl | (simp at hh; omega) | (symm; simp; omega) | (simp; omega) | (exfalso; simp_all; omega))
        | (exfalso; simp_all; omega)
    · have he' : ¬ i + 1 = x.arg.toNat := fun h => he h.symm
      simp only [if_neg he, if_neg he']
      rw [List.set_comm _ _ he]
      generalize hs.getD i 0 = A at *
      generalize hs.getD (i + 1) 0 = D at *
      generalize hs.getD x.arg.toNat 0 = C at *
      have e1 : A - 1 + 0 = A - 1 := by omega
      simp only [e1]
      repeat' split
      all_goals first
        | (refine ⟨?_, fun hh => ?_⟩ <;> first | rfl | (simp at hh; omega) | (symm; simp; omega) | (simp; omega) | (exfalso; simp_all; omega))
        | (exfalso; simp_all; omega)
  · have hl1 : leftOf x = 1 := by unfold leftOf; rw [if_pos (by omega)]
    simp only [if_neg hj, hl1]
    generalize hs.getD i 0 = A at *
    generalize hs.getD (i + 1) 0 = D at *
    repeat' split
    all_goals first
      | (refine ⟨?_, fun hh => ?_⟩ <;> first | rfl | (simp at hh; omega) | (symm; simp; omega) | (simp; omega) | (exfalso; simp_all; omega))
      | (exfalso; simp_all; omega)
def checkFrom (n : Nat) : List GI → Nat → List Int → Bool
  | [], _, hs => hs.getD n 0 == 2
  | x :: r, i, hs => (stepC n x i hs).1 && checkFrom n r (i + 1) (stepC n x i hs).2
def checkC (l : List GI) : Bool := checkFrom l.length l 0 (1 :: List.replicate l.length 0)
end Go.Proofs.YtljljhjdlicfeaaGreat
namespace Go.Proofs.YtljljhjdlicfeaaGreat
open Go Go.RowKit
set_option maxRecDepth 100000
set_option linter.unusedVariables false
def fitI (l : List GI) : Prop := ∀ x ∈ l, x.v.fit ∧ x.s.size ≤ 2147483647
def ints (hs : List Int) : Array Value := (hs.map (Value.int .i64)).toArray
def isH (w : World) (g : Nat) (hs : List Int) : Prop := w.heap[g]? = some (.cells (ints hs) 3 (0, 0))
theorem ints_get (hs : List Int) (i : Nat) (h : i < hs.length) : (ints hs)[i]? = some (.int .i64 (hs.getD i 0)) := by
  simp [ints, h]
theorem ints_set (hs : List Int) (i : Nat) (x : Int) : (ints hs).setIfInBounds i (.int .i64 x) = ints (hs.set i x) := by
  simp [ints, List.map_set]
theorem made_ints (n : Nat) : madeCells (Value.int .i64 0).cells (n * 1) = ints (List.replicate n 0) := by
  apply Array.ext
  · simp [madeCells, ints]
  · intro i h1 h2
    simp [madeCells, ints, Value.cells]
    rw [Nat.mod_one]; rfl
theorem hinfo : (Tryz.prog.info? 3).map (fun i => (i.zero, i.size, i.bytes)) = some (some (.int .i64 0), 1, 8) := by kernel_rfl
theorem run_heights (n : Nat) (hn : n ≤ 2147483648) (w : World) : (Instr.makeSlice 50 (.int .i64 (n : Int)) (.int .i64 (n : Int))).run Tryz.prog w = .ok (.slice (some ⟨w.heap.size, 0, none⟩) n n) (w.alloc (.cells (ints (List.replicate n 0)) 3)) := by
  obtain ⟨i0, hi, hz0, hz1, hz2⟩ := info_parts hinfo
  have h := run_make (P := Tryz.prog) w 50 3 i0 (.int .i64 0) Tryz.underlying50 hi hz0 .i64 .i64 n n (by omega) (by omega) (by rw [hz2]; omega) (by omega)
  rw [h, hz1, ← made_ints]
  rfl
set_option maxHeartbeats 1600000 in
theorem reach_any (hs : List Int) (ii : Int) (i : Nat) (hii : ii = (i : Nat)) (h : Int) (hi : i < hs.length) (hl : hs.length ≤ 2147483648) (h0 : -9223372036854775808 ≤ h + 1) (h1 : h + 1 ≤ 9223372036854775807) (c1 g : Nat) (hne : c1 ≠ g) (w : World)
    (hc : w.heap[c1]? = some (.cells #[.slice (some ⟨g, 0, none⟩) hs.length hs.length] 50 (0, 0))) (hg : isH w g hs) :
    Calls Tryz.prog 41 #[.int .i64 ii, .int .i64 h, .pointer (some ⟨c1, 0, none⟩)] w (fun e w' => e = .returned (.bool (reachB hs i h)) ∧ isH w' g (hs.set i (h + 1)) ∧ Kept g (g + 1) w w') := by
  subst hii
  have q1 := fun o => cell_of hc o
  have q2 := fun o => cell_of hg o
  have f2 := fun o => frozen_of hg o
  have hu := ints_get hs i hi
  have HG := Lib.hid hg
  have HI := Lib.hid hi
  clear hc hg
  have HR : Hid (reachB hs i h = ((hs.getD i 0 == 0) || (hs.getD i 0 == h + 1))) := (rfl : reachB hs i h = _)
  generalize hs.getD i 0 = A at *
  cases e0 : (A == 0)
  all_goals
    go_enter Tryz.func41, Tryz.ntmps41
    go_wp2_with fail
    go_ret
    refine ⟨ret_bool (by rw [HR.out, e0]; rfl), ?_, (Kept.refl g (g + 1) w).setIn (Nat.le_refl _) (by omega) _ _⟩
    refine (heap_setCell2 HG.out).trans ?_
    rw [ints_set]
end Go.Proofs.YtljljhjdlicfeaaGreat
namespace Go.Proofs.YtljljhjdlicfeaaGreat
open Go Go.RowKit
set_option maxRecDepth 100000
set_option linter.unusedVariables false
def bareOf (x : GI) : GI := ⟨x.op, if x.op = 4 ∨ x.op = 5 ∨ x.op = 7 ∨ x.op = 8 then x.arg else 0, if x.op = 1 ∨ x.op = 2 ∨ x.op = 3 then x.s else { data := #[] }, if x.op = 0 then x.v else zeroV⟩
def swS (x : GI) : Bool := if x.op = 0 then vmay x.v else if x.op = 1 ∨ x.op = 2 ∨ x.op = 3 then nameB x.s.data.toList else if x.op = 4 then decide (0 ≤ x.arg) && decide (x.arg ≤ 4096) else if x.op = 5 then decide (0 < takesOf x.arg) else decide (x.op = 6 ∨ x.op = 7 ∨ x.op = 8)
theorem okOf_sw (x : GI) : okOf x = (swS x && ((x.arg == (bareOf x).arg) && ((x.s.toList == (bareOf x).s.toList) && same x.v (bareOf x).v))) := by
  have e0 : ({ data := #[] } : ByteArray).toList = [] := by rw [toList_nil]; rfl
  have hv : same x.v x.v = true := (same_iff _ _).2 rfl
  unfold okOf swS bareOf
  dsimp only
  have ht := takesOf_cases x.arg
  generalize hk : takesOf x.arg = tk at *
  generalize x.op = op at *
  have h : op = 0 ∨ op = 1 ∨ op = 2 ∨ op = 3 ∨ op = 4 ∨ op = 5 ∨ op = 6 ∨ op = 7 ∨ op = 8 ∨ (op ≠ 0 ∧ op ≠ 1 ∧ op ≠ 2 ∧ op ≠ 3 ∧ op ≠ 4 ∧ op ≠ 5 ∧ op ≠ 6 ∧ op ≠ 7 ∧ op ≠ 8) := by omega
  generalize hs0 : same x.v zeroV = s0
  generalize hs1 : nameB x.s.data.toList = s1
  generalize hs2 : (x.s.toList == []) = s2
  generalize hs3 : vmay x.v = s3
  rw [Bool.eq_iff_iff]
  rcases h with rfl | rfl | rfl | rfl | rfl | rfl | rfl | rfl | rfl | ⟨h1, h2, h3, h4, h5, h6, h7, h8, h9⟩
  all_goals (cases s0 <;> cases s1 <;> cases s2 <;> cases s3 <;> simp_all)
  all_goals try omega
set_option maxHeartbeats 3200000 in
theorem shape_any (x : GI) (fv : x.v.fit) (fs : x.s.size ≤ 2147483647) (s : Value) (w : World) (B : Nat) (hB : B ≤ w.heap.size) (hs : isL w 0 B s x.v.l) :
    Calls Tryz.prog 42 #[x.agg s] w fun e w' => e = .returned (.tuple #[.int .i64 (offOf x), .int .i64 (leftOf x), .bool (okOf x)]) ∧ Below w.heap.size w w' := by
  obtain ⟨a, c, rfl⟩ := isL_form hs
  have HS := Lib.hid hs
  have FV := Lib.hid fv
  have HE := Lib.hid (okOf_sw x)
  clear hs fv
  simp only [GI.agg]
  go_enter Tryz.func42, Tryz.ntmps42
  go_upto_block 0 with fail
  obtain ⟨wA, hwA⟩ : ∃ wA, wA = (w.alloc (.cells #[.int .i64 x.op, .int .i64 x.arg, .string x.s, .int .i64 x.v.k, .bool x.v.b, .int .i64 x.v.n, .string x.v.t, .slice a x.v.l.length c] 86)).alloc (.cells #[.int .i64 x.op, .int .i64 0, .string { data := #[] }, .int .i64 0, .bool false, .int .i64 0, .string { data := #[] }, .slice none 0 0] 86) := ⟨_, rfl⟩
  have hkA : Below w.heap.size w wA := by rw [hwA]; exact ((Below.refl w.heap.size w).alloc (Nat.le_refl _) _).alloc (by simp) _
  have hxA : wA.heap[w.heap.size]? = some (.cells #[.int .i64 x.op, .int .i64 x.arg, .string x.s, .int .i64 x.v.k, .bool x.v.b, .int .i64 x.v.n, .string x.v.t, .slice a x.v.l.length c] 86 (0, 0)) := by rw [hwA]; exact heap_two
  have hyA : wA.heap[w.heap.size + 1]? = some (.cells #[.int .i64 x.op, .int .i64 0, .string { data := #[] }, .int .i64 0, .bool false, .int .i64 0, .string { data := #[] }, .slice none 0 0] 86 (0, 0)) := by rw [hwA]; exact heap_second
  have hzA : wA.heap.size = w.heap.size + 2 := by rw [hwA]; simp
  rw [← hwA]
  clear hwA
  have HA := Lib.hid (And.intro hkA (And.intro hxA hyA))
  have qx := fun o => cell_of hxA o
  have qy := fun o => cell_of hyA o
  have fy := fun o => frozen_of hyA o
  clear hkA hxA hyA
  have hz1 : w.heap.size < wA.heap.size := by omega
  have hz2 : w.heap.size + 1 < wA.heap.size := by omega
  go_cut [2, 3, 4] (fun s2 s3 s4 wx => s2 = .int .i64 (offOf x) ∧ s3 = .int .i64 (leftOf x) ∧ s4 = .bool (swS x) ∧ Below w.heap.size w wx ∧ w.heap.size + 2 ≤ wx.heap.size ∧
    Hid (wx.heap[w.heap.size]? = some (.cells #[.int .i64 x.op, .int .i64 x.arg, .string x.s, .int .i64 x.v.k, .bool x.v.b, .int .i64 x.v.n, .string x.v.t, .slice a x.v.l.length c] 86 (0, 0))) ∧ ∃ ab cb, Hid (wx.heap[w.heap.size + 1]? = some (.cells #[.int .i64 (bareOf x).op, .int .i64 (bareOf x).arg, .string (bareOf x).s, .int .i64 (bareOf x).v.k, .bool (bareOf x).v.b, .int .i64 (bareOf x).v.n, .string (bareOf x).v.t, .slice ab (bareOf x).v.l.length cb] 86 (0, 0))) ∧ Hid (isL wx 0 B (.slice ab (bareOf x).v.l.length cb) (bareOf x).v.l))
  case first =>
    have hcase : x.op = 0 ∨ x.op = 1 ∨ x.op = 2 ∨ x.op = 3 ∨ x.op = 4 ∨ x.op = 5 ∨ x.op = 6 ∨ x.op = 7 ∨ x.op = 8 ∨ (x.op ≠ 0 ∧ x.op ≠ 1 ∧ x.op ≠ 2 ∧ x.op ≠ 3 ∧ x.op ≠ 4 ∧ x.op ≠ 5 ∧ x.op ≠ 6 ∧ x.op ≠ 7 ∧ x.op ≠ 8) := by omega
    rcases hcase with h | h | h | h | h | h | h | h | h | h
    · have e0 : (x.op == 0) = true := by simp [h]
      have e1 : (x.op == 1) = false := by simp [h]
      have e2 : (x.op == 2) = false := by simp [h]
      have e3 : (x.op == 3) = false := by simp [h]
      have e4 : (x.op == 4) = false := by simp [h]
      have e5 : (x.op == 5) = false := by simp [h]
      have e6 : (x.op == 6) = false := by simp [h]
      have e7 : (x.op == 7) = false := by simp [h]
      have e8 : (x.op == 8) = false := by simp [h]
      have H := Lib.hid h
      clear h
      have HBA : Hid (∀ w', Below w.heap.size w w' → isL w' 0 B (.slice a x.v.l.length c) x.v.l) := fun w' h => isL_below HS.out h hB
      go_wp2_with fail
      go_region_law
        (go_simp
         go_at_call 60
         refine (vCheck_any x.v FV.out _ _ B (by simp only [drew_heap]; omega) (HBA.out _ HA.out.1.drew)).mono ?_
         rintro e w2 ⟨rfl, hb⟩
         have hy2 : w2.heap[w.heap.size + 1]? = some (.cells #[.int .i64 x.op, .int .i64 0, .string { data := #[] }, .int .i64 0, .bool false, .int .i64 0, .string { data := #[] }, .slice none 0 0] 86 (0, 0)) := (hb.block _ (by simp only [drew_heap]; omega)).trans HA.out.2.2
         have hb2 : Below w.heap.size w w2 := below_down HA.out.1.drew hb (Nat.le_refl _)
         have hx2 : w2.heap[w.heap.size]? = some (.cells #[.int .i64 x.op, .int .i64 x.arg, .string x.s, .int .i64 x.v.k, .bool x.v.b, .int .i64 x.v.n, .string x.v.t, .slice a x.v.l.length c] 86 (0, 0)) := (hb.block _ (by simp only [drew_heap]; omega)).trans HA.out.2.1
         have hs2 : w.heap.size + 2 ≤ w2.heap.size := by have := hb.size; simp only [drew_heap] at this; omega
         have HB2 := Lib.hid (And.intro hb2 (And.intro hx2 (And.intro hy2 hs2)))
         have qx2 := fun o => cell_of hx2 o
         have qy2 := fun o => cell_of hy2 o
         have fy2 := fun o => frozen_of hy2 o
         clear hb2 hy2 hx2 hb hs2)
      all_goals
        go_wp2_with fail
        go_meet
        refine ⟨by simp [offOf, H.out], by simp [leftOf, H.out], by simp [swS, H.out], ?_, ?_, ?_, a, c, ?_, ?_⟩
        · refine ((((HB2.out.1.setCell ?_ _).setCell ?_ _).setCell ?_ _).setCell ?_ _).setCell ?_ _
          all_goals simp
        · simp only [hsz_setCell2]; exact HB2.out.2.2.2
        · refine (Below.heap_setCell _ _ _ _ ?_).trans ((Below.heap_setCell _ _ _ _ ?_).trans ((Below.heap_setCell _ _ _ _ ?_).trans ((Below.heap_setCell _ _ _ _ ?_).trans ((Below.heap_setCell _ _ _ _ ?_).trans HB2.out.2.1))))
          all_goals simp
        · refine (heap_setCell2 (heap_setCell2 (heap_setCell2 (heap_setCell2 (heap_setCell2 HB2.out.2.2.1))))).trans ?_
          simp [bareOf, H.out]
        · rw [show (bareOf x).v = x.v from by simp [bareOf, H.out]]
          refine isL_below HS.out ((((HB2.out.1.setCell ?_ _).setCell ?_ _).setCell ?_ _).setCell ?_ _ |>.setCell ?_ _) hB
          all_goals simp
    · have e0 : (x.op == 0) = false := by simp [h]
      have e1 : (x.op == 1) = true := by simp [h]
      have e2 : (x.op == 2) = false := by simp [h]
      have e3 : (x.op == 3) = false := by simp [h]
      have e4 : (x.op == 4) = false := by simp [h]
      have e5 : (x.op == 5) = false := by simp [h]
      have e6 : (x.op == 6) = false := by simp [h]
      have e7 : (x.op == 7) = false := by simp [h]
      have e8 : (x.op == 8) = false := by simp [h]
      have H := Lib.hid h
      clear h
      have FSN := Lib.hid fs
      go_wp2_with fail
      go_region_law
        (go_simp
         go_at_call 62
         refine (name_any x.s FSN.out _).mono ?_
         rintro e w2 ⟨rfl, rfl⟩)
      all_goals
        go_wp2_with fail
        go_meet
        refine ⟨by simp [offOf, H.out], by simp [leftOf, H.out], by simp [swS, H.out], ?_, ?_, ?_, none, 0, ?_, ?_⟩
        · exact HA.out.1.drew.setCell (by simp) _
        · simp only [drew_heap, hsz_setCell2]; omega
        · exact (Below.heap_setCell _ _ _ _ (by simp)).trans HA.out.2.1
        · refine (heap_setCell2 (w := wA.drew) HA.out.2.2).trans ?_
          simp [bareOf, H.out, zeroV]
        · rw [show (bareOf x).v = zeroV from by simp [bareOf, H.out]]
          exact isL_nil _ _
    · have e0 : (x.op == 0) = false := by simp [h]
      have e1 : (x.op == 1) = false := by simp [h]
      have e2 : (x.op == 2) = true := by simp [h]
      have e3 : (x.op == 3) = false := by simp [h]
      have e4 : (x.op == 4) = false := by simp [h]
      have e5 : (x.op == 5) = false := by simp [h]
      have e6 : (x.op == 6) = false := by simp [h]
      have e7 : (x.op == 7) = false := by simp [h]
      have e8 : (x.op == 8) = false := by simp [h]
      have H := Lib.hid h
      clear h
      have FSN := Lib.hid fs
      go_wp2_with fail
      go_region_law
        (go_simp
         go_at_call 62
         refine (name_any x.s FSN.out _).mono ?_
         rintro e w2 ⟨rfl, rfl⟩)
      all_goals
        go_wp2_with fail
        go_meet
        refine ⟨by simp [offOf, H.out], by simp [leftOf, H.out], by simp [swS, H.out], ?_, ?_, ?_, none, 0, ?_, ?_⟩
        · exact HA.out.1.drew.setCell (by simp) _
        · simp only [drew_heap, hsz_setCell2]; omega
        · exact (Below.heap_setCell _ _ _ _ (by simp)).trans HA.out.2.1
        · refine (heap_setCell2 (w := wA.drew) HA.out.2.2).trans ?_
          simp [bareOf, H.out, zeroV]
        · rw [show (bareOf x).v = zeroV from by simp [bareOf, H.out]]
          exact isL_nil _ _
    · have e0 : (x.op == 0) = false := by simp [h]
      have e1 : (x.op == 1) = false := by simp [h]
      have e2 : (x.op == 2) = false := by simp [h]
      have e3 : (x.op == 3) = true := by simp [h]
      have e4 : (x.op == 4) = false := by simp [h]
      have e5 : (x.op == 5) = false := by simp [h]
      have e6 : (x.op == 6) = false := by simp [h]
      have e7 : (x.op == 7) = false := by simp [h]
      have e8 : (x.op == 8) = false := by simp [h]
      have H := Lib.hid h
      clear h
      have FSN := Lib.hid fs
      go_wp2_with fail
      go_region_law
        (go_simp
         go_at_call 62
         refine (name_any x.s FSN.out _).mono ?_
         rintro e w2 ⟨rfl, rfl⟩)
      all_goals
        go_wp2_with fail
        go_meet
        refine ⟨by simp [offOf, H.out], by simp [leftOf, H.out], by simp [swS, H.out], ?_, ?_, ?_, none, 0, ?_, ?_⟩
        · exact HA.out.1.drew.setCell (by simp) _
        · simp only [drew_heap, hsz_setCell2]; omega
        · exact (Below.heap_setCell _ _ _ _ (by simp)).trans HA.out.2.1
        · refine (heap_setCell2 (w := wA.drew) HA.out.2.2).trans ?_
          simp [bareOf, H.out, zeroV]
        · rw [show (bareOf x).v = zeroV from by simp [bareOf, H.out]]
          exact isL_nil _ _
    · have e0 : (x.op == 0) = false := by simp [h]
      have e1 : (x.op == 1) = false := by simp [h]
      have e2 : (x.op == 2) = false := by simp [h]
      have e3 : (x.op == 3) = false := by simp [h]
      have e4 : (x.op == 4) = true := by simp [h]
      have e5 : (x.op == 5) = false := by simp [h]
      have e6 : (x.op == 6) = false := by simp [h]
      have e7 : (x.op == 7) = false := by simp [h]
      have e8 : (x.op == 8) = false := by simp [h]
      have H := Lib.hid h
      clear h
      by_cases g1 : 0 ≤ x.arg
      rotate_left
      · have d1 : decide (0 ≤ x.arg) = false := by simpa using g1
        have G1 := Lib.hid g1
        clear g1
        go_wp2_with fail
        go_region
        go_wp2_with fail
        go_meet
        refine ⟨by simp [offOf, H.out], by simp [leftOf, H.out], by simp [swS, H.out]; intro h; have := G1.out; omega, ?_, ?_, ?_, none, 0, ?_, ?_⟩
        · exact (HA.out.1.setCell (by simp) _).drew
        · simp only [drew_heap, hsz_setCell2]; omega
        · exact (Below.heap_setCell _ _ _ _ (by simp)).trans HA.out.2.1
        · refine (heap_setCell2 HA.out.2.2).trans ?_
          simp [bareOf, H.out, zeroV]
        · rw [show (bareOf x).v = zeroV from by simp [bareOf, H.out]]
          exact isL_nil _ _
      by_cases g2 : x.arg ≤ 4096
      rotate_left
      · have d1 : decide (x.arg ≤ 4096) = false := by simpa using g2
        have G1 := Lib.hid (And.intro g1 g2)
        go_wp2_with fail
        go_region
        go_wp2_with fail
        go_meet
        refine ⟨by simp [offOf, H.out], by simp [leftOf, H.out], by simp [swS, H.out]; intro _; have := G1.out.2; omega, ?_, ?_, ?_, none, 0, ?_, ?_⟩
        · exact (HA.out.1.setCell (by simp) _).drew
        · simp only [drew_heap, hsz_setCell2]; omega
        · exact (Below.heap_setCell _ _ _ _ (by simp)).trans HA.out.2.1
        · refine (heap_setCell2 HA.out.2.2).trans ?_
          simp [bareOf, H.out, zeroV]
        · rw [show (bareOf x).v = zeroV from by simp [bareOf, H.out]]
          exact isL_nil _ _
      · have d1 : decide (x.arg ≤ 4096) = true := by simpa using g2
        have G1 := Lib.hid (And.intro g1 g2)
        go_wp2_with fail
        go_region
        go_wp2_with fail
        go_meet
        refine ⟨by simp [offOf, H.out], by simp [leftOf, H.out], by simp [swS, H.out]; exact G1.out, ?_, ?_, ?_, none, 0, ?_, ?_⟩
        · exact (HA.out.1.setCell (by simp) _).drew
        · simp only [drew_heap, hsz_setCell2]; omega
        · exact (Below.heap_setCell _ _ _ _ (by simp)).trans HA.out.2.1
        · refine (heap_setCell2 HA.out.2.2).trans ?_
          simp [bareOf, H.out, zeroV]
        · rw [show (bareOf x).v = zeroV from by simp [bareOf, H.out]]
          exact isL_nil _ _
    · have e0 : (x.op == 0) = false := by simp [h]
      have e1 : (x.op == 1) = false := by simp [h]
      have e2 : (x.op == 2) = false := by simp [h]
      have e3 : (x.op == 3) = false := by simp [h]
      have e4 : (x.op == 4) = false := by simp [h]
      have e5 : (x.op == 5) = true := by simp [h]
      have e6 : (x.op == 6) = false := by simp [h]
      have e7 : (x.op == 7) = false := by simp [h]
      have e8 : (x.op == 8) = false := by simp [h]
      have H := Lib.hid h
      clear h
      go_wp2_with fail
      go_region_law
        (go_simp
         go_at_call 61
         refine (takes_any x.arg _).mono ?_
         rintro e w2 ⟨rfl, rfl⟩)
      all_goals
        go_wp2_with fail
        go_meet
        refine ⟨by simp [offOf, H.out], by simp [leftOf, H.out], by simp [swS, H.out], ?_, ?_, ?_, none, 0, ?_, ?_⟩
        · exact HA.out.1.drew.setCell (by simp) _
        · simp only [drew_heap, hsz_setCell2]; omega
        · exact (Below.heap_setCell _ _ _ _ (by simp)).trans HA.out.2.1
        · refine (heap_setCell2 (w := wA.drew) HA.out.2.2).trans ?_
          simp [bareOf, H.out, zeroV]
        · rw [show (bareOf x).v = zeroV from by simp [bareOf, H.out]]
          exact isL_nil _ _
    · have e0 : (x.op == 0) = false := by simp [h]
      have e1 : (x.op == 1) = false := by simp [h]
      have e2 : (x.op == 2) = false := by simp [h]
      have e3 : (x.op == 3) = false := by simp [h]
      have e4 : (x.op == 4) = false := by simp [h]
      have e5 : (x.op == 5) = false := by simp [h]
      have e6 : (x.op == 6) = true := by simp [h]
      have e7 : (x.op == 7) = false := by simp [h]
      have e8 : (x.op == 8) = false := by simp [h]
      have H := Lib.hid h
      clear h
      go_wp2_with fail
      go_meet
      refine ⟨by simp [offOf, H.out], by simp [leftOf, H.out], by simp [swS, H.out], HA.out.1, by omega, HA.out.2.1, none, 0, ?_, ?_⟩
      · refine HA.out.2.2.trans ?_
        simp [bareOf, H.out, zeroV]
      · rw [show (bareOf x).v = zeroV from by simp [bareOf, H.out]]
        exact isL_nil _ _
    · have e0 : (x.op == 0) = false := by simp [h]
      have e1 : (x.op == 1) = false := by simp [h]
      have e2 : (x.op == 2) = false := by simp [h]
      have e3 : (x.op == 3) = false := by simp [h]
      have e4 : (x.op == 4) = false := by simp [h]
      have e5 : (x.op == 5) = false := by simp [h]
      have e6 : (x.op == 6) = false := by simp [h]
      have e7 : (x.op == 7) = true := by simp [h]
      have e8 : (x.op == 8) = false := by simp [h]
      have H := Lib.hid h
      clear h
      go_wp2_with fail
      go_region
      all_goals
        go_wp2_with fail
        go_meet
        refine ⟨by simp [offOf, H.out], by simp [leftOf, H.out], by simp [swS, H.out], ?_, ?_, ?_, none, 0, ?_, ?_⟩
        · exact (HA.out.1.setCell (by simp) _).drew
        · simp only [drew_heap, hsz_setCell2]; omega
        · exact (Below.heap_setCell _ _ _ _ (by simp)).trans HA.out.2.1
        · refine (heap_setCell2 HA.out.2.2).trans ?_
          simp [bareOf, H.out, zeroV]
        · rw [show (bareOf x).v = zeroV from by simp [bareOf, H.out]]
          exact isL_nil _ _
    · have e0 : (x.op == 0) = false := by simp [h]
      have e1 : (x.op == 1) = false := by simp [h]
      have e2 : (x.op == 2) = false := by simp [h]
      have e3 : (x.op == 3) = false := by simp [h]
      have e4 : (x.op == 4) = false := by simp [h]
      have e5 : (x.op == 5) = false := by simp [h]
      have e6 : (x.op == 6) = false := by simp [h]
      have e7 : (x.op == 7) = false := by simp [h]
      have e8 : (x.op == 8) = true := by simp [h]
      have H := Lib.hid h
      clear h
      go_wp2_with fail
      go_region
      all_goals
        go_wp2_with fail
        go_meet
        refine ⟨by simp [offOf, H.out], by simp [leftOf, H.out], by simp [swS, H.out], ?_, ?_, ?_, none, 0, ?_, ?_⟩
        · exact (HA.out.1.setCell (by simp) _).drew
        · simp only [drew_heap, hsz_setCell2]; omega
        · exact (Below.heap_setCell _ _ _ _ (by simp)).trans HA.out.2.1
        · refine (heap_setCell2 HA.out.2.2).trans ?_
          simp [bareOf, H.out, zeroV]
        · rw [show (bareOf x).v = zeroV from by simp [bareOf, H.out]]
          exact isL_nil _ _
    · obtain ⟨h0, h1, h2, h3, h4, h5, h6, h7, h8⟩ := h
      have e0 : (x.op == 0) = false := by simpa using h0
      have e1 : (x.op == 1) = false := by simpa using h1
      have e2 : (x.op == 2) = false := by simpa using h2
      have e3 : (x.op == 3) = false := by simpa using h3
      have e4 : (x.op == 4) = false := by simpa using h4
      have e5 : (x.op == 5) = false := by simpa using h5
      have e6 : (x.op == 6) = false := by simpa using h6
      have e7 : (x.op == 7) = false := by simpa using h7
      have e8 : (x.op == 8) = false := by simpa using h8
      have H := Lib.hid (And.intro h0 (And.intro h1 (And.intro h2 (And.intro h3 (And.intro h4 (And.intro h5 (And.intro h6 (And.intro h7 h8))))))))
      clear h0 h1 h2 h3 h4 h5 h6 h7 h8
      go_wp2_with fail
      go_meet
      obtain ⟨h0, h1, h2, h3, h4, h5, h6, h7, h8⟩ := H.out
      refine ⟨by simp [offOf, h3, h4, h5, h6, h7, h8], by unfold leftOf; rw [if_neg (by omega)], by simp [swS, h0, h1, h2, h3, h4, h5, h6, h7, h8], HA.out.1, by omega, HA.out.2.1, none, 0, ?_, ?_⟩
      · refine HA.out.2.2.trans ?_
        simp [bareOf, h0, h1, h2, h3, h4, h5, h7, h8, zeroV]
      · rw [show (bareOf x).v = zeroV from by simp [bareOf, h0]]
        exact isL_nil _ _
  case rest =>
    obtain ⟨rfl, rfl, rfl, hbel, hsz, hx, ab, cb, hy, hl⟩ := hcut
    have HBEL := Lib.hid hbel
    have rx := fun o => cell_of hx.out o
    have ry := fun o => cell_of hy.out o
    clear qx qy fy hbel HA
    have FVB : Hid ((bareOf x).v.fit) := by
      show (if x.op = 0 then x.v else zeroV).fit
      split
      · exact FV.out
      · exact zeroV_fit
    cases h1 : swS x
    · have H1 := Lib.hid h1
      clear h1
      go_wp2_with fail
      exact bodyPost_ret (v := .tuple #[.int .i64 (offOf x), .int .i64 (leftOf x), .bool false]) (by simp [results, Tryz.results42, go_sem]) rfl ⟨by rw [HE.out, H1.out]; rfl, HBEL.out⟩
    cases h2 : (x.arg == (bareOf x).arg)
    · have H1 := Lib.hid (And.intro h1 h2)
      clear h1
      go_wp2_with fail
      exact bodyPost_ret (v := .tuple #[.int .i64 (offOf x), .int .i64 (leftOf x), .bool false]) (by simp [results, Tryz.results42, go_sem]) rfl ⟨by rw [HE.out, H1.out.1, H1.out.2]; rfl, HBEL.out⟩
    cases h3 : (x.s.toList == (bareOf x).s.toList)
    · have H1 := Lib.hid (And.intro h1 (And.intro h2 h3))
      clear h1
      go_wp2_with fail
      exact bodyPost_ret (v := .tuple #[.int .i64 (offOf x), .int .i64 (leftOf x), .bool false]) (by simp [results, Tryz.results42, go_sem]) rfl ⟨by rw [HE.out, H1.out.1, H1.out.2.1, H1.out.2.2]; rfl, HBEL.out⟩
    · have H1 := Lib.hid (And.intro h1 (And.intro h2 h3))
      clear h1
      go_wp2_with fail
      refine (vSame_any x.v (bareOf x).v FV.out FVB.out _ _ _ B (by omega) (isL_below HS.out HBEL.out hB) hl.out).mono ?_
      rintro e w2 ⟨rfl, hb⟩
      go_wp2_with fail
      exact bodyPost_ret (v := .tuple #[.int .i64 (offOf x), .int .i64 (leftOf x), .bool (same x.v (bareOf x).v)]) (by simp [results, Tryz.results42, go_sem]) rfl ⟨by rw [HE.out, H1.out.1, H1.out.2.1, H1.out.2.2]; simp, below_down HBEL.out hb (Nat.le_refl _)⟩
end Go.Proofs.YtljljhjdlicfeaaGreat
namespace Go.Proofs.YtljljhjdlicfeaaGreat
open Go Go.RowKit
set_option maxRecDepth 100000
set_option linter.unusedVariables false
theorem checkFrom_at (l : List GI) (k : Nat) (hk : k < l.length) (n : Nat) (hs : List Int) : checkFrom n (l.drop k) k hs = ((stepC n l[k] k hs).1 && checkFrom n (l.drop (k + 1)) (k + 1) (stepC n l[k] k hs).2) := by
  rw [List.drop_eq_getElem_cons hk, checkFrom]
theorem checkFrom_end (l : List GI) (n : Nat) (hs : List Int) (k : Nat) (hk : l.length ≤ k) : checkFrom n (l.drop k) k hs = (hs.getD n 0 == 2) := by
  rw [List.drop_of_length_le hk, checkFrom]
theorem wp_scope_label {P : Program} {a : Act} {w : World} {Q : Exit → Act → World → Prop} {c rest : Code} (l : Nat) (J : Act → World → Prop) (μ : Act → World → Nat) (hf : findLabel c l = some (Code.skip.seq rest))
    (first : (∀ a w, J a w → rest.wp P (Exit.jump l J Q) a w) → c.wp P (Exit.jump l J Q) a w)
    (pass : ∀ a w, J a w → rest.wp P (Exit.jump l (fun a' w' => J a' w' ∧ μ a' w' < μ a w) Q) a w) : (Code.scope c).wp P Q a w :=
  wp_scope_jumps l J μ hf (first fun a w h => Code.wp_mono (fun e a' w' h' => by
    cases e with
    | goto l' => exact ⟨h'.1, h'.2.1⟩
    | _ => exact h') (pass a w h)) (fun a w h => wp_seq (wp_skip (pass a w h)))
def FrameC (x0 x3 x4 : Value) (k : Int) (a : Act) : Prop := a = ⟨#[x0, a.tmps.getD 1 undef, .bool false, x3, x4, .int .i64 k, a.tmps.getD 6 undef, a.tmps.getD 7 undef, a.tmps.getD 8 undef, a.tmps.getD 9 undef, a.tmps.getD 10 undef, a.tmps.getD 11 undef, a.tmps.getD 12 undef, a.tmps.getD 13 undef, a.tmps.getD 14 undef, a.tmps.getD 15 undef, a.tmps.getD 16 undef, a.tmps.getD 17 undef, a.tmps.getD 18 undef, a.tmps.getD 19 undef, a.tmps.getD 20 undef, a.tmps.getD 21 undef, a.tmps.getD 22 undef, a.tmps.getD 23 undef, a.tmps.getD 24 undef, a.tmps.getD 25 undef, a.tmps.getD 26 undef, a.tmps.getD 27 undef, a.tmps.getD 28 undef, a.tmps.getD 29 undef, a.tmps.getD 30 undef, a.tmps.getD 31 undef, a.tmps.getD 32 undef, a.tmps.getD 33 undef, a.tmps.getD 34 undef, a.tmps.getD 35 undef, a.tmps.getD 36 undef, a.tmps.getD 37 undef, a.tmps.getD 38 undef, a.tmps.getD 39 undef, a.tmps.getD 40 undef, a.tmps.getD 41 undef, a.tmps.getD 42 undef, a.tmps.getD 43 undef, a.tmps.getD 44 undef, a.tmps.getD 45 undef, a.tmps.getD 46 undef, a.tmps.getD 47 undef, a.tmps.getD 48 undef, a.tmps.getD 49 undef, a.tmps.getD 50 undef, a.tmps.getD 51 undef, a.tmps.getD 52 undef, a.tmps.getD 53 undef, a.tmps.getD 54 undef, a.tmps.getD 55 undef, a.tmps.getD 56 undef, a.tmps.getD 57 undef, a.tmps.getD 58 undef, a.tmps.getD 59 undef, a.tmps.getD 60 undef, a.tmps.getD 61 undef, a.tmps.getD 62 undef, a.tmps.getD 63 undef, a.tmps.getD 64 undef, a.tmps.getD 65 undef, a.tmps.getD 66 undef, a.tmps.getD 67 undef, a.tmps.getD 68 undef, a.tmps.getD 69 undef, a.tmps.getD 70 undef, a.tmps.getD 71 undef, a.tmps.getD 72 undef, a.tmps.getD 73 undef, a.tmps.getD 74 undef, a.tmps.getD 75 undef, a.tmps.getD 76 undef, a.tmps.getD 77 undef, a.tmps.getD 78 undef, a.tmps.getD 79 undef, a.tmps.getD 80 undef, a.tmps.getD 81 undef, a.tmps.getD 82 undef, a.tmps.getD 83 undef, a.tmps.getD 84 undef, a.tmps.getD 85 undef, a.tmps.getD 86 undef, a.tmps.getD 87 undef, a.tmps.getD 88 undef, a.tmps.getD 89 undef, a.tmps.getD 90 undef, a.tmps.getD 91 undef, a.tmps.getD 92 undef, a.tmps.getD 93 undef, a.tmps.getD 94 undef, a.tmps.getD 95 undef, a.tmps.getD 96 undef, a.tmps.getD 97 undef, a.tmps.getD 98 undef, a.tmps.getD 99 undef, a.tmps.getD 100 undef, a.tmps.getD 101 undef, a.tmps.getD 102 undef, a.tmps.getD 103 undef], []⟩
theorem frameC_open {x0 x3 x4 : Value} {k : Int} {a : Act} (h : FrameC x0 x3 x4 k a) : ∃ u : Nat → Value, a = ⟨#[x0, u 1, .bool false, x3, x4, .int .i64 k, u 6, u 7, u 8, u 9, u 10, u 11, u 12, u 13, u 14, u 15, u 16, u 17, u 18, u 19, u 20, u 21, u 22, u 23, u 24, u 25, u 26, u 27, u 28, u 29, u 30, u 31, u 32, u 33, u 34, u 35, u 36, u 37, u 38, u 39, u 40, u 41, u 42, u 43, u 44, u 45, u 46, u 47, u 48, u 49, u 50, u 51, u 52, u 53, u 54, u 55, u 56, u 57, u 58, u 59, u 60, u 61, u 62, u 63, u 64, u 65, u 66, u 67, u 68, u 69, u 70, u 71, u 72, u 73, u 74, u 75, u 76, u 77, u 78, u 79, u 80, u 81, u 82, u 83, u 84, u 85, u 86, u 87, u 88, u 89, u 90, u 91, u 92, u 93, u 94, u 95, u 96, u 97, u 98, u 99, u 100, u 101, u 102, u 103], []⟩ := ⟨fun n => a.tmps.getD n undef, h⟩
set_option maxHeartbeats 3200000 in
theorem Check_any (l : List GI) (hl : l.length ≤ 2147483646) (fl : fitI l) (s : Value) (w : World) (B : Nat) (hB : B ≤ w.heap.size) (hs : isI w B s l) :
    Calls Tryz.prog 23 #[s] w fun e w' => e = .returned (.bool (checkC l)) ∧ Below w.heap.size w w' := by
  obtain ⟨a, c, b, off, rfl, hc, ha, hA⟩ := hs
  have HA := Lib.hid hA
  have Ha := Lib.hid ha
  have HFL := Lib.hid fl
  clear hA ha fl
  have hmk0 : ∀ w, (Instr.makeSlice 50 (.int .i64 ((l.length : Int) + 1)) (.int .i64 ((l.length : Int) + 1))).run Tryz.prog w = .ok (.slice (some ⟨w.heap.size, 0, none⟩) (l.length + 1) (l.length + 1)) (w.alloc (.cells (ints (List.replicate (l.length + 1) 0)) 3)) := fun w => by
    have := run_heights (l.length + 1) (by omega) w
    simpa using this
  have hz0 : (ints (List.replicate (l.length + 1) 0))[0]? = some (.int .i64 0) := by rw [ints_get _ _ (by simp)]; simp
  go_enter Tryz.func23, Tryz.ntmps23
  go_wp2_with fail
  have hb0 : Below w.heap.size w (w.alloc (.cells (ints (List.replicate (l.length + 1) 0)) 3)) := (Below.refl w.heap.size w).alloc (Nat.le_refl _) _
  refine wp_scope_label 0 (fun a' wr => ∃ (k : Nat) (hs : List Int), FrameC (.slice a l.length c) (.pointer (some ⟨w.heap.size + 1, 0, none⟩)) (.func (.func 41) #[] #[.pointer (some ⟨w.heap.size + 1, 0, none⟩)]) k a' ∧ k ≤ l.length ∧ hs.length = l.length + 1 ∧
    Below w.heap.size w wr ∧ w.heap.size + 2 ≤ wr.heap.size ∧ Hid (wr.heap[w.heap.size + 1]? = some (.cells #[.slice (some ⟨w.heap.size, 0, none⟩) (l.length + 1) (l.length + 1)] 50 (0, 0))) ∧ Hid (isH wr w.heap.size hs) ∧ Hid (inH (k + 1) hs) ∧
    Hid (checkC l = checkFrom l.length (l.drop k) k hs)) (fun a' _ => l.length - (intOf (a'.tmps.getD 5 undef)).toNat) rfl ?_ ?_
  · intro hp
    go_wp2_with fail
    go_step3
    apply_assumption
    apply hp
    refine ⟨0, 1 :: List.replicate l.length 0, rfl, Nat.zero_le _, by simp, ?_, by simp, ?_, ?_, ?_, ?_⟩
    · exact ((Below.refl w.heap.size w).alloc (Nat.le_refl _) _).alloc (by simp) _
    · exact heap_second
    · show _ = _
      rw [heap_two]; rw [ints_set]; rfl
    · intro h hh
      simp at hh
      omega
    · rfl
  · rintro a' wr ⟨k, hs, hfr, hk, hlen, hbel, hsz, hc1, hg1, hin, hck⟩
    obtain ⟨u, rfl⟩ := frameC_open hfr
    clear hfr
    have q1 := fun o => cell_of hc1.out o
    have q2 := fun o => cell_of hg1.out o
    by_cases hlt : k < l.length
    rotate_left
    · have hu := ints_get hs l.length (by omega)
      have HCK : Hid (checkC l = (hs.getD l.length 0 == 2)) := hck.out.trans (checkFrom_end l _ _ _ (by omega))
      have HB := Lib.hid hbel
      generalize hs.getD l.length 0 = A at *
      clear hbel hck hin
      go_wp2_with fail
      simp only [Exit.jump]
      go_ret
      exact ⟨ret_bool HCK.out.symm, HB.out⟩
    have hst := hck.out.trans (checkFrom_at l k hlt l.length hs)
    obtain ⟨rfl, hb2⟩ := Ha.out (by omega)
    obtain ⟨ax, cx, x0, x1, x2, x3, x4, x5, x6, x7, hsx⟩ := HA.out k hlt
    have hg : ∀ o, wr.cell? ⟨b, o, none⟩ = w.cell? ⟨b, o, none⟩ := fun o => hbel.cell (p := ⟨b, o, none⟩) (Nat.lt_of_lt_of_le hb2 hB)
    have hu := ints_get hs k (by omega)
    have hA0 := inH_get hin.out (by omega) k
    have HX := Lib.hid (HFL.out _ (List.getElem_mem hlt))
    have hlx := isL_below hsx hbel hB
    have HLX := Lib.hid hlx
    have HCK := Lib.hid hst
    have HST : Hid (stepC l.length l[k] k hs = stepC l.length l[k] k hs) := rfl
    have HIN2 := Lib.hid (stepC_in (n := l.length) (x := l[k]) (i := k) (by omega) hin.out)
    have HL2 := Lib.hid (stepC_len l.length l[k] k hs)
    obtain ⟨A, hAe⟩ : ∃ A, A = hs.getD k 0 := ⟨_, rfl⟩
    rw [← hAe] at hu hA0
    have HAE := Lib.hid hAe
    have hzb : b < wr.heap.size := by omega
    clear hck hst hsx hlx hAe Ha hin
    go_wp2_with fail
    refine (shape_any l[k] HX.out.1 HX.out.2 _ _ B (by omega) HLX.out).mono ?_
    rintro e w1 ⟨rfl, hb1⟩
    have hbw1 : Below w.heap.size w w1 := below_down hbel hb1 (Nat.le_refl _)
    have hc1' := (hb1.block (w.heap.size + 1) (by omega)).trans hc1.out
    have hg1' : isH w1 w.heap.size hs := (hb1.block w.heap.size (by omega)).trans hg1.out
    have hsz1 : w.heap.size + 2 ≤ w1.heap.size := Nat.le_trans hsz hb1.size
    have HC1 := Lib.hid hc1'
    have HG1 := Lib.hid hg1'
    have HBW1 := Lib.hid hbw1
    clear hbw1 hc1' hg1' q1 q2 hg hb1 hbel hc1 hg1
    have RF : Hid ((stepC l.length l[k] k hs).1 = false → checkC l = false) := fun h => by rw [HCK.out, h]; rfl
    cases hok : okOf l[k]
    · have HOK := Lib.hid hok
      clear hok
      go_wp2_with fail
      simp only [Exit.jump]
      go_ret
      exact ⟨ret_bool (RF.out (by simp [stepC, HOK.out])).symm, HBW1.out⟩
    have hof := okOf_off hok
    have hlf := leftOf_le l[k]
    have HOK := Lib.hid hok
    clear hok
    by_cases hlo : A - 1 < offOf l[k]
    · have hlo' : decide (A - 1 < offOf l[k]) = true := by simpa using hlo
      have HLO := Lib.hid hlo
      clear hlo
      go_wp2_with fail
      simp only [Exit.jump]
      go_ret
      refine ⟨ret_bool (RF.out ?_).symm, HBW1.out⟩
      rw [stepC, if_neg]
      intro h; have := h.2.1; rw [← HAE.out] at this; have := HLO.out; omega
    have hlo' : decide (A - 1 < offOf l[k]) = false := by simp; omega
    go_wp2_with fail
    refine (reach_any hs _ (k + 1) (by simp) (A - 1 - offOf l[k] + leftOf l[k]) (by omega) (by omega) (by omega) (by omega) (w.heap.size + 1) w.heap.size (by omega) w1 (by rw [hlen]; exact HC1.out) HG1.out).mono ?_
    rintro e w2 ⟨rfl, hg2, hk2⟩
    have hb2w : Below w.heap.size w w2 := HBW1.out.trans (hk2.below (by omega))
    have hc2 := (hk2.block (w.heap.size + 1) (by omega) (by omega)).trans HC1.out
    have hsz2 : w.heap.size + 2 ≤ w2.heap.size := Nat.le_trans hsz1 hk2.size
    have HB2 := Lib.hid hb2w
    have HC2 := Lib.hid hc2
    have HG2 := Lib.hid hg2
    have hg' : ∀ o, w2.cell? ⟨b, o, none⟩ = w.cell? ⟨b, o, none⟩ := fun o => hb2w.cell (p := ⟨b, o, none⟩) (Nat.lt_of_lt_of_le hb2 hB)
    have hzb2 : b < w2.heap.size := by omega
    clear hb2w hc2 hk2 hg2 HC1 HG1
    cases hr : reachB hs (k + 1) (A - 1 - offOf l[k] + leftOf l[k])
    · have HRB := Lib.hid hr
      clear hr
      go_wp2_with fail
      simp only [Exit.jump]
      go_ret
      refine ⟨ret_bool (RF.out ?_).symm, HB2.out⟩
      rw [stepC, if_neg]
      intro h; have := h.2.2; rw [← HAE.out, HRB.out] at this; cases this
    have HRB := Lib.hid hr
    clear hr
    have HS1 : Hid (stepC l.length l[k] k hs = if l[k].op = 7 ∨ l[k].op = 8 then
      (if l[k].arg ≤ k ∨ (l.length : Int) < l[k].arg then (false, hs) else
        (reachB (hs.set (k + 1) (A - offOf l[k] + leftOf l[k])) l[k].arg.toNat (A - 1), (hs.set (k + 1) (A - offOf l[k] + leftOf l[k])).set l[k].arg.toNat A))
      else (true, hs.set (k + 1) (A - offOf l[k] + leftOf l[k]))) := by
      rw [Hid]
      rw [stepC, if_pos]
      · rw [← HAE.out]
      · rw [← HAE.out]; exact ⟨HOK.out, by omega, HRB.out⟩
    have hset : A - 1 - offOf l[k] + leftOf l[k] + 1 = A - offOf l[k] + leftOf l[k] := by omega
    rw [hset] at HG2
    clear hset
    by_cases hj : l[k].op = 7 ∨ l[k].op = 8
    rotate_left
    · have e7 : (l[k].op == 7) = false := by simp; omega
      have e8 : (l[k].op == 8) = false := by simp; omega
      have HS2 : Hid (stepC l.length l[k] k hs = (true, hs.set (k + 1) (A - offOf l[k] + leftOf l[k]))) := HS1.out.trans (if_neg hj)
      have HJ := Lib.hid hj
      clear hj
      go_wp2_with fail
      go_step3
      refine ⟨rfl, ⟨k + 1, hs.set (k + 1) (A - offOf l[k] + leftOf l[k]), ?_, by omega, by simpa using hlen, HB2.out, hsz2, HC2, HG2, ?_, ?_⟩, ?_⟩
      · rw [FrameC, show ((k + 1 : Nat) : Int) = (k : Int) + 1 from rfl]; rfl
      · have := HIN2.out; rw [HS2.out] at this; exact this
      · rw [Hid, HCK.out, HS2.out]; rfl
      · simp [intOf]; omega
    have HS2 : Hid (stepC l.length l[k] k hs = (if l[k].arg ≤ k ∨ (l.length : Int) < l[k].arg then (false, hs) else
        (reachB (hs.set (k + 1) (A - offOf l[k] + leftOf l[k])) l[k].arg.toNat (A - 1), (hs.set (k + 1) (A - offOf l[k] + leftOf l[k])).set l[k].arg.toNat A))) := HS1.out.trans (if_pos hj)
    clear HS1
    have hj2 : ((l[k].op == 7) = true) ∨ ((l[k].op == 7) = false ∧ (l[k].op == 8) = true) := by
      rcases hj with h | h
      · exact .inl (by simp [h])
      · exact .inr ⟨by simp [h], by simp [h]⟩
    clear hj
    have HL1 : Hid ((hs.set (k + 1) (A - offOf l[k] + leftOf l[k])).length = l.length + 1) := by rw [Hid]; simpa using hlen
    by_cases ha1 : l[k].arg ≤ k
    · have d1 : decide (l[k].arg ≤ (k : Int)) = true := by simpa using ha1
      have H1 := Lib.hid ha1
      clear ha1
      rcases hj2 with e7 | ⟨e7, e8⟩
      all_goals
        go_wp2_with fail
        simp only [Exit.jump]
        go_ret
        exact ⟨ret_bool (RF.out (by rw [HS2.out, if_pos (.inl H1.out)])).symm, HB2.out⟩
    have d1 : decide (l[k].arg ≤ (k : Int)) = false := by simpa using ha1
    by_cases ha2 : (l.length : Int) < l[k].arg
    · have d2 : decide ((l.length : Int) < l[k].arg) = true := by simpa using ha2
      have H2 := Lib.hid ha2
      clear ha1 ha2
      rcases hj2 with e7 | ⟨e7, e8⟩
      all_goals
        go_wp2_with fail
        simp only [Exit.jump]
        go_ret
        exact ⟨ret_bool (RF.out (by rw [HS2.out, if_pos (.inr H2.out)])).symm, HB2.out⟩
    have d2 : decide ((l.length : Int) < l[k].arg) = false := by simpa using ha2
    have HS3 : Hid (stepC l.length l[k] k hs = (reachB (hs.set (k + 1) (A - offOf l[k] + leftOf l[k])) l[k].arg.toNat (A - 1), (hs.set (k + 1) (A - offOf l[k] + leftOf l[k])).set l[k].arg.toNat A)) := HS2.out.trans (if_neg (by omega))
    clear HS2
    have HR2 : Calls Tryz.prog 41 #[.int .i64 l[k].arg, .int .i64 (A - 1), .pointer (some ⟨w.heap.size + 1, 0, none⟩)] w2 (fun e w' => e = .returned (.bool (reachB (hs.set (k + 1) (A - offOf l[k] + leftOf l[k])) l[k].arg.toNat (A - 1))) ∧ isH w' w.heap.size ((hs.set (k + 1) (A - offOf l[k] + leftOf l[k])).set l[k].arg.toNat A) ∧ Kept w.heap.size (w.heap.size + 1) w2 w') := by
      have := reach_any (hs.set (k + 1) (A - offOf l[k] + leftOf l[k])) l[k].arg l[k].arg.toNat (by omega) (A - 1) (by rw [HL1.out]; omega) (by rw [HL1.out]; omega) (by omega) (by omega) (w.heap.size + 1) w.heap.size (by omega) w2 (by rw [HL1.out]; exact HC2.out) HG2.out
      rwa [show A - 1 + 1 = A from by omega] at this
    have HR := Lib.hid HR2
    clear HR2 ha1 ha2
    rcases hj2 with e7 | ⟨e7, e8⟩
    all_goals
      go_wp2_with fail
      refine HR.out.mono ?_
      rintro e w3 ⟨rfl, hg3, hk3⟩
      have HB3 := Lib.hid (HB2.out.trans (hk3.below (by omega)))
      have hsz3 : w.heap.size + 2 ≤ w3.heap.size := Nat.le_trans hsz2 hk3.size
      have HC3 := Lib.hid ((hk3.block (w.heap.size + 1) (by omega) (by omega)).trans HC2.out)
      have HG3 := Lib.hid hg3
      clear hg3 hk3
      cases hr3 : reachB (hs.set (k + 1) (A - offOf l[k] + leftOf l[k])) l[k].arg.toNat (A - 1)
      · have HRB3 := Lib.hid hr3
        clear hr3
        go_wp2_with fail
        simp only [Exit.jump]
        go_ret
        exact ⟨ret_bool (RF.out (by rw [HS3.out]; exact HRB3.out)).symm, HB3.out⟩
      · have HRB3 := Lib.hid hr3
        clear hr3
        go_wp2_with fail
        go_step3
        refine ⟨rfl, ⟨k + 1, (hs.set (k + 1) (A - offOf l[k] + leftOf l[k])).set l[k].arg.toNat A, ?_, by omega, by simpa using hlen, HB3.out, hsz3, HC3, HG3, ?_, ?_⟩, ?_⟩
        · rw [FrameC, show ((k + 1 : Nat) : Int) = (k : Int) + 1 from rfl]; rfl
        · have := HIN2.out; rw [HS3.out] at this; exact this
        · rw [Hid, HCK.out, HS3.out, HRB3.out]; rfl
        · simp [intOf]; omega
end Go.Proofs.YtljljhjdlicfeaaGreat
