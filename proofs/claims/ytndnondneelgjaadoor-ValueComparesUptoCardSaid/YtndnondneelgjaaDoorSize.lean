/-
  What the statements' Size computes: how many values a list has. Conditions: the list's bulk is at most 2^40.
-/
import Derived.Test.YtndnondneelgjaaDoorMem
import Derived.Test.YtndnondneelgjaaDoorProg
import Derived.WalkLawsBesides
import Derived.Deep.QuietTactic
import Derived.BigQuiet
import Derived.IntWalk
import Derived.Outline
namespace Go.Proofs.YtndnondneelgjaaDoor
open Go Go.RowKit
set_option maxRecDepth 100000
set_option linter.unusedVariables false
mutual
def szV : GV → Nat → Nat
  | ⟨_, _, _, t, l⟩, d => 1 + t.size / 64 + (if 100 < d + 1 then 1048576 else szS l (d + 1))
def szS : List GV → Nat → Nat
  | [], _ => 0
  | x :: r, d => szV x d + szS r d
end
def szL (l : List GV) (d : Nat) : Nat := if 100 < d then 1048576 else szS l d
theorem szV_eq (x : GV) (d : Nat) : szV x d = 1 + x.t.size / 64 + szL x.l (d + 1) := by cases x; simp [szV, szL]
mutual
def GV.bulk : GV → Nat
  | ⟨_, _, _, t, l⟩ => 2 + t.size + bulkL l
def bulkL : List GV → Nat
  | [] => 0
  | x :: r => x.bulk + bulkL r
end
theorem bulk_eq (x : GV) : x.bulk = 2 + x.t.size + bulkL x.l := by cases x; simp [GV.bulk]
theorem bulkL_mem : ∀ {l : List GV} {x : GV}, x ∈ l → x.bulk ≤ bulkL l
  | y :: r, x, hx => by
    simp only [bulkL]
    rcases List.mem_cons.1 hx with e | e
    · subst e; omega
    · have := bulkL_mem e; omega
theorem len_bulk : ∀ (l : List GV), l.length ≤ bulkL l
  | [] => by simp
  | x :: r => by have := len_bulk r; have := bulk_eq x; simp only [bulkL, List.length_cons]; omega
mutual
theorem szV_le : ∀ (x : GV) (d : Nat), szV x d ≤ x.bulk * 1048576
  | ⟨_, _, _, t, l⟩, d => by
    have := szS_le l (d + 1)
    simp only [szV, GV.bulk]
    split <;> omega
theorem szS_le : ∀ (l : List GV) (d : Nat), szS l d ≤ bulkL l * 1048576
  | [], _ => by simp [szS]
  | x :: r, d => by
    have := szV_le x d
    have := szS_le r d
    simp only [szS, bulkL]
    omega
end
theorem szL_le (l : List GV) (d : Nat) : szL l d ≤ (bulkL l + 1) * 1048576 := by
  have := szS_le l d
  by_cases h : 100 < d
  · have e : szL l d = 1048576 := if_pos h
    omega
  · have e : szL l d = szS l d := if_neg h
    omega
/-- the sum as far as element k -/
theorem szS_take : ∀ (l : List GV) (d k : Nat) (h : k < l.length), szS (l.take (k + 1)) d = szS (l.take k) d + szV l[k] d
  | x :: r, d, 0, _ => by simp [szS]
  | x :: r, d, k + 1, h => by
    have := szS_take r d k (by simpa using h)
    simp only [List.take_succ_cons, szS, this, List.getElem_cons_succ]
    omega
theorem bulkL_take : ∀ (l : List GV) (k : Nat), bulkL (l.take k) ≤ bulkL l
  | [], _ => by simp [bulkL]
  | x :: r, 0 => by simp [bulkL]
  | x :: r, k + 1 => by have := bulkL_take r k; simp only [List.take_succ_cons, bulkL]; omega

def SizeC (l : List GV) (d : Nat) : Prop := ∀ (s : Value) (w : World) (B : Nat), B ≤ w.heap.size → isL w 0 B s l →
  Calls Tryd.prog 45 #[s, .int .i64 d] w fun e w' => e = .returned (.int .i64 (szL l d : Nat)) ∧ Below w.heap.size w w'

set_option maxHeartbeats 800000 in
theorem size_step (l : List GV) (d : Nat) (hb : bulkL l ≤ 1099511627776) (hd : d ≤ 101) (h : d ≤ 100 → ∀ x ∈ l, SizeC x.l (d + 1)) : SizeC l d := by
  intro s w B hB hs
  obtain ⟨a, c, bb, off, rfl, hc, ha, hA⟩ := isL_open hs
  have HA := Lib.hid hA
  have Ha := Lib.hid ha
  have HH := Lib.hid h
  clear hA hs ha h
  by_cases hd2 : 100 < d
  · go_enter Tryd.func45, Tryd.ntmps45
    go_wp2_with fail
    go_ret
    exact ⟨ret_int (by unfold szL; rw [if_pos hd2]; rfl), Below.refl _ _⟩
  have hlen := len_bulk l
  have HD := Lib.hid hd2
  have hd3 : d ≤ 100 := by omega
  clear hd2
  go_enter Tryd.func45, Tryd.ntmps45
  go_wp2_with fail
  go_loopw [5, 6] (fun n i wr => ∃ k : Nat, k ≤ l.length ∧ i = .int .i64 k ∧ n = .int .i64 (szS (l.take k) d : Nat) ∧ Below w.heap.size w wr) (fun _ i _ => l.length - (intOf i).toNat)
  case atStart => exact ⟨0, Nat.zero_le _, rfl, by simp [szS], Below.refl _ _⟩
  case round =>
    obtain ⟨k, hk, rfl, rfl, hbel⟩ := hrel
    have hs1 := szS_le (l.take k) d
    have hs2 := bulkL_take l k
    by_cases hlt : k < l.length
    · obtain ⟨rfl, hb1, hb2⟩ := Ha.out (by omega)
      obtain ⟨ax, cx, x0, x1, x2, x3, x4, hsx⟩ := cellsV_slice (HA.out k hlt)
      have hg := cell_grow hbel (Nat.le_refl _) (Nat.lt_of_lt_of_le hb2 hB)
      have HC : Hid (∀ dd os, Calls Tryd.prog 45 #[.slice ax l[k].l.length cx, .int .i64 (IntKind.i64.wrap ((d : Int) + 1))] (Go.Sort.grow (redrawn wr dd) os) fun e w' => e = .returned (.int .i64 (szL l[k].l (d + 1) : Nat)) ∧ Below (Go.Sort.grow (redrawn wr dd) os).heap.size (Go.Sort.grow (redrawn wr dd) os) w') := fun dd os => by
        rw [show IntKind.i64.wrap ((d : Int) + 1) = ((d + 1 : Nat) : Int) from by rw [IntWalk.i64_in _ (by omega)]; simp]
        exact HH.out hd3 l[k] (List.getElem_mem _) _ _ B (Nat.le_trans hB (below_grow hbel (Nat.le_refl _) dd os).size) (isL_below hsx (below_grow hbel (Nat.le_refl _) dd os) hB)
      have hk1 := bulkL_mem (List.getElem_mem hlt)
      have hk2 := bulk_eq l[k]
      have hk3 := szL_le l[k].l (d + 1)
      have HT := Lib.hid (szS_take l d k hlt)
      have HV := Lib.hid (szV_eq l[k] d)
      clear hsx
      generalize hS : szS (l.take k) d = S at *
      generalize hZ : szL l[k].l (d + 1) = Z at *
      generalize bulkL l[k].l = bl at *
      have HZ := Lib.hid hZ
      have HS := Lib.hid hS
      have HK2 := Lib.hid hk2
      clear hZ hS
      have ht : l[k].t.size ≤ 1099511627776 := by omega
      clear hk2
      go_wp2_with fail
      refine wp_region_quiet_below (by kernel_rfl) (by kernel_rfl) ?_
      repeat (quiet_step (exact Calls.regrown_of (HC.out _ _)))
      refine wpQuiet_nil ?_
      intro w2 hw2
      have hb3 : Below w.heap.size w w2 := by
        obtain ⟨p, hp⟩ := hw2
        rw [hp]
        exact below_grow hbel (Nat.le_refl _) _ _
      clear hw2 hg x0 x1 x2 x3 x4 HC Ha
      go_wp2_with fail
      go_roundw
      case rel =>
        refine ⟨k + 1, by omega, by go_num, ?_, hb3⟩
        have e1 := HT.out
        have e2 := HV.out
        have e3 := HK2.out
        have hq : ((l[k].t.size : Int) / 64) = ((l[k].t.size / 64 : Nat) : Int) := by simp
        rw [hq, IntWalk.i64_in ((l[k].t.size / 64 : Nat) : Int) (by omega), IntWalk.i64_in ((S : Int) + 1) (by omega), IntWalk.i64_in ((S : Int) + 1 + ((l[k].t.size / 64 : Nat) : Int)) (by omega), IntWalk.i64_in ((S : Int) + 1 + ((l[k].t.size / 64 : Nat) : Int) + (Z : Int)) (by omega), e1, e2]
        congr 1
        omega
      case measure => simp [intOf]; omega
    · go_wp2_with fail
      go_ret
      refine ⟨ret_int ?_, hbel⟩
      rw [List.take_of_length_le (by omega)]
      unfold szL
      rw [if_neg HD.out]

theorem size_all : ∀ (m : Nat) (l : List GV) (d : Nat), sizeL l ≤ m → bulkL l ≤ 1099511627776 → d ≤ 101 → SizeC l d := by
  intro m
  induction m with
  | zero =>
    intro l d h hb hd
    refine size_step l d hb hd fun _ x hx => ?_
    have := sizeL_mem hx
    have := size_l x
    omega
  | succ m ih =>
    intro l d h hb hd
    refine size_step l d hb hd fun hd3 x hx => ih x.l (d + 1) ?_ ?_ (by omega)
    · have := sizeL_mem hx
      have := size_l x
      omega
    · have := bulkL_mem hx
      have := bulk_eq x
      omega
theorem size_any (l : List GV) (d : Nat) (hb : bulkL l ≤ 1099511627776) (hd : d ≤ 101) : SizeC l d := size_all (sizeL l) l d (Nat.le_refl _) hb hd

/-- what Size tells -/
def vsize (l : List GV) : Nat := szL l 0
theorem Size_any (l : List GV) (hb : bulkL l ≤ 1099511627776) (s : Value) (w : World) (B : Nat) (hB : B ≤ w.heap.size) (hs : isL w 0 B s l) :
    Calls Tryd.prog 21 #[s] w fun e w' => e = .returned (.int .i64 (vsize l : Nat)) ∧ Below w.heap.size w w' := by
  have HC := Lib.hid (size_any l 0 hb (Nat.zero_le _))
  have HS := Lib.hid hs
  clear hs
  go_enter Tryd.func21, Tryd.ntmps21
  go_wp2_with fail
  refine (HC.out _ _ B hB HS.out).mono ?_
  rintro e w' ⟨rfl, hb⟩
  go_wp2_with fail
  go_ret
  exact ⟨rfl, hb⟩
end Go.Proofs.YtndnondneelgjaaDoor
