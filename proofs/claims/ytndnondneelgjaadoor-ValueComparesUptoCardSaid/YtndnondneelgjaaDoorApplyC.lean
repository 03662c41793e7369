/-
  What value.Apply tells of the operations of being the same and of comparison. Conditions: lists and texts shorter than 2^31.
-/
import Derived.Test.YtndnondneelgjaaDoorApplyR
import Derived.Test.YtndnondneelgjaaDoorDoCmp
namespace Go.Proofs.YtndnondneelgjaaDoor
open Go Go.RowKit
set_option maxRecDepth 100000
set_option linter.unusedVariables false
def eqP (x y : GV) : GV × Int := truthP (same x y)
def neP (x y : GV) : GV × Int := truthP (!same x y)
def ltP : GV → GV → GV × Int := cmpP fun c => decide (c < 0)
def leP : GV → GV → GV × Int := cmpP fun c => decide (c ≤ 0)
def gtP : GV → GV → GV × Int := cmpP fun c => decide (0 < c)
def geP : GV → GV → GV × Int := cmpP fun c => decide (0 ≤ c)
theorem apply_eq (l : List GV) (hll : l.length ≤ 2147483647) (fl : fitL l) (s : Value) (w : World) (B : Nat) (hB : B ≤ w.heap.size) (hs : isL w 0 B s l) :
    Calls Tryd.prog 19 #[.int .i64 10, s] w (GivesO w (appP 2 eqP l)) :=
  apply_op 10 2 (by decide) 63 (fun _ => #[]) (fun _ _ => True) eqP l hll fl Tryd.call63 (fun _ => do_eq) (fun _ _ _ _ _ => trivial) (fun h => ⟨2, rfl⟩) s w B hB hs
theorem apply_ne (l : List GV) (hll : l.length ≤ 2147483647) (fl : fitL l) (s : Value) (w : World) (B : Nat) (hB : B ≤ w.heap.size) (hs : isL w 0 B s l) :
    Calls Tryd.prog 19 #[.int .i64 11, s] w (GivesO w (appP 2 neP l)) :=
  apply_op 11 2 (by decide) 64 (fun _ => #[]) (fun _ _ => True) neP l hll fl Tryd.call64 (fun _ => do_ne) (fun _ _ _ _ _ => trivial) (fun h => ⟨3, rfl⟩) s w B hB hs
theorem apply_lt (l : List GV) (hll : l.length ≤ 2147483647) (fl : fitL l) (s : Value) (w : World) (B : Nat) (hB : B ≤ w.heap.size) (hs : isL w 0 B s l) :
    Calls Tryd.prog 19 #[.int .i64 12, s] w (GivesO w (appP 2 ltP l)) :=
  apply_op 12 2 (by decide) 90 (fun h => #[.pointer (some ⟨h + 7, 0, none⟩)]) (fun h w => lies w (h + 7) (fn0 66) 80) ltP l hll fl Tryd.call90 (fun h => do_cmp 66 _ Tryd.call66 holds5 (h + 7))
    (fun w0 w1 w2 T hb => lies_below ((T.lays (7, fn0 66, 80) (by simp [opsL])).2) hb) (fun h => ⟨4, rfl⟩) s w B hB hs
theorem apply_le (l : List GV) (hll : l.length ≤ 2147483647) (fl : fitL l) (s : Value) (w : World) (B : Nat) (hB : B ≤ w.heap.size) (hs : isL w 0 B s l) :
    Calls Tryd.prog 19 #[.int .i64 13, s] w (GivesO w (appP 2 leP l)) :=
  apply_op 13 2 (by decide) 90 (fun h => #[.pointer (some ⟨h + 9, 0, none⟩)]) (fun h w => lies w (h + 9) (fn0 67) 80) leP l hll fl Tryd.call90 (fun h => do_cmp 67 _ Tryd.call67 holds6 (h + 9))
    (fun w0 w1 w2 T hb => lies_below ((T.lays (9, fn0 67, 80) (by simp [opsL])).2) hb) (fun h => ⟨5, rfl⟩) s w B hB hs
theorem apply_gt (l : List GV) (hll : l.length ≤ 2147483647) (fl : fitL l) (s : Value) (w : World) (B : Nat) (hB : B ≤ w.heap.size) (hs : isL w 0 B s l) :
    Calls Tryd.prog 19 #[.int .i64 14, s] w (GivesO w (appP 2 gtP l)) :=
  apply_op 14 2 (by decide) 90 (fun h => #[.pointer (some ⟨h + 11, 0, none⟩)]) (fun h w => lies w (h + 11) (fn0 68) 80) gtP l hll fl Tryd.call90 (fun h => do_cmp 68 _ Tryd.call68 holds7 (h + 11))
    (fun w0 w1 w2 T hb => lies_below ((T.lays (11, fn0 68, 80) (by simp [opsL])).2) hb) (fun h => ⟨6, rfl⟩) s w B hB hs
theorem apply_ge (l : List GV) (hll : l.length ≤ 2147483647) (fl : fitL l) (s : Value) (w : World) (B : Nat) (hB : B ≤ w.heap.size) (hs : isL w 0 B s l) :
    Calls Tryd.prog 19 #[.int .i64 15, s] w (GivesO w (appP 2 geP l)) :=
  apply_op 15 2 (by decide) 90 (fun h => #[.pointer (some ⟨h + 13, 0, none⟩)]) (fun h w => lies w (h + 13) (fn0 69) 80) geP l hll fl Tryd.call90 (fun h => do_cmp 69 _ Tryd.call69 holds8 (h + 13))
    (fun w0 w1 w2 T hb => lies_below ((T.lays (13, fn0 69, 80) (by simp [opsL])).2) hb) (fun h => ⟨7, rfl⟩) s w B hB hs
end Go.Proofs.YtndnondneelgjaaDoor
