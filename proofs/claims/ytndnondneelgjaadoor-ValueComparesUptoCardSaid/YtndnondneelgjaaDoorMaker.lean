/-
  What value's makers of operations lay: of, reckons, compares; an insert into a map that is known whole. Conditions: none.
-/
import Derived.Test.YtndnondneelgjaaDoorCopyZ
import Derived.WalkMore
import Derived.MapKept
import Derived.Laws.EntriesVeiled
namespace Go.Proofs.YtndnondneelgjaaDoor
open Go Go.RowKit
set_option maxRecDepth 100000
set_option linter.unusedVariables false
/-- a function; one that has captured blocks -/
def fn0 (f : Nat) : Value := .func (.func f) #[] #[]
def fn1 (f b : Nat) : Value := .func (.func f) #[] #[.pointer (some ⟨b, 0, none⟩)]
def fn2 (f b c : Nat) : Value := .func (.func f) #[] #[.pointer (some ⟨b, 0, none⟩), .pointer (some ⟨c, 0, none⟩)]
/-- block b is one cell of type T that holds v -/
def lies (w : World) (b : Nat) (v : Value) (T : TypeId) : Prop := w.heap[b]? = some (.cells #[v] T (0, 0))
theorem lies_lt {w : World} {b : Nat} {v : Value} {T : TypeId} (h : lies w b v T) : b < w.heap.size := (Array.getElem?_eq_some_iff.1 h).1
theorem lies_below {w w' : World} {b : Nat} {v : Value} {T : TypeId} (h : lies w b v T) (hb : Below w.heap.size w w') : lies w' b v T := (hb.block b (lies_lt h)).trans h
theorem heap_three {w : World} {o o2 o3 : Obj} : (((w.alloc o).alloc o2).alloc o3).heap[w.heap.size]? = some o := by
  have := (MapKept.heap_alloc ((w.alloc o).alloc o2) o3).2 w.heap.size (by simp; omega)
  rw [this]; exact heap_two
theorem heap_three2 {w : World} {o o2 o3 : Obj} : (((w.alloc o).alloc o2).alloc o3).heap[w.heap.size + 1]? = some o2 := by
  have := (MapKept.heap_alloc ((w.alloc o).alloc o2) o3).2 (w.heap.size + 1) (by simp)
  rw [this]; exact heap_second
theorem reckons_any (f : Nat) (w : World) : Calls Tryd.prog 59 #[fn0 f] w fun e w' =>
    e = .returned (.agg #[.int .i64 2, fn1 88 w.heap.size]) ∧ Below w.heap.size w w' ∧ lies w' w.heap.size (fn0 f) 85 ∧ w'.heap.size = w.heap.size + 2 := by
  unfold fn0 fn1
  go_enter Tryd.func59, Tryd.ntmps59
  go_wp2_with fail
  refine bodyPost_ret (v := .agg #[.int .i64 2, .func (.func 88) #[] #[.pointer (some ⟨w.heap.size, 0, none⟩)]]) (by simp [results, Tryd.results59, go_sem]) rfl ⟨rfl, ?_, ?_, ?_⟩
  · exact ((Below.refl _ _).alloc (Nat.le_refl _) _).alloc (by simp) _
  · exact heap_two
  · simp
theorem compares_any (f : Nat) (w : World) : Calls Tryd.prog 65 #[fn0 f] w fun e w' =>
    e = .returned (.agg #[.int .i64 2, fn1 90 w.heap.size]) ∧ Below w.heap.size w w' ∧ lies w' w.heap.size (fn0 f) 80 ∧ w'.heap.size = w.heap.size + 2 := by
  unfold fn0 fn1
  go_enter Tryd.func65, Tryd.ntmps65
  go_wp2_with fail
  refine bodyPost_ret (v := .agg #[.int .i64 2, .func (.func 90) #[] #[.pointer (some ⟨w.heap.size, 0, none⟩)]]) (by simp [results, Tryd.results65, go_sem]) rfl ⟨rfl, ?_, ?_, ?_⟩
  · exact ((Below.refl _ _).alloc (Nat.le_refl _) _).alloc (by simp) _
  · exact heap_two
  · simp
theorem of_any (k : Int) (f : Nat) (w : World) : Calls Tryd.prog 57 #[.int .i64 k, fn0 f] w fun e w' =>
    e = .returned (.agg #[.int .i64 1, fn2 87 w.heap.size (w.heap.size + 1)]) ∧ Below w.heap.size w w' ∧ lies w' w.heap.size (.int .i64 k) 3 ∧ lies w' (w.heap.size + 1) (fn0 f) 86 ∧ w'.heap.size = w.heap.size + 3 := by
  unfold fn0 fn2
  go_enter Tryd.func57, Tryd.ntmps57
  go_wp2_with fail
  refine bodyPost_ret (v := .agg #[.int .i64 1, .func (.func 87) #[] #[.pointer (some ⟨w.heap.size, 0, none⟩), .pointer (some ⟨w.heap.size + 1, 0, none⟩)]]) (by simp [results, Tryd.results57, go_sem]) rfl ⟨rfl, ?_, ?_, ?_, ?_⟩
  · exact (((Below.refl _ _).alloc (Nat.le_refl _) _).alloc (by simp) _).alloc (by simp; omega) _
  · exact heap_three
  · exact heap_three2
  · simp
/-- block b is o now, all else as it was -/
def Put (w w' : World) (b : Nat) (o : Obj) : Prop := w' = { w with heap := w.heap.setIfInBounds b o }
/-- an insert into a map that is known whole, of a key that it has not -/
theorem wpList_insert {P : Program} (w : World) {ops : Array Oper} {rest : List Oper} {o : Oper} {a : Act} {Q : Exit → Act → World → Prop}
    (hg : o.guard = none) (m x v : Operand) (t : TypeId) (hop : o.op = Op.insert t m x v) (kt et : TypeId) (ht : P.underlying t = some (.map kt et)) (hk : P.underlying kt = some (.int .i64)) (b : Nat) (es : Array MapEntry) (clock : Nat)
    (hm : a.eval m = .map (some b)) (hh : w.heap[b]? = some (.map es clock)) (n : Int) (hx : a.eval x = .int .i64 n) (val : Value) (hv : a.eval v = val) (hne : Instr.findNow (.int .i64) (.int .i64 n) es.toList 0 = some none)
    (hK : Hid (∀ w', Put w w' b (.map (es.push { key := .int .i64 n, val := val, born := clock }) (clock + 1)) → wpList P ops Q rest (a.put o.dst undef) w')) :
    wpList P ops Q (o :: rest) a w := by
  refine wpList_plain hg fun K' hK' => ?_
  have hc : (Instr.checkKey false 10000 kt (.int .i64 n)).run P w = .ok () w := MapKept.run_checkKey (k := .int .i64 n) hk (by simp [MapKept.IsKey]) false 9999
  have hrun : (Instr.mapUpdate t (.map (some b)) (.int .i64 n) val).run P w = .ok () { w with heap := w.heap.setIfInBounds b (.map (es.push { key := .int .i64 n, val := val, born := clock }) (clock + 1)) } := by
    simp [Instr.mapUpdate, run_underlying ht, MapKept.run_getObj_map hh, hc, MapKept.run_findKey hk hne, MapKept.run_setObj_map _ hh, Result.andThen]
  unfold Oper.wp
  simp [execOp, hop, hm, hx, hv, hrun, Result.andThen]
  exact hK' _ _ (hK _ rfl)
/-- while the table is made: its entries, the blocks that its functions have captured -/
structure Tbl (w wi : World) (n : Nat) (es : List MapEntry) (L : List (Nat × Value × TypeId)) : Prop where
  below : Below w.heap.size w wi
  map : wi.heap[w.heap.size]? = some (.map es.toArray es.length)
  size : wi.heap.size = w.heap.size + n
  lays : ∀ p ∈ L, 0 < p.1 ∧ lies wi (w.heap.size + p.1) p.2.1 p.2.2
theorem Tbl.call {w wi w' : World} {n k : Nat} {es : List MapEntry} {L L' : List (Nat × Value × TypeId)} (h : Tbl w wi n es L) (hb : Below wi.heap.size wi w') (hz : w'.heap.size = wi.heap.size + k) (hn : 0 < n)
    (hL : ∀ p ∈ L', 0 < p.1 ∧ lies w' (w.heap.size + p.1) p.2.1 p.2.2) : Tbl w w' (n + k) es (L ++ L') := by
  refine ⟨below_down h.below hb (Nat.le_refl _), (hb.block _ (by rw [h.size]; omega)).trans h.map, by rw [hz, h.size]; omega, fun p hp => ?_⟩
  rcases List.mem_append.1 hp with hp | hp
  · exact ⟨(h.lays p hp).1, lies_below (h.lays p hp).2 hb⟩
  · exact hL p hp
theorem Tbl.ins {w wi w' : World} {n : Nat} {es : List MapEntry} {L : List (Nat × Value × TypeId)} (h : Tbl w wi n es L) (key val : Value) {o : Obj} (hp : Put wi w' w.heap.size o) (ho : o = .map (es.toArray.push { key := key, val := val, born := es.length }) (es.length + 1)) :
    Tbl w w' n (es ++ [{ key := key, val := val, born := es.length }]) L := by
  subst ho
  have e : w' = { wi with heap := wi.heap.setIfInBounds w.heap.size (.map (es.toArray.push { key := key, val := val, born := es.length }) (es.length + 1)) } := hp
  subst e
  have hs := MapKept.heap_set (o' := .map (es.toArray.push { key := key, val := val, born := es.length }) (es.length + 1)) h.map
  refine ⟨⟨h.below.os, h.below.tape, h.below.output, by simpa using h.below.size, fun b hb => ?_⟩, ?_, by simpa using h.size, fun p hp => ⟨(h.lays p hp).1, ?_⟩⟩
  · exact (hs.2 b (by omega)).trans (h.below.block b hb)
  · simpa using hs.1
  · exact (hs.2 _ (by have := (h.lays p hp).1; omega)).trans (h.lays p hp).2
end Go.Proofs.YtndnondneelgjaaDoor
