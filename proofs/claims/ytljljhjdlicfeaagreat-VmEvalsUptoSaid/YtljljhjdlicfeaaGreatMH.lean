/-
  What value's makers of operations lay: of, reckons, compares; an insert into a map that is known whole. Conditions: none.
-/
import Derived.Test.YtljljhjdlicfeaaGreatMD
import Derived.WalkMore
import Derived.MapKept
import Derived.Laws.EntriesVeiled
namespace Go.Proofs.YtljljhjdlicfeaaGreat
open Go Go.RowKit
set_option maxRecDepth 100000
set_option linter.unusedVariables false
def fn0 (f : Nat) : Value := .func (.func f) #[] #[]
def fn1 (f b : Nat) : Value := .func (.func f) #[] #[.pointer (some ⟨b, 0, none⟩)]
def fn2 (f b c : Nat) : Value := .func (.func f) #[] #[.pointer (some ⟨b, 0, none⟩), .pointer (some ⟨c, 0, none⟩)]
def lies (w : World) (b : Nat) (v : Value) (T : TypeId) : Prop := w.heap[b]? = some (.cells #[v] T (0, 0))
theorem lies_lt {w : World} {b : Nat} {v : Value} {T : TypeId} (h : lies w b v T) : b < w.heap.size := (Array.getElem?_eq_some_iff.1 h).1
theorem lies_below {w w' : World} {b : Nat} {v : Value} {T : TypeId} (h : lies w b v T) (hb : Below w.heap.size w w') : lies w' b v T := (hb.block b (lies_lt h)).trans h
theorem heap_three {w : World} {o o2 o3 : Obj} : (((w.alloc o).alloc o2).alloc o3).heap[w.heap.size]? = some o := by
  have := (MapKept.heap_alloc ((w.alloc o).alloc o2) o3).2 w.heap.size (by simp; omega)
  rw [this]; exact heap_two
theorem heap_three2 {w : World} {o o2 o3 : Obj} : (((w.alloc o).alloc o2).alloc o3).heap[w.heap.size + 1]? = some o2 := by
  have := (MapKept.heap_alloc ((w.alloc o).alloc o2) o3).2 (w.heap.size + 1) (by simp)
  rw [this]; exact heap_second
theorem reckons_any (f : Nat) (w : World) : Calls Tryz.prog 87 #[fn0 f] w fun e w' =>
    e = .returned (.agg #[.int .i64 2, fn1 108 w.heap.size]) ∧ Below w.heap.size w w' ∧ lies w' w.heap.size (fn0 f) 141 ∧ w'.heap.size = w.heap.size + 2 := by
  unfold fn0 fn1
  go_enter Tryz.func87, Tryz.ntmps87
  go_wp2_with fail
  refine bodyPost_ret (v := .agg #[.int .i64 2, .func (.func 108) #[] #[.pointer (some ⟨w.heap.size, 0, none⟩)]]) (by simp [results, Tryz.results87, go_sem]) rfl ⟨rfl, ?_, ?_, ?_⟩
  · exact ((Below.refl _ _).alloc (Nat.le_refl _) _).alloc (by simp) _
  · exact heap_two
  · simp
theorem compares_any (f : Nat) (w : World) : Calls Tryz.prog 93 #[fn0 f] w fun e w' =>
    e = .returned (.agg #[.int .i64 2, fn1 110 w.heap.size]) ∧ Below w.heap.size w w' ∧ lies w' w.heap.size (fn0 f) 145 ∧ w'.heap.size = w.heap.size + 2 := by
  unfold fn0 fn1
  go_enter Tryz.func93, Tryz.ntmps93
  go_wp2_with fail
  refine bodyPost_ret (v := .agg #[.int .i64 2, .func (.func 110) #[] #[.pointer (some ⟨w.heap.size, 0, none⟩)]]) (by simp [results, Tryz.results93, go_sem]) rfl ⟨rfl, ?_, ?_, ?_⟩
  · exact ((Below.refl _ _).alloc (Nat.le_refl _) _).alloc (by simp) _
  · exact heap_two
  · simp
theorem of_any (k : Int) (f : Nat) (w : World) : Calls Tryz.prog 85 #[.int .i64 k, fn0 f] w fun e w' =>
    e = .returned (.agg #[.int .i64 1, fn2 107 w.heap.size (w.heap.size + 1)]) ∧ Below w.heap.size w w' ∧ lies w' w.heap.size (.int .i64 k) 3 ∧ lies w' (w.heap.size + 1) (fn0 f) 142 ∧ w'.heap.size = w.heap.size + 3 := by
  unfold fn0 fn2
  go_enter Tryz.func85, Tryz.ntmps85
  go_wp2_with fail
  refine bodyPost_ret (v := .agg #[.int .i64 1, .func (.func 107) #[] #[.pointer (some ⟨w.heap.size, 0, none⟩), .pointer (some ⟨w.heap.size + 1, 0, none⟩)]]) (by simp [results, Tryz.results85, go_sem]) rfl ⟨rfl, ?_, ?_, ?_, ?_⟩
  · exact (((Below.refl _ _).alloc (Nat.le_refl _) _).alloc (by simp) _).alloc (by simp; omega) _
  · exact heap_three
  · exact heap_three2
  · simp
def Put (w w' : World) (b : Nat) (o : Obj) : Prop := w' = { w with heap := w.heap.setIfInBounds b o }
theorem wpList_insert {P : Program} (w : World) {ops : Array Oper} {rest : List Oper} {o : Oper} {a : Act} {Q : Exit → Act → World → Prop}
    (hg : o.guard = none) (m x v : Operand) (t : TypeId) (hop : o.op = Op.insert t m x v) (kt et : TypeId) (ht : P.underlying t = some (.map kt et)) (hk : P.underlying kt = some (.int .i64)) (b : Nat) (es : Array MapEntry) (clock : Nat)
    (hm : a.eval m = .map (some b)) (hh : w.heap[b]? = some (.map es clock)) (n : Int) (hx : a.eval x = .int .i64 n) (val : Value) (hv : a.eval v = val) (hne : Instr.findNow (.int .i64) (.int .i64 n) es.toList 0 = some none)
    (hK : Hid (∀ w', Put w w' b (.map (es.push { key := .int .i64 n, val := val, born := clock }) (clock + 1)) → wpList P ops Q rest (a.put o.dst undef) w')) :
    wpList P ops Q (o :: rest) a w := by
  refine wpList_plain hg fun K' hK' => ?_
  have hc : (Instr.checkKey false 10000 kt (.int .i64 n)).run P w = .ok () w := MapKept.run_checkKey (k := .int .i64 n) hk (by simp [MapKept.IsKey]) false 9999
  have hrun : (Instr.mapUpdate t (.map (some b)) (.int .i64 n) val).run P w = .ok () { w with heap := w.heap.setIfInBounds b (.map (es.push { key := .int .i64 n, val := val, born := clock }) (clock + 1)) } := by
    simp [Instr.mapUpdate, run_underlying ht, MapKept.run_getObj_map hh, hc, MapKept.run_findKey hk hne, MapKept.run_setObj_map _ hh, Result.andThen]
  unfold Oper.wp
  simp [execOp, hop, hm, hx, hv, hrun, Result.andThen]
  exact hK' _ _ (hK _ rfl)
structure Tbl (w wi : World) (n : Nat) (es : List MapEntry) (L : List (Nat × Value × TypeId)) : Prop where
  below : Below w.heap.size w wi
  map : wi.heap[w.heap.size]? = some (.map es.toArray es.length)
  size : wi.heap.size = w.heap.size + n
  lays : ∀ p ∈ L, 0 < p.1 ∧ lies wi (w.heap.size + p.1) p.2.1 p.2.2
theorem Tbl.call {w wi w' : World} {n k : Nat} {es : List MapEntry} {L L' : List (Nat × Value × TypeId)} (h : Tbl w wi n es L) (hb : Below wi.heap.size wi w') (hz : w'.heap.size = wi.heap.size + k) (hn : 0 < n)
    (hL : ∀ p ∈ L', 0 < p.1 ∧ lies w' (w.heap.size + p.1) p.2.1 p.2.2) : Tbl w w' (n + k) es (L ++ L') := by
  refine ⟨below_down h.below hb (Nat.le_refl _), (hb.block _ (by rw [h.size]; omega)).trans h.map, by rw [hz, h.size]; omega, fun p hp => ?_⟩
  rcases List.mem_append.1 hp with hp | hp
  · exact ⟨(h.lays p hp).1, lies_below (h.lays p hp).2 hb⟩
  · exact hL p hp
theorem Tbl.ins {w wi w' : World} {n : Nat} {es : List MapEntry} {L : List (Nat × Value × TypeId)} (h : Tbl w wi n es L) (key val : Value) {o : Obj} (hp : Put wi w' w.heap.size o) (ho : o = .map (es.toArray.push { key := key, val := val, born := es.length }) (es.length + 1)) :
    Tbl w w' n (es ++ [{ key := key, val := val, born := es.length }]) L := by
  subst ho
  have e : w' = { wi with heap := wi.heap.setIfInBounds w.heap.size (.map (es.toArray.push { key := key, val := val, born := es.length }) (es.length + 1)) } := hp
  subst e
  have hs := MapKept.heap_set (o' := .map (es.toArray.push { key := key, val := val, born := es.length }) (es.length + 1)) h.map
  refine ⟨⟨h.below.os, h.below.tape, h.below.output, by simpa using h.below.size, fun b hb => ?_⟩, ?_, by simpa using h.size, fun p hp => ⟨(h.lays p hp).1, ?_⟩⟩
  · exact (hs.2 b (by omega)).trans (h.below.block b hb)
  · simpa using hs.1
  · exact (hs.2 _ (by have := (h.lays p hp).1; omega)).trans (h.lays p hp).2
end Go.Proofs.YtljljhjdlicfeaaGreat
namespace Go.Proofs.YtljljhjdlicfeaaGreat
open Go Go.RowKit
set_option maxRecDepth 100000
set_option linter.unusedVariables false
def opsE (h : Nat) : List MapEntry := [{ key := .int .i64 6, val := .agg #[.int .i64 1, fn2 107 (h + 1) (h + 2)], born := 0 },
  { key := .int .i64 7, val := .agg #[.int .i64 1, fn2 107 (h + 4) (h + 5)], born := 1 },
  { key := .int .i64 10, val := .agg #[.int .i64 2, fn0 91], born := 2 },
  { key := .int .i64 11, val := .agg #[.int .i64 2, fn0 92], born := 3 },
  { key := .int .i64 12, val := .agg #[.int .i64 2, fn1 110 (h + 7)], born := 4 },
  { key := .int .i64 13, val := .agg #[.int .i64 2, fn1 110 (h + 9)], born := 5 },
  { key := .int .i64 14, val := .agg #[.int .i64 2, fn1 110 (h + 11)], born := 6 },
  { key := .int .i64 15, val := .agg #[.int .i64 2, fn1 110 (h + 13)], born := 7 },
  { key := .int .i64 16, val := .agg #[.int .i64 2, fn0 98], born := 8 },
  { key := .int .i64 17, val := .agg #[.int .i64 2, fn1 108 (h + 15)], born := 9 },
  { key := .int .i64 18, val := .agg #[.int .i64 2, fn1 108 (h + 17)], born := 10 },
  { key := .int .i64 19, val := .agg #[.int .i64 2, fn1 108 (h + 19)], born := 11 },
  { key := .int .i64 20, val := .agg #[.int .i64 2, fn1 108 (h + 21)], born := 12 },
  { key := .int .i64 21, val := .agg #[.int .i64 1, fn0 102], born := 13 },
  { key := .int .i64 22, val := .agg #[.int .i64 2, fn0 104], born := 14 }]
def opsL : List (Nat × Value × TypeId) := [(1, .int .i64 2, 3), (2, fn0 86, 142), (4, .int .i64 1, 3), (5, fn0 89, 142), (7, fn0 94, 145), (9, fn0 95, 145), (11, fn0 96, 145), (13, fn0 97, 145), (15, fn0 88, 141), (17, fn0 99, 141), (19, fn0 100, 141), (21, fn0 101, 141)]
set_option maxHeartbeats 3200000 in
theorem operations_any (w : World) : Calls Tryz.prog 79 #[] w fun e w' => e = .returned (.map (some w.heap.size)) ∧ Tbl w w' 23 (opsE w.heap.size) opsL := by
  have hmm := @run_makeMap Tryz.prog
  have S : Tbl w (w.alloc (.map #[] 0)) 1 [] [] := ⟨(Below.refl _ _).alloc (Nat.le_refl _) _, heap_last, by simp, fun p hp => by simp at hp⟩
  go_enter Tryz.func79, Tryz.ntmps79
  go_wp2_with fail
  refine (of_any 2 86 _).mono ?_
  rintro e w1 ⟨rfl, hb, hl1, hl2, hz⟩
  rw [S.size] at hl1 hl2 ⊢
  have S := S.call (L' := [(1, .int .i64 2, 3), (2, fn0 86, 142)]) hb hz (by omega) (by intro p hp; simp only [List.mem_cons, List.not_mem_nil, or_false] at hp; rcases hp with rfl | rfl; exact ⟨by simp, hl1⟩; exact ⟨by simp, hl2⟩)
  clear hb hz hl1 hl2
  go_wp2_with (refine wpList_insert _ rfl _ _ _ 132 rfl 3 130 Tryz.underlying132 Tryz.underlying3 w.heap.size _ _ rfl S.map 6 rfl (.agg #[.int .i64 1, fn2 107 (w.heap.size + 1) (w.heap.size + 2)]) rfl ?c1 ?_)
  case c1 => rfl
  intro v0 hv
  have S := S.ins (.int .i64 6) (.agg #[.int .i64 1, fn2 107 (w.heap.size + 1) (w.heap.size + 2)]) hv rfl
  clear hv
  go_wp2_with fail
  refine (of_any 1 89 _).mono ?_
  rintro e w2 ⟨rfl, hb, hl1, hl2, hz⟩
  rw [S.size] at hl1 hl2 ⊢
  have S := S.call (L' := [(4, .int .i64 1, 3), (5, fn0 89, 142)]) hb hz (by omega) (by intro p hp; simp only [List.mem_cons, List.not_mem_nil, or_false] at hp; rcases hp with rfl | rfl; exact ⟨by simp, hl1⟩; exact ⟨by simp, hl2⟩)
  clear hb hz hl1 hl2
  go_wp2_with (refine wpList_insert _ rfl _ _ _ 132 rfl 3 130 Tryz.underlying132 Tryz.underlying3 w.heap.size _ _ rfl S.map 7 rfl (.agg #[.int .i64 1, fn2 107 (w.heap.size + 4) (w.heap.size + 5)]) rfl ?c1 ?_)
  case c1 => rfl
  intro v1 hv
  have S := S.ins (.int .i64 7) (.agg #[.int .i64 1, fn2 107 (w.heap.size + 4) (w.heap.size + 5)]) hv rfl
  clear hv
  go_wp2_with (refine wpList_insert _ rfl _ _ _ 132 rfl 3 130 Tryz.underlying132 Tryz.underlying3 w.heap.size _ _ rfl S.map 10 rfl (.agg #[.int .i64 2, fn0 91]) rfl ?c1 ?_)
  case c1 => rfl
  intro v2 hv
  have S := S.ins (.int .i64 10) (.agg #[.int .i64 2, fn0 91]) hv rfl
  clear hv
  go_wp2_with (refine wpList_insert _ rfl _ _ _ 132 rfl 3 130 Tryz.underlying132 Tryz.underlying3 w.heap.size _ _ rfl S.map 11 rfl (.agg #[.int .i64 2, fn0 92]) rfl ?c1 ?_)
  case c1 => rfl
  intro v3 hv
  have S := S.ins (.int .i64 11) (.agg #[.int .i64 2, fn0 92]) hv rfl
  clear hv
  go_wp2_with fail
  refine (compares_any 94 _).mono ?_
  rintro e w5 ⟨rfl, hb, hl1, hz⟩
  rw [S.size] at hl1 ⊢
  have S := S.call (L' := [(7, fn0 94, 145)]) hb hz (by omega) (by intro p hp; simp only [List.mem_cons, List.not_mem_nil, or_false] at hp; subst hp; exact ⟨by simp, hl1⟩)
  clear hb hz hl1
  go_wp2_with (refine wpList_insert _ rfl _ _ _ 132 rfl 3 130 Tryz.underlying132 Tryz.underlying3 w.heap.size _ _ rfl S.map 12 rfl (.agg #[.int .i64 2, fn1 110 (w.heap.size + 7)]) rfl ?c1 ?_)
  case c1 => rfl
  intro v4 hv
  have S := S.ins (.int .i64 12) (.agg #[.int .i64 2, fn1 110 (w.heap.size + 7)]) hv rfl
  clear hv
  go_wp2_with fail
  refine (compares_any 95 _).mono ?_
  rintro e w6 ⟨rfl, hb, hl1, hz⟩
  rw [S.size] at hl1 ⊢
  have S := S.call (L' := [(9, fn0 95, 145)]) hb hz (by omega) (by intro p hp; simp only [List.mem_cons, List.not_mem_nil, or_false] at hp; subst hp; exact ⟨by simp, hl1⟩)
  clear hb hz hl1
  go_wp2_with (refine wpList_insert _ rfl _ _ _ 132 rfl 3 130 Tryz.underlying132 Tryz.underlying3 w.heap.size _ _ rfl S.map 13 rfl (.agg #[.int .i64 2, fn1 110 (w.heap.size + 9)]) rfl ?c1 ?_)
  case c1 => rfl
  intro v5 hv
  have S := S.ins (.int .i64 13) (.agg #[.int .i64 2, fn1 110 (w.heap.size + 9)]) hv rfl
  clear hv
  go_wp2_with fail
  refine (compares_any 96 _).mono ?_
  rintro e w7 ⟨rfl, hb, hl1, hz⟩
  rw [S.size] at hl1 ⊢
  have S := S.call (L' := [(11, fn0 96, 145)]) hb hz (by omega) (by intro p hp; simp only [List.mem_cons, List.not_mem_nil, or_false] at hp; subst hp; exact ⟨by simp, hl1⟩)
  clear hb hz hl1
  go_wp2_with (refine wpList_insert _ rfl _ _ _ 132 rfl 3 130 Tryz.underlying132 Tryz.underlying3 w.heap.size _ _ rfl S.map 14 rfl (.agg #[.int .i64 2, fn1 110 (w.heap.size + 11)]) rfl ?c1 ?_)
  case c1 => rfl
  intro v6 hv
  have S := S.ins (.int .i64 14) (.agg #[.int .i64 2, fn1 110 (w.heap.size + 11)]) hv rfl
  clear hv
  go_wp2_with fail
  refine (compares_any 97 _).mono ?_
  rintro e w8 ⟨rfl, hb, hl1, hz⟩
  rw [S.size] at hl1 ⊢
  have S := S.call (L' := [(13, fn0 97, 145)]) hb hz (by omega) (by intro p hp; simp only [List.mem_cons, List.not_mem_nil, or_false] at hp; subst hp; exact ⟨by simp, hl1⟩)
  clear hb hz hl1
  go_wp2_with (refine wpList_insert _ rfl _ _ _ 132 rfl 3 130 Tryz.underlying132 Tryz.underlying3 w.heap.size _ _ rfl S.map 15 rfl (.agg #[.int .i64 2, fn1 110 (w.heap.size + 13)]) rfl ?c1 ?_)
  case c1 => rfl
  intro v7 hv
  have S := S.ins (.int .i64 15) (.agg #[.int .i64 2, fn1 110 (w.heap.size + 13)]) hv rfl
  clear hv
  go_wp2_with (refine wpList_insert _ rfl _ _ _ 132 rfl 3 130 Tryz.underlying132 Tryz.underlying3 w.heap.size _ _ rfl S.map 16 rfl (.agg #[.int .i64 2, fn0 98]) rfl ?c1 ?_)
  case c1 => rfl
  intro v8 hv
  have S := S.ins (.int .i64 16) (.agg #[.int .i64 2, fn0 98]) hv rfl
  clear hv
  go_wp2_with fail
  refine (reckons_any 88 _).mono ?_
  rintro e w10 ⟨rfl, hb, hl1, hz⟩
  rw [S.size] at hl1 ⊢
  have S := S.call (L' := [(15, fn0 88, 141)]) hb hz (by omega) (by intro p hp; simp only [List.mem_cons, List.not_mem_nil, or_false] at hp; subst hp; exact ⟨by simp, hl1⟩)
  clear hb hz hl1
  go_wp2_with (refine wpList_insert _ rfl _ _ _ 132 rfl 3 130 Tryz.underlying132 Tryz.underlying3 w.heap.size _ _ rfl S.map 17 rfl (.agg #[.int .i64 2, fn1 108 (w.heap.size + 15)]) rfl ?c1 ?_)
  case c1 => rfl
  intro v9 hv
  have S := S.ins (.int .i64 17) (.agg #[.int .i64 2, fn1 108 (w.heap.size + 15)]) hv rfl
  clear hv
  go_wp2_with fail
  refine (reckons_any 99 _).mono ?_
  rintro e w11 ⟨rfl, hb, hl1, hz⟩
  rw [S.size] at hl1 ⊢
  have S := S.call (L' := [(17, fn0 99, 141)]) hb hz (by omega) (by intro p hp; simp only [List.mem_cons, List.not_mem_nil, or_false] at hp; subst hp; exact ⟨by simp, hl1⟩)
  clear hb hz hl1
  go_wp2_with (refine wpList_insert _ rfl _ _ _ 132 rfl 3 130 Tryz.underlying132 Tryz.underlying3 w.heap.size _ _ rfl S.map 18 rfl (.agg #[.int .i64 2, fn1 108 (w.heap.size + 17)]) rfl ?c1 ?_)
  case c1 => rfl
  intro v10 hv
  have S := S.ins (.int .i64 18) (.agg #[.int .i64 2, fn1 108 (w.heap.size + 17)]) hv rfl
  clear hv
  go_wp2_with fail
  refine (reckons_any 100 _).mono ?_
  rintro e w12 ⟨rfl, hb, hl1, hz⟩
  rw [S.size] at hl1 ⊢
  have S := S.call (L' := [(19, fn0 100, 141)]) hb hz (by omega) (by intro p hp; simp only [List.mem_cons, List.not_mem_nil, or_false] at hp; subst hp; exact ⟨by simp, hl1⟩)
  clear hb hz hl1
  go_wp2_with (refine wpList_insert _ rfl _ _ _ 132 rfl 3 130 Tryz.underlying132 Tryz.underlying3 w.heap.size _ _ rfl S.map 19 rfl (.agg #[.int .i64 2, fn1 108 (w.heap.size + 19)]) rfl ?c1 ?_)
  case c1 => rfl
  intro v11 hv
  have S := S.ins (.int .i64 19) (.agg #[.int .i64 2, fn1 108 (w.heap.size + 19)]) hv rfl
  clear hv
  go_wp2_with fail
  refine (reckons_any 101 _).mono ?_
  rintro e w13 ⟨rfl, hb, hl1, hz⟩
  rw [S.size] at hl1 ⊢
  have S := S.call (L' := [(21, fn0 101, 141)]) hb hz (by omega) (by intro p hp; simp only [List.mem_cons, List.not_mem_nil, or_false] at hp; subst hp; exact ⟨by simp, hl1⟩)
  clear hb hz hl1
  go_wp2_with (refine wpList_insert _ rfl _ _ _ 132 rfl 3 130 Tryz.underlying132 Tryz.underlying3 w.heap.size _ _ rfl S.map 20 rfl (.agg #[.int .i64 2, fn1 108 (w.heap.size + 21)]) rfl ?c1 ?_)
  case c1 => rfl
  intro v12 hv
  have S := S.ins (.int .i64 20) (.agg #[.int .i64 2, fn1 108 (w.heap.size + 21)]) hv rfl
  clear hv
  go_wp2_with (refine wpList_insert _ rfl _ _ _ 132 rfl 3 130 Tryz.underlying132 Tryz.underlying3 w.heap.size _ _ rfl S.map 21 rfl (.agg #[.int .i64 1, fn0 102]) rfl ?c1 ?_)
  case c1 => rfl
  intro v13 hv
  have S := S.ins (.int .i64 21) (.agg #[.int .i64 1, fn0 102]) hv rfl
  clear hv
  go_wp2_with (refine wpList_insert _ rfl _ _ _ 132 rfl 3 130 Tryz.underlying132 Tryz.underlying3 w.heap.size _ _ rfl S.map 22 rfl (.agg #[.int .i64 2, fn0 104]) rfl ?c1 ?_)
  case c1 => rfl
  intro v14 hv
  have S := S.ins (.int .i64 22) (.agg #[.int .i64 2, fn0 104]) hv rfl
  clear hv
  go_wp2_with fail
  go_ret
  exact ⟨rfl, S⟩
end Go.Proofs.YtljljhjdlicfeaaGreat
