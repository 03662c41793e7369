/-
  What the reading of a list of expressions gives: plain expressions in memory, their lengths bounded by the reading's bulk. Conditions: none.
-/
import Derived.Test.YtnmolgmchoihmaaDoorRead
import Derived.Test.YtnmolgmchoihmaaDoorWakes
namespace Go.Proofs.YtnmolgmchoihmaaDoor
open Go Go.ChangeShapes Go.WideShapes Go.ChangeAt Go.RowKit
set_option maxRecDepth 100000
set_option linter.unusedVariables false
section
variable {H : Type} {enc : TypeId × Value → H} {W : World}
/-- a list of expressions behind a slice -/
theorem read_exprs_of (fuel : Nat) (ih : ∀ n, n < fuel → ∀ cs (x : DataW H × List MemPlace), DataW.trod enc Tryd.prog W 0 (fun _ => true) true n 30 cs = some x →
      ∃ (g : GE) (s sa : Value), cs = [.int .i64 g.op, .string g.text, .int .i64 g.v.k, .bool g.v.b, .int .i64 g.v.n, .string g.v.t, s, sa] ∧ (isL W 0 W.heap.size s g.v.l ∧ isX W W.heap.size sa g.args) ∧ g.wfI ∧ g.ebk ≤ Rows.uptoBulk x.1)
    (cs : List Value) (x : DataW H × List MemPlace) (h : DataW.trod enc Tryd.prog W 0 (fun _ => true) true fuel 22 cs = some x) :
    ∃ (s : Value) (l : List GE), cs = [s] ∧ isX W W.heap.size s l ∧ wfIE l ∧ ebks l + 1 ≤ Rows.uptoBulk x.1 := by
  rcases DataW.trod_slice Tryd.underlying22 h with ⟨rfl, rfl⟩ | ⟨a, len, cap, elems, rest, n, rfl, rfl, rfl, _, hl, _, hlen, hel, _, _⟩
  · exact ⟨_, [], rfl, isX_nil _ _, trivial, by simp [ebks, Rows.uptoBulk]⟩
  · have each : ∀ i : Fin len, ∃ g : GE, (∃ s sa, W.cells? 0 (a.add (i * 8)) 8 = some [.int .i64 g.op, .string g.text, .int .i64 g.v.k, .bool g.v.b, .int .i64 g.v.n, .string g.v.t, s, sa] ∧ isL W 0 W.heap.size s g.v.l ∧ isX W W.heap.size sa g.args) ∧ g.wfI ∧ g.ebk ≤ Rows.uptoBulk (elems[i]'(by rw [hlen]; exact i.2)).1 := by
      intro ⟨i, hi⟩
      have h1 := hel i hi
      rw [cE, List.getElem?_eq_getElem (by omega)] at h1
      obtain ⟨cs', hc, ht⟩ := Option.bind_eq_some_iff.1 h1
      obtain ⟨g, s, sa, rfl, hs, hw, hbk⟩ := ih n (by omega) _ _ ht
      exact ⟨g, ⟨s, sa, hc, hs.1, hs.2⟩, hw, hbk⟩
    obtain ⟨f, hf⟩ := Classical.axiomOfChoice each
    refine ⟨_, List.ofFn f, rfl, ?_, wfIE_of _ (fun y hy => by obtain ⟨i, rfl⟩ := List.mem_ofFn.1 hy; exact (hf i).2.1), ?_⟩
    · have hlf : (List.ofFn f).length = len := by simp
      have key : isX W W.heap.size (.slice (some a) (List.ofFn f).length cap) (List.ofFn f) := by
        refine isE_mk (b := a.block) (off := a.off) (by rw [hlf]; exact hl) trivial (fun h0 => ?_) (fun i hi => ?_)
        · rw [hlf] at h0
          obtain ⟨⟨s, sa, hc, _⟩, _⟩ := hf ⟨0, h0⟩
          obtain ⟨_, _, hcell⟩ := World.cells?_some hc
          have hc0 := hcell 0 (by omega)
          have ha : a = ⟨a.block, a.off, none⟩ := by
            have := no_spot (a := (a.add (0 * 8)).add 0) (by rw [hc0]; rfl)
            simpa [Addr.add] using this
          refine ⟨congrArg some ha, Nat.zero_le _, ?_⟩
          have := World.cells?_block hc (by omega)
          simpa [Addr.add] using this
        · have hi' : i < len := by rw [hlf] at hi; exact hi
          obtain ⟨⟨s, sa, hc, hs, hsa⟩, _⟩ := hf ⟨i, hi'⟩
          obtain ⟨⟨s0, sa0, hc00, _⟩, _⟩ := hf ⟨0, by omega⟩
          obtain ⟨_, _, hcell0⟩ := World.cells?_some hc00
          have ha : a = ⟨a.block, a.off, none⟩ := by
            have := no_spot (a := (a.add (0 * 8)).add 0) (by rw [hcell0 0 (by omega)]; rfl)
            simpa [Addr.add] using this
          obtain ⟨_, _, hcell⟩ := World.cells?_some hc
          have c : ∀ o u, o < 8 → ([.int .i64 (f ⟨i, hi'⟩).op, .string (f ⟨i, hi'⟩).text, .int .i64 (f ⟨i, hi'⟩).v.k, .bool (f ⟨i, hi'⟩).v.b, .int .i64 (f ⟨i, hi'⟩).v.n, .string (f ⟨i, hi'⟩).v.t, s, sa] : List Value)[o]? = some u → W.cell? ⟨a.block, a.off + i * 8 + o, none⟩ = some u := fun o u ho hu => by
            have := (hcell o ho).trans hu
            rw [ha] at this
            simpa only [add_off] using this
          rw [List.getElem_ofFn]
          exact cellsE_mk (c 0 _ (by omega) rfl) (c 1 _ (by omega) rfl) (c 2 _ (by omega) rfl) (c 3 _ (by omega) rfl) (c 4 _ (by omega) rfl) (c 5 _ (by omega) rfl) (c 6 _ (by omega) rfl) (c 7 _ (by omega) rfl) hs hsa
      rwa [hlf] at key
    · have := ebks_le (List.ofFn f) (elems.map (·.1)) (by simp [hlen]) (fun i h h' => by
        rw [List.getElem_ofFn, List.getElem_map]
        exact (hf ⟨i, by simpa using h⟩).2.2)
      simp only [Rows.uptoBulk]
      omega
theorem read_expr : ∀ (fuel : Nat) (cs : List Value) (x : DataW H × List MemPlace), DataW.trod enc Tryd.prog W 0 (fun _ => true) true fuel 30 cs = some x →
      ∃ (g : GE) (s sa : Value), cs = [.int .i64 g.op, .string g.text, .int .i64 g.v.k, .bool g.v.b, .int .i64 g.v.n, .string g.v.t, s, sa] ∧ (isL W 0 W.heap.size s g.v.l ∧ isX W W.heap.size sa g.args) ∧ g.wfI ∧ g.ebk ≤ Rows.uptoBulk x.1 := by
  intro fuel
  induction fuel using Nat.strongRecOn with
  | _ fuel ih =>
    intro cs x h
    obtain ⟨xs, n, rfl, rfl, hl, hlen, hf⟩ := DataW.trod_struct Tryd.underlying30 h
    rw [cE] at hl
    have h0 : DataW.trod enc Tryd.prog W 0 (fun _ => true) true n 3 ((cs.drop 0).take (Tryd.prog.cellsOf 3)) = xs[0]? := hf 0 _ rfl
    rw [cI] at h0
    have h1 : DataW.trod enc Tryd.prog W 0 (fun _ => true) true n 9 ((cs.drop 1).take (Tryd.prog.cellsOf 9)) = xs[1]? := hf 1 _ rfl
    rw [cS] at h1
    have h2 : DataW.trod enc Tryd.prog W 0 (fun _ => true) true n 28 ((cs.drop 2).take (Tryd.prog.cellsOf 28)) = xs[2]? := hf 2 _ rfl
    rw [cV] at h2
    have h3 : DataW.trod enc Tryd.prog W 0 (fun _ => true) true n 22 ((cs.drop 7).take (Tryd.prog.cellsOf 22)) = xs[3]? := hf 3 _ rfl
    rw [cSE] at h3
    have hx : xs.length = 4 := hlen
    match xs, hx, h0, h1, h2, h3 with
    | [y0, y1, y2, y3], _, h0, h1, h2, h3 =>
      simp only [List.getElem?_cons_zero, List.getElem?_cons_succ] at h0 h1 h2 h3
      obtain ⟨k, e0, rfl, w0⟩ := DataW.trod_int Tryd.underlying3 h0
      obtain ⟨t, e1, rfl, _⟩ := DataW.trod_string Tryd.underlying9 h1
      obtain ⟨v, s, e2, hs, hwv, hbv⟩ := read_value n _ _ h2
      obtain ⟨sa, l, e3, hsa, hw, hbk⟩ := read_exprs_of n (fun j hj => ih j (by omega)) _ _ h3
      refine ⟨⟨k, t, v, l⟩, s, sa, ?_, ⟨hs, hsa⟩, ?_, ?_⟩
      · match cs, hl, e0, e1, e2, e3 with
        | [c0, c1, c2, c3, c4, c5, c6, c7], _, e0, e1, e2, e3 =>
          simp at e0 e1 e2 e3
          obtain ⟨e2, e4, e5, e6, e7⟩ := e2
          rw [e0, e1, e2, e3, e4, e5, e6, e7]
      · have := wf_i64 w0
        simp only [GE.wfI]
        exact ⟨by omega, by omega, hwv, hw⟩
      · simp only [GE.ebk, List.map_cons, List.map_nil, Rows.uptoBulk, Rows.uptoBulkAll]
        have : t.data.toList.length = t.size := Array.length_toList
        omega
/-- a struct of one list of expressions, as an argument -/
theorem read_exprs {v : Value} {d : DataW H} {p : List MemPlace} (hv : ∃ cs, v = .agg cs ∧ cs.size = Tryd.prog.cellsOf 24) (h : DataW.Trod enc Tryd.prog W 0 (fun _ => true) true 24 v d p) :
    ∃ (s : Value) (l : List GE), v = .agg #[s] ∧ isX W W.heap.size s l ∧ wfIE l ∧ ebks l ≤ Rows.uptoBulk d := by
  obtain ⟨cs, rfl, hc⟩ := hv
  obtain ⟨fuel, h⟩ := h
  obtain ⟨y0, n, e, hl, hy⟩ := trod_struct1 Tryd.underlying24 h
  have hy' : DataW.trod enc Tryd.prog W 0 (fun _ => true) true n 22 (((Value.agg cs).cells.toList.drop 0).take (Tryd.prog.cellsOf 22)) = some y0 := hy
  rw [cSE] at hy'
  obtain ⟨s, l, e1, hs, hw, hb⟩ := read_exprs_of n (fun m _ => read_expr m) _ _ hy'
  have hc1 : cs.size = 1 := by rw [hc]; kernel_rfl
  have ee : cs = #[s] := by
    apply Array.ext'
    match hcs : cs.toList, (show cs.toList.length = 1 from hc1) with
    | [u], _ =>
      simp [Value.cells, hcs] at e1
      rw [e1]
  refine ⟨s, l, by rw [ee], hs, hw, ?_⟩
  simp only [Prod.mk.injEq] at e
  rw [e.1]
  simp only [Rows.uptoBulk, Rows.uptoBulkAll]
  omega
end
end Go.Proofs.YtnmolgmchoihmaaDoor
