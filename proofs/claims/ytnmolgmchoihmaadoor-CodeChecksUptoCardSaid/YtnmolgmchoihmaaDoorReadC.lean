/-
  What the reading of lists of instructions gives: plain instructions in memory, bounded by the reading's bulk. Conditions: none.
-/
import Derived.Test.YtnmolgmchoihmaaDoorReadE
import Derived.Test.YtnmolgmchoihmaaDoorChecks
namespace Go.Proofs.YtnmolgmchoihmaaDoor
open Go Go.ChangeShapes Go.WideShapes Go.ChangeAt Go.RowKit
set_option maxRecDepth 100000
set_option linter.unusedVariables false
theorem cIn : Tryd.prog.cellsOf 40 = 8 := by kernel_rfl
theorem cSI : Tryd.prog.cellsOf 32 = 1 := by kernel_rfl
theorem cSS : Tryd.prog.cellsOf 44 = 1 := by kernel_rfl
def GI.ibk (x : GI) : Nat := 1 + x.s.size + x.v.bulk
def ibks : List GI → Nat
  | [] => 0
  | x :: r => x.ibk + ibks r
def cbks : List (List GI) → Nat
  | [] => 0
  | x :: r => 1 + ibks x + cbks r
def GI.wfN (x : GI) : Prop := -9223372036854775808 ≤ x.op ∧ x.op ≤ 9223372036854775807 ∧ -9223372036854775808 ≤ x.arg ∧ x.arg ≤ 9223372036854775807 ∧ x.v.wfI
theorem len_ibks : ∀ (l : List GI), l.length ≤ ibks l
  | [] => by simp
  | x :: r => by have := len_ibks r; simp only [ibks, GI.ibk, List.length_cons]; omega
theorem len_cbks : ∀ (l : List (List GI)), l.length ≤ cbks l
  | [] => by simp
  | x :: r => by have := len_cbks r; simp only [cbks, List.length_cons]; omega
theorem ibks_mem : ∀ {l : List GI} {x : GI}, x ∈ l → x.ibk ≤ ibks l
  | y :: r, x, hx => by
    simp only [ibks]
    rcases List.mem_cons.1 hx with e | e
    · subst e; omega
    · have := ibks_mem e; omega
theorem cbks_mem : ∀ {l : List (List GI)} {x : List GI}, x ∈ l → ibks x ≤ cbks l
  | y :: r, x, hx => by
    simp only [cbks]
    rcases List.mem_cons.1 hx with e | e
    · subst e; omega
    · have := cbks_mem e; omega
theorem ibks_le {H : Type} : ∀ (l : List GI) (es : List (DataW H)), l.length = es.length → (∀ i (h : i < l.length) (h' : i < es.length), l[i].ibk ≤ Rows.uptoBulk es[i]) → ibks l ≤ Rows.uptoBulkAll es
  | [], [], _, _ => by simp [ibks]
  | x :: r, e :: s, h, g => by
    have h0 := g 0 (by simp) (by simp)
    have hr := ibks_le r s (by simpa using h) (fun i h h' => g (i + 1) (by simpa using h) (by simpa using h'))
    simp only [ibks, Rows.uptoBulkAll]
    simp only [List.getElem_cons_zero] at h0
    omega
  | [], _ :: _, h, _ => by simp at h
  | _ :: _, [], h, _ => by simp at h
theorem cbks_le {H : Type} : ∀ (l : List (List GI)) (es : List (DataW H)), l.length = es.length → (∀ i (h : i < l.length) (h' : i < es.length), 1 + ibks l[i] ≤ Rows.uptoBulk es[i]) → cbks l ≤ Rows.uptoBulkAll es
  | [], [], _, _ => by simp [cbks]
  | x :: r, e :: s, h, g => by
    have h0 := g 0 (by simp) (by simp)
    have hr := cbks_le r s (by simpa using h) (fun i h h' => g (i + 1) (by simpa using h) (by simpa using h'))
    simp only [cbks, Rows.uptoBulkAll]
    simp only [List.getElem_cons_zero] at h0
    omega
  | [], _ :: _, h, _ => by simp at h
  | _ :: _, [], h, _ => by simp at h
theorem line_len (x : GI) (hw : x.wfN) (hb : x.ibk ≤ 1048576) : (lineI vtext x).size ≤ 46 + 24 * x.ibk := by
  have h1 := itoaB_size x.op hw.1 hw.2.1
  have h2 := itoaB_size x.arg hw.2.2.1 hw.2.2.2.1
  have h3 := vtx_len x.v (fit_of x.v hw.2.2.2.2 (by simp only [GI.ibk] at hb; omega))
  have h4 := vtext_size x.v
  have h5 : (if x.op = 0 then vtext x.v else (⟨#[]⟩ : ByteArray)).size ≤ 24 * x.v.bulk := by
    split
    · omega
    · exact Nat.zero_le _
  simp only [lineI, ByteArray.size_append, GI.ibk]
  have e32 : (⟨#[32]⟩ : ByteArray).size = 1 := rfl
  have e10 : (⟨#[10]⟩ : ByteArray).size = 1 := rfl
  omega
theorem text_len : ∀ (l : List GI), (∀ x ∈ l, x.wfN) → ibks l ≤ 1048576 → (textI vtext l).length ≤ 70 * ibks l
  | [], _, _ => by simp [textI]
  | x :: r, h, hb => by
    simp only [ibks] at hb
    have h1 := line_len x (h x (by simp)) (by omega)
    have h2 := text_len r (fun y hy => h y (by simp [hy])) (by omega)
    have e : (lineI vtext x).data.toList.length = (lineI vtext x).size := Array.length_toList
    have h3 : 1 ≤ x.ibk := by simp only [GI.ibk]; omega
    simp only [textI, List.length_append, ibks]
    omega
theorem okC_of (l : List GI) (h : ∀ x ∈ l, x.wfN) (hb : ibks l ≤ 1048576) : okC l := by
  have hl := len_ibks l
  have hx : ∀ x ∈ l, x.ibk ≤ 1048576 := fun x hx => Nat.le_trans (ibks_mem hx) hb
  refine ⟨by omega, fun x hm => ?_, fun x hm => ?_, fun x hm => ?_, ?_⟩
  · have := hx x hm
    simp only [GI.ibk] at this
    exact ⟨fit_of x.v (h x hm).2.2.2.2 (by omega), by omega⟩
  · have hi := hx x hm
    have hw := h x hm
    refine ⟨hw.1, hw.2.1, hw.2.2.1, hw.2.2.2.1, fun _ => ?_⟩
    simp only [GI.ibk] at hi
    have h3 := vtx_len x.v (fit_of x.v hw.2.2.2.2 (by omega))
    rw [vtext_size]
    omega
  · have := hx x hm
    simp only [GI.ibk] at this
    omega
  · have := text_len l h hb
    omega
section
variable {H : Type} {enc : TypeId × Value → H} {W : World}
theorem read_instr (fuel : Nat) (cs : List Value) (x : DataW H × List MemPlace) (h : DataW.trod enc Tryd.prog W 0 (fun _ => true) true fuel 40 cs = some x) :
    ∃ (g : GI) (s : Value), cs = [.int .i64 g.op, .int .i64 g.arg, .string g.s, .int .i64 g.v.k, .bool g.v.b, .int .i64 g.v.n, .string g.v.t, s] ∧ isL W 0 W.heap.size s g.v.l ∧ g.wfN ∧ g.ibk ≤ Rows.uptoBulk x.1 := by
  obtain ⟨xs, n, rfl, rfl, hl, hlen, hf⟩ := DataW.trod_struct Tryd.underlying40 h
  rw [cIn] at hl
  have h0 : DataW.trod enc Tryd.prog W 0 (fun _ => true) true n 3 ((cs.drop 0).take (Tryd.prog.cellsOf 3)) = xs[0]? := hf 0 _ rfl
  rw [cI] at h0
  have h1 : DataW.trod enc Tryd.prog W 0 (fun _ => true) true n 3 ((cs.drop 1).take (Tryd.prog.cellsOf 3)) = xs[1]? := hf 1 _ rfl
  rw [cI] at h1
  have h2 : DataW.trod enc Tryd.prog W 0 (fun _ => true) true n 9 ((cs.drop 2).take (Tryd.prog.cellsOf 9)) = xs[2]? := hf 2 _ rfl
  rw [cS] at h2
  have h3 : DataW.trod enc Tryd.prog W 0 (fun _ => true) true n 28 ((cs.drop 3).take (Tryd.prog.cellsOf 28)) = xs[3]? := hf 3 _ rfl
  rw [cV] at h3
  have hx : xs.length = 4 := hlen
  match xs, hx, h0, h1, h2, h3 with
  | [y0, y1, y2, y3], _, h0, h1, h2, h3 =>
    simp only [List.getElem?_cons_zero, List.getElem?_cons_succ] at h0 h1 h2 h3
    obtain ⟨k, e0, rfl, w0⟩ := DataW.trod_int Tryd.underlying3 h0
    obtain ⟨k1, e1, rfl, w1⟩ := DataW.trod_int Tryd.underlying3 h1
    obtain ⟨t, e2, rfl, _⟩ := DataW.trod_string Tryd.underlying9 h2
    obtain ⟨v, s, e3, hs, hwv, hbv⟩ := read_value n _ _ h3
    refine ⟨⟨k, k1, t, v⟩, s, ?_, hs, ?_, ?_⟩
    · match cs, hl, e0, e1, e2, e3 with
      | [c0, c1, c2, c3, c4, c5, c6, c7], _, e0, e1, e2, e3 =>
        simp at e0 e1 e2 e3
        obtain ⟨e3, e4, e5, e6, e7⟩ := e3
        rw [e0, e1, e2, e3, e4, e5, e6, e7]
    · have := wf_i64 w0
      have := wf_i64 w1
      simp only [GI.wfN]
      exact ⟨by omega, by omega, by omega, by omega, hwv⟩
    · simp only [GI.ibk, List.map_cons, List.map_nil, Rows.uptoBulk, Rows.uptoBulkAll]
      have : t.data.toList.length = t.size := Array.length_toList
      omega
theorem read_instrs (fuel : Nat) (cs : List Value) (x : DataW H × List MemPlace) (h : DataW.trod enc Tryd.prog W 0 (fun _ => true) true fuel 32 cs = some x) :
    ∃ (s : Value) (l : List GI), cs = [s] ∧ isI W W.heap.size s l ∧ (∀ y ∈ l, y.wfN) ∧ ibks l + 1 ≤ Rows.uptoBulk x.1 := by
  rcases DataW.trod_slice Tryd.underlying32 h with ⟨rfl, rfl⟩ | ⟨a, len, cap, elems, rest, n, rfl, rfl, rfl, _, hl, _, hlen, hel, _, _⟩
  · exact ⟨_, [], rfl, ⟨none, 0, 0, 0, rfl, Nat.le_refl _, fun h => by simp at h, fun i h => by simp at h⟩, fun y hy => by simp at hy, by simp [ibks, Rows.uptoBulk]⟩
  · have each : ∀ i : Fin len, ∃ g : GI, (∃ s, W.cells? 0 (a.add (i * 8)) 8 = some [.int .i64 g.op, .int .i64 g.arg, .string g.s, .int .i64 g.v.k, .bool g.v.b, .int .i64 g.v.n, .string g.v.t, s] ∧ isL W 0 W.heap.size s g.v.l) ∧ g.wfN ∧ g.ibk ≤ Rows.uptoBulk (elems[i]'(by rw [hlen]; exact i.2)).1 := by
      intro ⟨i, hi⟩
      have h1 := hel i hi
      rw [cIn, List.getElem?_eq_getElem (by omega)] at h1
      obtain ⟨cs', hc, ht⟩ := Option.bind_eq_some_iff.1 h1
      obtain ⟨g, s, rfl, hs, hw, hbk⟩ := read_instr n _ _ ht
      exact ⟨g, ⟨s, hc, hs⟩, hw, hbk⟩
    obtain ⟨f, hf⟩ := Classical.axiomOfChoice each
    refine ⟨_, List.ofFn f, rfl, ?_, (fun y hy => by obtain ⟨i, rfl⟩ := List.mem_ofFn.1 hy; exact (hf i).2.1), ?_⟩
    · have hlf : (List.ofFn f).length = len := by simp
      have key : isI W W.heap.size (.slice (some a) (List.ofFn f).length cap) (List.ofFn f) := by
        refine ⟨some a, cap, a.block, a.off, rfl, by rw [hlf]; exact hl, fun h0 => ?_, fun i hi => ?_⟩
        · rw [hlf] at h0
          obtain ⟨⟨s, hc, _⟩, _⟩ := hf ⟨0, h0⟩
          obtain ⟨_, _, hcell⟩ := World.cells?_some hc
          have hc0 := hcell 0 (by omega)
          have ha : a = ⟨a.block, a.off, none⟩ := by
            have := no_spot (a := (a.add (0 * 8)).add 0) (by rw [hc0]; rfl)
            simpa [Addr.add] using this
          refine ⟨congrArg some ha, ?_⟩
          have := World.cells?_block hc (by omega)
          simpa [Addr.add] using this
        · have hi' : i < len := by rw [hlf] at hi; exact hi
          obtain ⟨⟨s, hc, hs⟩, _⟩ := hf ⟨i, hi'⟩
          obtain ⟨⟨s0, hc00, _⟩, _⟩ := hf ⟨0, by omega⟩
          obtain ⟨_, _, hcell0⟩ := World.cells?_some hc00
          have ha : a = ⟨a.block, a.off, none⟩ := by
            have := no_spot (a := (a.add (0 * 8)).add 0) (by rw [hcell0 0 (by omega)]; rfl)
            simpa [Addr.add] using this
          obtain ⟨_, _, hcell⟩ := World.cells?_some hc
          have c : ∀ o u, o < 8 → ([.int .i64 (f ⟨i, hi'⟩).op, .int .i64 (f ⟨i, hi'⟩).arg, .string (f ⟨i, hi'⟩).s, .int .i64 (f ⟨i, hi'⟩).v.k, .bool (f ⟨i, hi'⟩).v.b, .int .i64 (f ⟨i, hi'⟩).v.n, .string (f ⟨i, hi'⟩).v.t, s] : List Value)[o]? = some u → W.cell? ⟨a.block, a.off + i * 8 + o, none⟩ = some u := fun o u ho hu => by
            have := (hcell o ho).trans hu
            rw [ha] at this
            simpa only [add_off] using this
          obtain ⟨sa, sc, rfl⟩ := isL_form hs
          rw [List.getElem_ofFn]
          exact ⟨sa, sc, c 0 _ (by omega) rfl, c 1 _ (by omega) rfl, c 2 _ (by omega) rfl, c 3 _ (by omega) rfl, c 4 _ (by omega) rfl, c 5 _ (by omega) rfl, c 6 _ (by omega) rfl, c 7 _ (by omega) rfl, hs⟩
      rwa [hlf] at key
    · have := ibks_le (List.ofFn f) (elems.map (·.1)) (by simp [hlen]) (fun i h h' => by
        rw [List.getElem_ofFn, List.getElem_map]
        exact (hf ⟨i, by simpa using h⟩).2.2)
      simp only [Rows.uptoBulk]
      omega
theorem read_codes_of (fuel : Nat) (cs : List Value) (x : DataW H × List MemPlace) (h : DataW.trod enc Tryd.prog W 0 (fun _ => true) true fuel 44 cs = some x) :
    ∃ (s : Value) (l : List (List GI)), cs = [s] ∧ isC W W.heap.size s l ∧ (∀ y ∈ l, ∀ z ∈ y, z.wfN) ∧ cbks l + 1 ≤ Rows.uptoBulk x.1 := by
  rcases DataW.trod_slice Tryd.underlying44 h with ⟨rfl, rfl⟩ | ⟨a, len, cap, elems, rest, n, rfl, rfl, rfl, _, hl, _, hlen, hel, _, _⟩
  · exact ⟨_, [], rfl, ⟨none, 0, 0, 0, rfl, Nat.le_refl _, fun h => by simp at h, fun i h => by simp at h⟩, fun y hy => by simp at hy, by simp [cbks, Rows.uptoBulk]⟩
  · have each : ∀ i : Fin len, ∃ g : List GI, (∃ s, W.cells? 0 (a.add (i * 1)) 1 = some [s] ∧ isI W W.heap.size s g) ∧ (∀ z ∈ g, z.wfN) ∧ 1 + ibks g ≤ Rows.uptoBulk (elems[i]'(by rw [hlen]; exact i.2)).1 := by
      intro ⟨i, hi⟩
      have h1 := hel i hi
      rw [cSI, List.getElem?_eq_getElem (by omega)] at h1
      obtain ⟨cs', hc, ht⟩ := Option.bind_eq_some_iff.1 h1
      obtain ⟨s, g, rfl, hs, hw, hbk⟩ := read_instrs n _ _ ht
      exact ⟨g, ⟨s, hc, hs⟩, hw, (by rw [Nat.add_comm]; exact hbk)⟩
    obtain ⟨f, hf⟩ := Classical.axiomOfChoice each
    refine ⟨_, List.ofFn f, rfl, ?_, (fun y hy => by obtain ⟨i, rfl⟩ := List.mem_ofFn.1 hy; exact (hf i).2.1), ?_⟩
    · have hlf : (List.ofFn f).length = len := by simp
      have key : isC W W.heap.size (.slice (some a) (List.ofFn f).length cap) (List.ofFn f) := by
        refine ⟨some a, cap, a.block, a.off, rfl, by rw [hlf]; exact hl, fun h0 => ?_, fun i hi => ?_⟩
        · rw [hlf] at h0
          obtain ⟨⟨s, hc, _⟩, _⟩ := hf ⟨0, h0⟩
          obtain ⟨_, _, hcell⟩ := World.cells?_some hc
          have hc0 := hcell 0 (by omega)
          have ha : a = ⟨a.block, a.off, none⟩ := by
            have := no_spot (a := (a.add (0 * 1)).add 0) (by rw [hc0]; rfl)
            simpa [Addr.add] using this
          refine ⟨congrArg some ha, ?_⟩
          have := World.cells?_block hc (by omega)
          simpa [Addr.add] using this
        · have hi' : i < len := by rw [hlf] at hi; exact hi
          obtain ⟨⟨s, hc, hs⟩, _⟩ := hf ⟨i, hi'⟩
          obtain ⟨⟨s0, hc00, _⟩, _⟩ := hf ⟨0, by omega⟩
          obtain ⟨_, _, hcell0⟩ := World.cells?_some hc00
          have ha : a = ⟨a.block, a.off, none⟩ := by
            have := no_spot (a := (a.add (0 * 1)).add 0) (by rw [hcell0 0 (by omega)]; rfl)
            simpa [Addr.add] using this
          obtain ⟨_, _, hcell⟩ := World.cells?_some hc
          have c0 : W.cell? ⟨a.block, a.off + i, none⟩ = some s := by
            have := (hcell 0 (by omega)).trans (show ([s] : List Value)[0]? = some s from rfl)
            rw [ha] at this
            simpa only [add_off, Nat.mul_one, Nat.add_zero] using this
          rw [List.getElem_ofFn]
          exact ⟨s, c0, hs⟩
      rwa [hlf] at key
    · have := cbks_le (List.ofFn f) (elems.map (·.1)) (by simp [hlen]) (fun i h h' => by
        rw [List.getElem_ofFn, List.getElem_map]
        exact (hf ⟨i, by simpa using h⟩).2.2)
      simp only [Rows.uptoBulk]
      omega
/-- a struct of one list of lists of instructions, as an argument -/
theorem read_codes {v : Value} {d : DataW H} {p : List MemPlace} (hv : ∃ cs, v = .agg cs ∧ cs.size = Tryd.prog.cellsOf 46) (h : DataW.Trod enc Tryd.prog W 0 (fun _ => true) true 46 v d p) :
    ∃ (s : Value) (l : List (List GI)), v = .agg #[s] ∧ isC W W.heap.size s l ∧ (∀ y ∈ l, ∀ z ∈ y, z.wfN) ∧ cbks l ≤ Rows.uptoBulk d := by
  obtain ⟨cs, rfl, hc⟩ := hv
  obtain ⟨fuel, h⟩ := h
  obtain ⟨y0, n, e, hl, hy⟩ := trod_struct1 Tryd.underlying46 h
  have hy' : DataW.trod enc Tryd.prog W 0 (fun _ => true) true n 44 (((Value.agg cs).cells.toList.drop 0).take (Tryd.prog.cellsOf 44)) = some y0 := hy
  rw [cSS] at hy'
  obtain ⟨s, l, e1, hs, hw, hb⟩ := read_codes_of n _ _ hy'
  have hc1 : cs.size = 1 := by rw [hc]; kernel_rfl
  have ee : cs = #[s] := by
    apply Array.ext'
    match hcs : cs.toList, (show cs.toList.length = 1 from hc1) with
    | [u], _ =>
      simp [Value.cells, hcs] at e1
      rw [e1]
  refine ⟨s, l, by rw [ee], hs, hw, ?_⟩
  simp only [Prod.mk.injEq] at e
  rw [e.1]
  simp only [Rows.uptoBulk, Rows.uptoBulkAll]
  omega
end
end Go.Proofs.YtnmolgmchoihmaaDoor
