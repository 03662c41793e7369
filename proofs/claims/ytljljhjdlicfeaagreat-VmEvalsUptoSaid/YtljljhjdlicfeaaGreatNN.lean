/-
  What the reading of an argument gives: plain expressions in memory, their lengths bounded by the reading's bulk. Conditions: none.
-/
import Derived.Test.YtljljhjdlicfeaaGreatMK
import Derived.Test.YtljljhjdlicfeaaGreatPAF
import Derived.Test.YtljljhjdlicfeaaGreatPAE
import Derived.Test.YtljljhjdlicfeaaGreatNK
namespace Go.Proofs.YtljljhjdlicfeaaGreat
open Go Go.ChangeShapes Go.WideShapes Go.ChangeAt Go.RowKit
set_option maxRecDepth 100000
set_option linter.unusedVariables false
theorem cE : Tryz.prog.cellsOf 38 = 8 := by kernel_rfl
theorem cSE : Tryz.prog.cellsOf 22 = 1 := by kernel_rfl
section
variable {H : Type} {enc : TypeId × Value → H} {W : World}
mutual
def GE.ebk : GE → Nat
  | ⟨_, text, v, args⟩ => 1 + text.size + v.bulk + ebks args
def ebks : List GE → Nat
  | [] => 0
  | x :: r => x.ebk + ebks r
end
mutual
def GE.wfI : GE → Prop
  | ⟨op, _, v, args⟩ => -9223372036854775808 ≤ op ∧ op ≤ 9223372036854775807 ∧ v.wfI ∧ wfIE args
def wfIE : List GE → Prop
  | [] => True
  | x :: r => x.wfI ∧ wfIE r
end
theorem wfIE_of : ∀ (l : List GE), (∀ x ∈ l, x.wfI) → wfIE l
  | [], _ => trivial
  | x :: r, h => ⟨h x (by simp), wfIE_of r fun y hy => h y (by simp [hy])⟩
theorem len_ebks : ∀ (l : List GE), l.length ≤ ebks l
  | [] => by simp
  | ⟨op, text, v, args⟩ :: r => by have := len_ebks r; simp only [ebks, GE.ebk, List.length_cons]; omega
mutual
theorem fitE_of : ∀ (x : GE), x.wfI → x.ebk ≤ 1048576 → x.fit
  | ⟨op, text, v, args⟩, h, hb => by
    simp only [GE.wfI] at h
    simp only [GE.ebk] at hb
    have := len_ebks args
    simp only [GE.fit]
    exact ⟨h.1, h.2.1, by omega, fit_of v h.2.2.1 (by omega), by omega, fitEs_of args h.2.2.2 (by omega)⟩
theorem fitEs_of : ∀ (l : List GE), wfIE l → ebks l ≤ 1048576 → fitE l
  | [], _, _ => trivial
  | x :: r, h, hb => by
    simp only [ebks] at hb
    exact ⟨fitE_of x h.1 (by omega), fitEs_of r h.2 (by omega)⟩
end
mutual
theorem okW_of : ∀ (x : GE), x.ebk ≤ 1048576 → x.okW
  | ⟨op, text, v, args⟩, hb => by
    simp only [GE.ebk] at hb
    have := len_ebks args
    simp only [GE.okW, bulkL]
    exact ⟨by omega, by omega, okWs_of args (by omega)⟩
theorem okWs_of : ∀ (l : List GE), ebks l ≤ 1048576 → okWs l
  | [], _ => trivial
  | x :: r, hb => by
    simp only [ebks] at hb
    exact ⟨okW_of x (by omega), okWs_of r (by omega)⟩
end
theorem ebks_le {H : Type} : ∀ (l : List GE) (es : List (DataW H)), l.length = es.length → (∀ i (h : i < l.length) (h' : i < es.length), l[i].ebk ≤ Rows.uptoBulk es[i]) → ebks l ≤ Rows.uptoBulkAll es
  | [], [], _, _ => by simp [ebks]
  | x :: r, e :: s, h, g => by
    have h0 := g 0 (by simp) (by simp)
    have hr := ebks_le r s (by simpa using h) (fun i h h' => g (i + 1) (by simpa using h) (by simpa using h'))
    simp only [ebks, Rows.uptoBulkAll]
    simp only [List.getElem_cons_zero] at h0
    omega
  | [], _ :: _, h, _ => by simp at h
  | _ :: _, [], h, _ => by simp at h
end
end Go.Proofs.YtljljhjdlicfeaaGreat
namespace Go.Proofs.YtljljhjdlicfeaaGreat
open Go Go.ChangeShapes Go.WideShapes Go.ChangeAt Go.RowKit
set_option maxRecDepth 100000
set_option linter.unusedVariables false
section
variable {H : Type} {enc : TypeId × Value → H} {W : World}
theorem read_exprs_of (fuel : Nat) (ih : ∀ n, n < fuel → ∀ cs (x : DataW H × List MemPlace), DataW.trod enc Tryz.prog W 0 (fun _ => true) true n 38 cs = some x →
      ∃ (g : GE) (s sa : Value), cs = [.int .i64 g.op, .string g.text, .int .i64 g.v.k, .bool g.v.b, .int .i64 g.v.n, .string g.v.t, s, sa] ∧ (isL W 0 W.heap.size s g.v.l ∧ isX W W.heap.size sa g.args) ∧ g.wfI ∧ g.ebk ≤ Rows.uptoBulk x.1)
    (cs : List Value) (x : DataW H × List MemPlace) (h : DataW.trod enc Tryz.prog W 0 (fun _ => true) true fuel 22 cs = some x) :
    ∃ (s : Value) (l : List GE), cs = [s] ∧ isX W W.heap.size s l ∧ wfIE l ∧ ebks l + 1 ≤ Rows.uptoBulk x.1 := by
  rcases DataW.trod_slice Tryz.underlying22 h with ⟨rfl, rfl⟩ | ⟨a, len, cap, elems, rest, n, rfl, rfl, rfl, _, hl, _, hlen, hel, _, _⟩
  · exact ⟨_, [], rfl, isX_nil5 _ _, trivial, by simp [ebks, Rows.uptoBulk]⟩
  · have each : ∀ i : Fin len, ∃ g : GE, (∃ s sa, W.cells? 0 (a.add (i * 8)) 8 = some [.int .i64 g.op, .string g.text, .int .i64 g.v.k, .bool g.v.b, .int .i64 g.v.n, .string g.v.t, s, sa] ∧ isL W 0 W.heap.size s g.v.l ∧ isX W W.heap.size sa g.args) ∧ g.wfI ∧ g.ebk ≤ Rows.uptoBulk (elems[i]'(by rw [hlen]; exact i.2)).1 := by
      intro ⟨i, hi⟩
      have h1 := hel i hi
      rw [cE, List.getElem?_eq_getElem (by omega)] at h1
      obtain ⟨cs', hc, ht⟩ := Option.bind_eq_some_iff.1 h1
      obtain ⟨g, s, sa, rfl, hs, hw, hbk⟩ := ih n (by omega) _ _ ht
      exact ⟨g, ⟨s, sa, hc, hs.1, hs.2⟩, hw, hbk⟩
    obtain ⟨f, hf⟩ := Classical.axiomOfChoice each
    refine ⟨_, List.ofFn f, rfl, ?_, wfIE_of _ (fun y hy => by obtain ⟨i, rfl⟩ := List.mem_ofFn.1 hy; exact (hf i).2.1), ?_⟩
    · have hlf : (List.ofFn f).length = len := by simp
      have key : isX W W.heap.size (.slice (some a) (List.ofFn f).length cap) (List.ofFn f) := by
        refine isE_mk (b := a.block) (off := a.off) (by rw [hlf]; exact hl) trivial (fun h0 => ?_) (fun i hi => ?_)
        · rw [hlf] at h0
          obtain ⟨⟨s, sa, hc, _⟩, _⟩ := hf ⟨0, h0⟩
          obtain ⟨_, _, hcell⟩ := World.cells?_some hc
          have hc0 := hcell 0 (by omega)
          have ha : a = ⟨a.block, a.off, none⟩ := by
            have := no_spot (a := (a.add (0 * 8)).add 0) (by rw [hc0]; rfl)
            simpa [Addr.add] using this
          refine ⟨congrArg some ha, Nat.zero_le _, ?_⟩
          have := World.cells?_block hc (by omega)
          simpa [Addr.add] using this
        · have hi' : i < len := by rw [hlf] at hi; exact hi
          obtain ⟨⟨s, sa, hc, hs, hsa⟩, _⟩ := hf ⟨i, hi'⟩
          obtain ⟨⟨s0, sa0, hc00, _⟩, _⟩ := hf ⟨0, by omega⟩
          obtain ⟨_, _, hcell0⟩ := World.cells?_some hc00
          have ha : a = ⟨a.block, a.off, none⟩ := by
            have := no_spot (a := (a.add (0 * 8)).add 0) (by rw [hcell0 0 (by omega)]; rfl)
            simpa [Addr.add] using this
          obtain ⟨_, _, hcell⟩ := World.cells?_some hc
          have c : ∀ o u, o < 8 → ([.int .i64 (f ⟨i, hi'⟩).op, .string (f ⟨i, hi'⟩).text, .int .i64 (f ⟨i, hi'⟩).v.k, .bool (f ⟨i, hi'⟩).v.b, .int .i64 (f ⟨i, hi'⟩).v.n, .string (f ⟨i, hi'⟩).v.t, s, sa] : List Value)[o]? = some u → W.cell? ⟨a.block, a.off + i * 8 + o, none⟩ = some u := fun o u ho hu => by
            have := (hcell o ho).trans hu
            rw [ha] at this
            simpa only [add_off] using this
          rw [List.getElem_ofFn]
          exact cellsE_mk (c 0 _ (by omega) rfl) (c 1 _ (by omega) rfl) (c 2 _ (by omega) rfl) (c 3 _ (by omega) rfl) (c 4 _ (by omega) rfl) (c 5 _ (by omega) rfl) (c 6 _ (by omega) rfl) (c 7 _ (by omega) rfl) hs hsa
      rwa [hlf] at key
    · have := ebks_le (List.ofFn f) (elems.map (·.1)) (by simp [hlen]) (fun i h h' => by
        rw [List.getElem_ofFn, List.getElem_map]
        exact (hf ⟨i, by simpa using h⟩).2.2)
      simp only [Rows.uptoBulk]
      omega
theorem read_expr : ∀ (fuel : Nat) (cs : List Value) (x : DataW H × List MemPlace), DataW.trod enc Tryz.prog W 0 (fun _ => true) true fuel 38 cs = some x →
      ∃ (g : GE) (s sa : Value), cs = [.int .i64 g.op, .string g.text, .int .i64 g.v.k, .bool g.v.b, .int .i64 g.v.n, .string g.v.t, s, sa] ∧ (isL W 0 W.heap.size s g.v.l ∧ isX W W.heap.size sa g.args) ∧ g.wfI ∧ g.ebk ≤ Rows.uptoBulk x.1 := by
  intro fuel
  induction fuel using Nat.strongRecOn with
  | _ fuel ih =>
    intro cs x h
    obtain ⟨xs, n, rfl, rfl, hl, hlen, hf⟩ := DataW.trod_struct Tryz.underlying38 h
    rw [cE] at hl
    have h0 : DataW.trod enc Tryz.prog W 0 (fun _ => true) true n 3 ((cs.drop 0).take (Tryz.prog.cellsOf 3)) = xs[0]? := hf 0 _ rfl
    rw [cI] at h0
    have h1 : DataW.trod enc Tryz.prog W 0 (fun _ => true) true n 9 ((cs.drop 1).take (Tryz.prog.cellsOf 9)) = xs[1]? := hf 1 _ rfl
    rw [cS] at h1
    have h2 : DataW.trod enc Tryz.prog W 0 (fun _ => true) true n 36 ((cs.drop 2).take (Tryz.prog.cellsOf 36)) = xs[2]? := hf 2 _ rfl
    rw [cV] at h2
    have h3 : DataW.trod enc Tryz.prog W 0 (fun _ => true) true n 22 ((cs.drop 7).take (Tryz.prog.cellsOf 22)) = xs[3]? := hf 3 _ rfl
    rw [cSE] at h3
    have hx : xs.length = 4 := hlen
    match xs, hx, h0, h1, h2, h3 with
    | [y0, y1, y2, y3], _, h0, h1, h2, h3 =>
      simp only [List.getElem?_cons_zero, List.getElem?_cons_succ] at h0 h1 h2 h3
      obtain ⟨k, e0, rfl, w0⟩ := DataW.trod_int Tryz.underlying3 h0
      obtain ⟨t, e1, rfl, _⟩ := DataW.trod_string Tryz.underlying9 h1
      obtain ⟨v, s, e2, hs, hwv, hbv⟩ := read_value n _ _ h2
      obtain ⟨sa, l, e3, hsa, hw, hbk⟩ := read_exprs_of n (fun j hj => ih j (by omega)) _ _ h3
      refine ⟨⟨k, t, v, l⟩, s, sa, ?_, ⟨hs, hsa⟩, ?_, ?_⟩
      · match cs, hl, e0, e1, e2, e3 with
        | [c0, c1, c2, c3, c4, c5, c6, c7], _, e0, e1, e2, e3 =>
          simp at e0 e1 e2 e3
          obtain ⟨e2, e4, e5, e6, e7⟩ := e2
          rw [e0, e1, e2, e3, e4, e5, e6, e7]
      · have := wf_i64 w0
        simp only [GE.wfI]
        exact ⟨by omega, by omega, hwv, hw⟩
      · simp only [GE.ebk, List.map_cons, List.map_nil, Rows.uptoBulk, Rows.uptoBulkAll]
        have : t.data.toList.length = t.size := Array.length_toList
        omega
end
end Go.Proofs.YtljljhjdlicfeaaGreat
namespace Go.Proofs.YtljljhjdlicfeaaGreat
open Go Go.ChangeShapes Go.WideShapes Go.ChangeAt Go.RowKit
set_option maxRecDepth 100000
set_option linter.unusedVariables false
theorem cSI : Tryz.prog.cellsOf 50 = 1 := by kernel_rfl
theorem cSFd : Tryz.prog.cellsOf 53 = 1 := by kernel_rfl
theorem cSSI : Tryz.prog.cellsOf 23 = 1 := by kernel_rfl
theorem cSP : Tryz.prog.cellsOf 24 = 1 := by kernel_rfl
theorem cSF : Tryz.prog.cellsOf 25 = 1 := by kernel_rfl
theorem cSK : Tryz.prog.cellsOf 26 = 1 := by kernel_rfl
theorem cFd : Tryz.prog.cellsOf 120 = 3 := by kernel_rfl
theorem cP : Tryz.prog.cellsOf 49 = 6 := by kernel_rfl
theorem cF : Tryz.prog.cellsOf 52 = 6 := by kernel_rfl
theorem cK : Tryz.prog.cellsOf 55 = 3 := by kernel_rfl
def sumB {α : Type} (bk : α → Nat) : List α → Nat
  | [] => 0
  | x :: r => bk x + sumB bk r
theorem sumB_mem {α : Type} {bk : α → Nat} : ∀ {l : List α} {x : α}, x ∈ l → bk x ≤ sumB bk l
  | y :: r, x, h => by
    rcases List.mem_cons.1 h with rfl | h
    · simp only [sumB]; omega
    · have := sumB_mem (bk := bk) h
      simp only [sumB]; omega
theorem sumB_len {α : Type} {bk : α → Nat} (h : ∀ x, 1 ≤ bk x) : ∀ l : List α, l.length ≤ sumB bk l
  | [] => by simp
  | y :: r => by have := sumB_len h r; have := h y; simp only [sumB, List.length_cons]; omega
theorem sumB_le {α H : Type} {bk : α → Nat} : ∀ (l : List α) (es : List (DataW H)), l.length = es.length → (∀ i (h : i < l.length) (h' : i < es.length), bk l[i] ≤ Rows.uptoBulk es[i]) → sumB bk l ≤ Rows.uptoBulkAll es
  | [], [], _, _ => by simp [sumB]
  | x :: r, e :: s, h, g => by
    have h0 := g 0 (by simp) (by simp)
    have hr := sumB_le r s (by simpa using h) (fun i h h' => g (i + 1) (by simpa using h) (by simpa using h'))
    simp only [sumB, Rows.uptoBulkAll]
    simp only [List.getElem_cons_zero] at h0
    omega
  | [], _ :: _, h, _ => by simp at h
  | _ :: _, [], h, _ => by simp at h
section
variable {H : Type} {enc : TypeId × Value → H} {W : Go.World}
theorem read_rows {α : Type} {T TE : TypeId} {sz : Nat} (R : Go.World → α → List Value → Prop) (bk : α → Nat) (P : α → Prop) (hT : Tryz.prog.underlying T = some (.slice TE)) (hsz : Tryz.prog.cellsOf TE = sz) (hp : 0 < sz) (fuel : Nat)
    (ih : ∀ n, n < fuel → ∀ cs (x : DataW H × List MemPlace), DataW.trod enc Tryz.prog W 0 (fun _ => true) true n TE cs = some x → ∃ g, R W g cs ∧ P g ∧ bk g ≤ Rows.uptoBulk x.1)
    (cs : List Value) (x : DataW H × List MemPlace) (h : DataW.trod enc Tryz.prog W 0 (fun _ => true) true fuel T cs = some x) :
    ∃ (s : Value) (l : List α), cs = [s] ∧ isG W W.heap.size sz R s l ∧ (∀ g ∈ l, P g) ∧ sumB bk l + 1 ≤ Rows.uptoBulk x.1 := by
  rcases DataW.trod_slice hT h with ⟨rfl, rfl⟩ | ⟨a, len, cap, elems, rest, n, rfl, rfl, rfl, _, hl, _, hlen, hel, _, _⟩
  · exact ⟨_, [], rfl, isG_nil _ _ _ _, fun _ h => absurd h (by simp), by simp [sumB, Rows.uptoBulk]⟩
  · have each : ∀ i : Fin len, ∃ g : α, (∃ cs, W.cells? 0 (a.add (i * sz)) sz = some cs ∧ R W g cs) ∧ P g ∧ bk g ≤ Rows.uptoBulk (elems[i]'(by rw [hlen]; exact i.2)).1 := by
      intro ⟨i, hi⟩
      have h1 := hel i hi
      rw [hsz, List.getElem?_eq_getElem (by omega)] at h1
      obtain ⟨cs', hc, ht⟩ := Option.bind_eq_some_iff.1 h1
      obtain ⟨g, hr, hw, hbk⟩ := ih n (by omega) _ _ ht
      exact ⟨g, ⟨cs', hc, hr⟩, hw, hbk⟩
    obtain ⟨f, hf⟩ := Classical.axiomOfChoice each
    refine ⟨_, List.ofFn f, rfl, ?_, fun y hy => by obtain ⟨i, rfl⟩ := List.mem_ofFn.1 hy; exact (hf i).2.1, ?_⟩
    · have hlf : (List.ofFn f).length = len := by simp
      have key : isG W W.heap.size sz R (.slice (some a) (List.ofFn f).length cap) (List.ofFn f) := by
        refine ⟨some a, cap, a.block, a.off, rfl, by rw [hlf]; exact hl, fun h0 => ?_, fun i hi => ?_⟩
        · rw [hlf] at h0
          obtain ⟨⟨cs, hc, _⟩, _⟩ := hf ⟨0, h0⟩
          obtain ⟨hlc, _, hcell⟩ := World.cells?_some hc
          have hc0 := hcell 0 (by omega)
          have ha : a = ⟨a.block, a.off, none⟩ := by
            have := no_spot (a := (a.add (0 * sz)).add 0) (by rw [hc0, List.getElem?_eq_getElem (by omega)])
            simpa [Addr.add] using this
          refine ⟨congrArg some ha, ?_⟩
          have := World.cells?_block hc (by omega)
          simpa [Addr.add] using this
        · have hi' : i < len := by rw [hlf] at hi; exact hi
          obtain ⟨⟨cs, hc, hs⟩, _⟩ := hf ⟨i, hi'⟩
          obtain ⟨⟨cs0, hc00, _⟩, _⟩ := hf ⟨0, by omega⟩
          obtain ⟨hlc0, _, hcell0⟩ := World.cells?_some hc00
          have ha : a = ⟨a.block, a.off, none⟩ := by
            have := no_spot (a := (a.add (0 * sz)).add 0) (by rw [hcell0 0 (by omega), List.getElem?_eq_getElem (by omega)])
            simpa [Addr.add] using this
          obtain ⟨hlc, _, hcell⟩ := World.cells?_some hc
          refine ⟨cs, by rw [List.getElem_ofFn]; exact hs, fun o u hu => ?_⟩
          have ho : o < sz := by have := (List.getElem?_eq_some_iff.1 hu).1; omega
          have := (hcell o ho).trans hu
          rw [ha] at this
          simpa only [add_off] using this
      rwa [hlf] at key
    · have := sumB_le (bk := bk) (List.ofFn f) (elems.map (·.1)) (by simp [hlen]) (fun i h h' => by
        rw [List.getElem_ofFn, List.getElem_map]
        exact (hf ⟨i, by simpa using h⟩).2.2)
      simp only [Rows.uptoBulk]
      omega
theorem read_field (n0 : Nat) (cs : List Value) (x : DataW H × List MemPlace) (h : DataW.trod enc Tryz.prog W 0 (fun _ => true) true n0 120 cs = some x) : ∃ g : ByteArray, RD W g cs ∧ True ∧ 1 ≤ Rows.uptoBulk x.1 := by
  obtain ⟨xs, n, rfl, rfl, hl, hlen, hf⟩ := DataW.trod_struct Tryz.underlying120 h
  rw [cFd] at hl
  have h0 : DataW.trod enc Tryz.prog W 0 (fun _ => true) true n 9 ((cs.drop 0).take (Tryz.prog.cellsOf 9)) = xs[0]? := hf 0 _ rfl
  rw [cS] at h0
  have h1 : DataW.trod enc Tryz.prog W 0 (fun _ => true) true n 3 ((cs.drop 1).take (Tryz.prog.cellsOf 3)) = xs[1]? := hf 1 _ rfl
  rw [cI] at h1
  have h2 : DataW.trod enc Tryz.prog W 0 (fun _ => true) true n 9 ((cs.drop 2).take (Tryz.prog.cellsOf 9)) = xs[2]? := hf 2 _ rfl
  rw [cS] at h2
  have hx : xs.length = 3 := hlen
  match xs, hx, h0, h1, h2 with
  | [y0, y1, y2], _, h0, h1, h2 =>
    simp only [List.getElem?_cons_zero, List.getElem?_cons_succ] at h0 h1 h2
    obtain ⟨t0, e0, rfl, _⟩ := DataW.trod_string Tryz.underlying9 h0
    obtain ⟨k1, e1, rfl, _⟩ := DataW.trod_int Tryz.underlying3 h1
    obtain ⟨t2, e2, rfl, _⟩ := DataW.trod_string Tryz.underlying9 h2
    refine ⟨t0, ⟨k1, t2, ?_⟩, trivial, ?_⟩
    · match cs, hl, e0, e1, e2 with
      | [c0, c1, c2], _, e0, e1, e2 =>
        simp at e0 e1 e2
        rw [e0, e1, e2]
    · simp only [List.map_cons, List.map_nil, Rows.uptoBulk]; omega
theorem read_pair (n0 : Nat) (cs : List Value) (x : DataW H × List MemPlace) (h : DataW.trod enc Tryz.prog W 0 (fun _ => true) true n0 49 cs = some x) : ∃ g : PV, RP W.heap.size W g cs ∧ g.v.wfI ∧ g.v.bulk + 1 ≤ Rows.uptoBulk x.1 := by
  obtain ⟨xs, n, rfl, rfl, hl, hlen, hf⟩ := DataW.trod_struct Tryz.underlying49 h
  rw [cP] at hl
  have h0 : DataW.trod enc Tryz.prog W 0 (fun _ => true) true n 9 ((cs.drop 0).take (Tryz.prog.cellsOf 9)) = xs[0]? := hf 0 _ rfl
  rw [cS] at h0
  have h1 : DataW.trod enc Tryz.prog W 0 (fun _ => true) true n 36 ((cs.drop 1).take (Tryz.prog.cellsOf 36)) = xs[1]? := hf 1 _ rfl
  rw [cV] at h1
  have hx : xs.length = 2 := hlen
  match xs, hx, h0, h1 with
  | [y0, y1], _, h0, h1 =>
    simp only [List.getElem?_cons_zero, List.getElem?_cons_succ] at h0 h1
    obtain ⟨t0, e0, rfl, _⟩ := DataW.trod_string Tryz.underlying9 h0
    obtain ⟨v, s, e1, hs, hw, hb⟩ := read_value n _ _ h1
    refine ⟨⟨t0, v⟩, ⟨s, ?_, hs⟩, hw, ?_⟩
    · match cs, hl, e0, e1 with
      | [c0, c1, c2, c3, c4, c5], _, e0, e1 =>
        simp at e0 e1
        obtain ⟨e1, e2, e3, e4, e5⟩ := e1
        rw [e0, e1, e2, e3, e4, e5]
    · simp only [List.map_cons, List.map_nil, Rows.uptoBulk, Rows.uptoBulkAll]; omega
theorem slice_form {T TE : TypeId} (hT : Tryz.prog.underlying T = some (.slice TE)) (fuel : Nat) (cs : List Value) (x : DataW H × List MemPlace) (h : DataW.trod enc Tryz.prog W 0 (fun _ => true) true fuel T cs = some x) : ∃ a n c, cs = [.slice a n c] := by
  rcases DataW.trod_slice hT h with ⟨rfl, rfl⟩ | ⟨a, len, cap, elems, rest, n, rfl, rfl, rfl, _, hl, _, hlen, hel, _, _⟩
  · exact ⟨_, _, _, rfl⟩
  · exact ⟨_, _, _, rfl⟩
theorem read_fact (n0 : Nat) (cs : List Value) (x : DataW H × List MemPlace) (h : DataW.trod enc Tryz.prog W 0 (fun _ => true) true n0 52 cs = some x) : ∃ g : FV, RF W.heap.size W g cs ∧ wfIL g.vals ∧ bulkL g.vals + 1 ≤ Rows.uptoBulk x.1 := by
  obtain ⟨xs, n, rfl, rfl, hl, hlen, hf⟩ := DataW.trod_struct Tryz.underlying52 h
  rw [cF] at hl
  have h0 : DataW.trod enc Tryz.prog W 0 (fun _ => true) true n 3 ((cs.drop 0).take (Tryz.prog.cellsOf 3)) = xs[0]? := hf 0 _ rfl
  rw [cI] at h0
  have h1 : DataW.trod enc Tryz.prog W 0 (fun _ => true) true n 9 ((cs.drop 1).take (Tryz.prog.cellsOf 9)) = xs[1]? := hf 1 _ rfl
  rw [cS] at h1
  have h2 : DataW.trod enc Tryz.prog W 0 (fun _ => true) true n 34 ((cs.drop 2).take (Tryz.prog.cellsOf 34)) = xs[2]? := hf 2 _ rfl
  rw [cSV] at h2
  have h3 : DataW.trod enc Tryz.prog W 0 (fun _ => true) true n 4 ((cs.drop 3).take (Tryz.prog.cellsOf 4)) = xs[3]? := hf 3 _ rfl
  rw [cB] at h3
  have h4 : DataW.trod enc Tryz.prog W 0 (fun _ => true) true n 3 ((cs.drop 4).take (Tryz.prog.cellsOf 3)) = xs[4]? := hf 4 _ rfl
  rw [cI] at h4
  have h5 : DataW.trod enc Tryz.prog W 0 (fun _ => true) true n 50 ((cs.drop 5).take (Tryz.prog.cellsOf 50)) = xs[5]? := hf 5 _ rfl
  rw [cSI] at h5
  have hx : xs.length = 6 := hlen
  match xs, hx, h0, h1, h2, h3, h4, h5 with
  | [y0, y1, y2, y3, y4, y5], _, h0, h1, h2, h3, h4, h5 =>
    simp only [List.getElem?_cons_zero, List.getElem?_cons_succ] at h0 h1 h2 h3 h4 h5
    obtain ⟨k0, e0, rfl, _⟩ := DataW.trod_int Tryz.underlying3 h0
    obtain ⟨t1, e1, rfl, _⟩ := DataW.trod_string Tryz.underlying9 h1
    obtain ⟨s, l, e2, hs, hw, hb⟩ := read_slice n (fun m _ => read_value m) _ _ h2
    obtain ⟨b3, e3, rfl⟩ := DataW.trod_bool Tryz.underlying4 h3
    obtain ⟨k4, e4, rfl, _⟩ := DataW.trod_int Tryz.underlying3 h4
    obtain ⟨a5, n5, c5', e5⟩ := slice_form Tryz.underlying50 n _ _ h5
    refine ⟨⟨k0, t1, l⟩, ⟨s, b3, k4, a5, n5, c5', ?_, hs⟩, hw, ?_⟩
    · match cs, hl, e0, e1, e2, e3, e4, e5 with
      | [c0, c1, c2, c3, c4, c5], _, e0, e1, e2, e3, e4, e5 =>
        simp at e0 e1 e2 e3 e4 e5
        rw [e0, e1, e2, e3, e4, e5]
    · simp only [List.map_cons, List.map_nil, Rows.uptoBulk, Rows.uptoBulkAll]; omega
theorem read_class (n0 : Nat) (cs : List Value) (x : DataW H × List MemPlace) (h : DataW.trod enc Tryz.prog W 0 (fun _ => true) true n0 55 cs = some x) : ∃ g : KV, RK W.heap.size W g cs ∧ True ∧ g.flds.length + 1 ≤ Rows.uptoBulk x.1 := by
  obtain ⟨xs, n, rfl, rfl, hl, hlen, hf⟩ := DataW.trod_struct Tryz.underlying55 h
  rw [cK] at hl
  have h0 : DataW.trod enc Tryz.prog W 0 (fun _ => true) true n 9 ((cs.drop 0).take (Tryz.prog.cellsOf 9)) = xs[0]? := hf 0 _ rfl
  rw [cS] at h0
  have h1 : DataW.trod enc Tryz.prog W 0 (fun _ => true) true n 9 ((cs.drop 1).take (Tryz.prog.cellsOf 9)) = xs[1]? := hf 1 _ rfl
  rw [cS] at h1
  have h2 : DataW.trod enc Tryz.prog W 0 (fun _ => true) true n 53 ((cs.drop 2).take (Tryz.prog.cellsOf 53)) = xs[2]? := hf 2 _ rfl
  rw [cSFd] at h2
  have hx : xs.length = 3 := hlen
  match xs, hx, h0, h1, h2 with
  | [y0, y1, y2], _, h0, h1, h2 =>
    simp only [List.getElem?_cons_zero, List.getElem?_cons_succ] at h0 h1 h2
    obtain ⟨t0, e0, rfl, _⟩ := DataW.trod_string Tryz.underlying9 h0
    obtain ⟨t1, e1, rfl, _⟩ := DataW.trod_string Tryz.underlying9 h1
    obtain ⟨s, l, e2, hs, _, hb⟩ := read_rows RD (fun _ => 1) (fun _ => True) Tryz.underlying53 cFd (by omega) n (fun m _ => read_field m) _ _ h2
    have hlen2 := sumB_len (bk := fun _ : ByteArray => 1) (fun _ => Nat.le_refl _) l
    refine ⟨⟨t0, t1, l⟩, ⟨s, ?_, hs⟩, trivial, ?_⟩
    · match cs, hl, e0, e1, e2 with
      | [c0, c1, c2], _, e0, e1, e2 =>
        simp at e0 e1 e2
        rw [e0, e1, e2]
    · simp only [List.map_cons, List.map_nil, Rows.uptoBulk, Rows.uptoBulkAll]; omega
theorem read_ask {v : Value} {d : DataW H} {p : List MemPlace} (hv : ∃ cs, v = .agg cs ∧ cs.size = Tryz.prog.cellsOf 28) (h : DataW.Trod enc Tryz.prog W 0 (fun _ => true) true 28 v d p) (hd : Rows.uptoBulk d ≤ 1048576) :
    ∃ (sL sI s0 s1 s2 s3 : Value) (fuel : Int) (L : List GE) (V : WV), v = .agg #[sL, sI, s0, s1, s2, s3, .int .i64 fuel] ∧ isX W W.heap.size sL L ∧ wfIE L ∧ ebks L ≤ 1048576 ∧ isAsk W W.heap.size V s0 s1 s2 s3 ∧ V.fit ∧ V.small ∧ (∀ f ∈ V.facts, f.vals.length ≤ 2147483647) ∧
      (∀ p ∈ V.vars, p.v.wfI) ∧ -9223372036854775808 ≤ fuel ∧ fuel ≤ 9223372036854775807 := by
  obtain ⟨csa, rfl, hc⟩ := hv
  obtain ⟨fuel, h⟩ := h
  obtain ⟨xs, n, hfu, e, hl, hlen, hf⟩ := DataW.trod_struct Tryz.underlying28 h
  obtain ⟨cs, hcs⟩ : ∃ cs, cs = (Value.agg csa).cells.toList := ⟨_, rfl⟩
  rw [← hcs] at hl hf
  have h0 : DataW.trod enc Tryz.prog W 0 (fun _ => true) true n 22 ((cs.drop 0).take (Tryz.prog.cellsOf 22)) = xs[0]? := hf 0 _ rfl
  rw [cSE] at h0
  have h1 : DataW.trod enc Tryz.prog W 0 (fun _ => true) true n 23 ((cs.drop 1).take (Tryz.prog.cellsOf 23)) = xs[1]? := hf 1 _ rfl
  rw [cSSI] at h1
  have h2 : DataW.trod enc Tryz.prog W 0 (fun _ => true) true n 24 ((cs.drop 2).take (Tryz.prog.cellsOf 24)) = xs[2]? := hf 2 _ rfl
  rw [cSP] at h2
  have h3 : DataW.trod enc Tryz.prog W 0 (fun _ => true) true n 24 ((cs.drop 3).take (Tryz.prog.cellsOf 24)) = xs[3]? := hf 3 _ rfl
  rw [cSP] at h3
  have h4 : DataW.trod enc Tryz.prog W 0 (fun _ => true) true n 25 ((cs.drop 4).take (Tryz.prog.cellsOf 25)) = xs[4]? := hf 4 _ rfl
  rw [cSF] at h4
  have h5 : DataW.trod enc Tryz.prog W 0 (fun _ => true) true n 26 ((cs.drop 5).take (Tryz.prog.cellsOf 26)) = xs[5]? := hf 5 _ rfl
  rw [cSK] at h5
  have h6 : DataW.trod enc Tryz.prog W 0 (fun _ => true) true n 3 ((cs.drop 6).take (Tryz.prog.cellsOf 3)) = xs[6]? := hf 6 _ rfl
  rw [cI] at h6
  have hx : xs.length = 7 := hlen
  match xs, hx, h0, h1, h2, h3, h4, h5, h6 with
  | [y0, y1, y2, y3, y4, y5, y6], _, h0, h1, h2, h3, h4, h5, h6 =>
    simp only [List.getElem?_cons_zero, List.getElem?_cons_succ] at h0 h1 h2 h3 h4 h5 h6
    obtain ⟨sL, L, e0, hL, hwL, hbL⟩ := read_exprs_of n (fun m _ => read_expr m) _ _ h0
    obtain ⟨a1, n1, c1', e1⟩ := slice_form Tryz.underlying23 n _ _ h1
    obtain ⟨s2, l2, e2, hs2, hw2, hb2⟩ := read_rows (RP W.heap.size) (fun g => g.v.bulk + 1) (fun g => g.v.wfI) Tryz.underlying24 cP (by omega) n (fun m _ => read_pair m) _ _ h2
    obtain ⟨s3, l3, e3, hs3, hw3, hb3⟩ := read_rows (RP W.heap.size) (fun g => g.v.bulk + 1) (fun g => g.v.wfI) Tryz.underlying24 cP (by omega) n (fun m _ => read_pair m) _ _ h3
    obtain ⟨s4, l4, e4, hs4, hw4, hb4⟩ := read_rows (RF W.heap.size) (fun g => bulkL g.vals + 1) (fun g => wfIL g.vals) Tryz.underlying25 cF (by omega) n (fun m _ => read_fact m) _ _ h4
    obtain ⟨s5, l5, e5, hs5, _, hb5⟩ := read_rows (RK W.heap.size) (fun g => g.flds.length + 1) (fun _ => True) Tryz.underlying26 cK (by omega) n (fun m _ => read_class m) _ _ h5
    obtain ⟨k6, e6, rfl, w6⟩ := DataW.trod_int Tryz.underlying3 h6
    have hc7 : csa.size = 7 := by rw [hc]; kernel_rfl
    have ee : csa = #[sL, .slice a1 n1 c1', s2, s3, s4, s5, .int .i64 k6] := by
      apply Array.ext'
      match hcs2 : csa.toList, (show csa.toList.length = 7 from hc7) with
      | [u0, u1, u2, u3, u4, u5, u6], _ =>
        rw [show cs = [u0, u1, u2, u3, u4, u5, u6] from by rw [hcs]; simp [Value.cells, hcs2]] at e0 e1 e2 e3 e4 e5 e6
        simp at e0 e1 e2 e3 e4 e5 e6
        rw [e0, e1, e2, e3, e4, e5, e6]
    simp only [Prod.mk.injEq] at e
    rw [e.1] at hd
    simp only [List.map_cons, List.map_nil, Rows.uptoBulk, Rows.uptoBulkAll] at hd
    have g2 := sumB_len (bk := fun g : PV => g.v.bulk + 1) (fun _ => by omega) l2
    have g3 := sumB_len (bk := fun g : PV => g.v.bulk + 1) (fun _ => by omega) l3
    have g4 := sumB_len (bk := fun g : FV => bulkL g.vals + 1) (fun _ => by omega) l4
    have g5 := sumB_len (bk := fun g : KV => g.flds.length + 1) (fun _ => by omega) l5
    have m2 : ∀ p ∈ l2, p.v.bulk ≤ 1048576 := fun p hp => by have := sumB_mem (bk := fun g : PV => g.v.bulk + 1) hp; omega
    have m3 : ∀ p ∈ l3, p.v.bulk ≤ 1048576 := fun p hp => by have := sumB_mem (bk := fun g : PV => g.v.bulk + 1) hp; omega
    have m4 : ∀ f ∈ l4, bulkL f.vals ≤ 1048576 := fun p hp => by have := sumB_mem (bk := fun g : FV => bulkL g.vals + 1) hp; omega
    have m5 : ∀ c ∈ l5, c.flds.length ≤ 1048576 := fun p hp => by have := sumB_mem (bk := fun g : KV => g.flds.length + 1) hp; omega
    have := wf_i64 w6
    refine ⟨sL, _, s2, s3, s4, s5, k6, L, ⟨l2, l3, l4, l5⟩, by rw [ee], hL, hwL, by omega, ⟨hs2, hs3, hs4, hs5⟩, ⟨fun p hp => fit_of _ (hw2 p hp) (m2 p hp), fun p hp => fit_of _ (hw3 p hp) (m3 p hp), fun f hf => fitL_of _ (hw4 f hf) (m4 f hf)⟩, ⟨by show l2.length ≤ _; omega, by show l3.length ≤ _; omega, by show l4.length ≤ _; omega, by show l5.length ≤ _; omega, fun p hp => by have := m2 p hp; simp only [bulkL]; omega, fun p hp => by have := m3 p hp; simp only [bulkL]; omega, m4, m5⟩, fun f hf => by have := m4 f hf; have := len_bulk f.vals; omega, hw2, by omega, by omega⟩
end
end Go.Proofs.YtljljhjdlicfeaaGreat
