/-
  What a row asks behind the call, where the call has turned nothing that was there. Conditions: none.
-/
import Derived.Test.YtljljhjdlicfeaaGreatRows
import Derived.WalkKit
import Derived.ProofKit
import Derived.OpenShut
import Derived.JoinedCond
import Derived.Test.YtljljhjdlicfeaaGreatMA
import Derived.ReadAgain
import Derived.ChangeBears2
namespace Go.Proofs.YtljljhjdlicfeaaGreat
open Go Go.ChangeShapes Go.WideShapes Go.ChangeAt Go.RowKit
set_option maxRecDepth 100000
set_option linter.unusedVariables false
theorem post_below {H : Type} {enc : TypeId × Value → H} {P : Program} {f : Func} {s : ChangeSpec} {apart fresh handsOn again : Bool} {W W' : World} {args : Array Value} {v : Value} {ds gs : List (DataW H)} {before pa pv : List MemPlace}
    (hW : DataW.Whole enc P f.params.toList s.vars apart W args.toList ds gs before)
    (hres : ∀ (b : Nat) (sp : Nat → Bool) (hd : Bool), DataW.TrodAll enc P W' b sp hd f.resultTypes.toList (v.resultList f.resultTypes.size) (s.fn H (ds ++ gs)).results [])
    (hargs : ∀ sp : Nat → Bool, (∀ p ∈ before, sp p.block = true) → DataW.TrodAll enc P W' 0 sp true f.params.toList args.toList (s.fn H (ds ++ gs)).args pa)
    (hvars : ∀ sp : Nat → Bool, (∀ p ∈ before, sp p.block = true) → DataW.TrodVars enc P W' sp s.vars (s.fn H (ds ++ gs)).vars pv)
    (hps : before = pa ++ pv) (hb : Below W.heap.size W W')
    (hok : ∀ (j : Nat) (t : TypeId) (r : Value), f.resultTypes[j]? = some t → (v.resultList f.resultTypes.size)[j]? = some r → Value.okWide P W' .any 0 t r) :
    s.post enc P f apart fresh handsOn again W args v W' := by
  have hlt := fun p hp => hW.lt (p := p) hp
  have hold : ∀ p ∈ before, (fun b => decide (b < W.heap.size)) p.block = true := fun p hp => by simpa using hW.lt p hp
  refine ⟨ds, gs, before, [], pa, pv, hW, hres _ _ _, hargs _ hold, hvars _ hold, World.keptBut_mono (fun p hp => ⟨hp, ?_⟩) (hb.frame (· ∈ before)), fun _ => ?_⟩
  · rw [hps, List.mem_append] at hp
    exact Or.inr hp
  · obtain ⟨_, _, _, _, _, hz, hn⟩ := hW
    refine ⟨hok, _, _, ([] ++ pa) ++ pv, ⟨[] ++ pa, pv, trodAll_append (hargs _ (fun _ _ => rfl)) (hres _ _ _), hvars _ (fun _ _ => rfl), rfl, ?_, ?_⟩, ?_⟩
    · intro b off hp
      have hm : MemPlace.cell b off ∈ before := by rw [hps]; simpa using hp
      rw [hb.frozen (p := ⟨b, off, none⟩) (hlt _ hm)]
      exact hz b off hm
    · intro ha
      have := hn ha
      rw [hps] at this
      simpa using this
    · intro p hp _
      rw [hps]
      simpa using hp
end Go.Proofs.YtljljhjdlicfeaaGreat
namespace Go.Proofs.YtljljhjdlicfeaaGreat
open Go Go.ChangeShapes Go.WideShapes Go.ChangeAt Go.RowKit
set_option maxRecDepth 100000
set_option linter.unusedVariables false
theorem tkids : Kids Tryz.prog (· < Tryz.prog.types.size) := kids_rows (by kernel_rfl) (by kernel_rfl)
theorem tfull : ∀ t e, t < Tryz.prog.types.size → Tryz.prog.underlying t = some (.slice e) → 0 < Tryz.prog.cellsOf e := slices_full_of Tryz.prog (by kernel_rfl)
theorem again_below {H : Type} {enc : TypeId × Value → H} {W W' : World} {ts : List TypeId} {vs : List Value} {ds : List (DataW H)} {ps : List MemPlace} {sp : Nat → Bool} (hts : ∀ t ∈ ts, t < Tryz.prog.types.size)
    (h : DataW.TrodAll enc Tryz.prog W 0 (fun _ => true) true ts vs ds ps) (hlt : ∀ p ∈ ps, p.block < W.heap.size) (hb : Below W.heap.size W W') (hs : ∀ p ∈ ps, sp p.block = true) : DataW.TrodAll enc Tryz.prog W' 0 sp true ts vs ds ps := by
  have key : ∀ {ts : List TypeId} {vs : List Value} {ds : List (DataW H)} {ps : List MemPlace}, DataW.TrodAll enc Tryz.prog W 0 (fun _ => true) true ts vs ds ps → (∀ p ∈ ps, p.block < W.heap.size) → DataW.TrodAll enc Tryz.prog W' 0 (fun _ => true) true ts vs ds ps := by
    intro ts
    induction ts with
    | nil => intro vs ds ps h _; cases vs <;> cases ds <;> exact h
    | cons t r ih =>
      intro vs ds ps h hlt
      obtain ⟨v, vs1, d, ds1, p, q, rfl, rfl, rfl, ⟨n, h1⟩, h2⟩ := trodAll_cons h
      exact ⟨p, q, ⟨n, DataW.trod_carry n _ _ _ h1 (fun x hx => hb.same (hlt x (List.mem_append_left _ hx)))⟩, ih h2 (fun x hx => hlt x (List.mem_append_right _ hx)), rfl⟩
  exact DataW.TrodAll.respare tkids tfull hts (key h hlt) hs
mutual
/-- all numbers are int64s -/
def GV.wfI : GV → Prop
  | ⟨k, _, n, _, l⟩ => -9223372036854775808 ≤ k ∧ k ≤ 9223372036854775807 ∧ -9223372036854775808 ≤ n ∧ n ≤ 9223372036854775807 ∧ wfIL l
def wfIL : List GV → Prop
  | [] => True
  | x :: r => x.wfI ∧ wfIL r
end
theorem wfIL_of : ∀ (l : List GV), (∀ x ∈ l, x.wfI) → wfIL l
  | [], _ => trivial
  | x :: r, h => ⟨h x (by simp), wfIL_of r fun y hy => h y (by simp [hy])⟩
mutual
theorem fit_of : ∀ (x : GV), x.wfI → x.bulk ≤ 1048576 → x.fit
  | ⟨k, b, n, t, l⟩, h, hb => by
    simp only [GV.wfI] at h
    rw [bulk_eq] at hb
    dsimp only at hb
    have := len_bulk l
    simp only [GV.fit]
    exact ⟨h.1, h.2.1, h.2.2.1, h.2.2.2.1, by omega, by omega, fitL_of l h.2.2.2.2 (by omega)⟩
theorem fitL_of : ∀ (l : List GV), wfIL l → bulkL l ≤ 1048576 → fitL l
  | [], _, _ => trivial
  | x :: r, h, hb => by
    simp only [bulkL] at hb
    exact ⟨fit_of x h.1 (by omega), fitL_of r h.2 (by omega)⟩
end
theorem bulkL_le {H : Type} : ∀ (l : List GV) (es : List (DataW H)), l.length = es.length → (∀ i (h : i < l.length) (h' : i < es.length), l[i].bulk ≤ Rows.uptoBulk es[i]) → bulkL l ≤ Rows.uptoBulkAll es
  | [], [], _, _ => by simp [bulkL]
  | x :: r, e :: s, h, g => by
    have h0 := g 0 (by simp) (by simp)
    have hr := bulkL_le r s (by simpa using h) (fun i h h' => g (i + 1) (by simpa using h) (by simpa using h'))
    simp only [bulkL, Rows.uptoBulkAll]
    simp only [List.getElem_cons_zero] at h0
    omega
  | [], _ :: _, h, _ => by simp at h
  | _ :: _, [], h, _ => by simp at h
theorem add_off (b o n : Nat) : (⟨b, o, none⟩ : Addr).add n = ⟨b, o + n, none⟩ := by rw [Addr.add_lit]
theorem no_spot {W : World} {a : Addr} {c : Value} (h : W.cell? a = some c) : a = ⟨a.block, a.off, none⟩ := by
  obtain ⟨b, o, s⟩ := a
  cases s with
  | none => rfl
  | some s =>
    simp only [World.cell?] at h
    split at h <;> simp at h
theorem wf_i64 {n : Int} (h : (Lit.int .i64 n).wf = true) : -9223372036854775808 ≤ n ∧ n ≤ 9223372036854775807 := by
  simp only [Lit.wf, Bool.and_eq_true, decide_eq_true_eq] at h
  have e1 : IntKind.i64.min = -9223372036854775808 := by decide
  have e2 : IntKind.i64.max = 9223372036854775807 := by decide
  rw [e1, e2] at h
  exact h
theorem cV : Tryz.prog.cellsOf 36 = 5 := by kernel_rfl
theorem cI : Tryz.prog.cellsOf 3 = 1 := by kernel_rfl
theorem c64 : Tryz.prog.cellsOf 2 = 1 := by kernel_rfl
theorem cB : Tryz.prog.cellsOf 4 = 1 := by kernel_rfl
theorem cS : Tryz.prog.cellsOf 9 = 1 := by kernel_rfl
theorem cSV : Tryz.prog.cellsOf 34 = 1 := by kernel_rfl
section
variable {H : Type} {enc : TypeId × Value → H} {W : World}
theorem read_slice (fuel : Nat) (ih : ∀ n, n < fuel → ∀ cs (x : DataW H × List MemPlace), DataW.trod enc Tryz.prog W 0 (fun _ => true) true n 36 cs = some x →
      ∃ (g : GV) (s : Value), cs = [.int .i64 g.k, .bool g.b, .int .i64 g.n, .string g.t, s] ∧ isL W 0 W.heap.size s g.l ∧ g.wfI ∧ g.bulk ≤ Rows.uptoBulk x.1)
    (cs : List Value) (x : DataW H × List MemPlace) (h : DataW.trod enc Tryz.prog W 0 (fun _ => true) true fuel 34 cs = some x) :
    ∃ (s : Value) (l : List GV), cs = [s] ∧ isL W 0 W.heap.size s l ∧ wfIL l ∧ bulkL l + 1 ≤ Rows.uptoBulk x.1 := by
  rcases DataW.trod_slice Tryz.underlying34 h with ⟨rfl, rfl⟩ | ⟨a, len, cap, elems, rest, n, rfl, rfl, rfl, _, hl, _, hlen, hel, _, _⟩
  · exact ⟨_, [], rfl, isL_nil _ _, trivial, by simp [bulkL, Rows.uptoBulk]⟩
  · have each : ∀ i : Fin len, ∃ g : GV, (∃ s, W.cells? 0 (a.add (i * 5)) 5 = some [.int .i64 g.k, .bool g.b, .int .i64 g.n, .string g.t, s] ∧ isL W 0 W.heap.size s g.l) ∧ g.wfI ∧ g.bulk ≤ Rows.uptoBulk (elems[i]'(by rw [hlen]; exact i.2)).1 := by
      intro ⟨i, hi⟩
      have h1 := hel i hi
      rw [cV, List.getElem?_eq_getElem (by omega)] at h1
      obtain ⟨cs', hc, ht⟩ := Option.bind_eq_some_iff.1 h1
      obtain ⟨g, s, rfl, hs, hw, hbk⟩ := ih n (by omega) _ _ ht
      exact ⟨g, ⟨s, hc, hs⟩, hw, hbk⟩
    obtain ⟨f, hf⟩ := Classical.axiomOfChoice each
    refine ⟨_, List.ofFn f, rfl, ?_, wfIL_of _ (fun y hy => by obtain ⟨i, rfl⟩ := List.mem_ofFn.1 hy; exact (hf i).2.1), ?_⟩
    · have hlf : (List.ofFn f).length = len := by simp
      have key : isL W 0 W.heap.size (.slice (some a) (List.ofFn f).length cap) (List.ofFn f) := by
        refine isL_mk (b := a.block) (off := a.off) (by rw [hlf]; exact hl) (fun h0 => ?_) (fun i hi => ?_)
        · rw [hlf] at h0
          obtain ⟨⟨s, hc, _⟩, _⟩ := hf ⟨0, h0⟩
          obtain ⟨_, _, hcell⟩ := World.cells?_some hc
          have hc0 := hcell 0 (by omega)
          have ha : a = ⟨a.block, a.off, none⟩ := by
            have := no_spot (a := (a.add (0 * 5)).add 0) (by rw [hc0]; rfl)
            simpa [Addr.add] using this
          refine ⟨congrArg some ha, Nat.zero_le _, ?_⟩
          have := World.cells?_block hc (by omega)
          simpa [Addr.add] using this
        · have hi' : i < len := by rw [hlf] at hi; exact hi
          obtain ⟨⟨s, hc, hs⟩, _⟩ := hf ⟨i, hi'⟩
          obtain ⟨⟨s0, hc00, _⟩, _⟩ := hf ⟨0, by omega⟩
          obtain ⟨_, _, hcell0⟩ := World.cells?_some hc00
          have ha : a = ⟨a.block, a.off, none⟩ := by
            have := no_spot (a := (a.add (0 * 5)).add 0) (by rw [hcell0 0 (by omega)]; rfl)
            simpa [Addr.add] using this
          obtain ⟨_, _, hcell⟩ := World.cells?_some hc
          have c : ∀ o u, o < 5 → ([.int .i64 (f ⟨i, hi'⟩).k, .bool (f ⟨i, hi'⟩).b, .int .i64 (f ⟨i, hi'⟩).n, .string (f ⟨i, hi'⟩).t, s] : List Value)[o]? = some u → W.cell? ⟨a.block, a.off + i * 5 + o, none⟩ = some u := fun o u ho hu => by
            have := (hcell o ho).trans hu
            rw [ha] at this
            simpa only [add_off] using this
          rw [List.getElem_ofFn]
          exact cellsV_mk (c 0 _ (by omega) rfl) (c 1 _ (by omega) rfl) (c 2 _ (by omega) rfl) (c 3 _ (by omega) rfl) (c 4 _ (by omega) rfl) hs
      rwa [hlf] at key
    · have := bulkL_le (List.ofFn f) (elems.map (·.1)) (by simp [hlen]) (fun i h h' => by
        rw [List.getElem_ofFn, List.getElem_map]
        exact (hf ⟨i, by simpa using h⟩).2.2)
      simp only [Rows.uptoBulk]
      omega
theorem read_value : ∀ (fuel : Nat) (cs : List Value) (x : DataW H × List MemPlace), DataW.trod enc Tryz.prog W 0 (fun _ => true) true fuel 36 cs = some x →
      ∃ (g : GV) (s : Value), cs = [.int .i64 g.k, .bool g.b, .int .i64 g.n, .string g.t, s] ∧ isL W 0 W.heap.size s g.l ∧ g.wfI ∧ g.bulk ≤ Rows.uptoBulk x.1 := by
  intro fuel
  induction fuel using Nat.strongRecOn with
  | _ fuel ih =>
    intro cs x h
    obtain ⟨xs, n, rfl, rfl, hl, hlen, hf⟩ := DataW.trod_struct Tryz.underlying36 h
    rw [cV] at hl
    have h0 : DataW.trod enc Tryz.prog W 0 (fun _ => true) true n 3 ((cs.drop 0).take (Tryz.prog.cellsOf 3)) = xs[0]? := hf 0 _ rfl
    rw [cI] at h0
    have h1 : DataW.trod enc Tryz.prog W 0 (fun _ => true) true n 4 ((cs.drop 1).take (Tryz.prog.cellsOf 4)) = xs[1]? := hf 1 _ rfl
    rw [cB] at h1
    have h2 : DataW.trod enc Tryz.prog W 0 (fun _ => true) true n 2 ((cs.drop 2).take (Tryz.prog.cellsOf 2)) = xs[2]? := hf 2 _ rfl
    rw [c64] at h2
    have h3 : DataW.trod enc Tryz.prog W 0 (fun _ => true) true n 9 ((cs.drop 3).take (Tryz.prog.cellsOf 9)) = xs[3]? := hf 3 _ rfl
    rw [cS] at h3
    have h4 : DataW.trod enc Tryz.prog W 0 (fun _ => true) true n 34 ((cs.drop 4).take (Tryz.prog.cellsOf 34)) = xs[4]? := hf 4 _ rfl
    rw [cSV] at h4
    have hx : xs.length = 5 := hlen
    match xs, hx, h0, h1, h2, h3, h4 with
    | [y0, y1, y2, y3, y4], _, h0, h1, h2, h3, h4 =>
      simp only [List.getElem?_cons_zero, List.getElem?_cons_succ] at h0 h1 h2 h3 h4
      obtain ⟨k, e0, rfl, w0⟩ := DataW.trod_int Tryz.underlying3 h0
      obtain ⟨b, e1, rfl⟩ := DataW.trod_bool Tryz.underlying4 h1
      obtain ⟨m, e2, rfl, w2⟩ := DataW.trod_int Tryz.underlying2 h2
      obtain ⟨t, e3, rfl, _⟩ := DataW.trod_string Tryz.underlying9 h3
      obtain ⟨s, l, e4, hs, hw, hbk⟩ := read_slice n (fun j hj => ih j (by omega)) _ _ h4
      refine ⟨⟨k, b, m, t, l⟩, s, ?_, hs, ?_, ?_⟩
      · match cs, hl, e0, e1, e2, e3, e4 with
        | [c0, c1, c2, c3, c4], _, e0, e1, e2, e3, e4 =>
          simp at e0 e1 e2 e3 e4
          rw [e0, e1, e2, e3, e4]
      · have := wf_i64 w0
        have := wf_i64 w2
        simp only [GV.wfI]
        exact ⟨by omega, by omega, by omega, by omega, hw⟩
      · rw [bulk_eq]
        simp only [List.map_cons, List.map_nil, Rows.uptoBulk, Rows.uptoBulkAll]
        have : t.data.toList.length = t.size := Array.length_toList
        omega
end
end Go.Proofs.YtljljhjdlicfeaaGreat
