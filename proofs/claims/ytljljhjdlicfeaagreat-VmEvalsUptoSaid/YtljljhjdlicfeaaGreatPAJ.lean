/-
  A step of the reference's machine in plain words: what an instruction hands out, beside doP. Conditions: none.
-/
import Derived.Test.YtljljhjdlicfeaaGreatPAE
import Derived.Test.YtljljhjdlicfeaaGreatStk
namespace Go.Proofs.YtljljhjdlicfeaaGreat
open Go Go.RowKit
set_option maxRecDepth 100000
set_option linter.unusedVariables false
theorem okOf_ops {x : GI} (h : okOf x = true) : x.op = 0 ∨ x.op = 1 ∨ x.op = 2 ∨ x.op = 3 ∨ x.op = 4 ∨ x.op = 5 ∨ x.op = 6 ∨ x.op = 7 ∨ x.op = 8 := by
  unfold okOf at h
  by_cases h0 : x.op = 0
  · omega
  rw [if_neg h0, Bool.and_eq_true] at h
  by_cases h1 : x.op = 1 ∨ x.op = 2 ∨ x.op = 3
  · omega
  have h := h.1
  rw [if_neg h1, Bool.and_eq_true] at h
  by_cases h4 : x.op = 4
  · omega
  have h := h.2
  rw [if_neg h4] at h
  by_cases h5 : x.op = 5
  · omega
  rw [if_neg h5] at h
  by_cases h6 : x.op = 6
  · omega
  rw [if_neg h6] at h
  have := of_decide_eq_true h
  omega
def StepR (E : EP) (x : GI) (st : List GV) (out : GV) (e : Int) : Prop :=
  (e ≠ 0 → ¬ jmpI x ∧ doP E x st = .stop e) ∧ (e = 0 → vmay out = false → ¬ jmpI x ∧ doP E x st = .stop 1) ∧
  (e = 0 → vmay out = true → (¬ jmpI x → doP E x st = .go (lessN (offOf x).toNat st ++ [out])) ∧ (jmpI x → out = topG st ∧ out.k = 1))
theorem lessN_zero (st : List GV) : lessN 0 st = st := by simp [lessN]
theorem lastN_one {st : List GV} (h : 0 < st.length) : lastN 1 st = [topG st] := by
  unfold lastN topG
  rw [List.drop_eq_getElem_cons (by omega), List.drop_eq_nil_of_le (by omega)]
  congr 1
  rw [List.getD_eq_getElem?_getD, List.getElem?_eq_getElem (by omega)]
  rfl
theorem lessN_top {st : List GV} (h : 0 < st.length) : lessN 1 st ++ [topG st] = st := by
  have h1 := lastN_one h
  unfold lastN at h1
  unfold lessN
  rw [← h1, List.take_append_drop]
theorem off_eq (x : GI) : offOf x = if x.op = 3 ∨ x.op = 6 ∨ x.op = 7 ∨ x.op = 8 then 1 else if x.op = 4 then x.arg else if x.op = 5 then takesOf x.arg else 0 := rfl
theorem step_push {E : EP} {x : GI} {st : List GV} (h : x.op = 0) (hok : okOf x = true) : StepR E x st x.v 0 := by
  have hv : vmay x.v = true := by
    unfold okOf at hok
    rw [if_pos h, Bool.and_eq_true] at hok
    exact hok.1
  refine ⟨fun h => absurd rfl h, fun _ h2 => (by rw [hv] at h2; cases h2), fun _ _ => ⟨fun _ => ?_, fun hj => ?_⟩⟩
  · have : offOf x = 0 := by rw [off_eq, if_neg (by omega), if_neg (by omega), if_neg (by omega)]
    rw [this, Int.toNat_zero, lessN_zero, doP, if_pos h]
  · unfold jmpI at hj; omega
theorem told_step {E : EP} {x : GI} {st st' : List GV} {v : GV} (hj : ¬ jmpI x) (hl : lessN (offOf x).toNat st = st') (hd : doP E x st = toldP v st') : StepR E x st v 0 := by
  refine ⟨fun h => absurd rfl h, fun _ h2 => ⟨hj, ?_⟩, fun _ h2 => ⟨fun _ => ?_, fun h => absurd h hj⟩⟩
  · rw [hd, toldP, if_neg (by rw [h2]; simp)]
  · rw [hd, toldP, if_pos h2, hl]
theorem step_var {E : EP} {x : GI} {st : List GV} (h : x.op = 1) (out : GV) (b : Bool) (hb : E.var x.s = (out, b)) : StepR E x st out (if b = true then 0 else 5) := by
  have hj : ¬ jmpI x := by unfold jmpI; omega
  have ho : offOf x = 0 := by rw [off_eq, if_neg (by omega), if_neg (by omega), if_neg (by omega)]
  have hd : doP E x st = if b = true then toldP out st else .stop 5 := by
    unfold doP
    rw [if_neg (by omega), if_pos h, hb]
  cases b
  · rw [if_neg (by simp)] at hd ⊢
    exact ⟨fun _ => ⟨hj, hd⟩, fun h => by omega, fun h => by omega⟩
  · rw [if_pos rfl] at hd ⊢
    exact told_step hj (by rw [ho, Int.toNat_zero, lessN_zero]) hd
theorem step_field {E : EP} {x : GI} {st : List GV} (h : x.op = 2) (out : GV) (b : Bool) (hb : E.field x.s = (out, b)) : StepR E x st out (if b = true then 0 else 11) := by
  have hj : ¬ jmpI x := by unfold jmpI; omega
  have ho : offOf x = 0 := by rw [off_eq, if_neg (by omega), if_neg (by omega), if_neg (by omega)]
  have hd : doP E x st = if b = true then toldP out st else .stop 11 := by
    unfold doP
    rw [if_neg (by omega), if_neg (by omega), if_pos h, hb]
  cases b
  · rw [if_neg (by simp)] at hd ⊢
    exact ⟨fun _ => ⟨hj, hd⟩, fun h => by omega, fun h => by omega⟩
  · rw [if_pos rfl] at hd ⊢
    exact told_step hj (by rw [ho, Int.toNat_zero, lessN_zero]) hd
theorem step_getno {E : EP} {x : GI} {st : List GV} (h : x.op = 3) (hk : (topG st).k ≠ 5) : doP E x st = .stop 4 := by
  unfold doP
  rw [if_neg (by omega), if_neg (by omega), if_neg (by omega), if_pos h, if_neg hk]
theorem step_get {E : EP} {x : GI} {st : List GV} (h : x.op = 3) (hk : (topG st).k = 5) (out : GV) (e : Int) (hb : E.get (topG st).n x.s = (out, e)) : StepR E x st out e := by
  have hj : ¬ jmpI x := by unfold jmpI; omega
  have ho : offOf x = 1 := by rw [off_eq, if_pos (by omega)]
  have hd : doP E x st = if e = 0 then toldP out (lessN 1 st) else .stop e := by
    unfold doP
    rw [if_neg (by omega), if_neg (by omega), if_neg (by omega), if_pos h, if_pos hk, hb]
  by_cases he : e = 0
  · subst he
    rw [if_pos rfl] at hd
    exact told_step hj (by rw [ho]; rfl) hd
  · rw [if_neg he] at hd
    exact ⟨fun _ => ⟨hj, hd⟩, fun h => absurd h he, fun h => absurd h he⟩
theorem step_list {E : EP} {x : GI} {st : List GV} (h : x.op = 4) (hok : okOf x = true) (t : Nat) (ht : offOf x = t) : StepR E x st (listG (lastN t st)) (if vmay (listG (lastN t st)) = true then 0 else 2) := by
  have hj : ¬ jmpI x := by unfold jmpI; omega
  have ho : x.arg = t := by rw [← ht, off_eq, if_neg (by omega), if_pos h]
  have hd : doP E x st = if vmay (listG (lastN t st)) = true then .go (lessN t st ++ [listG (lastN t st)]) else .stop 2 := by
    unfold doP
    rw [if_neg (by omega), if_neg (by omega), if_neg (by omega), if_neg (by omega), if_pos h, ho, Int.toNat_natCast]
  cases hv : vmay (listG (lastN t st))
  · rw [if_neg (by simp)]
    rw [hv, if_neg (by simp)] at hd
    exact ⟨fun _ => ⟨hj, hd⟩, fun h => by omega, fun h => by omega⟩
  · rw [if_pos rfl]
    rw [hv, if_pos rfl] at hd
    exact ⟨fun h => absurd rfl h, fun _ h2 => (by rw [hv] at h2; cases h2), fun _ _ => ⟨fun _ => by rw [hd, ht, Int.toNat_natCast], fun h => absurd h hj⟩⟩
theorem takesN_eq {op : Int} {t : Nat} (h : takesOf op = t) (ht : t ≠ 0) : takesN op = t := by
  unfold takesOf at h
  unfold takesN
  split at h
  · rename_i h1
    rw [if_pos h1]; omega
  · rename_i h1
    rw [if_neg h1]
    split at h <;> omega
theorem okOf_do {x : GI} (h : x.op = 5) (hok : okOf x = true) : takesOf x.arg ≠ 0 := by
  unfold okOf at hok
  rw [if_neg (by omega), Bool.and_eq_true] at hok
  have h1 := hok.1
  rw [if_neg (by omega), Bool.and_eq_true] at h1
  have h2 := h1.2
  rw [if_neg (by omega), if_pos h] at h2
  simpa using h2
theorem step_do {E : EP} {x : GI} {st : List GV} (h : x.op = 5) (hok : okOf x = true) (t : Nat) (ht : offOf x = t) (out : GV) (e : Int) (ha : applyP x.arg (lastN t st) = (out, e)) : StepR E x st out e := by
  have hj : ¬ jmpI x := by unfold jmpI; omega
  have ho : takesOf x.arg = t := by rw [← ht, off_eq, if_neg (by omega), if_neg (by omega), if_pos h]
  have hn := takesN_eq ho (by have := okOf_do h hok; omega)
  have hd : doP E x st = if e = 0 then .go (lessN t st ++ [out]) else .stop e := by
    unfold doP
    rw [if_neg (by omega), if_neg (by omega), if_neg (by omega), if_neg (by omega), if_neg (by omega), if_pos h, hn, ha]
  by_cases he : e = 0
  · subst he
    rw [if_pos rfl] at hd
    have hv : vmay out = true := by
      have := applyP_may x.arg (lastN t st)
      rw [ha] at this
      exact this rfl
    exact ⟨fun h => absurd rfl h, fun _ h2 => (by rw [hv] at h2; cases h2), fun _ _ => ⟨fun _ => by rw [hd, ht, Int.toNat_natCast], fun h => absurd h hj⟩⟩
  · rw [if_neg he] at hd
    exact ⟨fun _ => ⟨hj, hd⟩, fun h => absurd h he, fun h => absurd h he⟩
theorem step_truth {E : EP} {x : GI} {st : List GV} (h : x.op = 6) (hst : 0 < st.length) (hv : vmay (topG st) = true) : StepR E x st (topG st) (if (topG st).k = 1 then 0 else 4) := by
  have hj : ¬ jmpI x := by unfold jmpI; omega
  have ho : offOf x = 1 := by rw [off_eq, if_pos (by omega)]
  have hd : doP E x st = if (topG st).k = 1 then .go st else .stop 4 := by
    unfold doP
    rw [if_neg (by omega), if_neg (by omega), if_neg (by omega), if_neg (by omega), if_neg (by omega), if_neg (by omega), if_pos h]
  by_cases hk : (topG st).k = 1
  · rw [if_pos hk] at hd ⊢
    exact ⟨fun h => absurd rfl h, fun _ h2 => (by rw [hv] at h2; cases h2), fun _ _ => ⟨fun _ => by rw [hd, ho, show (1 : Int).toNat = 1 from rfl, lessN_top hst], fun h => absurd h hj⟩⟩
  · rw [if_neg hk] at hd ⊢
    exact ⟨fun _ => ⟨hj, hd⟩, fun h => by omega, fun h => by omega⟩
theorem step_leap {E : EP} {x : GI} {st : List GV} (h : x.op = 7 ∨ x.op = 8) (hv : vmay (topG st) = true) (hk : (topG st).k = 1) : StepR E x st (topG st) 0 :=
  ⟨fun h => absurd rfl h, fun _ h2 => (by rw [hv] at h2; cases h2), fun _ _ => ⟨fun hj => absurd h hj, fun _ => ⟨rfl, hk⟩⟩⟩
def JokP (l : List GI) (k : Nat) (st : List GV) : Prop := ∀ x, l[k]? = some x → jmpI x → (topG st).k = 1
theorem jok_zero {l : List GI} (h : JC l 0) : JokP l 0 [] := by
  intro x hx hj
  obtain ⟨⟨y, hy, hn⟩, _⟩ := h
  rw [hx] at hy
  cases hy
  exact absurd hj hn
theorem jok_next {l : List GI} (h : JC l 0) {k : Nat} {x : GI} {st st' : List GV} (hx : l[k]? = some x) (hd : x.op = 6 → st' = st ∧ (topG st).k = 1) : JokP l (k + 1) st' := by
  intro y hy hj
  obtain ⟨_, ⟨z, hz, h6⟩, _⟩ := h.2 (k + 1) y hy hj
  rw [Nat.add_sub_cancel, hx] at hz
  cases hz
  obtain ⟨rfl, hk⟩ := hd h6
  exact hk
theorem jok_jump {l : List GI} (h : JC l 0) {k j : Nat} {x : GI} {st : List GV} (hx : l[k]? = some x) (hj : jmpI x) (ha : x.arg = j) : JokP l j st := by
  intro y hy hjy
  obtain ⟨_, _, i, hi, _, hn⟩ := h.2 k x hx hj
  have : i = j := by rw [ha] at hi; omega
  subst this
  exact absurd hjy (hn y hy)
end Go.Proofs.YtljljhjdlicfeaaGreat
namespace Go.Proofs.YtljljhjdlicfeaaGreat
open Go Go.RowKit Go.Lib
set_option maxRecDepth 100000
set_option linter.unusedVariables false
theorem five_box {w : World} {g : Nat} {c0 c1 c2 c3 c4 : Value} {T : TypeId} {fz : Nat × Nat} (h : w.heap[g]? = some (.cells #[c0, c1, c2, c3, c4] T fz)) (a0 a1 a2 a3 a4 : Value) :
    (((((w.setCell ⟨g, 0, none⟩ a0).setCell ⟨g, 1, none⟩ a1).setCell ⟨g, 2, none⟩ a2).setCell ⟨g, 3, none⟩ a3).setCell ⟨g, 4, none⟩ a4).heap[g]? = some (.cells #[a0, a1, a2, a3, a4] T fz) := by
  have h0 := heap_setCell2 (o := 0) (v := a0) h
  have h1 := heap_setCell2 (o := 1) (v := a1) h0
  have h2 := heap_setCell2 (o := 2) (v := a2) h1
  have h3 := heap_setCell2 (o := 3) (v := a3) h2
  have h4 := heap_setCell2 (o := 4) (v := a4) h3
  rw [h4]
  simp
def Box16 (w0 w : World) (p : Nat) (z : Hole) (out : GV) (s : Value) : Prop := w.heap[p]? = some (.cells #[.int .i64 out.k, .bool out.b, .int .i64 out.n, .string out.t, s] 36 (0, 0)) ∧ isZ w z w.heap.size s out.l ∧ Below w0.heap.size w0 w
theorem close16 {w0 w : World} {p : Nat} {z : Hole} {lo hi : Nat} {out : GV} {s c0 c1 c2 c3 c4 : Value} (hb : Below w0.heap.size w0 w) (hp : w0.heap.size ≤ p) (hc : w.heap[p]? = some (.cells #[c0, c1, c2, c3, c4] 36 (0, 0)))
    (hl : isL w lo hi s out.l) (hz : ∀ b, lo ≤ b → b < hi → outH z b ∧ b ≠ p) (hhi : hi ≤ w.heap.size) :
    Box16 w0 (((((w.setCell ⟨p, 0, none⟩ (.int .i64 out.k)).setCell ⟨p, 1, none⟩ (.bool out.b)).setCell ⟨p, 2, none⟩ (.int .i64 out.n)).setCell ⟨p, 3, none⟩ (.string out.t)).setCell ⟨p, 4, none⟩ s) p z out s := by
  have st := fun (w1 : World) (o : Nat) (u : Value) (h : Below w0.heap.size w0 w1) => Below.setCell (p := ⟨p, o, none⟩) h hp u
  refine ⟨five_box hc .., ?_, st _ _ _ (st _ _ _ (st _ _ _ (st _ _ _ (st _ _ _ hb))))⟩
  refine isS_mono hl (fun b off hS => World.cell?_of_block (w := w) (a := ⟨b, off, none⟩) (five_heap (hz b hS.1 hS.2).2 ..)) (fun b hS => ⟨?_, (hz b hS.1 hS.2).1⟩) (fun _ _ h => h)
  have := hS.2
  simp only [hsz_setCell2]
  omega
theorem box16_keep {w0 w w' : World} {p : Nat} {z : Hole} {out : GV} {s : Value} (h : Box16 w0 w p z out s) (hb : Below w.heap.size w w') : Box16 w0 w' p z out s := by
  obtain ⟨h1, h2, h3⟩ := h
  refine ⟨(hb.block p (Array.getElem?_eq_some_iff.1 h1).1).trans h1, ?_, below_down h3 hb (Nat.le_refl _)⟩
  exact isS_mono h2 (fun b off hS => hb.cell (p := ⟨b, off, none⟩) hS.1) (fun b hS => ⟨Nat.lt_of_lt_of_le hS.1 hb.size, hS.2⟩) (fun _ _ h => h)
theorem stk_lt {w : World} {b0 : Nat} {z : Hole} {v : Value} {st : List GV} (h : StkR w b0 z v st) (g : Nat) (hg : v.ownBlock = some g) : b0 ≤ g ∧ g < w.heap.size := by
  obtain ⟨ss, _, hown, _⟩ := h
  exact ownBlock_lt hown hg
theorem top_mem {st : List GV} (h : 0 < st.length) : topG st ∈ st := by
  unfold topG
  rw [List.getD_eq_getElem?_getD, List.getElem?_eq_getElem (by omega)]
  exact List.getElem_mem _
theorem badL_app {l m : List GV} (h : badL l = false) (h2 : badL m = false) : badL (l ++ m) = false := by
  simp only [badL, List.any_append, Bool.or_eq_false_iff]
  exact ⟨h, h2⟩
theorem badL_sub {l m : List GV} (h : badL l = false) (hs : ∀ x ∈ m, x ∈ l) : badL m = false := by
  cases hb : badL m
  · rfl
  · rw [badL, List.any_eq_true] at hb
    obtain ⟨x, hx, hv⟩ := hb
    have := good_mem h x (hs x hx)
    simp [this] at hv
theorem badL_one {x : GV} (h : vmay x = true) : badL [x] = false := by simp [badL, h]
theorem less_sub {n : Nat} {st : List GV} : ∀ x ∈ lessN n st, x ∈ st := fun x h => List.mem_of_mem_take h
theorem fitL_snocS {l : List GV} {x : GV} (h : fitL l) (hx : x.fit) : fitL (l ++ [x]) := fitL_app h ⟨hx, trivial⟩
theorem bool_flat {x : GV} (h : vmay x = true) (hk : x.k = 1) : x.l = [] := by
  obtain ⟨hf, _⟩ := may_open h
  rw [hk] at hf
  simp [chkFlat] at hf
  exact hf.2
theorem do_six {E : EP} {x : GI} {st st' : List GV} (h : x.op = 6) (hd : doP E x st = .go st') : st' = st ∧ (topG st).k = 1 := by
  unfold doP at hd
  rw [if_neg (by omega), if_neg (by omega), if_neg (by omega), if_neg (by omega), if_neg (by omega), if_neg (by omega), if_pos h] at hd
  split at hd
  · rename_i hk
    cases hd
    exact ⟨rfl, hk⟩
  · cases hd
theorem stk_after {w w' : World} {b0 : Nat} {z : Hole} {ca : Nat} {v v' : Value} {st : List GV} {ss : List Value} {x : GV} {a : Option Addr} (hl : ss.length = st.length) (hin : ∀ i (h : i < st.length) (h' : i < ss.length), isO w z v ss[i] st[i].l) (hx : x.l = [])
    (hown' : w'.ownsRow b0 36 5 v' (st.length + 1) (flat st ss ++ [.int .i64 x.k, .bool x.b, .int .i64 x.n, .string x.t, .slice a x.l.length ca])) (hgr : w.grownBy w' v.ownBlock) (hat : v'.ownBlock = v.ownBlock ∨ v'.ownBlock = some w.heap.size) : StkR w' b0 z v' (st ++ [x]) := by
  refine ⟨ss ++ [.slice a x.l.length ca], by simp [hl], ?_, fun i h1 h2 => ?_⟩
  · rw [flat_append st ss x _ hl, List.length_append, List.length_singleton]; exact hown'
  · by_cases hi : i < st.length
    · rw [List.getElem_append_left (by omega), List.getElem_append_left hi]
      refine isS_mono (hin i hi (by omega)) (fun b off hS => World.cell?_of_block (w := w) (a := ⟨b, off, none⟩) (hgr.block b hS.1 hS.2.1)) (fun b hS => ⟨Nat.lt_of_lt_of_le hS.1 hgr.size, fun e => ?_, hS.2.2⟩) (fun _ _ h => h)
      rcases hat with h | h
      · exact hS.2.1 (e.trans h)
      · rw [h] at e; simp only [Option.some.injEq] at e; omega
    · have e : i = st.length := by simp at h1; omega
      subst e
      rw [List.getElem_append_right (by omega), List.getElem_append_right (by omega)]
      simp only [hl, Nat.sub_self, List.getElem_cons_zero, hx]
      exact isO_nil
theorem num_next (n : Nat) : (Value.int .i64 ((n : Int) + 1)) = .int .i64 ((n + 1 : Nat) : Int) := rfl
theorem nxt_g {L k j g g' : Nat} (h : L ≤ k + g) (e : g = g' + 1) (hk : k < j) : L ≤ j + g' := by omega
theorem nxt_n {n k j : Nat} (h : n ≤ k) (hk : k < j) : n + 1 ≤ j := by omega
theorem nxt_h {st : List GV} {t : Nat} {a b o lf : Int} {out : GV} (hn : a = b - o + lf) (ho : o = t) (hl : lf = 1) (hs : (st.length : Int) = b) (ht : t ≤ st.length) : (((lessN t st ++ [out]).length : Nat) : Int) = a := by
  rw [List.length_append, lessN_len ht, List.length_singleton]; omega
theorem nxt_h0 {st : List GV} {t : Nat} {a b o lf : Int} (hn : a = b - o + lf) (ho : o = t) (hl : lf = 0) (hs : (st.length : Int) = b) (ht : t ≤ st.length) : (((lessN t st).length : Nat) : Int) = a := by
  rw [lessN_len ht]; omega
theorem nxt_m {L k : Nat} (h : k < L) : L - (RowKit.intOf (.int .i64 ((k : Int) + 1))).toNat < L - (RowKit.intOf (.int .i64 (k : Int))).toNat := by simp [RowKit.intOf]; omega
theorem nxt_j {L k j : Nat} (h : k < j) (hj : j ≤ L) : L - (RowKit.intOf (.int .i64 (j : Int))).toNat < L - (RowKit.intOf (.int .i64 (k : Int))).toNat := by simp [RowKit.intOf]; omega
theorem step_newR {ops : Array Oper} {o : Oper} {a : Act} {wA w : World} {K : Act → World → Prop} {Q : Exit → Act → World → Prop} {E : Prop} {b0 : Nat} {z : Hole} {v : Value} {st : List GV}
    (hg : o.guard = none) (s x : Operand) (hop : o.op = Op.call { callee := Callee.builtin Builtin.append, args := #[s, x], argTypes := #[34, 34] })
    (hs : a.eval s = .slice none 0 0) (hx : a.eval x = v) (h : StkR wA b0 z v st) (hst : st.length ≤ 2147483646) (hA : Below wA.heap.size wA w)
    (hK : ∀ v1 w1, NewR wA w1 z v1 st → Below w.heap.size w w1 → K (a.put o.dst v1) w1) : if Region.wanted o (yielded ops a.tmps) = true then Oper.wp Tryz.prog o a w K Q else E := by
  obtain ⟨v1, w1, hr, hn, hb⟩ := newR_of o.type h hA hst
  exact step_append_run hg s x 34 hop _ _ hs hx v1 w1 hr (hK v1 w1 hn hb)
theorem step_pushN {ops : Array Oper} {o : Oper} {a : Act} {wA w9 w : World} {K : Act → World → Prop} {Q : Exit → Act → World → Prop} {E : Prop} {z : Hole} {v : Value} {st : List GV} {y : GV} {gB ca : Nat} {ay : Option Addr} {T' : TypeId}
    (hg : o.guard = none) (s x : Operand) (hop : o.op = Op.call { callee := Callee.builtin Builtin.append, args := #[s, x], argTypes := #[34, 34] })
    (hs : a.eval s = v) (hx : a.eval x = .slice (some ⟨gB, 0, none⟩) 1 1) (h : NewR wA w9 z v st) (hst : st.length ≤ 2147483646) (hb9 : Below w9.heap.size w9 w) (hy : isZ w9 z wA.heap.size (.slice ay y.l.length ca) y.l)
    (hgB : w.heap[gB]? = some (.cells #[.int .i64 y.k, .bool y.b, .int .i64 y.n, .string y.t, .slice ay y.l.length ca] T' (0, 0)))
    (hK : ∀ v1 w1, StkR w1 wA.heap.size z v1 (st ++ [y]) → Below wA.heap.size wA w1 → K (a.put o.dst v1) w1) : if Region.wanted o (yielded ops a.tmps) = true then Oper.wp Tryz.prog o a w K Q else E := by
  obtain ⟨v1, w1, hr, hn, hb⟩ := newR_push o.type (newR_keep h hb9) hst (isZ_below hy hb9 h.1.size) hgB
  exact step_append_run hg s x 34 hop _ _ hs hx v1 w1 hr (hK v1 w1 hn hb)
end Go.Proofs.YtljljhjdlicfeaaGreat
