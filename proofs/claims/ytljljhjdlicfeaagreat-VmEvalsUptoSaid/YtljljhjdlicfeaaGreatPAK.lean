/-
  The machine's pop: the last values, in memory of their own; the stack is so much shorter. Conditions: fewer than 2^31 values on the stack.
-/
import Derived.Test.YtljljhjdlicfeaaGreatVm1
import Derived.Test.YtljljhjdlicfeaaGreatNG
import Derived.Test.YtljljhjdlicfeaaGreatNO
namespace Go.Proofs.YtljljhjdlicfeaaGreat
open Go Go.RowKit
set_option maxRecDepth 100000
set_option linter.unusedVariables false
theorem row_isR {w : World} {S : Nat → Prop} {base : Nat} {T : TypeId} {v : Value} {l : List GV} {ss : List Value} (hl : ss.length = l.length) (hown : w.ownsRow base T 5 v l.length (flat l ss)) (hS : ∀ g, v.ownBlock = some g → S g)
    (hin : ∀ i (h : i < l.length) (h' : i < ss.length), isR w S ss[i] l[i].l) : isR w S v l := by
  obtain ⟨h1, h2 | ⟨g, cap, cur, e, hg, hh, hn, hcap, hsz, htk⟩⟩ := hown
  · have : l = [] := List.eq_nil_of_length_eq_zero h2.2
    subst this
    rw [h2.1]
    exact ⟨none, 0, rfl, Nat.le_refl _, fun h => by simp at h, fun h => by simp at h⟩
  · subst e
    have hcell : ∀ j, j < l.length * 5 → w.cell? ⟨g, 0 + j, none⟩ = (flat l ss)[j]? := fun j hj => by
      rw [← htk, List.getElem?_take, if_pos hj]
      simp [World.cell?, hh]
    refine isS_mk hn (fun hc => ⟨g, 0, cur, T, rfl, hS g rfl, hh, rfl, by omega⟩) (fun _ => ⟨rfl, hS g rfl⟩) fun i hi => ?_
    obtain ⟨a0, a1, a2, a3, a4⟩ := flat_get l ss i hi (by omega)
    exact cellsS_mk (s := ss[i]) (by rw [hcell _ (by omega), a0]) (by rw [show 0 + i * 5 + 1 = 0 + (i * 5 + 1) from by omega, hcell _ (by omega), a1]) (by rw [show 0 + i * 5 + 2 = 0 + (i * 5 + 2) from by omega, hcell _ (by omega), a2])
      (by rw [show 0 + i * 5 + 3 = 0 + (i * 5 + 3) from by omega, hcell _ (by omega), a3]) (by rw [show 0 + i * 5 + 4 = 0 + (i * 5 + 4) from by omega, hcell _ (by omega), a4]) (hin i hi (by omega))
theorem flat_take : ∀ (l : List GV) (ss : List Value) (m : Nat), ss.length = l.length → flat (l.take m) (ss.take m) = (flat l ss).take (m * 5)
  | [], [], m, _ => by simp [flat]
  | x :: r, s :: t, 0, _ => by simp [flat]
  | x :: r, s :: t, m + 1, h => by
    have := flat_take r t m (by simpa using h)
    rw [show (m + 1) * 5 = m * 5 + 5 by omega]
    simp [flat, this]
  | [], _ :: _, _, h => by simp at h
  | _ :: _, [], _, h => by simp at h
theorem flat_drop : ∀ (l : List GV) (ss : List Value) (m : Nat), ss.length = l.length → flat (l.drop m) (ss.drop m) = (flat l ss).drop (m * 5)
  | [], [], m, _ => by simp [flat]
  | x :: r, s :: t, 0, _ => by simp
  | x :: r, s :: t, m + 1, h => by
    have := flat_drop r t m (by simpa using h)
    rw [show (m + 1) * 5 = m * 5 + 5 by omega]
    simp [flat, this]
  | [], _ :: _, _, h => by simp at h
  | _ :: _, [], _, h => by simp at h
theorem flat_ones : ∀ (l : List GV) (ss : List Value), (∀ i (h : i < ss.length), ∃ a n c, ss[i] = .slice a n c) → ∀ u ∈ flat l ss, u.oneCell' = true
  | [], _, _, u, hu => by simp [flat] at hu
  | _ :: _, [], _, u, hu => by simp [flat] at hu
  | x :: r, s :: t, h, u, hu => by
    simp only [flat, List.mem_cons] at hu
    rcases hu with rfl | rfl | rfl | rfl | rfl | hu
    · rfl
    · rfl
    · rfl
    · rfl
    · obtain ⟨a, n, c, e⟩ := h 0 (by simp)
      simp only [List.getElem_cons_zero] at e
      rw [e]; rfl
    · exact flat_ones r t (fun i hi => by have := h (i + 1) (by simpa using hi); simpa using this) u hu
theorem own_trunc {w : World} {base g cap n m : Nat} {T : TypeId} {xs : List Value} (h : w.ownsRow base T 5 (.slice (some ⟨g, 0, none⟩) n cap) n xs) (hm : m ≤ n) : w.ownsRow base T 5 (.slice (some ⟨g, 0, none⟩) m cap) m (xs.take (m * 5)) := by
  obtain ⟨h1, ⟨h2, _⟩ | ⟨g', cap', cur, e, hg, hh, hn, hc, hs, ht⟩⟩ := h
  · cases h2
  · simp only [Value.slice.injEq, Option.some.injEq, Addr.mk.injEq] at e
    obtain ⟨⟨rfl, _⟩, _, rfl⟩ := e
    refine ⟨by rw [List.length_take, h1]; omega, .inr ⟨g, cap, cur, rfl, hg, hh, by omega, hc, hs, ?_⟩⟩
    rw [← ht, List.take_take, Nat.min_eq_left (by omega)]
theorem isR_nil5 (w : World) (S : Nat → Prop) : isR w S (.slice none 0 0) [] := ⟨none, 0, rfl, Nat.le_refl _, fun h => absurd h (by omega), fun h => absurd h (by simp)⟩
def cutV : Value → Nat → Value
  | .slice a _ c, m => .slice a m c
  | v, _ => v
def PopO (bM base : Nat) (env v : Value) (st : List GV) (n k : Nat) (w : World) (e : Ending) (w' : World) : Prop := ∃ a c v', e = .returned (.slice a k c) ∧ v' = cutV v (st.length - k) ∧ mach w' bM base env v' (lessN k st) n ∧ inR w' base v' (.slice a k c) (lastN k st) ∧ Kg bM w w'
theorem kg_of_grown {w w' : World} {g : Nat} (h : w.grownBy w' none) : Kg g w w' := ⟨h.os, h.tape, h.output, h.size, fun b hb _ => h.block b hb (by simp)⟩
theorem pop_law {w w2 : World} {bM base g cap n k at' : Nat} {env v2 : Value} {st : List GV} {ss : List Value}
    (h1 : w.heap[bM]? = some (.cells #[env, .slice (some ⟨g, 0, none⟩) st.length cap, .int .i64 n] 78 (0, 0))) (h3 : bM < base) (h4 : base ≤ w.heap.size) (hk : k ≤ st.length) (hat : at' = st.length - k) (hls : ss.length = st.length)
    (hown : w.ownsRow base 36 5 (.slice (some ⟨g, 0, none⟩) st.length cap) st.length (flat st ss))
    (hin : ∀ i (h : i < st.length) (h' : i < ss.length), isR w (fun b => since base w b ∧ some b ≠ (Value.slice (some ⟨g, 0, none⟩) st.length cap).ownBlock) ss[i] st[i].l)
    (hown2 : w2.ownsRow w.heap.size 36 5 v2 k (flat (lastN k st) (ss.drop at'))) (hgr : w.grownBy w2 none) :
    ∃ a c, v2 = .slice a k c ∧ mach (w2.setCell ⟨bM, 1, none⟩ (.slice (some ⟨g, 0, none⟩) at' cap)) bM base env (.slice (some ⟨g, 0, none⟩) at' cap) (lessN k st) n ∧ inR (w2.setCell ⟨bM, 1, none⟩ (.slice (some ⟨g, 0, none⟩) at' cap)) base (.slice (some ⟨g, 0, none⟩) at' cap) (.slice a k c) (lastN k st) ∧ Kg bM w (w2.setCell ⟨bM, 1, none⟩ (.slice (some ⟨g, 0, none⟩) at' cap)) := by
  obtain ⟨a, c, rfl⟩ := owns_form5 hown2
  obtain ⟨hgb, hgs⟩ := ownBlock_lt hown (g := g) rfl
  have hbs : bM < w.heap.size := by omega
  have hK : Kg bM w (w2.setCell ⟨bM, 1, none⟩ (.slice (some ⟨g, 0, none⟩) at' cap)) := Kg.set (kg_of_grown hgr)
  have hl2 : (lastN k st).length = k := lastN_len hk
  have hl1 : (lessN k st).length = at' := by rw [lessN_len hk, hat]
  have key : ∀ b, (since base w b ∧ some b ≠ some g) → (w2.setCell ⟨bM, 1, none⟩ (.slice (some ⟨g, 0, none⟩) at' cap)).heap[b]? = w.heap[b]? := fun b hb => hK.2.2.2.2 b hb.1.2 (by have := hb.1.1; omega)
  have sub : ∀ b, (since base w b ∧ some b ≠ some g) → (since base (w2.setCell ⟨bM, 1, none⟩ (.slice (some ⟨g, 0, none⟩) at' cap)) b ∧ some b ≠ some g) := fun b hb => ⟨⟨hb.1.1, Nat.lt_of_lt_of_le hb.1.2 hK.2.2.2.1⟩, hb.2⟩
  refine ⟨a, c, rfl, ⟨?_, ?_, h3, Nat.le_trans h4 hK.2.2.2.1⟩, ?_, hK⟩
  · rw [heap_setCell2 ((hgr.block bM hbs (by simp)).trans h1)]; rfl
  · refine ⟨ss.take at', by rw [List.length_take, hl1]; omega, ?_, fun i h h' => ?_⟩
    · rw [hl1]
      have := own_trunc hown (m := at') (by omega)
      rw [← flat_take st ss at' hls] at this
      have e : lessN k st = st.take at' := by unfold lessN; rw [hat]
      rw [e]
      exact ownsRow_keep5 this (fun g' e' => by simp only [Value.ownBlock, Option.some.injEq] at e'; subst e'; exact hK.2.2.2.2 _ hgs (by omega))
    · have hi : i < st.length := by omega
      have := isR_mono (hin i hi (by omega)) key sub
      simp only [lessN, List.getElem_take]
      exact this
  · refine row_isR (ss := ss.drop at') (base := w.heap.size) (T := 36) (by rw [List.length_drop, hl2]; omega) ?_ (fun g2 e => ?_) (fun i h h' => ?_)
    · rw [hl2]
      exact ownsRow_keep5 hown2 (fun g2 e => set1_heap (by have := (ownBlock_lt hown2 e).1; dsimp only; omega))
    · obtain ⟨k1, k2⟩ := ownBlock_lt hown2 e
      exact ⟨⟨by omega, by rw [hsz_setCell2]; exact k2⟩, fun e2 => by simp only [Value.ownBlock, Option.some.injEq] at e2; omega⟩
    · have hi : at' + i < st.length := by rw [hl2] at h; omega
      have := isR_mono (hin (at' + i) hi (by omega)) key sub
      have e : (lastN k st)[i] = st[at' + i] := by
        simp only [lastN, List.getElem_drop, hat]
      rw [e, List.getElem_drop]
      exact this
set_option maxHeartbeats 1600000 in
theorem pop_any (bM base n k : Nat) (env v : Value) (st : List GV) (w : World) (hl : st.length ≤ 2147483646) (hk : k ≤ st.length) (hm : mach w bM base env v st n) :
    Calls Tryz.prog 44 #[.pointer (some ⟨bM, 0, none⟩), .int .i64 k] w (PopO bM base env v st n k w) := by
  obtain ⟨h1, ⟨ss, hls, hown, hin⟩, h3, h4⟩ := hm
  have hwz : bM < w.heap.size := by omega
  have hown' := hown
  obtain ⟨hlen, ⟨rfl, h0⟩ | ⟨g, cap, cur, rfl, hg, hh, hn, hcap, hsz, htk⟩⟩ := hown'
  · have hst : st = [] := List.eq_nil_of_length_eq_zero h0
    subst hst
    obtain rfl : k = 0 := by simpa using hk
    have q1 := fun o => cell_of h1 o
    have f1 := fun o => frozen_of h1 o
    have H1 := Lib.hid h1
    clear h1 hls hown hin hlen h0
    go_enter Tryz.func44, Tryz.ntmps44
    go_wp2_with fail
    go_ret
    refine ⟨none, 0, .slice none 0 0, rfl, rfl, ⟨?_, ownL_nil _ _ _, h3, by rw [hsz_setCell2]; exact h4⟩, isR_nil5 _ _, Kg.set (Kg.refl _ _)⟩
    rw [heap_setCell2 H1.out]; rfl
  · obtain ⟨i0, hi, hz0, hz1, hz2⟩ := info_parts vinfo
    have HI := Lib.hid (And.intro hi (And.intro hz0 (And.intro hz1 hz2)))
    have HSL := Lib.hid Tryz.underlying34
    have q1 := fun o => cell_of h1 o
    have f1 := fun o => frozen_of h1 o
    have H1 := Lib.hid h1
    have HLS := Lib.hid hls
    have HOWN := Lib.hid hown
    have HIN := Lib.hid hin
    obtain ⟨at', hat⟩ : ∃ a, a = st.length - k := ⟨_, rfl⟩
    have HAT := Lib.hid hat
    have e1 : wrap64 ((st.length : Int) - (k : Int)) = (at' : Int) := by unfold wrap64; omega
    have e2 : IntKind.i64.wrap ((st.length : Int) - (k : Int)) = (at' : Int) := by rw [IntWalk.i64_left]; exact e1
    have e3 : (at' : Int) ≤ (st.length : Int) := by omega
    have e4 : at' ≤ st.length := by omega
    have e5 : (at' : Int) ≤ (cap : Int) := by omega
    have e6 : at' ≤ cap := by omega
    have e7 : st.length - at' = k := by omega
    obtain ⟨A, hA⟩ : ∃ A : Addr, A = (if cap - at' = 0 then ⟨g, 0, none⟩ else ⟨g, at' * 5, none⟩) := ⟨_, rfl⟩
    have HNEW : Hid (∀ j u, (flat (lastN k st) (ss.drop at'))[j]? = some u → w.cell? (A.add j) = some u) := by
      intro j u hj
      have hj2 : j < (flat (lastN k st) (ss.drop at')).length := (List.getElem?_eq_some_iff.1 hj).1
      have hl2 : (lastN k st).length = k := lastN_len hk
      rw [flat_length _ _ (by rw [List.length_drop, hl2]; omega), hl2] at hj2
      have hc0 : ¬ cap - at' = 0 := by omega
      rw [hA, if_neg hc0]
      have ea : (⟨g, at' * 5, none⟩ : Addr).add j = ⟨g, at' * 5 + j, none⟩ := by
        unfold Addr.add
        split
        · rename_i h0; subst h0; rfl
        · simp
      rw [ea, cell_of hh]
      have e : lastN k st = st.drop at' := by unfold lastN; rw [hat]
      rw [e, flat_drop st ss at' hls, List.getElem?_drop, ← htk, List.getElem?_take, if_pos (by omega), Array.getElem?_toList] at hj
      exact hj
    have HONE : Hid (∀ u ∈ flat (lastN k st) (ss.drop at'), u.oneCell' = true) := flat_ones _ _ (fun i h => by
      have hi : at' + i < st.length := by rw [List.length_drop] at h; omega
      obtain ⟨a, c, e⟩ := isS_form (hin (at' + i) hi (by omega))
      rw [List.getElem_drop]
      exact ⟨a, _, c, e⟩)
    have HFL : Hid ((flat (lastN k st) (ss.drop at')).length = k * 5) := by
      rw [Hid, flat_length _ _ (by rw [List.length_drop, lastN_len hk]; omega), lastN_len hk]
    have hcz : cap - at' = 0 ∨ ¬ cap - at' = 0 := by omega
    have HAA := Lib.hid hA
    clear h1 hls hown hin hlen hh hn hcap hsz htk hat hA hi hz0 hz1 hz2
    rcases hcz with hcz | hcz
    all_goals
      have hA := HAA.out
      first | rw [if_pos hcz] at hA | rw [if_neg hcz] at hA
      subst hA
      go_enter Tryz.func44, Tryz.ntmps44
      go_wp2_with (at_builtin; go_loud (refine wpList_append_own_at _ rfl _ _ 34 rfl w.heap.size 36 i0 (.agg #[.int .i64 0, .bool false, .int .i64 0, .string { data := #[] }, .slice none 0 0]) 5 64 HSL.out HI.out.1 HI.out.2.1 HI.out.2.2.1 HI.out.2.2.2 rfl (by decide) (.slice none 0 0) 0 [] rfl ⟨rfl, .inl ⟨rfl, rfl⟩⟩ _ k _ (flat (lastN k st) (ss.drop at')) rfl HFL.out HNEW.out HONE.out ?c3 ?c4 (Nat.le_refl _) ?_))
      case c3 => unfold maxLen; omega
      case c4 => omega
      intro v2 w2 hown2 hgrow _ _
      have hbm : w2.heap[bM]? = w.heap[bM]? := hgrow.block bM hwz (by simp [Value.ownBlock])
      obtain ⟨a, c, rfl, hP⟩ := pop_law H1.out h3 h4 hk HAT.out HLS.out HOWN.out HIN.out hown2 hgrow
      have HP := Lib.hid hP
      have q3 := fun o => cell_of (hbm.trans H1.out) o
      have f3 := fun o => frozen_of (hbm.trans H1.out) o
      clear hown2 hgrow hbm hP
      go_wp2_with fail
      go_ret
      exact ⟨a, c, _, rfl, by rw [← HAT.out]; rfl, HP.out.1, HP.out.2.1, HP.out.2.2⟩
theorem cut_own {v : Value} {m : Nat} : (cutV v m).ownBlock = v.ownBlock := by
  cases v <;> try rfl
  rename_i a _ _
  cases a <;> rfl
theorem mach_cut {w W : World} {bM base n k : Nat} {env v : Value} {st : List GV} (hm : mach w bM base env v st n) (hk : k ≤ st.length) (hM : W.heap[bM]? = some (.cells #[env, cutV v (st.length - k), .int .i64 n] 78 (0, 0)))
    (ho : ∀ b, b < w.heap.size → b ≠ bM → W.heap[b]? = w.heap[b]?) (hsz : w.heap.size ≤ W.heap.size) : mach W bM base env (cutV v (st.length - k)) (lessN k st) n := by
  obtain ⟨h1, ⟨ss, hls, hown, hin⟩, h3, h4⟩ := hm
  obtain ⟨at', hat⟩ : ∃ a, a = st.length - k := ⟨_, rfl⟩
  rw [← hat] at hM ⊢
  have hl1 : (lessN k st).length = at' := by rw [lessN_len hk, hat]
  have hlt := fun g hg => ownBlock_lt hown (g := g) hg
  refine ⟨hM, ⟨ss.take at', by rw [List.length_take, hl1]; omega, ?_, fun i h h' => ?_⟩, h3, Nat.le_trans h4 hsz⟩
  · rw [hl1]
    have e : lessN k st = st.take at' := by unfold lessN; rw [hat]
    rw [e, flat_take st ss at' hls]
    have hown' := hown
    obtain ⟨hlen, ⟨rfl, h0⟩ | ⟨g, cap, cur, rfl, hg, hh, hn, hcap, hsz, htk⟩⟩ := hown'
    · have : at' = 0 := by omega
      subst this
      exact ⟨by simp, .inl ⟨rfl, rfl⟩⟩
    · exact ownsRow_keep5 (own_trunc hown (m := at') (by omega)) (fun g' e' => by
        have := hlt g' (by rw [← e', cut_own])
        exact ho _ this.2 (by omega))
  · have hi : i < st.length := by omega
    have := isR_mono (hin i hi (by omega)) (fun b hb => ho b hb.1.2 (by have := hb.1.1; omega)) (S' := fun b => since base W b ∧ some b ≠ (cutV v at').ownBlock) (fun b hb => ⟨⟨hb.1.1, Nat.lt_of_lt_of_le hb.1.2 hsz⟩, by rw [cut_own]; exact hb.2⟩)
    simp only [lessN, List.getElem_take]
    exact this
end Go.Proofs.YtljljhjdlicfeaaGreat
namespace Go.Proofs.YtljljhjdlicfeaaGreat
open Go Go.RowKit
set_option maxRecDepth 100000
set_option linter.unusedVariables false
def DoO (bM base : Nat) (env : Value) (o : VO) (n : Nat) (w : World) (e : Ending) (w' : World) : Prop := match o with
  | .go st => PushO bM base env st n w e w'
  | .stop k => e = faultE k ∧ KB base bM w w' ∧ ∃ v st, mach w' bM base env v st n
theorem inR_new {w' : World} {base lo : Nat} {v s : Value} {l : List GV} (h : isR w' (since lo w') s l) (hb : base ≤ lo) (hv : ∀ g, v.ownBlock = some g → g < lo) : inR w' base v s l :=
  isR_sub h (fun b k => ⟨⟨by have := k.1; omega, k.2⟩, fun e => by have := hv b e.symm; have := k.1; omega⟩)
theorem mach_own {w : World} {bM base n : Nat} {env v : Value} {st : List GV} (h : mach w bM base env v st n) : ∀ g, v.ownBlock = some g → base ≤ g ∧ g < w.heap.size := by
  obtain ⟨_, ⟨ss, _, hown, _⟩, _⟩ := h
  exact fun g hg => ownBlock_lt hown hg
theorem PushO.from {bM base n : Nat} {env : Value} {st : List GV} {w w1 w' : World} {e : Ending} (h : PushO bM base env st n w1 e w') (hk : KB base bM w w1) : PushO bM base env st n w e w' :=
  ⟨h.1, hk.trans h.2.1, h.2.2⟩
theorem DoO.from {bM base n : Nat} {env : Value} {o : VO} {w w1 w' : World} {e : Ending} (h : DoO bM base env o n w1 e w') (hk : KB base bM w w1) : DoO bM base env o n w e w' := by
  cases o with
  | go st => exact PushO.from h hk
  | stop k => exact ⟨h.1, hk.trans h.2.1, h.2.2⟩
set_option maxHeartbeats 800000 in
theorem told_any (bM base n : Nat) (env v : Value) (st : List GV) (x : GV) (fx : x.fit) (s : Value) (w : World) (B : Nat) (hB : B ≤ w.heap.size) (hl : st.length ≤ 2147483646) (hm : mach w bM base env v st n) (hs : isL w 0 B s x.l) :
    Calls Tryz.prog 66 #[.pointer (some ⟨bM, 0, none⟩), x.agg s] w (DoO bM base env (toldP x st) n w) := by
  obtain ⟨a, c, rfl⟩ := isL_form hs
  have HM := Lib.hid hm
  have HS := Lib.hid hs
  have HFX := Lib.hid fx
  have hbs := hm.2.2.2
  obtain ⟨V, hV⟩ : ∃ V, V = vmay x := ⟨_, rfl⟩
  have HV := Lib.hid hV
  clear hm hs fx hV
  simp only [GV.agg]
  go_enter Tryz.func66, Tryz.ntmps66
  go_upto_region 1 with fail
  obtain ⟨w1, hw1⟩ : ∃ u, u = w.alloc (.cells #[.int .i64 x.k, .bool x.b, .int .i64 x.n, .string x.t, .slice a x.l.length c] 36) := ⟨_, rfl⟩
  have hb1 : Below w.heap.size w w1 := by rw [hw1]; exact (Below.refl _ _).alloc (Nat.le_refl _) _
  have hx1 : w1.heap[w.heap.size]? = some (.cells #[.int .i64 x.k, .bool x.b, .int .i64 x.n, .string x.t, .slice a x.l.length c] 36 (0, 0)) := by rw [hw1]; exact heap_last
  rw [← hw1]
  have HX1 := Lib.hid hx1
  have HB1 := Lib.hid hb1
  have q1 := fun o => cell_of hx1 o
  have l1 : w.heap.size < w1.heap.size := (Array.getElem?_eq_some_iff.1 hx1).1
  clear hw1 hb1 hx1
  go_wp2_with fail
  refine (vCheck_any x HFX.out (.slice a x.l.length c) w1 B (Nat.le_trans hB HB1.out.size) (isL_below HS.out HB1.out hB)).mono ?_
  rintro e w2 ⟨rfl, hb2⟩
  rw [← HV.out]
  have hx2 := (hb2.block _ l1).trans HX1.out
  have HB2 := Lib.hid (below_down HB1.out hb2 (Nat.le_refl _))
  have q2 := fun o => cell_of hx2 o
  have l2 : w.heap.size < w2.heap.size := (Array.getElem?_eq_some_iff.1 hx2).1
  clear hb2 hx2 q1
  cases V
  · go_wp2_with fail
    refine (need_no 1 w2).mono ?_
    rintro e w3 ⟨rfl, rfl⟩
    have hT : toldP x st = .stop 1 := by unfold toldP; rw [if_neg (by rw [← HV.out]; simp)]
    rw [hT]
    exact ⟨rfl, rfl, KB.below HB2.out hbs, v, st, mach_below HM.out HB2.out⟩
  · go_wp2_with fail
    refine (need_ok 1 w2).mono ?_
    rintro e w3 ⟨rfl, hw3⟩
    rw [hw3]
    go_wp2_with fail
    refine (mCopied_any x HFX.out (.slice a x.l.length c) w2 B (Nat.le_trans hB HB2.out.size) (isL_below HS.out HB2.out hB)).mono ?_
    rintro e w4 ⟨a4, c4, rfl, hr4, hb4⟩
    have HR4 := Lib.hid hr4
    have HB4 := Lib.hid (below_down HB2.out hb4 (Nat.le_refl _))
    clear hr4 hb4 q2
    simp only [GV.agg]
    go_wp2_with fail
    refine (push_any bM base n env v st x (.slice a4 x.l.length c4) w4 hl (mach_below HM.out HB4.out) (inR_new HR4.out (by omega) (fun g hg => by have := (mach_own HM.out g hg).2; omega))).mono ?_
    rintro e w5 hP
    have hp1 := hP.1
    subst hp1
    have HP := Lib.hid hP
    clear hP
    go_wp2_with fail
    go_end0
    have hT : toldP x st = .go (st ++ [x]) := by unfold toldP; rw [if_pos HV.out.symm]
    rw [hT]
    exact PushO.from HP.out (KB.below HB4.out hbs)
def BoxO (w1 wx : World) (p : Nat) (x : GV) (a : Option Addr) (c : Nat) : Prop := w1.heap.size ≤ p ∧ wx.heap[p]? = some (.cells #[.int .i64 x.k, .bool x.b, .int .i64 x.n, .string x.t, .slice a x.l.length c] 36 (0, 0)) ∧ isL wx 0 wx.heap.size (.slice a x.l.length c) x.l ∧ Below w1.heap.size w1 wx
theorem boxO_A {w1 w2 : World} {x : GV} {a : Option Addr} {c lo : Nat} {Z : Array Value} (hz : w2.heap[w1.heap.size]? = some (.cells Z 36 (0, 0))) (hZ : Z.size = 5) (hr : isR w2 (since lo w2) (.slice a x.l.length c) x.l) (hlo : w1.heap.size < lo) (hb : Below w1.heap.size w1 w2) :
    BoxO w1 (((((w2.setCell ⟨w1.heap.size, 0, none⟩ (.int .i64 x.k)).setCell ⟨w1.heap.size, 1, none⟩ (.bool x.b)).setCell ⟨w1.heap.size, 2, none⟩ (.int .i64 x.n)).setCell ⟨w1.heap.size, 3, none⟩ (.string x.t)).setCell ⟨w1.heap.size, 4, none⟩ (.slice a x.l.length c)) w1.heap.size x a c := by
  refine ⟨Nat.le_refl _, ?_, ?_, set5B hb (Nat.le_refl _) _ _ _ _ _⟩
  · rw [five_cells5 hz]
    match Z, hZ with
    | ⟨[z0, z1, z2, z3, z4]⟩, _ => rfl
  · have h5 := isR_setCell (isR_setCell (isR_setCell (isR_setCell (isR_setCell hr (p := ⟨w1.heap.size, 0, none⟩) (fun h => by have := h.1; dsimp only at this; omega) (.int .i64 x.k)) (p := ⟨w1.heap.size, 1, none⟩) (fun h => by have := h.1; dsimp only at this; omega) (.bool x.b)) (p := ⟨w1.heap.size, 2, none⟩) (fun h => by have := h.1; dsimp only at this; omega) (.int .i64 x.n)) (p := ⟨w1.heap.size, 3, none⟩) (fun h => by have := h.1; dsimp only at this; omega) (.string x.t)) (p := ⟨w1.heap.size, 4, none⟩) (fun h => by have := h.1; dsimp only at this; omega) (.slice a x.l.length c)
    exact isR_isL h5 (fun b hb => ⟨Nat.zero_le _, by simp only [hsz_setCell2]; exact hb.2⟩)
theorem boxO_B {w1 w2 : World} {x : GV} {a : Option Addr} {c lo : Nat} (hr : isR w2 (since lo w2) (.slice a x.l.length c) x.l) (hb : Below w1.heap.size w1 w2) :
    BoxO w1 (w2.alloc (.cells #[.int .i64 x.k, .bool x.b, .int .i64 x.n, .string x.t, .slice a x.l.length c] 36)) w2.heap.size x a c := by
  refine ⟨hb.size, heap_last, ?_, hb.alloc hb.size _⟩
  have h1 : isL w2 0 w2.heap.size (.slice a x.l.length c) x.l := isR_isL hr (fun b hb => ⟨Nat.zero_le _, hb.2⟩)
  exact isL_wide (isL_below h1 ((Below.refl w2.heap.size w2).alloc (Nat.le_refl _) _) (Nat.le_refl _)) (Nat.le_refl _) (by simp)
def EnvOk (E : EP) (ev : Value) (B : Nat) (w : World) : Prop := ∀ w', Below B w w' → B ≤ w'.heap.size →
  (∀ s, Calls Tryz.prog 141 #[ev, .string s] w' (TellR (E.var s).1 (.bool (E.var s).2) w')) ∧
  (∀ s, Calls Tryz.prog 139 #[ev, .string s] w' (TellR (E.field s).1 (.bool (E.field s).2) w')) ∧
  ∀ n s, Calls Tryz.prog 140 #[ev, .int .i64 n, .string s] w' (TellR (E.get n s).1 (.int .i64 (E.get n s).2) w')
theorem EnvOk.keep {E : EP} {ev : Value} {B : Nat} {w w' : World} (h : EnvOk E ev B w) (hb : Below B w w') : EnvOk E ev B w' := fun w2 h2 hs => h w2 (hb.trans h2) hs
end Go.Proofs.YtljljhjdlicfeaaGreat
