/-
  What the statements' OverValue does: it writes over the memory of what it is handed, and over no other. Conditions: the memory may be written, lists shorter than 2^31.
-/
import Derived.Test.YtnmolgmchoihmaaDoorOver
import Derived.Test.YtnmolgmchoihmaaDoorCopyZ
namespace Go.Proofs.YtnmolgmchoihmaaDoor
open Go Go.RowKit
set_option maxRecDepth 100000
set_option linter.unusedVariables false
/-- the slices of blocks of S may be written over behind as ahead -/
def OvrKeep (S : Nat → Prop) (w w' : World) : Prop := ∀ m s, ovr w S m s → ovr w' S m s
def OverPost (S : Nat → Prop) (w : World) (e : Ending) (w' : World) : Prop := e = .returned (.tuple #[]) ∧ KeptS S w w' ∧ OvrKeep S w w'
def OverC (S : Nat → Prop) (m : Nat) : Prop := ∀ (k : Int) (b : Bool) (n : Int) (t : ByteArray) (s : Value) (w : World), (∀ b, S b → b < w.heap.size) → ovr w S m s →
  Calls Tryd.prog 14 #[.agg #[.int .i64 k, .bool b, .int .i64 n, .string t, s]] w (OverPost S w)

theorem ovr_form {w : World} {S : Nat → Prop} : ∀ {m : Nat} {s : Value}, ovr w S m s → ∃ a n c, s = .slice a n c ∧ n ≤ c ∧ n ≤ 2147483647 ∧ room w S a c
  | 0, s, ⟨a, c, e, h⟩ => ⟨a, 0, c, e, Nat.zero_le _, by omega, h⟩
  | m + 1, s, ⟨a, n, c, e, h1, h2, h3, _⟩ => ⟨a, n, c, e, h1, h2, h3⟩
theorem ovr_elem {w : World} {S : Nat → Prop} {m : Nat} {a : Option Addr} {n c : Nat} (h : ovr w S m (.slice a n c)) (hn : 0 < n) : ∃ m' b off cs T, m = m' + 1 ∧ a = some ⟨b, off, none⟩ ∧ S b ∧ w.heap[b]? = some (.cells cs T (0, 0)) ∧ off % 5 = 0 ∧ off + 5 * c ≤ cs.size ∧ ∀ i, i < n → elemO w (ovr w S m') b (off + i * 5) := by
  cases m with
  | zero =>
    obtain ⟨a', c', e, _⟩ := h
    simp only [Value.slice.injEq] at e
    omega
  | succ m =>
    obtain ⟨a', n', c', e, h1, h2, h3, h4⟩ := h
    simp only [Value.slice.injEq] at e
    obtain ⟨rfl, rfl, rfl⟩ := e
    obtain ⟨b, off, cs, T, ea, hb, hh, r1, r2⟩ := h3 (by omega)
    exact ⟨m, b, off, cs, T, rfl, ea, hb, hh, r1, r2, h4 b off ea⟩

set_option maxHeartbeats 1600000 in
theorem over_step (S : Nat → Prop) (m : Nat) (ih : ∀ m', m = m' + 1 → OverC S m') : OverC S m := by
  intro k b n t s w hS hs
  obtain ⟨a, len, c, rfl, hc1, hc2, hroom⟩ := ovr_form hs
  have HS := Lib.hid hs
  have HSS := Lib.hid hS
  have hself : ¬ S w.heap.size := fun h => by have := hS _ h; omega
  have IH := Lib.hid ih
  clear hs hroom ih hS
  go_enter Tryd.func14, Tryd.ntmps14
  go_wp2_with fail
  go_loopw [2] (fun i wr => ∃ q : Nat, q ≤ len ∧ i = .int .i64 q ∧ KeptS S (w.alloc (.cells #[.int .i64 k, .bool b, .int .i64 n, .string t, .slice a len c] 28)) wr ∧ Hid (OvrKeep S w wr)) (fun i _ => len - (intOf i).toNat)
  case atStart => exact ⟨0, Nat.zero_le _, rfl, KeptS.refl _ _, fun m s h => ovr_keep (fun b hb => Below.heap_alloc _ _ _ (HSS.out b hb)) m s h⟩
  case round =>
    obtain ⟨q, hq, rfl, hkp, hO⟩ := hrel
    have hsz : w.heap.size + 1 ≤ wr.heap.size := by have := hkp.size; simpa using this
    have p1 := hkp.block w.heap.size hself (by simp)
    rw [heap_last] at p1
    have q1 := fun o => cell_of p1 o
    have P1 := Lib.hid p1
    clear p1
    by_cases hlt : q < len
    · obtain ⟨m', bb, off, cs, T, hm, rfl, hb1, hh, r1, r2, hel⟩ := ovr_elem (hO.out _ _ HS.out) (by omega)
      have hb2 : bb < w.heap.size := HSS.out _ hb1
      have HM := Lib.hid hm
      obtain ⟨k1, b1, n1, t1, a1, l1, c1, x0, x1, x2, x3, x4, x5⟩ := hel q hlt
      have X5 := Lib.hid x5
      clear hh hel hm x5
      go_wp2_with fail
      refine (IH.out m' HM.out k1 b1 n1 t1 _ _ (fun b hb => by have := HSS.out b hb; omega) X5.out).mono ?_
      rintro e w1 hpost
      obtain ⟨rfl, hkp2, hO2⟩ := hpost
      have HO2 := Lib.hid hO2
      have hsz2 := hkp2.size
      clear x0 x1 x2 x3 x4 X5 q1 hO2
      obtain ⟨m2, bb2, off2, cs2, T2, hm2, ea2, _, hh2, r12, r22, hel2⟩ := ovr_elem (HO2.out _ _ (hO.out _ _ HS.out)) (by omega)
      simp only [Option.some.injEq, Addr.mk.injEq, and_true] at ea2
      obtain ⟨rfl, rfl⟩ := ea2
      obtain ⟨k2, b2, n2, t2, a2, l2, c2, x0, x1, x2, x3, x4, x5⟩ := hel2 q hlt
      have p2 := hkp2.block w.heap.size hself (by omega)
      rw [P1.out] at p2
      have q2 := fun o => cell_of p2 o
      have f1 := fun o => frozen_of hh2 o
      have HH2 := Lib.hid hh2
      have HM2 := Lib.hid hm2
      clear p2 hh2 hel2 x5 hm2
      go_wp2_with fail
      have hfit : ∀ cs T, w1.heap[bb]? = some (.cells cs T (0, 0)) → off + q * 5 + 5 ≤ cs.size := fun cs T h => by
        rw [HH2.out] at h
        simp only [Option.some.injEq, Obj.cells.injEq] at h
        rw [← h.1]
        omega
      go_roundw
      case rel => exact ⟨q + 1, by omega, by go_num, (hkp.trans hkp2).over (over_mk5 w1 bb (off + q * 5) 98) hb1, fun m s h => ovr_over (over_mk5 w1 bb (off + q * 5) 98) (by omega) hfit m s (HO2.out _ _ (hO.out _ _ h))⟩
      case measure => simp [intOf]; omega
    · obtain rfl : q = len := by omega
      obtain ⟨i0, hi0, hz0, hz1, hz2⟩ := info_parts vinfo
      have HSL := Lib.hid Tryd.underlying26
      have HI := Lib.hid (And.intro hi0 (And.intro hz0 (And.intro hz1 hz2)))
      clear hi0 hz0 hz1 hz2
      by_cases hc0 : c = 0
      · subst hc0
        obtain rfl : q = 0 := by omega
        go_wp2_with (at_builtin; refine wpList_append_grows _ rfl _ _ 26 rfl 28 i0 (.agg #[.int .i64 0, .bool false, .int .i64 0, .string { data := #[] }, .slice none 0 0]) 5 64 Tryd.underlying26 HI.out.1 HI.out.2.1 HI.out.2.2.1 HI.out.2.2.2 rfl (by decide) _ _ _ [] rfl (fun _ => ⟨rfl, rfl⟩) rfl ?c6 ⟨wr.heap.size, 0, none⟩ 1 1 [.int .i64 0, .bool false, .int .i64 0, .string { data := #[] }, .slice none 0 0] rfl rfl ?c1 ?c2 ?c3 ?c4 ?c5 ?_)
        case c6 => intro b _ j u hj; simp at hj
        case c1 => exact fun j u hj => news_last hj
        case c2 => intro u hu; simp only [List.mem_cons, List.not_mem_nil, or_false] at hu; rcases hu with rfl | rfl | rfl | rfl | rfl <;> rfl
        case c3 => omega
        case c4 => unfold maxLen; omega
        case c5 => omega
        intro v' w2 hown hgrow
        obtain ⟨g, cap, cur, hv, hg, hh, hcur⟩ := owns_slice (n := 0) hown
        obtain ⟨u0, u1, u2, u3, u4, y0, y1, y2, y3, y4⟩ := five_cells (p := 0) hh (by omega)
        have f1 := fun o => frozen_of hh o
        have p2 := hgrow.block w.heap.size (by simp; omega) (by simp)
        rw [Below.heap_alloc _ _ _ (by omega), P1.out] at p2
        have q2 := fun o => cell_of p2 o
        have HH2 := Lib.hid hh
        have HG := Lib.hid hgrow
        have HGG := Lib.hid hg
        clear hown hgrow p2 hh hcur hg q1
        rw [hv]
        clear hv
        go_wp2_with fail
        go_end0
        have hgw : wr.heap.size + 1 ≤ g := by have := HGG.out; simpa using this
        refine ⟨rfl, ((((KeptS.refl S w).alloc _).trans hkp).alloc _ |>.grown HG.out).fresh (over_mk5 w2 g 0 97) (by omega), fun m s h => ?_⟩
        refine ovr_keep (fun b h1 => ?_) m s (hO.out m s h)
        have h2 := HSS.out b h1
        rw [(over_mk5 w2 g 0 97).block b (by omega), HG.out.block b (by simp; omega) (by simp), Below.heap_alloc _ _ _ (by omega)]
      · obtain ⟨a2, n2, c2, e2, _, _, hr2⟩ := ovr_form (hO.out _ _ HS.out)
        simp only [Value.slice.injEq] at e2
        obtain ⟨rfl, rfl, rfl⟩ := e2
        obtain ⟨bb, off, cs, T, rfl, hb1, hh, r1, r2⟩ := hr2 (by omega)
        have hb2 : bb < w.heap.size := HSS.out _ hb1
        have HH := Lib.hid hh
        have hzz : bb < wr.heap.size := by omega
        have hcc : ∀ o, wr.cell? ⟨bb, o, none⟩ = cs[o]? := fun o => cell_of hh o
        have HCC := Lib.hid hcc
        clear hh hcc
        go_wp2_with (at_builtin; refine wpList_append_arg _ rfl _ _ 26 rfl 28 i0 (.agg #[.int .i64 0, .bool false, .int .i64 0, .string { data := #[] }, .slice none 0 0]) 5 64 HSL.out HI.out.1 HI.out.2.1 HI.out.2.2.1 HI.out.2.2.2 rfl (by decide) bb off q c ((cs.toList.drop off).take (q * 5)) rfl ?c0 ?c6 ⟨wr.heap.size, 0, none⟩ 1 1 [.int .i64 0, .bool false, .int .i64 0, .string { data := #[] }, .slice none 0 0] rfl rfl ?c1 ?c2 ?c3 ?c4 ?c5 ?cr ?cg)
        case c0 => simp; omega
        case c6 =>
          intro j u hj
          rw [List.getElem?_take] at hj
          split at hj
          · rw [List.getElem?_drop] at hj
            rw [World.cell?_alloc_lt _ _ _ hzz, HCC.out]
            simpa using hj
          · cases hj
        case c1 => exact fun j u hj => news_last hj
        case c2 => intro u hu; simp only [List.mem_cons, List.not_mem_nil, or_false] at hu; rcases hu with rfl | rfl | rfl | rfl | rfl <;> rfl
        case c3 =>
          intro hr j hj
          simp only [List.length_cons, List.length_nil] at hj
          refine ⟨?_, ?_⟩
          · rw [World.cell?_alloc_lt _ _ _ hzz, HCC.out, Array.getElem?_eq_getElem (by omega)]
            rfl
          · exact frozen_of (by rw [Below.heap_alloc _ _ _ hzz]; exact HH.out) _
        case c4 => unfold maxLen; omega
        case c5 => omega
        case cr =>
          intro hroom
          have hov := over_cells5 (wr.alloc (.cells #[.int .i64 0, .bool false, .int .i64 0, .string { data := #[] }, .slice none 0 0] 28)) bb (off + q * 5) 0
          generalize (wr.alloc (.cells #[.int .i64 0, .bool false, .int .i64 0, .string { data := #[] }, .slice none 0 0] 28)).setCells bb (off + q * 5) [.int .i64 0, .bool false, .int .i64 0, .string { data := #[] }, .slice none 0 0] = w2 at *
          have HOV := Lib.hid hov
          obtain ⟨cs', e1, e2, e3, _⟩ := hov.shape cs T (by rw [Below.heap_alloc _ _ _ hzz]; exact HH.out) (by omega)
          obtain ⟨u0, u1, u2, u3, u4, y0, y1, y2, y3, y4⟩ := five_cells (p := off + q * 5) e1 (by omega)
          have f1 := fun o => frozen_of e1 o
          have p2 := hov.block w.heap.size (by omega)
          rw [Below.heap_alloc _ _ _ (by omega), P1.out] at p2
          have q2 := fun o => cell_of p2 o
          have HE1 := Lib.hid e1
          have HE2 := Lib.hid e2
          clear hov p2 e1 e2 e3 q1
          go_wp2_with fail
          go_end0
          have hf1 : ∀ cs0 T0, (wr.alloc (.cells #[.int .i64 0, .bool false, .int .i64 0, .string { data := #[] }, .slice none 0 0] 28)).heap[bb]? = some (.cells cs0 T0 (0, 0)) → off + q * 5 + 5 ≤ cs0.size := fun cs0 T0 h => by
            rw [Below.heap_alloc _ _ _ hzz, HH.out] at h
            simp only [Option.some.injEq, Obj.cells.injEq] at h
            rw [← h.1]
            omega
          have hf2 : ∀ cs0 T0, w2.heap[bb]? = some (.cells cs0 T0 (0, 0)) → off + q * 5 + 5 ≤ cs0.size := fun cs0 T0 h => by
            rw [HE1.out] at h
            simp only [Option.some.injEq, Obj.cells.injEq] at h
            have := HE2.out
            rw [← h.1]
            omega
          refine ⟨rfl, (((((KeptS.refl S w).alloc _).trans hkp).alloc _).over HOV.out hb1).over (over_mk5 w2 bb (off + q * 5) 97) hb1, fun m s h => ?_⟩
          refine ovr_over (over_mk5 w2 bb (off + q * 5) 97) (by omega) hf2 m s (ovr_over HOV.out (by omega) hf1 m s (ovr_keep (fun b h1 => ?_) m s (hO.out m s h)))
          have h2 := HSS.out b h1
          exact Below.heap_alloc _ _ _ (by omega)
        case cg =>
          intro hfull v' w2 hown hgrow
          obtain ⟨g, cap, cur, hv, hg, hh, hcur⟩ := owns_slice (n := q) hown
          obtain ⟨u0, u1, u2, u3, u4, y0, y1, y2, y3, y4⟩ := five_cells (p := q * 5) hh (by omega)
          have f1 := fun o => frozen_of hh o
          have p2 := hgrow.block w.heap.size (by simp; omega) (by simp)
          rw [Below.heap_alloc _ _ _ (by omega), P1.out] at p2
          have q2 := fun o => cell_of p2 o
          have HH2 := Lib.hid hh
          have HG := Lib.hid hgrow
          have HGG := Lib.hid hg
          clear hown hgrow p2 hh hcur hg q1
          rw [hv]
          clear hv
          go_wp2_with fail
          go_end0
          have hgw : wr.heap.size + 1 ≤ g := by have := HGG.out; simpa using this
          refine ⟨rfl, ((((KeptS.refl S w).alloc _).trans hkp).alloc _ |>.grown HG.out).fresh (over_mk5 w2 g (q * 5) 97) (by omega), fun m s h => ?_⟩
          refine ovr_keep (fun b h1 => ?_) m s (hO.out m s h)
          have h2 := HSS.out b h1
          rw [(over_mk5 w2 g (q * 5) 97).block b (by omega), HG.out.block b (by simp; omega) (by simp), Below.heap_alloc _ _ _ (by omega)]

theorem over_all (S : Nat → Prop) : ∀ m, OverC S m
  | 0 => over_step S 0 (fun m' h => by omega)
  | m + 1 => over_step S (m + 1) (fun m' h => by
    obtain rfl : m = m' := by omega
    exact over_all S m)
/-- of a value that a call has made: what was there below lo is as it was -/
theorem over_any (x : GV) (fx : x.fit) (lo : Nat) (s : Value) (w : World) (hlo : lo ≤ w.heap.size) (h : isR w (since lo w) s x.l) :
    Calls Tryd.prog 14 #[x.agg s] w fun e w' => e = .returned (.tuple #[]) ∧ Below lo w w' := by
  obtain ⟨_, _, _, _, _, h6, h7⟩ := fit_open fx
  have ho := ovr_of (sizeL x.l) (S' := since lo w) (Nat.le_refl _) h6 h7 h (fun b hb => hb)
  exact (over_all (since lo w) (sizeL x.l) x.k x.b x.n x.t s w (fun b hb => hb.2) ho).mono fun e w' hp => ⟨hp.1, hp.2.1.below (fun b hb => hb.1) hlo⟩
end Go.Proofs.YtnmolgmchoihmaaDoor
