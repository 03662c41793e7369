/-
  proctorlaw10.CodeMost tells true. Conditions: the table of strconv lies as the program's text lays it.
-/
import Derived.Test.YtnmolgmchoihmaaDoorMostP
import Derived.Test.YtnmolgmchoihmaaDoorWakes
namespace Go.Proofs.YtnmolgmchoihmaaDoor
open Go Go.RowKit
set_option maxRecDepth 100000
set_option linter.unusedVariables false
theorem einfo : (Tryd.prog.info? 30).map (fun i => (i.zero, i.size, i.bytes)) = some (some (.agg #[.int .i64 0, .string { data := #[] }, .int .i64 0, .bool false, .int .i64 0, .string { data := #[] }, .slice none 0 0, .slice none 0 0]), 8, 112) := by kernel_rfl
set_option maxHeartbeats 1600000 in
theorem set8 {wr : World} {g : Nat} {T : TypeId} {c0 c1 c2 c3 c4 c5 c6 c7 : Value} (v0 v1 v2 v3 v4 v5 v6 v7 : Value) (h : wr.heap[g]? = some (.cells #[c0, c1, c2, c3, c4, c5, c6, c7] T (0, 0))) :
    ((((((((wr.setCell ⟨g, 0, none⟩ v0).setCell ⟨g, 1, none⟩ v1).setCell ⟨g, 2, none⟩ v2).setCell ⟨g, 3, none⟩ v3).setCell ⟨g, 4, none⟩ v4).setCell ⟨g, 5, none⟩ v5).setCell ⟨g, 6, none⟩ v6).setCell ⟨g, 7, none⟩ v7).heap[g]? = some (.cells #[v0, v1, v2, v3, v4, v5, v6, v7] T (0, 0)) ∧ ((((((((wr.setCell ⟨g, 0, none⟩ v0).setCell ⟨g, 1, none⟩ v1).setCell ⟨g, 2, none⟩ v2).setCell ⟨g, 3, none⟩ v3).setCell ⟨g, 4, none⟩ v4).setCell ⟨g, 5, none⟩ v5).setCell ⟨g, 6, none⟩ v6).setCell ⟨g, 7, none⟩ v7).heap.size = wr.heap.size ∧ (∀ b, b ≠ g → ((((((((wr.setCell ⟨g, 0, none⟩ v0).setCell ⟨g, 1, none⟩ v1).setCell ⟨g, 2, none⟩ v2).setCell ⟨g, 3, none⟩ v3).setCell ⟨g, 4, none⟩ v4).setCell ⟨g, 5, none⟩ v5).setCell ⟨g, 6, none⟩ v6).setCell ⟨g, 7, none⟩ v7).heap[b]? = wr.heap[b]?) ∧ (∀ B w, B ≤ g → Below B w wr → Below B w ((((((((wr.setCell ⟨g, 0, none⟩ v0).setCell ⟨g, 1, none⟩ v1).setCell ⟨g, 2, none⟩ v2).setCell ⟨g, 3, none⟩ v3).setCell ⟨g, 4, none⟩ v4).setCell ⟨g, 5, none⟩ v5).setCell ⟨g, 6, none⟩ v6).setCell ⟨g, 7, none⟩ v7)) := by
  refine ⟨?_, by simp only [hsz_setCell2], fun b hb => ?_, fun B w hB h => ?_⟩
  · rw [heap_setCell2 (heap_setCell2 (heap_setCell2 (heap_setCell2 (heap_setCell2 (heap_setCell2 (heap_setCell2 (heap_setCell2 h)))))))]
    simp
  · have k : ∀ (v : World) (o : Nat) (u : Value), (v.setCell ⟨g, o, none⟩ u).heap[b]? = v.heap[b]? := fun v o u => Below.heap_setCell _ _ _ _ hb
    rw [k, k, k, k, k, k, k, k]
  · have k : ∀ (v : World) (o : Nat) (u : Value), Below B w v → Below B w (v.setCell ⟨g, o, none⟩ u) := fun v o u h => h.setCell hB _
    exact k _ _ _ (k _ _ _ (k _ _ _ (k _ _ _ (k _ _ _ (k _ _ _ (k _ _ _ (k _ _ _ h)))))))
theorem owns_lits {w : World} {base N : Nat} {T : TypeId} {v : Value} (h : w.ownsRow base T 8 v N (repC N)) (hN : 0 < N) :
    ∃ g cap, v = .slice (some ⟨g, 0, none⟩) N cap ∧ N ≤ cap ∧ base ≤ g ∧ g < w.heap.size ∧ ∀ j u, (repC N)[j]? = some u → w.cell? ((⟨g, 0, none⟩ : Addr).add j) = some u := by
  have hlt := h.lt
  have hc := fun {g} (e : v.ownBlock = some g) => h.cells e
  obtain ⟨h1, ⟨_, e⟩ | ⟨g, cap, cur, rfl, hb, hh, hn, r⟩⟩ := h
  · omega
  · exact ⟨g, cap, rfl, hn, hb, (hlt g rfl).2, hc rfl⟩
/-- the four boxes that are asked, and what they hold -/
structure MostW (w : World) (b0 b1 b2 b3 M k : Nat) (sa0 sa1 sa2 sa3 : Value) (w' : World) : Prop where
  below : Below w.heap.size w w'
  size : M ≤ w'.heap.size
  lt : b0 < M ∧ b1 < M ∧ b2 < M ∧ b3 < M
  box0 : w'.heap[b0]? = some (.cells #[.int .i64 (chain 29).op, .string (chain 29).text, .int .i64 (chain 29).v.k, .bool (chain 29).v.b, .int .i64 (chain 29).v.n, .string (chain 29).v.t, .slice none 0 0, sa0] 30 (0, 0))
  box1 : w'.heap[b1]? = some (.cells #[.int .i64 7, .string { data := #[] }, .int .i64 0, .bool false, .int .i64 0, .string { data := #[] }, .slice none 0 0, sa1] 30 (0, 0))
  box2 : w'.heap[b2]? = some (.cells #[.int .i64 5, .string { data := #[] }, .int .i64 0, .bool false, .int .i64 0, .string { data := #[] }, .slice none 0 0, sa2] 30 (0, 0))
  box3 : w'.heap[b3]? = some (.cells #[.int .i64 5, .string { data := #[] }, .int .i64 0, .bool false, .int .i64 0, .string { data := #[] }, .slice none 0 0, sa3] 30 (0, 0))
  arg0 : isX w' M sa0 (chain 29).args
  arg1 : isX w' M sa1 [chain 29]
  arg2 : isX w' M sa2 (List.replicate k lit0)
  arg3 : isX w' M sa3 (List.replicate (k + 1) lit0)
theorem MostW.on {w : World} {b0 b1 b2 b3 M k : Nat} {sa0 sa1 sa2 sa3 : Value} {w1 w2 : World} (h : MostW w b0 b1 b2 b3 M k sa0 sa1 sa2 sa3 w1) (hb : Below w1.heap.size w1 w2) : MostW w b0 b1 b2 b3 M k sa0 sa1 sa2 sa3 w2 := by
  have hs := h.size
  obtain ⟨l0, l1, l2, l3⟩ := h.lt
  exact ⟨below_down h.below hb (Nat.le_refl _), Nat.le_trans hs hb.size, ⟨l0, l1, l2, l3⟩, (hb.block _ (by omega)).trans h.box0, (hb.block _ (by omega)).trans h.box1, (hb.block _ (by omega)).trans h.box2, (hb.block _ (by omega)).trans h.box3,
    isX_below h.arg0 hb hs, isX_below h.arg1 hb hs, isX_below h.arg2 hb hs, isX_below h.arg3 hb hs⟩
set_option maxHeartbeats 6400000 in
theorem most_any (w : World) (ht : tabOk w) : Calls Tryd.prog 6 #[] w fun e w' => e = .returned (.bool true) ∧ Below w.heap.size w w' := by
  have HT := Lib.hid ht
  clear ht
  go_enter Tryd.func6, Tryd.ntmps6
  go_wp2_with fail
  go_loopw [2] (fun i wr => ∃ (k ca : Nat) (aa : Option Addr), k ≤ 29 ∧ i = .int .i64 ((k : Int) + 1) ∧ Below w.heap.size w wr ∧ w.heap.size + 1 ≤ wr.heap.size ∧
    Hid (wr.heap[w.heap.size]? = some (.cells #[.int .i64 (chain k).op, .string (chain k).text, .int .i64 (chain k).v.k, .bool (chain k).v.b, .int .i64 (chain k).v.n, .string (chain k).v.t, .slice none 0 0, .slice aa (chain k).args.length ca] 30 (0, 0))) ∧ Hid (isE wr (fun b => w.heap.size < b ∧ b < wr.heap.size) noRoom noRoom (.slice aa (chain k).args.length ca) (chain k).args)) (fun i _ => 30 - (intOf i).toNat)
  case atStart => exact ⟨0, 0, none, by omega, rfl, (Below.refl w.heap.size w).alloc (Nat.le_refl _) _, by simp, heap_last, ⟨none, 0, rfl, Nat.zero_le _, trivial, fun h => by simp [chain, lit0] at h⟩⟩
  case round =>
    obtain ⟨k, ca, aa, hk, rfl, hbel, hsz, hE, hX⟩ := hrel
    have q1 := fun o => cell_of hE.out o
    have f1 := fun o => frozen_of hE.out o
    have hzh : w.heap.size < wr.heap.size := by omega
    have hne : w.heap.size ≠ wr.heap.size := by omega
    have HB := Lib.hid hbel
    clear hbel
    by_cases hlt : k < 29
    · have HS8 := Lib.hid (set8 (wr := wr) (.int .i64 7) (.string { data := #[] }) (.int .i64 0) (.bool false) (.int .i64 0) (.string { data := #[] }) (.slice none 0 0) (.slice (some ⟨wr.heap.size, 0, none⟩) 1 1) hE.out)
      go_wp2_with fail
      go_roundw
      case rel =>
        obtain ⟨h1, h2, h3, h4⟩ := HS8.out
        refine ⟨k + 1, 1, some ⟨wr.heap.size, 0, none⟩, by omega, by go_num, (h4 _ _ (Nat.le_refl _) HB.out).alloc (by rw [h2]; omega) _, by simp [h2]; omega, ?_, ?_⟩
        · exact (Below.heap_alloc _ _ _ (by rw [h2]; omega)).trans h1
        · refine isE_one (x := chain k) (sa := .slice aa (chain k).args.length ca) (T := 30) (cs := #[.int .i64 (chain k).op, .string (chain k).text, .int .i64 (chain k).v.k, .bool (chain k).v.b, .int .i64 (chain k).v.n, .string (chain k).v.t, .slice none 0 0, .slice aa (chain k).args.length ca]) ?_ rfl (by rw [chain_v]; rfl) ⟨hzh, by simp [h2]⟩ ?_
          · have h5 : ∀ W : World, W.heap.size = wr.heap.size → (W.alloc (.cells #[.int .i64 (chain k).op, .string (chain k).text, .int .i64 (chain k).v.k, .bool (chain k).v.b, .int .i64 (chain k).v.n, .string (chain k).v.t, .slice none 0 0, .slice aa (chain k).args.length ca] 30)).heap[wr.heap.size]? = some (.cells #[.int .i64 (chain k).op, .string (chain k).text, .int .i64 (chain k).v.k, .bool (chain k).v.b, .int .i64 (chain k).v.n, .string (chain k).v.t, .slice none 0 0, .slice aa (chain k).args.length ca] 30 (0, 0)) := fun W h => by rw [← h]; exact heap_last
            exact h5 _ h2
          · refine isE_mono hX.out (fun b off hb => ?_) (fun b hb => ⟨hb.1, by simp [h2]; omega⟩) (fun _ _ h => h) (fun _ _ h => h)
            refine World.cell?_of_block (a := ⟨b, off, none⟩) ?_
            exact (Below.heap_alloc _ _ _ (by rw [h2]; exact hb.2)).trans (h3 b (by omega))
      case measure => simp [intOf]; omega
    · obtain rfl : k = 29 := by omega
      clear hlt hk
      have e30 : ((29 : Nat) : Int) + 1 = 30 := rfl
      rw [e30]
      clear e30
      go_wp2_with fail
      obtain ⟨wA, hwA⟩ : ∃ wA, wA = ((wr.alloc (.cells #[.int .i64 (chain 29).op, .string (chain 29).text, .int .i64 (chain 29).v.k, .bool (chain 29).v.b, .int .i64 (chain 29).v.n, .string (chain 29).v.t, .slice none 0 0, .slice aa (chain 29).args.length ca] 30)).alloc (.cells #[.int .i64 7, .string { data := #[] }, .int .i64 0, .bool false, .int .i64 0, .string { data := #[] }, .slice none 0 0, .slice (some ⟨wr.heap.size, 0, none⟩) 1 1] 30)).alloc (.cells #[.int .i64 5, .string { data := #[] }, .int .i64 0, .bool false, .int .i64 0, .string { data := #[] }, .slice none 0 0, .slice none 0 0] 30) := ⟨_, rfl⟩
      have hA : Below wr.heap.size wr wA ∧ wA.heap.size = wr.heap.size + 3 ∧ wA.heap[wr.heap.size]? = some (.cells #[.int .i64 (chain 29).op, .string (chain 29).text, .int .i64 (chain 29).v.k, .bool (chain 29).v.b, .int .i64 (chain 29).v.n, .string (chain 29).v.t, .slice none 0 0, .slice aa (chain 29).args.length ca] 30 (0, 0)) ∧ wA.heap[wr.heap.size + 1]? = some (.cells #[.int .i64 7, .string { data := #[] }, .int .i64 0, .bool false, .int .i64 0, .string { data := #[] }, .slice none 0 0, .slice (some ⟨wr.heap.size, 0, none⟩) 1 1] 30 (0, 0)) ∧ wA.heap[wr.heap.size + 2]? = some (.cells #[.int .i64 5, .string { data := #[] }, .int .i64 0, .bool false, .int .i64 0, .string { data := #[] }, .slice none 0 0, .slice none 0 0] 30 (0, 0)) := by
        rw [hwA]
        refine ⟨(((Below.refl wr.heap.size wr).alloc (Nat.le_refl _) _).alloc (by simp) _).alloc (by simp; omega) _, by simp, ?_, ?_, ?_⟩
        · exact (Below.heap_alloc _ _ _ (by simp; omega)).trans heap_two
        · exact (Below.heap_alloc _ _ _ (by simp)).trans heap_second
        · have := @heap_last ((wr.alloc (.cells #[.int .i64 (chain 29).op, .string (chain 29).text, .int .i64 (chain 29).v.k, .bool (chain 29).v.b, .int .i64 (chain 29).v.n, .string (chain 29).v.t, .slice none 0 0, .slice aa (chain 29).args.length ca] 30)).alloc (.cells #[.int .i64 7, .string { data := #[] }, .int .i64 0, .bool false, .int .i64 0, .string { data := #[] }, .slice none 0 0, .slice (some ⟨wr.heap.size, 0, none⟩) 1 1] 30)) (.cells #[.int .i64 5, .string { data := #[] }, .int .i64 0, .bool false, .int .i64 0, .string { data := #[] }, .slice none 0 0, .slice none 0 0] 30)
          simpa using this
      rw [← hwA]
      clear hwA
      have HA := Lib.hid hA
      have hzA := hA.2.1
      have HBA := Lib.hid (HB.out.trans (hA.1.mono (by omega)))
      have HEA := Lib.hid ((hA.1.block w.heap.size hzh).trans hE.out)
      clear hA q1 f1 hE HB
      obtain ⟨w0, rfl⟩ : ∃ w0, w0 = wr := ⟨_, rfl⟩
      go_loopw [5] (fun i wr => ∃ (k cp : Nat) (va : Option Addr), k ≤ 4095 ∧ i = .int .i64 k ∧ Below w.heap.size w wr ∧ wA.heap.size ≤ wr.heap.size ∧ Hid (∀ b, b < wA.heap.size → b ≠ w0.heap.size + 2 → wr.heap[b]? = wA.heap[b]?) ∧
        Hid (wr.heap[w0.heap.size + 2]? = some (.cells #[.int .i64 5, .string { data := #[] }, .int .i64 0, .bool false, .int .i64 0, .string { data := #[] }, .slice none 0 0, .slice va k cp] 30 (0, 0))) ∧ Hid (wr.ownsRow wA.heap.size 30 8 (.slice va k cp) k (repC k))) (fun i _ => 4096 - (intOf i).toNat)
      case atStart => exact ⟨0, 0, none, by omega, rfl, HBA.out, Nat.le_refl _, fun _ _ _ => rfl, HA.out.2.2.2.2, World.ownsRow_nil _ _ _ _⟩
      case round =>
        obtain ⟨k, cp, va, hk, rfl, hbel, hsz2, hK, hL, hO⟩ := hrel
        have q1 := fun o => cell_of hL.out o
        have f1 := fun o => frozen_of hL.out o
        obtain ⟨i0, hi, hz0, hz1, hz2⟩ := info_parts einfo
        have HI := Lib.hid (And.intro hi (And.intro hz0 (And.intro hz1 hz2)))
        have hzl : w0.heap.size + 2 < wr.heap.size := by omega
        have hnl : w0.heap.size + 2 ≠ wr.heap.size := by omega
        have HOL : Hid (∀ g, (Value.slice va k cp).ownBlock = some g → wA.heap.size ≤ g ∧ g < wr.heap.size) := fun g hg => hO.out.lt g hg
        have HB := Lib.hid hbel
        clear hi hz0 hz1 hz2 hbel
        by_cases hlt : k < 4095
        · go_wp2_with (at_builtin; refine wpList_append_kept _ rfl _ _ 22 rfl wA.heap.size 30 i0 (.agg #[.int .i64 0, .string { data := #[] }, .int .i64 0, .bool false, .int .i64 0, .string { data := #[] }, .slice none 0 0, .slice none 0 0]) 8 112 Tryd.underlying22 HI.out.1 HI.out.2.1 HI.out.2.2.1 HI.out.2.2.2 rfl (by decide) (.slice va k cp) k (repC k) rfl (hO.out.alloc _) ⟨wr.heap.size, 0, none⟩ 1 1 litC rfl rfl ?c1 ?c2 ?c3 ?c4 ?c5 ?_)
          case c1 => exact fun j u hj => news_last hj
          case c2 => intro u hu; simp only [litC, List.mem_cons, List.not_mem_nil, or_false] at hu; rcases hu with rfl | rfl | rfl | rfl | rfl | rfl | rfl | rfl <;> rfl
          case c3 => unfold maxLen; omega
          case c4 => omega
          case c5 => simp; omega
          intro v' w3 hown3 hcase
          have hsz3 : wr.heap.size ≤ w3.heap.size := by
            rcases hcase with ⟨_, hg⟩ | ⟨_, hg⟩ <;> have := hg.size <;> simp at this <;> omega
          have hold : ∀ b, b < wA.heap.size → w3.heap[b]? = wr.heap[b]? := fun b hb => by
            have h1 : (wr.alloc (.cells #[.int .i64 1, .string { data := #[] }, .int .i64 0, .bool false, .int .i64 0, .string { data := #[] }, .slice none 0 0, .slice none 0 0] 30)).heap[b]? = wr.heap[b]? := Below.heap_alloc _ _ _ (by omega)
            rcases hcase with ⟨_, hg⟩ | ⟨_, hg⟩
            · exact (hg.block b (by simp; omega) (fun e => by have := (HOL.out b e.symm).1; omega)).trans h1
            · exact (hg.block b (by simp; omega) (by simp)).trans h1
          have hos : w3.os = wr.os ∧ w3.tape = wr.tape ∧ w3.output = wr.output := by
            rcases hcase with ⟨_, hg⟩ | ⟨_, hg⟩ <;> exact ⟨hg.os, hg.tape, hg.output⟩
          have hb3 : Below w.heap.size w w3 := ⟨hos.1.trans HB.out.os, hos.2.1.trans HB.out.tape, hos.2.2.trans HB.out.output, Nat.le_trans HB.out.size hsz3, fun b hb => (hold b (by omega)).trans (HB.out.block b hb)⟩
          have HB3 := Lib.hid hb3
          have HOLD := Lib.hid hold
          have hL3 := (hold (w0.heap.size + 2) (by omega)).trans hL.out
          rw [repC_snoc] at hown3
          have HO3 := Lib.hid hown3
          obtain ⟨a3, c3, e3⟩ := owns_form hown3
          subst e3
          have HL3 := Lib.hid hL3
          have q3 := fun o => cell_of hL3 o
          have f3 := fun o => frozen_of hL3 o
          clear hcase hos hb3 hold hL3 hown3
          go_wp2_with fail
          go_roundw
          case rel =>
            refine ⟨k + 1, c3, a3, by omega, by go_num, HB3.out.setCell (by dsimp only; omega) _, by rw [hsz_setCell2]; omega, ?_, ?_, ?_⟩
            · intro b hb hne
              exact (Below.heap_setCell _ _ _ _ (by dsimp only; omega)).trans ((HOLD.out b hb).trans (hK.out b hb hne))
            · refine (heap_setCell2 HL3.out).trans ?_
              simp
            · rw [hzA]; exact ownsRow_keep HO3.out (fun g hg => Below.heap_setCell _ _ _ _ (by have := (HO3.out.lt g hg).1; dsimp only; omega))
          case measure => simp [intOf]; omega
        · have hk2 : k = 4095 := by omega
          have HK2 := Lib.hid hk2
          clear hk2
          go_wp2_with (at_builtin; refine wpList_append_kept _ rfl _ _ 22 rfl wA.heap.size 30 i0 (.agg #[.int .i64 0, .string { data := #[] }, .int .i64 0, .bool false, .int .i64 0, .string { data := #[] }, .slice none 0 0, .slice none 0 0]) 8 112 Tryd.underlying22 HI.out.1 HI.out.2.1 HI.out.2.2.1 HI.out.2.2.2 rfl (by decide) (.slice va k cp) k (repC k) rfl (hO.out.alloc _) ⟨wr.heap.size, 0, none⟩ 1 1 litC rfl rfl ?c1 ?c2 ?c3 ?c4 ?c5 ?_)
          case c1 => exact fun j u hj => news_last hj
          case c2 => intro u hu; simp only [litC, List.mem_cons, List.not_mem_nil, or_false] at hu; rcases hu with rfl | rfl | rfl | rfl | rfl | rfl | rfl | rfl <;> rfl
          case c3 => unfold maxLen; omega
          case c4 => omega
          case c5 => simp; omega
          intro v' w3 hown3 hcase
          rw [repC_snoc] at hown3
          obtain ⟨g3, c3, rfl, hc3, hg3, hg3', hcell3⟩ := owns_lits hown3 (by omega)
          have hkp : 0 < k := by have := HK2.out; omega
          obtain ⟨g, cp', e, hcp, hg, hg', hcell⟩ := owns_lits hO.out hkp
          simp only [Value.slice.injEq] at e
          obtain ⟨rfl, _, rfl⟩ := e
          have hsz3 : wr.heap.size ≤ w3.heap.size := by
            rcases hcase with ⟨_, hg⟩ | ⟨_, hg⟩ <;> have := hg.size <;> simp at this <;> omega
          have hal : ∀ b, b < wr.heap.size → (wr.alloc (.cells #[.int .i64 1, .string { data := #[] }, .int .i64 0, .bool false, .int .i64 0, .string { data := #[] }, .slice none 0 0, .slice none 0 0] 30)).heap[b]? = wr.heap[b]? := fun b hb => Below.heap_alloc _ _ _ (by omega)
          have hold : ∀ b, b < wA.heap.size → w3.heap[b]? = wr.heap[b]? := fun b hb => by
            rcases hcase with ⟨_, hg⟩ | ⟨_, hg⟩
            · exact (hg.block b (by simp; omega) (fun e => by have := (HOL.out b e.symm).1; omega)).trans (hal b (by omega))
            · exact (hg.block b (by simp; omega) (by simp)).trans (hal b (by omega))
          have hos : w3.os = wr.os ∧ w3.tape = wr.tape ∧ w3.output = wr.output := by
            rcases hcase with ⟨_, hg⟩ | ⟨_, hg⟩ <;> exact ⟨hg.os, hg.tape, hg.output⟩
          have hb3 : Below w.heap.size w w3 := ⟨hos.1.trans HB.out.os, hos.2.1.trans HB.out.tape, hos.2.2.trans HB.out.output, Nat.le_trans HB.out.size hsz3, fun b hb => (hold b (by omega)).trans (HB.out.block b hb)⟩
          have hpre : ∃ N, k ≤ N ∧ ∀ j u, (repC N)[j]? = some u → w3.cell? ((⟨g, 0, none⟩ : Addr).add j) = some u := by
            rcases hcase with ⟨e, _⟩ | ⟨_, hgr⟩
            · simp [Value.ownBlock] at e
              subst e
              exact ⟨k + 1, by omega, hcell3⟩
            · refine ⟨k, Nat.le_refl _, fun j u hj => ?_⟩
              have := hcell j u hj
              rw [Addr.add_lit] at this ⊢
              rw [World.cell?_of_block (a := ⟨g, 0 + j, none⟩) ((hgr.block g (by simp; omega) (by simp)).trans (hal g hg'))]
              exact this
          obtain ⟨N, hkN, hcellN⟩ := hpre
          have hkeep : ∀ b, b < wA.heap.size → b ≠ w0.heap.size + 2 → w3.heap[b]? = wA.heap[b]? := fun b hb hne => (hold b hb).trans (hK.out b hb hne)
          have hMW : MostW w w.heap.size (w0.heap.size + 1) (w0.heap.size + 2) w3.heap.size (w3.heap.size + 1) k (.slice aa (chain 29).args.length ca) (.slice (some ⟨w0.heap.size, 0, none⟩) 1 1) (.slice (some ⟨g, 0, none⟩) k cp) (.slice (some ⟨g3, 0, none⟩) (k + 1) c3) (w3.alloc (.cells #[.int .i64 5, .string { data := #[] }, .int .i64 0, .bool false, .int .i64 0, .string { data := #[] }, .slice none 0 0, .slice (some ⟨g3, 0, none⟩) (k + 1) c3] 30)) := by
            have hb4 : Below w3.heap.size w3 (w3.alloc (.cells #[.int .i64 5, .string { data := #[] }, .int .i64 0, .bool false, .int .i64 0, .string { data := #[] }, .slice none 0 0, .slice (some ⟨g3, 0, none⟩) (k + 1) c3] 30)) := (Below.refl _ _).alloc (Nat.le_refl _) _
            have k4 : ∀ b, b < w3.heap.size → (w3.alloc (.cells #[.int .i64 5, .string { data := #[] }, .int .i64 0, .bool false, .int .i64 0, .string { data := #[] }, .slice none 0 0, .slice (some ⟨g3, 0, none⟩) (k + 1) c3] 30)).heap[b]? = w3.heap[b]? := fun b hb => hb4.block b hb
            have c4 : ∀ (b j : Nat) u, b < w3.heap.size → w3.cell? ((⟨b, 0, none⟩ : Addr).add j) = some u → (w3.alloc (.cells #[.int .i64 5, .string { data := #[] }, .int .i64 0, .bool false, .int .i64 0, .string { data := #[] }, .slice none 0 0, .slice (some ⟨g3, 0, none⟩) (k + 1) c3] 30)).cell? ((⟨b, 0, none⟩ : Addr).add j) = some u := fun b j u hb h => by
              rw [Addr.add_lit] at h ⊢
              rw [World.cell?_of_block (a := ⟨b, 0 + j, none⟩) (k4 b hb)]
              exact h
            have hz1 : wA.heap.size ≤ w3.heap.size := by omega
            have hX0 : isX (w3.alloc (.cells #[.int .i64 5, .string { data := #[] }, .int .i64 0, .bool false, .int .i64 0, .string { data := #[] }, .slice none 0 0, .slice (some ⟨g3, 0, none⟩) (k + 1) c3] 30)) (w3.heap.size + 1) (.slice aa (chain 29).args.length ca) (chain 29).args :=
              isE_mono hX.out (fun b off hb => World.cell?_of_block (a := ⟨b, off, none⟩) ((k4 b (by omega)).trans ((hkeep b (by omega) (by omega)).trans (HA.out.1.block b hb.2)))) (fun b hb => ⟨Nat.zero_le _, by omega⟩) (fun _ _ h => h) (fun _ _ h => h)
            refine ⟨hb3.trans (hb4.mono hb3.size), by simp, by omega, (k4 _ (by omega)).trans ((hkeep _ (by omega) (by omega)).trans HEA.out), (k4 _ (by omega)).trans ((hkeep _ (by omega) (by omega)).trans HA.out.2.2.2.1), (k4 _ (by omega)).trans ((hold _ (by omega)).trans hL.out), heap_last, hX0, ?_, ?_, ?_⟩
            · exact isE_one ((k4 _ (by omega)).trans ((hkeep _ (by omega) (by omega)).trans HA.out.2.2.1)) rfl (by rw [chain_v]; rfl) ⟨Nat.zero_le _, by omega⟩ hX0
            · exact isE_lits (N := N) hkN hcp ⟨Nat.zero_le _, by omega⟩ (fun j u hj => c4 g j u (by omega) (hcellN j u hj))
            · exact isE_lits (N := k + 1) (Nat.le_refl _) hc3 ⟨Nat.zero_le _, by omega⟩ (fun j u hj => c4 g3 j u hg3' (hcell3 j u hj))
          have HMW := Lib.hid hMW
          clear hMW hcellN hkN hkeep hcase hos hb3 hold hal hown3 hcell hcell3 q1 f1
          go_upto_region 13 with fail
          obtain ⟨w4, hw4⟩ : ∃ w4, w4 = w3.alloc (.cells #[.int .i64 5, .string { data := #[] }, .int .i64 0, .bool false, .int .i64 0, .string { data := #[] }, .slice none 0 0, .slice (some ⟨g3, 0, none⟩) (k + 1) c3] 30) := ⟨_, rfl⟩
          rw [← hw4] at HMW ⊢
          clear hw4
          have HMW4 := Lib.hid HMW.out
          have q40 := fun o => cell_of HMW4.out.box0 o
          have q41 := fun o => cell_of HMW4.out.box1 o
          have q42 := fun o => cell_of HMW4.out.box2 o
          have q43 := fun o => cell_of HMW4.out.box3 o
          have hyes := big_yes
          have hno := big_no
          rw [← HK2.out] at hyes
          rw [show (4096 : Nat) = k + 1 from by rw [HK2.out]] at hno
          have HYES := Lib.hid hyes
          have HNO := Lib.hid hno
          clear HMW hyes hno
          go_wp2_with fail
          refine (May_any (chain 29) (chain_fit 29) (.slice none 0 0) (.slice aa (chain 29).args.length ca) w4 (w3.heap.size + 1) HMW4.out.size (isL_nil none 0) HMW4.out.arg0).mono ?_
          rintro e w5 ⟨rfl, hb5⟩
          rw [chain_yes]
          have HMW5 := Lib.hid (HMW4.out.on hb5)
          have q50 := fun o => cell_of HMW5.out.box0 o
          have q51 := fun o => cell_of HMW5.out.box1 o
          have q52 := fun o => cell_of HMW5.out.box2 o
          have q53 := fun o => cell_of HMW5.out.box3 o
          clear hb5
          go_wp2_with fail
          refine (May_any (chain 30) (chain_fit 30) (.slice none 0 0) (.slice (some ⟨w0.heap.size, 0, none⟩) 1 1) w5 (w3.heap.size + 1) HMW5.out.size (isL_nil none 0) HMW5.out.arg1).mono ?_
          rintro e w6 ⟨rfl, hb6⟩
          rw [chain_no]
          have HMW6 := Lib.hid (HMW5.out.on hb6)
          have q60 := fun o => cell_of HMW6.out.box0 o
          have q61 := fun o => cell_of HMW6.out.box1 o
          have q62 := fun o => cell_of HMW6.out.box2 o
          have q63 := fun o => cell_of HMW6.out.box3 o
          clear hb6
          go_wp2_with fail
          refine (May_any (big k) (big_fit k (by omega)) (.slice none 0 0) (.slice (some ⟨g, 0, none⟩) k cp) w6 (w3.heap.size + 1) HMW6.out.size (isL_nil none 0) HMW6.out.arg2).mono ?_
          rintro e w7 ⟨rfl, hb7⟩
          rw [HYES.out]
          have HMW7 := Lib.hid (HMW6.out.on hb7)
          have q70 := fun o => cell_of HMW7.out.box0 o
          have q71 := fun o => cell_of HMW7.out.box1 o
          have q72 := fun o => cell_of HMW7.out.box2 o
          have q73 := fun o => cell_of HMW7.out.box3 o
          clear hb7
          go_wp2_with fail
          refine (May_any (big (k + 1)) (big_fit (k + 1) (by omega)) (.slice none 0 0) (.slice (some ⟨g3, 0, none⟩) (k + 1) c3) w7 (w3.heap.size + 1) HMW7.out.size (isL_nil none 0) HMW7.out.arg3).mono ?_
          rintro e w8 ⟨rfl, hb8⟩
          rw [HNO.out]
          have HMW8 := Lib.hid (HMW7.out.on hb8)
          have q80 := fun o => cell_of HMW8.out.box0 o
          have q81 := fun o => cell_of HMW8.out.box1 o
          have q82 := fun o => cell_of HMW8.out.box2 o
          have q83 := fun o => cell_of HMW8.out.box3 o
          clear hb8
          go_wp2_with fail
          refine (wakes_any w8 (tabOk_below HT.out HMW8.out.below)).mono ?_
          rintro e w9 ⟨rfl, hb9⟩
          have HB9 := Lib.hid (below_down HMW8.out.below hb9 (Nat.le_refl _))
          clear hb9
          go_wp2_with fail
          go_ret
          exact ⟨rfl, HB9.out⟩
end Go.Proofs.YtnmolgmchoihmaaDoor
