/-
  Lists of values in memory that a call has made itself: they may be written over. Conditions: none.
-/
import Derived.Test.YtljljhjdlicfeaaGreatMA
import Derived.Maps.AppendAt
import Derived.Test.YtljljhjdlicfeaaGreatProg
import Derived.WalkLawsBesides
import Derived.Deep.QuietTactic
import Derived.BigQuiet
import Derived.Outline
import Derived.Lib.AppendZerosOnto
import Derived.Deep.RegionLaw
namespace Go.Proofs.YtljljhjdlicfeaaGreat
open Go Go.RowKit
set_option linter.unusedVariables false
def room (w : World) (S : Nat → Prop) : Option Addr → Nat → Prop := fun a c => 0 < c → ∃ b off cs T, a = some ⟨b, off, none⟩ ∧ S b ∧ w.heap[b]? = some (.cells cs T (0, 0)) ∧ off % 5 = 0 ∧ off + 5 * c ≤ cs.size
def isR (w : World) (S : Nat → Prop) (s : Value) (l : List GV) : Prop := isS w S (room w S) s l
def since (lo : Nat) (w : World) : Nat → Prop := fun b => lo ≤ b ∧ b < w.heap.size
theorem isR_mono {w w' : World} {S S' : Nat → Prop} {s : Value} {l : List GV} (h : isR w S s l) (hw : ∀ b, S b → w'.heap[b]? = w.heap[b]?) (h1 : ∀ b, S b → S' b) : isR w' S' s l :=
  isS_mono h (fun b off g => World.cell?_of_block (w := w) (a := ⟨b, off, none⟩) (hw b g)) h1 (fun a c hr hc => by
    obtain ⟨b, off, cs, T, ea, hb, hh, hs⟩ := hr hc
    exact ⟨b, off, cs, T, ea, h1 b hb, by rw [hw b hb, hh], hs⟩)
theorem isR_isL {w : World} {S : Nat → Prop} {s : Value} {l : List GV} {lo hi : Nat} (h : isR w S s l) (h1 : ∀ b, S b → lo ≤ b ∧ b < hi) : isL w lo hi s l :=
  isS_mono h (fun _ _ _ => rfl) h1 (fun _ _ _ => trivial)
theorem isR_below {w w' : World} {S : Nat → Prop} {s : Value} {l : List GV} {B : Nat} (h : isR w S s l) (hb : Below B w w') (hS : ∀ b, S b → b < B) : isR w' S s l :=
  isR_mono h (fun b hs => hb.block b (hS b hs)) (fun _ h => h)
theorem isR_setCell {w : World} {S : Nat → Prop} {s : Value} {l : List GV} (h : isR w S s l) {p : Addr} (hp : ¬ S p.block) (u : Value) : isR (w.setCell p u) S s l :=
  isR_mono h (fun b hb => Below.heap_setCell _ _ _ _ (fun e => hp (e ▸ hb))) (fun _ h => h)
theorem isR_sub {w : World} {S S' : Nat → Prop} {s : Value} {l : List GV} (h : isR w S s l) (h1 : ∀ b, S b → S' b) : isR w S' s l := isR_mono h (fun _ _ => rfl) h1
def flat : List GV → List Value → List Value
  | x :: r, s :: t => .int .i64 x.k :: .bool x.b :: .int .i64 x.n :: .string x.t :: s :: flat r t
  | _, _ => []
theorem flat_length : ∀ (l : List GV) (ss : List Value), ss.length = l.length → (flat l ss).length = l.length * 5
  | [], [], _ => rfl
  | x :: r, s :: t, h => by
    have := flat_length r t (by simpa using h)
    simp only [flat, List.length_cons, this]
    omega
  | [], _ :: _, h => by simp at h
  | _ :: _, [], h => by simp at h
theorem flat_append : ∀ (l : List GV) (ss : List Value) (y : GV) (s : Value), ss.length = l.length →
    flat (l ++ [y]) (ss ++ [s]) = flat l ss ++ [.int .i64 y.k, .bool y.b, .int .i64 y.n, .string y.t, s]
  | [], [], _, _, _ => rfl
  | x :: r, s :: t, y, u, h => by simp [flat, flat_append r t y u (by simpa using h)]
  | [], _ :: _, _, _, h => by simp at h
  | _ :: _, [], _, _, h => by simp at h
theorem flat_get : ∀ (l : List GV) (ss : List Value) (i : Nat) (h : i < l.length) (h' : i < ss.length),
    (flat l ss)[i * 5]? = some (.int .i64 l[i].k) ∧ (flat l ss)[i * 5 + 1]? = some (.bool l[i].b) ∧ (flat l ss)[i * 5 + 2]? = some (.int .i64 l[i].n) ∧ (flat l ss)[i * 5 + 3]? = some (.string l[i].t) ∧ (flat l ss)[i * 5 + 4]? = some ss[i]
  | x :: r, s :: t, 0, _, _ => by simp [flat]
  | x :: r, s :: t, i + 1, h, h' => by
    have := flat_get r t i (by simpa using h) (by simpa using h')
    rw [show (i + 1) * 5 = i * 5 + 5 from by omega]
    simpa [flat] using this
def ownL (w : World) (base : Nat) (T : TypeId) (v : Value) (l : List GV) : Prop :=
  ∃ ss : List Value, ss.length = l.length ∧ w.ownsRow base T 5 v l.length (flat l ss) ∧
    ∀ i (h : i < l.length) (h' : i < ss.length), isR w (fun b => since base w b ∧ some b ≠ v.ownBlock) ss[i] l[i].l
theorem ownL_nil (w : World) (base : Nat) (T : TypeId) : ownL w base T (.slice none 0 0) [] :=
  ⟨[], rfl, ⟨by simp [flat], .inl ⟨rfl, rfl⟩⟩, fun i h => by simp at h⟩
theorem ownBlock_lt {w : World} {base : Nat} {T : TypeId} {size n : Nat} {v : Value} {xs : List Value} (h : w.ownsRow base T size v n xs) {g : Nat} (hg : v.ownBlock = some g) : base ≤ g ∧ g < w.heap.size := by
  obtain ⟨_, h | ⟨g', cap, cur, e, hb, hh, _⟩⟩ := h
  · rw [h.1] at hg; simp [Value.ownBlock] at hg
  · subst e
    simp [Value.ownBlock] at hg
    subst hg
    exact ⟨hb, by
      rcases Nat.lt_or_ge g' w.heap.size with h | h
      · exact h
      · rw [Array.getElem?_eq_none h] at hh; cases hh⟩
theorem isS_form {w : World} {S : Nat → Prop} {rm : Option Addr → Nat → Prop} {s : Value} {l : List GV} (h : isS w S rm s l) : ∃ a c, s = .slice a l.length c := by
  obtain ⟨a, c, e, _⟩ := h
  exact ⟨a, c, e⟩
theorem news_last {w : World} {l : List Value} {T : TypeId} {j : Nat} {u : Value} (h : l[j]? = some u) : (w.alloc (.cells l.toArray T)).cell? ((⟨w.heap.size, 0, none⟩ : Addr).add j) = some u := by
  have e : (⟨w.heap.size, 0, none⟩ : Addr).add j = ⟨w.heap.size, j, none⟩ := by
    unfold Addr.add
    split
    · rename_i h0; subst h0; rfl
    · simp
  rw [e, cell_last]
  simpa using h
theorem ownL_keep {w w' : World} {base : Nat} {T : TypeId} {v : Value} {l : List GV} (h : ownL w base T v l) (hb : Below w.heap.size w w') : ownL w' base T v l := by
  obtain ⟨ss, hl, hown, hin⟩ := h
  refine ⟨ss, hl, ?_, fun i h h' => isR_mono (hin i h h') (fun b hb' => hb.block b hb'.1.2) (fun b g => ⟨⟨g.1.1, Nat.lt_of_lt_of_le g.1.2 hb.size⟩, g.2⟩)⟩
  obtain ⟨h1, h2⟩ := hown
  refine ⟨h1, ?_⟩
  rcases h2 with h2 | ⟨g, cap, cur, e, hg, hh, r⟩
  · exact .inl h2
  · refine .inr ⟨g, cap, cur, e, hg, ?_, r⟩
    have : g < w.heap.size := by
      rcases Nat.lt_or_ge g w.heap.size with h | h
      · exact h
      · rw [Array.getElem?_eq_none h] at hh; cases hh
    rw [hb.block g this]; exact hh
theorem ownL_push {w w1 w2 : World} {base : Nat} {T : TypeId} {v v' s : Value} {l : List GV} {y : GV} {o : Obj} {ss : List Value} {n : Nat} (hn : n = l.length + 1) (hl : ss.length = l.length)
    (hin : ∀ i (h : i < l.length) (h2 : i < ss.length), isR w (fun b => since base w b ∧ some b ≠ v.ownBlock) ss[i] l[i].l)
    (hw1 : w1 = w.alloc o) (hs : isR w (fun b => since base w b ∧ some b ≠ v.ownBlock) s y.l)
    (h' : w2.ownsRow base T 5 v' n (flat l ss ++ [.int .i64 y.k, .bool y.b, .int .i64 y.n, .string y.t, s])) (hg : w1.grownBy w2 v.ownBlock)
    (hat : v'.ownBlock = v.ownBlock ∨ v'.ownBlock = some (w.heap.size + 1)) : ownL w2 base T v' (l ++ [y]) := by
  subst hn
  have hsz : w.heap.size + 1 ≤ w2.heap.size := by have := hg.size; rw [hw1] at this; simpa using this
  have key : ∀ b, (since base w b ∧ some b ≠ v.ownBlock) → w2.heap[b]? = w.heap[b]? := fun b hb => by
    have h1 : b < w1.heap.size := by rw [hw1]; simp; have := hb.1.2; omega
    rw [hg.block b h1 hb.2, hw1]
    exact Below.heap_alloc _ _ _ hb.1.2
  have sub : ∀ b, (since base w b ∧ some b ≠ v.ownBlock) → (since base w2 b ∧ some b ≠ v'.ownBlock) := fun b hb => by
    refine ⟨⟨hb.1.1, by have := hb.1.2; omega⟩, ?_⟩
    rcases hat with e | e
    · rw [e]; exact hb.2
    · rw [e]; have := hb.1.2; simp; omega
  refine ⟨ss ++ [s], by simp [hl], ?_, fun i h h2 => ?_⟩
  · rw [flat_append l ss y s hl]; simpa using h'
  · by_cases hi : i < l.length
    · have := isR_mono (hin i hi (by omega)) key sub
      rw [List.getElem_append_left (by omega), List.getElem_append_left hi]
      exact this
    · have e : i = l.length := by simp at h; omega
      have := isR_mono hs key sub
      subst e
      rw [List.getElem_append_right (by omega), List.getElem_append_right (by omega)]
      simpa [hl] using this
theorem ownL_isR {w : World} {base : Nat} {T : TypeId} {v : Value} {l : List GV} (h : ownL w base T v l) : isR w (since base w) v l := by
  obtain ⟨ss, hl, hown, hin⟩ := h
  have hown' := hown
  obtain ⟨h1, h2 | ⟨g, cap, cur, e, hg, hh, hn, hcap, hsz, htk⟩⟩ := hown
  · have : l = [] := List.eq_nil_of_length_eq_zero h2.2
    subst this
    rw [h2.1]
    exact ⟨none, 0, rfl, Nat.le_refl _, fun h => by simp at h, fun h => by simp at h⟩
  · subst e
    have hlt := (ownBlock_lt hown' (g := g) rfl).2
    have hcell : ∀ j, j < l.length * 5 → w.cell? ⟨g, 0 + j, none⟩ = (flat l ss)[j]? := fun j hj => by
      rw [← htk, List.getElem?_take, if_pos hj]
      simp [World.cell?, hh]
    refine isS_mk hn (fun hc => ⟨g, 0, cur, T, rfl, ⟨hg, hlt⟩, hh, rfl, by omega⟩) (fun _ => ⟨rfl, hg, hlt⟩) fun i hi => ?_
    obtain ⟨a0, a1, a2, a3, a4⟩ := flat_get l ss i hi (by omega)
    have q := isR_mono (hin i hi (by omega)) (w' := w) (S' := since base w) (fun _ _ => rfl) (fun b hb => hb.1)
    exact cellsS_mk (s := ss[i]) (by rw [hcell _ (by omega), a0]) (by rw [show 0 + i * 5 + 1 = 0 + (i * 5 + 1) from by omega, hcell _ (by omega), a1]) (by rw [show 0 + i * 5 + 2 = 0 + (i * 5 + 2) from by omega, hcell _ (by omega), a2])
      (by rw [show 0 + i * 5 + 3 = 0 + (i * 5 + 3) from by omega, hcell _ (by omega), a3]) (by rw [show 0 + i * 5 + 4 = 0 + (i * 5 + 4) from by omega, hcell _ (by omega), a4]) q
end Go.Proofs.YtljljhjdlicfeaaGreat
namespace Go.Proofs.YtljljhjdlicfeaaGreat
open Go Go.RowKit
set_option maxRecDepth 100000
set_option linter.unusedVariables false
def GivesL (w : World) (l : List GV) (e : Ending) (w' : World) : Prop := ∃ a c, e = .returned (.slice a l.length c) ∧ isR w' (since w.heap.size w') (.slice a l.length c) l ∧ Below w.heap.size w w'
def GivesV (w : World) (x : GV) (e : Ending) (w' : World) : Prop := ∃ a c, e = .returned (x.agg (.slice a x.l.length c)) ∧ isR w' (since w.heap.size w') (.slice a x.l.length c) x.l ∧ Below w.heap.size w w'
def CopyLC (f : Nat) (l : List GV) : Prop := ∀ (s : Value) (w : World) (B : Nat), B ≤ w.heap.size → isL w 0 B s l → Calls Tryz.prog f #[s] w (GivesL w l)
def CopyVC (f : Nat) (x : GV) : Prop := ∀ (s : Value) (w : World) (B : Nat), B ≤ w.heap.size → isL w 0 B s x.l → Calls Tryz.prog f #[x.agg s] w (GivesV w x)
theorem frozen_of {w : World} {b : Nat} {cs : Array Value} {T : TypeId} (h : w.heap[b]? = some (.cells cs T (0, 0))) (o : Nat) : w.frozen? ⟨b, o, none⟩ = false := by
  simp [World.frozen?, h]
theorem cell_of {w : World} {b : Nat} {cs : Array Value} {T : TypeId} (h : w.heap[b]? = some (.cells cs T (0, 0))) (o : Nat) : w.cell? ⟨b, o, none⟩ = cs[o]? := by
  simp [World.cell?, h]
theorem heap_last {w : World} {o : Obj} : (w.alloc o).heap[w.heap.size]? = some o := by
  rw [show (w.alloc o).heap = w.heap.push o from rfl, Array.getElem?_push, if_pos rfl]
theorem heap_two {w : World} {o o2 : Obj} : ((w.alloc o).alloc o2).heap[w.heap.size]? = some o := by
  rw [show ((w.alloc o).alloc o2).heap = (w.heap.push o).push o2 from rfl, Array.getElem?_push, if_neg (by simp), Array.getElem?_push, if_pos rfl]
theorem heap_second {w : World} {o o2 : Obj} : ((w.alloc o).alloc o2).heap[w.heap.size + 1]? = some o2 := by
  have := @heap_last (w.alloc o) o2
  rwa [show (w.alloc o).heap.size = w.heap.size + 1 from by simp] at this
set_option maxHeartbeats 800000 in
theorem zCopyValue_step (x : GV) (h : CopyLC 31 x.l) : CopyVC 49 x := by
  intro s w B hB hs
  have HS := Lib.hid hs
  have HH := Lib.hid h
  clear h hs
  obtain ⟨a, c, e⟩ := isL_form HS.out
  subst e
  simp only [GV.agg]
  go_enter Tryz.func49, Tryz.ntmps49
  go_wp2_with fail
  have hb0 := ((Below.refl w.heap.size w).alloc (Nat.le_refl _) (.cells #[.int .i64 x.k, .bool x.b, .int .i64 x.n, .string x.t, .slice a x.l.length c] 36)).alloc (by simp) (.cells #[.int .i64 0, .bool false, .int .i64 0, .string { data := #[] }, .slice none 0 0] 36)
  refine (HH.out _ _ B (Nat.le_trans hB hb0.size) (isL_below HS.out hb0 hB)).mono ?_
  rintro e w1 hgv
  obtain ⟨a1, c1, rfl, hr, hb⟩ := hgv
  have hb1 : Below (w.heap.size + 2) ((w.alloc (.cells #[.int .i64 x.k, .bool x.b, .int .i64 x.n, .string x.t, .slice a x.l.length c] 36)).alloc (.cells #[.int .i64 0, .bool false, .int .i64 0, .string { data := #[] }, .slice none 0 0] 36)) w1 := hb.mono (by simp)
  have HR := Lib.hid hr
  have hsz : w.heap.size + 2 ≤ w1.heap.size := by have := hb1.size; simpa using this
  have p1 := hb1.block w.heap.size (by omega)
  rw [heap_two] at p1
  have p2 := hb1.block (w.heap.size + 1) (by omega)
  rw [heap_second] at p2
  have q1 := fun o => cell_of p1 o
  have q2 := fun o => cell_of p2 o
  have f1 := fun o => frozen_of p1 o
  have f2 := fun o => frozen_of p2 o
  clear hr p1 p2
  go_wp2_with fail
  have hr := isR_sub HR.out (S' := since (w.heap.size + 2) w1) (fun b hb => ⟨by have := hb.1; simpa using this, hb.2⟩)
  refine bodyPost_ret (v := .agg #[.int .i64 x.k, .bool x.b, .int .i64 x.n, .string x.t, .slice a1 x.l.length c1]) (by simp [results, Tryz.results49, go_sem, q2]) rfl ⟨a1, c1, rfl, ?_, ?_⟩
  · refine isR_sub (isR_setCell (isR_setCell (isR_setCell (isR_setCell (isR_setCell (isR_setCell hr ?_ _) ?_ _) ?_ _) ?_ _) ?_ _) ?_ _) (S' := since w.heap.size _) (fun b hb => ⟨by have := hb.1; omega, by have := hb.2; simpa [World.setCell] using this⟩)
    all_goals (intro hx; have := hx.1; dsimp only at this; omega)
  · have hb2 : Below w.heap.size w w1 := hb0.trans (hb1.mono (by omega))
    refine (((((hb2.setCell ?_ _).setCell ?_ _).setCell ?_ _).setCell ?_ _).setCell ?_ _).setCell ?_ _
    all_goals simp
theorem vinfo : (Tryz.prog.info? 36).map (fun i => (i.zero, i.size, i.bytes)) = some (some (.agg #[.int .i64 0, .bool false, .int .i64 0, .string { data := #[] }, .slice none 0 0]), 5, 64) := by kernel_rfl
set_option maxHeartbeats 1600000 in
theorem zCopyVals_step (l : List GV) (hl : l.length ≤ 2147483647) (h : ∀ x ∈ l, CopyVC 49 x) : CopyLC 31 l := by
  intro s w B hB hs
  obtain ⟨a, c, bb, off, rfl, hc, ha, hA⟩ := isL_open hs
  have HA := Lib.hid hA
  have Ha := Lib.hid ha
  have HH := Lib.hid h
  clear hA hs ha h
  go_enter Tryz.func31, Tryz.ntmps31
  go_wp2_with fail
  go_loopw [3, 4] (fun v i wr => ∃ k : Nat, k ≤ l.length ∧ i = .int .i64 k ∧ Below w.heap.size w wr ∧ Hid (ownL wr w.heap.size 36 v (l.take k))) (fun _ i _ => l.length - (intOf i).toNat)
  case atStart => exact ⟨0, Nat.zero_le _, rfl, Below.refl _ _, ownL_nil _ _ _⟩
  case round =>
    obtain ⟨k, hk, rfl, hbel, hO⟩ := hrel
    by_cases hlt : k < l.length
    · obtain ⟨rfl, hb1, hb2⟩ := Ha.out (by omega)
      obtain ⟨ax, cx, x0, x1, x2, x3, x4, hsx⟩ := cellsV_slice (HA.out k hlt)
      have hg : ∀ o, wr.cell? ⟨bb, o, none⟩ = w.cell? ⟨bb, o, none⟩ := fun o => hbel.cell (p := ⟨bb, o, none⟩) (Nat.lt_of_lt_of_le hb2 hB)
      have hz : bb < wr.heap.size := Nat.lt_of_lt_of_le hb2 (Nat.le_trans hB hbel.size)
      have Hsx := Lib.hid hsx
      clear hsx
      go_wp2_with fail
      refine (HH.out l[k] (List.getElem_mem _) _ _ B (Nat.le_trans hB hbel.size) (isL_below Hsx.out hbel hB)).mono ?_
      rintro e w1 hgv
      obtain ⟨a1, c1, rfl, hr, hb5⟩ := hgv
      have hb3 := below_down hbel hb5 (Nat.le_refl _)
      have HO1 := Lib.hid (ownL_keep hO.out hb5)
      obtain ⟨ssr, _, hownr, _⟩ := hO.out
      have HOWNR := Lib.hid hownr
      clear hownr
      have HR := Lib.hid hr
      have hsz := hb5.size
      clear hr hb5 hg x0 x1 x2 x3 x4 Hsx Ha hO
      obtain ⟨ss, hl1, hown, hin⟩ := HO1.out
      have HL1 := Lib.hid hl1
      have HOWN := Lib.hid hown
      have HIN := Lib.hid hin
      have hk2 : (l.take k).length ≤ 2147483647 := Nat.le_trans (List.length_take_le _ _) (by omega)
      have hbase : w.heap.size ≤ w1.heap.size := hb3.size
      obtain ⟨i0, hi, hz0, hz1, hz2⟩ := info_parts vinfo
      have HI := Lib.hid (And.intro hi (And.intro hz0 (And.intro hz1 hz2)))
      clear hl1 hown hin hi hz0 hz1 hz2 HO1
      simp only [GV.agg]
      go_wp2_with (at_builtin; refine wpList_append_own_at _ rfl _ _ 34 rfl w.heap.size 36 i0 (.agg #[.int .i64 0, .bool false, .int .i64 0, .string { data := #[] }, .slice none 0 0]) 5 64 Tryz.underlying34 HI.out.1 HI.out.2.1 HI.out.2.2.1 HI.out.2.2.2 rfl (by decide) _ _ _ rfl (HOWN.out.alloc _) ⟨w1.heap.size, 0, none⟩ 1 1 [.int .i64 l[k].k, .bool l[k].b, .int .i64 l[k].n, .string l[k].t, .slice a1 l[k].l.length c1] rfl rfl ?c1 ?c2 ?c3 ?c4 ?c5 ?_)
      case c1 => exact fun j u hj => news_last hj
      case c2 => intro u hu; simp only [List.mem_cons, List.not_mem_nil, or_false] at hu; rcases hu with rfl | rfl | rfl | rfl | rfl <;> rfl
      case c3 => unfold maxLen; omega
      case c4 => omega
      case c5 => simp; omega
      intro v' w2 hown2 hgrow _ hat
      have hb6 : Below w.heap.size w w2 := (hb3.alloc hbase (.cells #[.int .i64 l[k].k, .bool l[k].b, .int .i64 l[k].n, .string l[k].t, .slice a1 l[k].l.length c1] 36)).grown hgrow (by simp; omega) (fun g hg => (ownBlock_lt HOWN.out hg).1)
      have HO2 : Hid (ownL w2 w.heap.size 36 v' (l.take (k + 1))) := by
        have := ownL_push (by simp; omega) HL1.out HIN.out rfl (isR_sub HR.out (fun b hb => ⟨⟨Nat.le_trans hbel.size hb.1, hb.2⟩, fun e => by
          have := (ownBlock_lt HOWNR.out e.symm).2
          have := hb.1
          omega⟩)) hown2 hgrow hat
        rw [List.take_succ_eq_append_getElem hlt]
        exact this
      clear hown2 hgrow hat
      go_wp2_with fail
      go_roundw
      case rel => exact ⟨k + 1, by omega, by go_num, hb6, HO2⟩
      case measure => simp [intOf]; omega
    · go_wp2_with fail
      go_ret
      have hfin := ownL_isR hO.out
      rw [List.take_of_length_le (by omega)] at hfin
      obtain ⟨a, c, e⟩ := isS_form hfin
      subst e
      exact ⟨a, c, rfl, hfin, hbel⟩
theorem zCopy_all : ∀ (m : Nat), (∀ x : GV, x.size ≤ m → x.fit → CopyVC 49 x) ∧ (∀ l : List GV, sizeL l ≤ m → l.length ≤ 2147483647 → fitL l → CopyLC 31 l) := by
  intro m
  induction m with
  | zero =>
    have hV : ∀ x : GV, x.size ≤ 0 → x.fit → CopyVC 49 x := fun x h => by have := size_l x; omega
    exact ⟨hV, fun l h1 h2 h3 => zCopyVals_step l h2 fun x hx => hV x (Nat.le_trans (sizeL_mem hx) h1) (fitL_mem h3 x hx)⟩
  | succ m ih =>
    have hV : ∀ x : GV, x.size ≤ m + 1 → x.fit → CopyVC 49 x := fun x h fx => by
      have := size_l x
      obtain ⟨_, _, _, _, _, a, b⟩ := fit_open fx
      exact zCopyValue_step x (ih.2 x.l (by omega) a b)
    exact ⟨hV, fun l h1 h2 h3 => zCopyVals_step l h2 fun x hx => hV x (Nat.le_trans (sizeL_mem hx) h1) (fitL_mem h3 x hx)⟩
theorem zCopyValue_any (x : GV) (fx : x.fit) : CopyVC 49 x := (zCopy_all x.size).1 x (Nat.le_refl _) fx
theorem zCopyVals_any (l : List GV) (hl : l.length ≤ 2147483647) (fl : fitL l) : CopyLC 31 l := (zCopy_all (sizeL l)).2 l (Nat.le_refl _) hl fl
end Go.Proofs.YtljljhjdlicfeaaGreat
namespace Go.Proofs.YtljljhjdlicfeaaGreat
open Go Go.RowKit
set_option maxRecDepth 100000
set_option linter.unusedVariables false
set_option maxHeartbeats 1600000 in
theorem zCopyVals_own (l : List GV) (hl : l.length ≤ 2147483647) (fl : fitL l) (s : Value) (w : World) (B : Nat) (hB : B ≤ w.heap.size) (hs : isL w 0 B s l) :
    Calls Tryz.prog 31 #[s] w fun e w' => ∃ v, e = .returned v ∧ ownL w' w.heap.size 36 v l ∧ Below w.heap.size w w' := by
  have h : ∀ x ∈ l, CopyVC 49 x := fun x hx => zCopyValue_any x (fitL_mem fl x hx)
  obtain ⟨a, c, bb, off, rfl, hc, ha, hA⟩ := isL_open hs
  have HA := Lib.hid hA
  have Ha := Lib.hid ha
  have HH := Lib.hid h
  clear hA hs ha h
  go_enter Tryz.func31, Tryz.ntmps31
  go_wp2_with fail
  go_loopw [3, 4] (fun v i wr => ∃ k : Nat, k ≤ l.length ∧ i = .int .i64 k ∧ Below w.heap.size w wr ∧ Hid (ownL wr w.heap.size 36 v (l.take k))) (fun _ i _ => l.length - (intOf i).toNat)
  case atStart => exact ⟨0, Nat.zero_le _, rfl, Below.refl _ _, ownL_nil _ _ _⟩
  case round =>
    obtain ⟨k, hk, rfl, hbel, hO⟩ := hrel
    by_cases hlt : k < l.length
    · obtain ⟨rfl, hb1, hb2⟩ := Ha.out (by omega)
      obtain ⟨ax, cx, x0, x1, x2, x3, x4, hsx⟩ := cellsV_slice (HA.out k hlt)
      have hg : ∀ o, wr.cell? ⟨bb, o, none⟩ = w.cell? ⟨bb, o, none⟩ := fun o => hbel.cell (p := ⟨bb, o, none⟩) (Nat.lt_of_lt_of_le hb2 hB)
      have hz : bb < wr.heap.size := Nat.lt_of_lt_of_le hb2 (Nat.le_trans hB hbel.size)
      have Hsx := Lib.hid hsx
      clear hsx
      go_wp2_with fail
      refine (HH.out l[k] (List.getElem_mem _) _ _ B (Nat.le_trans hB hbel.size) (isL_below Hsx.out hbel hB)).mono ?_
      rintro e w1 hgv
      obtain ⟨a1, c1, rfl, hr, hb5⟩ := hgv
      have hb3 := below_down hbel hb5 (Nat.le_refl _)
      have HO1 := Lib.hid (ownL_keep hO.out hb5)
      obtain ⟨ssr, _, hownr, _⟩ := hO.out
      have HOWNR := Lib.hid hownr
      clear hownr
      have HR := Lib.hid hr
      have hsz := hb5.size
      clear hr hb5 hg x0 x1 x2 x3 x4 Hsx Ha hO
      obtain ⟨ss, hl1, hown, hin⟩ := HO1.out
      have HL1 := Lib.hid hl1
      have HOWN := Lib.hid hown
      have HIN := Lib.hid hin
      have hk2 : (l.take k).length ≤ 2147483647 := Nat.le_trans (List.length_take_le _ _) (by omega)
      have hbase : w.heap.size ≤ w1.heap.size := hb3.size
      obtain ⟨i0, hi, hz0, hz1, hz2⟩ := info_parts vinfo
      have HI := Lib.hid (And.intro hi (And.intro hz0 (And.intro hz1 hz2)))
      clear hl1 hown hin hi hz0 hz1 hz2 HO1
      simp only [GV.agg]
      go_wp2_with (at_builtin; refine wpList_append_own_at _ rfl _ _ 34 rfl w.heap.size 36 i0 (.agg #[.int .i64 0, .bool false, .int .i64 0, .string { data := #[] }, .slice none 0 0]) 5 64 Tryz.underlying34 HI.out.1 HI.out.2.1 HI.out.2.2.1 HI.out.2.2.2 rfl (by decide) _ _ _ rfl (HOWN.out.alloc _) ⟨w1.heap.size, 0, none⟩ 1 1 [.int .i64 l[k].k, .bool l[k].b, .int .i64 l[k].n, .string l[k].t, .slice a1 l[k].l.length c1] rfl rfl ?c1 ?c2 ?c3 ?c4 ?c5 ?_)
      case c1 => exact fun j u hj => news_last hj
      case c2 => intro u hu; simp only [List.mem_cons, List.not_mem_nil, or_false] at hu; rcases hu with rfl | rfl | rfl | rfl | rfl <;> rfl
      case c3 => unfold maxLen; omega
      case c4 => omega
      case c5 => simp; omega
      intro v' w2 hown2 hgrow _ hat
      have hb6 : Below w.heap.size w w2 := (hb3.alloc hbase (.cells #[.int .i64 l[k].k, .bool l[k].b, .int .i64 l[k].n, .string l[k].t, .slice a1 l[k].l.length c1] 36)).grown hgrow (by simp; omega) (fun g hg => (ownBlock_lt HOWN.out hg).1)
      have HO2 : Hid (ownL w2 w.heap.size 36 v' (l.take (k + 1))) := by
        have := ownL_push (by simp; omega) HL1.out HIN.out rfl (isR_sub HR.out (fun b hb => ⟨⟨Nat.le_trans hbel.size hb.1, hb.2⟩, fun e => by
          have := (ownBlock_lt HOWNR.out e.symm).2
          have := hb.1
          omega⟩)) hown2 hgrow hat
        rw [List.take_succ_eq_append_getElem hlt]
        exact this
      clear hown2 hgrow hat
      go_wp2_with fail
      go_roundw
      case rel => exact ⟨k + 1, by omega, by go_num, hb6, HO2⟩
      case measure => simp [intOf]; omega
    · go_wp2_with fail
      go_ret
      have hfin := hO.out
      rw [List.take_of_length_le (by omega)] at hfin
      exact ⟨_, rfl, hfin, hbel⟩
end Go.Proofs.YtljljhjdlicfeaaGreat
namespace Go.Proofs.YtljljhjdlicfeaaGreat
open Go Go.RowKit Go.Lib
set_option maxRecDepth 100000
set_option linter.unusedVariables false
theorem flat_app : ∀ (l m : List GV) (ss tt : List Value), ss.length = l.length → flat (l ++ m) (ss ++ tt) = flat l ss ++ flat m tt
  | [], m, [], tt, _ => rfl
  | x :: r, m, s :: ss, tt, h => by simp [flat, flat_app r m ss tt (by simpa using h)]
  | [], _, _ :: _, _, h => by simp at h
  | _ :: _, _, [], _, h => by simp at h
theorem flat_one : ∀ (l : List GV) (ss : List Value), (∀ s ∈ ss, ∃ a n c, s = .slice a n c) → ∀ u ∈ flat l ss, u.oneCell' = true
  | [], _, _, u, hu => by simp [flat] at hu
  | _ :: _, [], _, u, hu => by simp [flat] at hu
  | x :: r, s :: ss, h, u, hu => by
    simp only [flat, List.mem_cons] at hu
    rcases hu with rfl | rfl | rfl | rfl | rfl | hu
    · rfl
    · rfl
    · rfl
    · rfl
    · obtain ⟨a, n, c, rfl⟩ := h u (by simp); rfl
    · exact flat_one r ss (fun s hs => h s (by simp [hs])) u hu
theorem cells_flat {w : World} {B b : Nat} : ∀ (m : List GV) (off : Nat), (∀ i (h : i < m.length), cellsV w 0 B m[i] b (off + i * 5)) →
    ∃ ss : List Value, ss.length = m.length ∧ (∀ j u, (flat m ss)[j]? = some u → w.cell? ⟨b, off + j, none⟩ = some u) ∧ (∀ i (h : i < m.length) (h' : i < ss.length), isL w 0 B ss[i] m[i].l)
  | [], off, _ => ⟨[], rfl, fun j u h => by simp [flat] at h, fun i h => by simp at h⟩
  | x :: r, off, h => by
    obtain ⟨s, x0, x1, x2, x3, x4, hs⟩ := cellsV_open (h 0 (by simp))
    obtain ⟨ss, hl, hc, hi⟩ := cells_flat r (off + 5) (fun i hi => by
      have := h (i + 1) (by simp; omega)
      rw [show off + (i + 1) * 5 = off + 5 + i * 5 by omega] at this
      exact this)
    simp only [Nat.zero_mul, Nat.add_zero] at x0 x1 x2 x3 x4
    refine ⟨s :: ss, by simp [hl], fun j u hj => ?_, fun i h1 h2 => ?_⟩
    · match j, hj with
      | 0, hj => simp [flat] at hj; subst hj; exact x0
      | 1, hj => simp [flat] at hj; subst hj; exact x1
      | 2, hj => simp [flat] at hj; subst hj; exact x2
      | 3, hj => simp [flat] at hj; subst hj; exact x3
      | 4, hj => simp [flat] at hj; subst hj; exact x4
      | j + 5, hj =>
        have := hc j u (by simpa [flat] using hj)
        rw [show off + (j + 5) = off + 5 + j by omega]
        exact this
    · cases i with
      | zero => exact hs
      | succ i => exact hi i (by simpa using h1) (by simpa using h2)
theorem addr_add (b off j : Nat) : (⟨b, off, none⟩ : Addr).add j = ⟨b, off + j, none⟩ := by
  unfold Addr.add
  split
  · rename_i h; subst h; rfl
  · rfl
theorem append_vals {w : World} {base B : Nat} (ty : TypeId) (v : Value) (n : Nat) (xs : List Value) (hown : w.ownsRow base 36 5 v n xs) (t : Value) (m : List GV) (ht : isL w 0 B t m) (hn : n + m.length ≤ 4294967296) (hb : base ≤ w.heap.size) :
    ∃ v' w' ss, ss.length = m.length ∧ (Builtin.append_ #[34, 34] ty #[v, t]).run Tryz.prog w = .ok v' w' ∧ w'.ownsRow base 36 5 v' (n + m.length) (xs ++ flat m ss) ∧ w.grownBy w' v.ownBlock ∧ (∀ i (h : i < m.length) (h' : i < ss.length), isL w 0 B ss[i] m[i].l) := by
  obtain ⟨i0, hi, hz0, hz1, hz2⟩ := info_parts vinfo
  obtain ⟨a, c, b, off, rfl, hc, ha, hA⟩ := isL_open ht
  obtain ⟨ss, hl, hcell, hin⟩ := cells_flat m off hA
  have hone := flat_one m ss (fun s hs => by
    obtain ⟨i, hi, rfl⟩ := List.mem_iff_getElem.1 hs
    obtain ⟨a, c, e⟩ := isL_form (hin i (by omega) hi)
    exact ⟨_, _, _, e⟩)
  by_cases h0 : 0 < m.length
  · obtain ⟨rfl, _, _⟩ := ha h0
    obtain ⟨v', w', hr, h2, h3, _, _⟩ := run_append_own_at (P := Tryz.prog) w base 34 ty 36 i0 _ 5 64 Tryz.underlying34 hi hz0 hz1 hz2 rfl (by decide) v n xs hown ⟨b, off, none⟩ m.length c (flat m ss) (flat_length m ss hl) (fun j u hj => by rw [addr_add]; exact hcell j u hj) hone (by unfold maxLen; omega) (by omega) hb
    exact ⟨v', w', ss, hl, hr, h2, h3, hin⟩
  · obtain rfl : m = [] := List.eq_nil_of_length_eq_zero (by omega)
    obtain rfl : ss = [] := List.eq_nil_of_length_eq_zero (by simpa using hl)
    refine ⟨v, w, [], rfl, ?_, by simpa [flat] using hown, ⟨rfl, rfl, rfl, Nat.le_refl _, fun _ _ _ => rfl⟩, fun i h => by simp at h⟩
    rcases hown.2 with ⟨rfl, rfl⟩ | ⟨g, cap, cur, rfl, _, _, hnc, _⟩
    · cases a <;> simp [Builtin.append_, run_underlying Tryz.underlying34, sizeOf, typeInfo, hi, Builtin.lenOf, Builtin.firstCells, loadCells, loadCellsFrom]
    · cases a <;> simp [Builtin.append_, run_underlying Tryz.underlying34, sizeOf, typeInfo, hi, Builtin.lenOf, Builtin.firstCells, hnc, storeCells, loadCells, loadCellsFrom]
def catL (w : World) (base hi : Nat) (v : Value) (l : List GV) : Prop := ∃ ss : List Value, ss.length = l.length ∧ w.ownsRow base 36 5 v l.length (flat l ss) ∧ (∀ i (h : i < l.length) (h' : i < ss.length), isL w 0 hi ss[i] l[i].l)
theorem catL_app {w : World} {base B : Nat} (ty : TypeId) (v : Value) (l : List GV) (hv : catL w base B v l) (t : Value) (m : List GV) (ht : isL w 0 B t m) (hn : l.length + m.length ≤ 4294967296) (hB : B ≤ base) (hb : base ≤ w.heap.size) :
    ∃ v' w', (Builtin.append_ #[34, 34] ty #[v, t]).run Tryz.prog w = .ok v' w' ∧ catL w' base B v' (l ++ m) ∧ Below base w w' := by
  obtain ⟨ss, hl, hown, hin⟩ := hv
  obtain ⟨v', w', tt, htl, hr, hown', hg, hin'⟩ := append_vals ty v l.length (flat l ss) hown t m ht hn hb
  have hbel : Below base w w' := (Below.refl base w).grown hg hb (fun g hg => (ownBlock_lt hown hg).1)
  refine ⟨v', w', hr, ⟨ss ++ tt, by simp [hl, htl], ?_, fun i h h' => ?_⟩, hbel⟩
  · rw [flat_app l m ss tt hl, List.length_append]; exact hown'
  · by_cases hi : i < l.length
    · rw [List.getElem_append_left (by omega), List.getElem_append_left hi]
      exact isL_below (hin i hi (by omega)) hbel hB
    · rw [List.getElem_append_right (by omega), List.getElem_append_right (by omega)]
      have := isL_below (hin' (i - l.length) (by simp at h; omega) (by simp at h'; omega)) hbel hB
      simpa [hl] using this
theorem catL_isL {w : World} {base B : Nat} {v : Value} {l : List GV} (h : catL w base B v l) (hB : B ≤ w.heap.size) : isL w 0 w.heap.size v l := by
  obtain ⟨ss, hl, hown, hin⟩ := h
  have hown' := hown
  obtain ⟨h1, h2 | ⟨g, cap, cur, e, hg, hh, hn, hcap, hsz, htk⟩⟩ := hown
  · have : l = [] := List.eq_nil_of_length_eq_zero h2.2
    subst this
    rw [h2.1]
    exact isL_nil _ _
  · subst e
    have hlt := (ownBlock_lt hown' (g := g) rfl).2
    have hcell : ∀ j, j < l.length * 5 → w.cell? ⟨g, 0 + j, none⟩ = (flat l ss)[j]? := fun j hj => by
      rw [← htk, List.getElem?_take, if_pos hj]
      simp [World.cell?, hh]
    refine isL_mk hn (fun _ => ⟨rfl, Nat.zero_le _, hlt⟩) fun i hi => ?_
    obtain ⟨a0, a1, a2, a3, a4⟩ := flat_get l ss i hi (by omega)
    exact cellsV_mk (s := ss[i]) (by rw [hcell _ (by omega), a0]) (by rw [show 0 + i * 5 + 1 = 0 + (i * 5 + 1) from by omega, hcell _ (by omega), a1]) (by rw [show 0 + i * 5 + 2 = 0 + (i * 5 + 2) from by omega, hcell _ (by omega), a2])
      (by rw [show 0 + i * 5 + 3 = 0 + (i * 5 + 3) from by omega, hcell _ (by omega), a3]) (by rw [show 0 + i * 5 + 4 = 0 + (i * 5 + 4) from by omega, hcell _ (by omega), a4]) (isL_wide (hin i hi (by omega)) (Nat.le_refl _) hB)
theorem catL_nil {w : World} {base B : Nat} {v : Value} (h : w.ownsRow base 36 5 v 0 []) : catL w base B v [] := ⟨[], rfl, h, fun i h => by simp at h⟩
theorem grow_nil (n : Nat) (hn : n ≤ 4294967296) (w : World) : Calls Tryz.prog 120 #[.slice none 0 0, .int .i64 n] w fun e w' => ∃ v, e = .returned v ∧ w'.ownsRow w.heap.size 36 5 v 0 [] ∧ Below w.heap.size w w' := by
  by_cases h0 : n = 0
  · subst h0
    go_enter Tryz.func120, Tryz.ntmps120
    go_wp2_with fail
    go_ret
    exact ⟨_, rfl, World.ownsRow_nil _ _ _ _, Below.refl _ _⟩
  obtain ⟨i0, hi, hz0, hz1, hz2⟩ := info_parts vinfo
  have h1 : decide ((n : Int) < 0) = false := by simp
  have h2 : decide (0 < (n : Int)) = true := by simp; omega
  have h2' : decide (0 < n) = true := by simp; omega
  have hrz : ∀ ty, (Builtin.append_ #[34, 3] ty #[.slice none 0 0, .int .i64 (n : Int)]).run Tryz.prog w =
      .ok (.slice (some ⟨w.heap.size, 0, none⟩) n (grownCap w n 0 36)) (w.drew.alloc (.cells ((#[] : Array Value) ++ Builtin.zeroCells (Value.agg #[.int .i64 0, .bool false, .int .i64 0, .string { data := #[] }, .slice none 0 0]).cells n ++ Builtin.zeroCells (Value.agg #[.int .i64 0, .bool false, .int .i64 0, .string { data := #[] }, .slice none 0 0]).cells (grownCap w n 0 36 - n)) 36)) := fun ty => by
    have h := Lib.run_append_grow_zeros (P := Tryz.prog) w 34 3 ty 36 i0 _ .i64 .i64 Tryz.underlying34 Tryz.underlying3 hi hz0 none 0 0 [] (run_firstCells_none w.drew i0.size 0 0 0) n (by omega) (by omega) (by omega) (by omega) (by rw [hz2]; omega) (growslice_fits (by omega) (by rw [hz2]; omega))
    simpa using h
  have hGn : n ≤ grownCap w n 0 36 := grownCap_ge w _ _ _
  have hGm : grownCap w n 0 36 ≤ maxLen := grownCap_le_maxLen w n 0 36 (by unfold maxLen; omega)
  obtain ⟨G, hG⟩ : ∃ G, G = grownCap w n 0 36 := ⟨_, rfl⟩
  rw [← hG] at hrz hGn hGm
  have hG63 : G ≤ 9223372036854775807 := by unfold maxLen at hGm; omega
  clear hG
  have HGM := Lib.hid hGm
  have HI := Lib.hid hi
  clear hGm hi hz0 hz1 hz2
  go_enter Tryz.func120, Tryz.ntmps120
  go_wp2_with (at_builtin; refine Lib.wpList_append_run _ rfl _ _ _ _ rfl _ _ rfl rfl _ _ (hrz _) ?_)
  all_goals
    go_ret
    refine ⟨_, rfl, ⟨rfl, .inr ⟨w.heap.size, G, _, rfl, Nat.le_refl _, heap_alloc_new w.drew _, Nat.zero_le _, HGM.out, ?_, by simp⟩⟩, (Below.refl _ _).drew.alloc (Nat.le_refl _) _⟩
    simp only [Array.size_append, size_zeroCells]
    show n * 5 + (G - n) * 5 = G * 5
    omega
set_option maxHeartbeats 1600000 in
theorem concat_any (l m : List GV) (hl : l.length ≤ 2147483647) (hm : m.length ≤ 2147483647) (s t : Value) (g : Nat) (w : World) (B : Nat) (hB : B ≤ w.heap.size) (hs : isL w 0 B s l) (ht : isL w 0 B t m) (hg : w.heap[g]? = some (.cells #[s, t] 34 (0, 0))) :
    Calls Tryz.prog 114 #[.slice (some ⟨g, 0, none⟩) 2 2] w fun e w' => ∃ v, e = .returned v ∧ isL w' 0 w'.heap.size v (l ++ m) ∧ Below w.heap.size w w' := by
  obtain ⟨a1, c1, rfl⟩ := isL_form hs
  obtain ⟨a2, c2, rfl⟩ := isL_form ht
  have hlt : g < w.heap.size := (Array.getElem?_eq_some_iff.1 hg).1
  have q0 := fun o => cell_of hg o
  have HS := Lib.hid hs
  have HT := Lib.hid ht
  have i1 : IntKind.i64.wrap ((l.length : Int) + (m.length : Int)) = (l.length : Int) + (m.length : Int) := IntWalk.i64_in _ (by omega)
  have i2 : IntKind.i64.wrap (l.length : Int) = (l.length : Int) := IntWalk.i64_in _ (by omega)
  have d1 : decide ((l.length : Int) < 0) = false := by simp
  have d2 : decide ((l.length : Int) + (m.length : Int) < 0) = false := by simp; omega
  have HQ := Lib.hid q0
  clear hs ht hg q0
  go_enter Tryz.func114, Tryz.ntmps114
  go_wp2_with fail
  go_loopw [3, 11] (fun s3 i wr => ∃ k : Nat, ((k = 0 ∧ s3 = .int .i64 0) ∨ (k = 1 ∧ s3 = .int .i64 l.length) ∨ (k = 2 ∧ s3 = .int .i64 ((l.length : Int) + m.length))) ∧ i = .int .i64 k ∧ wr = w) (fun _ i _ => 2 - (intOf i).toNat)
  case atStart => exact ⟨0, .inl ⟨rfl, rfl⟩, rfl, rfl⟩
  case round =>
    obtain ⟨k, hk, rfl, rfl⟩ := hrel
    have q0 := HQ.out
    rcases hk with ⟨rfl, rfl⟩ | ⟨rfl, rfl⟩ | ⟨rfl, rfl⟩
    · go_wp2_with fail
      go_roundw
      case rel => exact ⟨1, .inr (.inl ⟨rfl, by first | rfl | trivial⟩), rfl, by first | rfl | trivial⟩
      case measure => simp [intOf]
    · go_wp2_with fail
      go_roundw
      case rel => exact ⟨2, .inr (.inr ⟨rfl, by first | rfl | trivial⟩), rfl, by first | rfl | trivial⟩
      case measure => simp [intOf]
    clear q0
    go_wp2_with fail
    refine (grow_nil (l.length + m.length) (by omega) _).mono ?_
    rintro e w1 ⟨v1, rfl, hv1, hb1⟩
    have HB1 := Lib.hid hb1
    have HV1 : Hid (catL w1 wr.heap.size B v1 []) := catL_nil hv1
    have hw1 := hb1.size
    clear hv1 hb1
    go_wp2_with fail
    go_loopw [6, 27] (fun s6 i w2 => ∃ (k : Nat) (v : Value), v = s6 ∧ ((k = 0 ∧ Hid (catL w2 wr.heap.size B v [])) ∨ (k = 1 ∧ Hid (catL w2 wr.heap.size B v l)) ∨ (k = 2 ∧ Hid (catL w2 wr.heap.size B v (l ++ m)))) ∧ i = .int .i64 k ∧ Hid (Below wr.heap.size wr w2)) (fun _ i _ => 2 - (intOf i).toNat)
    case atStart => exact ⟨0, v1, rfl, .inl ⟨rfl, HV1⟩, rfl, HB1⟩
    case round =>
      obtain ⟨k, v, rfl, hk, rfl, HB2⟩ := hrel
      have q2 := fun o => (HB2.out.cell (p := ⟨g, o, none⟩) hlt).trans (HQ.out o)
      have hw2 := HB2.out.size
      rcases hk with ⟨rfl, HV⟩ | ⟨rfl, HV⟩ | ⟨rfl, HV⟩
      · obtain ⟨v', w', hr, hc, hb⟩ := catL_app 22 v [] HV.out (.slice a1 l.length c1) l (isL_below HS.out HB2.out hB) (by simp; omega) hB hw2
        have HC := Lib.hid hc
        have HB3 := Lib.hid (HB2.out.trans hb)
        clear hc hb
        go_wp2_with (at_builtin; refine Lib.wpList_append_run _ rfl _ _ _ _ rfl _ _ rfl rfl _ _ hr ?_)
        go_roundw
        case rel => exact ⟨1, v', rfl, .inr (.inl ⟨rfl, HC⟩), rfl, HB3⟩
        case measure => simp [intOf]
      · obtain ⟨v', w', hr, hc, hb⟩ := catL_app 22 v l HV.out (.slice a2 m.length c2) m (isL_below HT.out HB2.out hB) (by omega) hB hw2
        have HC := Lib.hid hc
        have HB3 := Lib.hid (HB2.out.trans hb)
        clear hc hb
        go_wp2_with (at_builtin; refine Lib.wpList_append_run _ rfl _ _ _ _ rfl _ _ rfl rfl _ _ hr ?_)
        go_roundw
        case rel => exact ⟨2, v', rfl, .inr (.inr ⟨rfl, HC⟩), rfl, HB3⟩
        case measure => simp [intOf]
      · clear q2
        go_wp2_with fail
        go_ret
        exact ⟨v, rfl, catL_isL HV.out (Nat.le_trans hB hw2), HB2.out⟩
theorem fitL_app : ∀ {l m : List GV}, fitL l → fitL m → fitL (l ++ m)
  | [], _, _, h => h
  | _ :: _, _, h, h2 => ⟨h.1, fitL_app h.2 h2⟩
end Go.Proofs.YtljljhjdlicfeaaGreat
namespace Go.Proofs.YtljljhjdlicfeaaGreat
open Go Go.RowKit Go.Lib
set_option maxRecDepth 100000
set_option linter.unusedVariables false
theorem cells_flatL {w : World} {lo B b : Nat} : ∀ (m : List GV) (off : Nat), (∀ i (h : i < m.length), cellsV w lo B m[i] b (off + i * 5)) →
    ∃ ss : List Value, ss.length = m.length ∧ (∀ j u, (flat m ss)[j]? = some u → w.cell? ⟨b, off + j, none⟩ = some u) ∧ (∀ i (h : i < m.length) (h' : i < ss.length), isL w lo B ss[i] m[i].l)
  | [], off, _ => ⟨[], rfl, fun j u h => by simp [flat] at h, fun i h => by simp at h⟩
  | x :: r, off, h => by
    obtain ⟨s, x0, x1, x2, x3, x4, hs⟩ := cellsV_open (h 0 (by simp))
    obtain ⟨ss, hl, hc, hi⟩ := cells_flatL r (off + 5) (fun i hi => by
      have := h (i + 1) (by simp; omega)
      rw [show off + (i + 1) * 5 = off + 5 + i * 5 by omega] at this
      exact this)
    simp only [Nat.zero_mul, Nat.add_zero] at x0 x1 x2 x3 x4
    refine ⟨s :: ss, by simp [hl], fun j u hj => ?_, fun i h1 h2 => ?_⟩
    · match j, hj with
      | 0, hj => simp [flat] at hj; subst hj; exact x0
      | 1, hj => simp [flat] at hj; subst hj; exact x1
      | 2, hj => simp [flat] at hj; subst hj; exact x2
      | 3, hj => simp [flat] at hj; subst hj; exact x3
      | 4, hj => simp [flat] at hj; subst hj; exact x4
      | j + 5, hj =>
        have := hc j u (by simpa [flat] using hj)
        rw [show off + (j + 5) = off + 5 + j by omega]
        exact this
    · cases i with
      | zero => exact hs
      | succ i => exact hi i (by simpa using h1) (by simpa using h2)
theorem append_valsL {w : World} {base lo B : Nat} (ty : TypeId) (v : Value) (n : Nat) (xs : List Value) (hown : w.ownsRow base 36 5 v n xs) (t : Value) (m : List GV) (ht : isL w lo B t m) (hn : n + m.length ≤ 4294967296) (hb : base ≤ w.heap.size) :
    ∃ v' w' ss, ss.length = m.length ∧ (Builtin.append_ #[34, 34] ty #[v, t]).run Tryz.prog w = .ok v' w' ∧ w'.ownsRow base 36 5 v' (n + m.length) (xs ++ flat m ss) ∧ w.grownBy w' v.ownBlock ∧ (∀ i (h : i < m.length) (h' : i < ss.length), isL w lo B ss[i] m[i].l) := by
  obtain ⟨i0, hi, hz0, hz1, hz2⟩ := info_parts vinfo
  obtain ⟨a, c, b, off, rfl, hc, ha, hA⟩ := isL_open ht
  obtain ⟨ss, hl, hcell, hin⟩ := cells_flatL m off hA
  have hone := flat_one m ss (fun s hs => by
    obtain ⟨i, hi, rfl⟩ := List.mem_iff_getElem.1 hs
    obtain ⟨a, c, e⟩ := isL_form (hin i (by omega) hi)
    exact ⟨_, _, _, e⟩)
  by_cases h0 : 0 < m.length
  · obtain ⟨rfl, _, _⟩ := ha h0
    obtain ⟨v', w', hr, h2, h3, _, _⟩ := run_append_own_at (P := Tryz.prog) w base 34 ty 36 i0 _ 5 64 Tryz.underlying34 hi hz0 hz1 hz2 rfl (by decide) v n xs hown ⟨b, off, none⟩ m.length c (flat m ss) (flat_length m ss hl) (fun j u hj => by rw [addr_add]; exact hcell j u hj) hone (by unfold maxLen; omega) (by omega) hb
    exact ⟨v', w', ss, hl, hr, h2, h3, hin⟩
  · obtain rfl : m = [] := List.eq_nil_of_length_eq_zero (by omega)
    obtain rfl : ss = [] := List.eq_nil_of_length_eq_zero (by simpa using hl)
    refine ⟨v, w, [], rfl, ?_, by simpa [flat] using hown, ⟨rfl, rfl, rfl, Nat.le_refl _, fun _ _ _ => rfl⟩, fun i h => by simp at h⟩
    rcases hown.2 with ⟨rfl, rfl⟩ | ⟨g, cap, cur, rfl, _, _, hnc, _⟩
    · cases a <;> simp [Builtin.append_, run_underlying Tryz.underlying34, sizeOf, typeInfo, hi, Builtin.lenOf, Builtin.firstCells, loadCells, loadCellsFrom]
    · cases a <;> simp [Builtin.append_, run_underlying Tryz.underlying34, sizeOf, typeInfo, hi, Builtin.lenOf, Builtin.firstCells, hnc, storeCells, loadCells, loadCellsFrom]
theorem row_isL {w : World} {base : Nat} {v : Value} {l : List GV} {ss : List Value} (hl : ss.length = l.length) (hown : w.ownsRow base 36 5 v l.length (flat l ss)) (hin : ∀ i (h : i < l.length) (h' : i < ss.length), isL w base w.heap.size ss[i] l[i].l) : isL w base w.heap.size v l := by
  have hown' := hown
  obtain ⟨h1, h2 | ⟨g, cap, cur, e, hg, hh, hn, hcap, hsz, htk⟩⟩ := hown
  · have : l = [] := List.eq_nil_of_length_eq_zero h2.2
    subst this
    rw [h2.1]
    exact isL_nil _ _
  · subst e
    have hlt := (ownBlock_lt hown' (g := g) rfl).2
    have hcell : ∀ j, j < l.length * 5 → w.cell? ⟨g, 0 + j, none⟩ = (flat l ss)[j]? := fun j hj => by
      rw [← htk, List.getElem?_take, if_pos hj]
      simp [World.cell?, hh]
    refine isL_mk hn (fun _ => ⟨rfl, hg, hlt⟩) fun i hi => ?_
    obtain ⟨a0, a1, a2, a3, a4⟩ := flat_get l ss i hi (by omega)
    exact cellsV_mk (s := ss[i]) (by rw [hcell _ (by omega), a0]) (by rw [show 0 + i * 5 + 1 = 0 + (i * 5 + 1) from by omega, hcell _ (by omega), a1]) (by rw [show 0 + i * 5 + 2 = 0 + (i * 5 + 2) from by omega, hcell _ (by omega), a2])
      (by rw [show 0 + i * 5 + 3 = 0 + (i * 5 + 3) from by omega, hcell _ (by omega), a3]) (by rw [show 0 + i * 5 + 4 = 0 + (i * 5 + 4) from by omega, hcell _ (by omega), a4]) (hin i hi (by omega))
theorem two_lists {w1 w2 : World} {base : Nat} {l m : List GV} {v1 v2 : Value} (ty : TypeId) (h1 : ownL w1 base 36 v1 l) (hb : Below w1.heap.size w1 w2) (h2 : isR w2 (since w1.heap.size w2) v2 m) (hbase : base ≤ w1.heap.size) (hlen : l.length + m.length ≤ 4294967296) :
    ∃ v' w3, (Builtin.append_ #[34, 34] ty #[v1, v2]).run Tryz.prog w2 = .ok v' w3 ∧ isL w3 base w3.heap.size v' (l ++ m) ∧ Below base w2 w3 := by
  have hob : ∀ g, v1.ownBlock = some g → base ≤ g ∧ g < w1.heap.size := fun g hg => by obtain ⟨ss, _, hown, _⟩ := h1; exact ownBlock_lt hown hg
  obtain ⟨ss, hl, hown, hin⟩ := ownL_keep h1 hb
  have hz : w1.heap.size ≤ w2.heap.size := hb.size
  obtain ⟨v', w3, tt, htl, hr, hown', hg, hin'⟩ := append_valsL (lo := w1.heap.size) (B := w2.heap.size) ty v1 l.length (flat l ss) hown v2 m (isR_isL h2 (fun b h => h)) hlen (Nat.le_trans hbase hz)
  have hbel : Below base w2 w3 := (Below.refl base w2).grown hg (Nat.le_trans hbase hz) (fun g hg => (hob g hg).1)
  have hz3 : w2.heap.size ≤ w3.heap.size := hbel.size
  refine ⟨v', w3, hr, row_isL (ss := ss ++ tt) (by simp [hl, htl]) ?_ (fun i h h' => ?_), hbel⟩
  · rw [flat_app l m ss tt hl, List.length_append]; exact hown'
  · by_cases hi : i < l.length
    · rw [List.getElem_append_left (by omega), List.getElem_append_left hi]
      refine isS_mono (hin i hi (by omega)) (fun b off hS => World.cell?_of_block (w := w2) (a := ⟨b, off, none⟩) (hg.block b hS.1.2 hS.2)) (fun b hS => ⟨hS.1.1, Nat.lt_of_lt_of_le hS.1.2 hz3⟩) (fun _ _ _ => trivial)
    · rw [List.getElem_append_right (by omega), List.getElem_append_right (by omega)]
      have hi1 : i - l.length < m.length := by simp at h; omega
      have hi2 : i - l.length < tt.length := by simp at h'; omega
      have h3 := hin' (i - l.length) hi1 hi2
      have h4 : isL w3 base w3.heap.size tt[i - l.length] m[i - l.length].l := isL_mono h3 (fun b off g1 g2 => World.cell?_of_block (w := w2) (a := ⟨b, off, none⟩) (hg.block b g2 (fun e => by have := (hob b e.symm).2; omega))) hbase hz3
      simpa [hl] using h4
theorem step_append_run {P : Program} {ops : Array Oper} {o : Oper} {a : Act} {w : World} {K : Act → World → Prop} {Q : Exit → Act → World → Prop} {E : Prop}
    (hg : o.guard = none) (s x : Operand) (t : TypeId) (hop : o.op = Op.call { callee := Callee.builtin Builtin.append, args := #[s, x], argTypes := #[t, t] })
    (v u : Value) (hs : a.eval s = v) (hx : a.eval x = u) (v' : Value) (w' : World) (hr : (Builtin.append_ #[t, t] o.type #[v, u]).run P w = .ok v' w') (h : K (a.put o.dst v') w') :
    if Region.wanted o (yielded ops a.tmps) = true then Oper.wp P o a w K Q else E := by
  have hw : Region.wanted o (yielded ops a.tmps) = true := by simp [Region.wanted, hg]
  rw [if_pos hw]
  unfold Oper.wp execOp
  simp only [hop, resolve, invoke, builtin, Sem.run_bind, Sem.run_pure, Result.andThen_ok, List.map_toArray, List.map_cons, List.map_nil, hs, hx, hr]
  exact h
def K2 (wC w' : World) (p : Nat) : Prop := (∀ o, w'.cell? ⟨p, o, none⟩ = wC.cell? ⟨p, o, none⟩) ∧ (∀ o, w'.cell? ⟨p + 1, o, none⟩ = wC.cell? ⟨p + 1, o, none⟩) ∧ wC.heap.size ≤ w'.heap.size
theorem K2.of {wC w' : World} {p B : Nat} (h : Below B wC w') (h1 : p + 1 < B) : K2 wC w' p :=
  ⟨fun o => h.cell (p := ⟨p, o, none⟩) (show p < B by omega), fun o => h.cell (p := ⟨p + 1, o, none⟩) h1, h.size⟩
theorem K2.set {wC w' : World} {p g o : Nat} {v : Value} (h : K2 wC w' p) (h1 : p ≠ g) (h2 : p + 1 ≠ g) : K2 wC (w'.setCell ⟨g, o, none⟩ v) p :=
  ⟨fun i => (World.cell?_of_block (w := w') (a := ⟨p, i, none⟩) (Below.heap_setCell _ _ _ _ h1)).trans (h.1 i), fun i => (World.cell?_of_block (w := w') (a := ⟨p + 1, i, none⟩) (Below.heap_setCell _ _ _ _ h2)).trans (h.2.1 i), by simpa [World.setCell] using h.2.2⟩
end Go.Proofs.YtljljhjdlicfeaaGreat
