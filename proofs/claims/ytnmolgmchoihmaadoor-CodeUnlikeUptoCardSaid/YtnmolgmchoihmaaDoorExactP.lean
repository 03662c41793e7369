/-
  Plain facts for the walk of CodeExact: what is compiled fits; code that a call has made may be written over. Conditions: none.
-/
import Derived.Test.YtnmolgmchoihmaaDoorCompile
import Derived.Test.YtnmolgmchoihmaaDoorReach
import Derived.Test.YtnmolgmchoihmaaDoorOverV
namespace Go.Proofs.YtnmolgmchoihmaaDoor
open Go Go.RowKit
set_option maxRecDepth 100000
set_option linter.unusedVariables false
theorem noV_fit : noV.fit := by simp [noV, GV.fit, fitL]
def fitG (y : GI) : Prop := y.v.fit ∧ y.s.size ≤ 2147483647
theorem gi_fit (op arg : Int) : fitG (gi op arg ByteArray.empty noV) := ⟨noV_fit, by simp [gi]⟩
theorem giT_fit {t : ByteArray} (h : t.size ≤ 2147483647) (op arg : Int) : fitG (gi op arg t noV) := ⟨noV_fit, h⟩
mutual
theorem compE_fit : ∀ (x : GE) (m : Nat), x.fit → ∀ y ∈ compE x m, fitG y
  | ⟨op, text, v, args⟩, m, h, y, hy => by
    obtain ⟨_, _, h3, h4, h5, h6⟩ := fitE_open h
    have h1 := compTwo_fit args op m h6
    have h2 := compEs_fit args m h6
    simp only [compE] at hy
    split at hy
    · simp only [List.mem_singleton] at hy; subst hy; exact ⟨h4, by simp [gi]⟩
    split at hy
    · simp only [List.mem_singleton] at hy; subst hy; exact giT_fit h3 _ _
    split at hy
    · simp only [List.mem_singleton] at hy; subst hy; exact giT_fit h3 _ _
    split at hy
    · exact h1 y hy
    · rcases List.mem_append.1 hy with hy | hy
      · exact h2 y hy
      · simp only [List.mem_singleton] at hy
        subst hy
        split
        · exact giT_fit h3 _ _
        split
        · exact gi_fit _ _
        · exact gi_fit _ _
theorem compTwo_fit : ∀ (l : List GE) (op : Int) (m : Nat), fitE l → ∀ y ∈ compTwo l op m, fitG y
  | [], op, m, _, y, hy => by simp [compTwo] at hy
  | x :: r, op, m, h, y, hy => by
    simp only [fitE] at h
    simp only [compTwo, List.mem_append, List.mem_singleton] at hy
    rcases hy with (hy | hy) | hy
    · exact compE_fit x _ h.1 y hy
    · subst hy; exact gi_fit _ _
    · exact compLast_fit r _ _ h.2 y hy
theorem compLast_fit : ∀ (l : List GE) (op : Int) (m : Nat), fitE l → ∀ y ∈ compLast l op m, fitG y
  | [], op, m, _, y, hy => by simp [compLast] at hy
  | x :: r, op, m, h, y, hy => by
    simp only [fitE] at h
    simp only [compLast, List.mem_cons, List.mem_append, List.not_mem_nil, or_false] at hy
    rcases hy with hy | hy | hy
    · subst hy; exact gi_fit _ _
    · exact compE_fit x _ h.1 y hy
    · subst hy; exact gi_fit _ _
theorem compEs_fit : ∀ (l : List GE) (m : Nat), fitE l → ∀ y ∈ compEs l m, fitG y
  | [], m, _, y, hy => by simp [compEs] at hy
  | x :: r, m, h, y, hy => by
    simp only [fitE] at h
    simp only [compEs, List.mem_append] at hy
    rcases hy with hy | hy
    · exact compE_fit x _ h.1 y hy
    · exact compEs_fit r _ h.2 y hy
end
theorem codeOf_fit (x : GE) (fx : x.fit) : fitI (codeOf x) := by
  unfold codeOf
  split
  · exact compE_fit x 0 fx
  · intro y hy; simp at hy
theorem codeOf_len (x : GE) : (codeOf x).length ≤ 12288 := by
  unfold codeOf
  split
  · rename_i hm
    have h1 := (mayC_true x 1 0 hm).2
    have h2 := mayC_le x 1 0 hm
    have := compE_len x 0
    omega
  · simp
theorem same_self (x : GV) : same x x = true := (same_iff x x).2 rfl
mutual
theorem sameE_self : ∀ (x : GE), sameE x x = true
  | ⟨op, text, v, args⟩ => by simp [sameE, same_self, sameEs_self args]
theorem sameEs_self : ∀ (l : List GE), sameEs l l = true
  | [] => rfl
  | x :: r => by simp [sameEs, sameE_self x, sameEs_self r]
end
theorem sameIs_self (l : List GI) : sameIs l l = true := sameIs_all l l rfl fun i h _ => by simp [sameI, same_self]

/-! ### code that is written over -/
/-- n instructions in block g, whose values' lists lie in S: all may be written over -/
def ovI (w : World) (S : Nat → Prop) (g n : Nat) : Prop := ¬ S g ∧ (∃ cs T, w.heap[g]? = some (.cells cs T (0, 0)) ∧ n * 8 ≤ cs.size) ∧ ∀ i, i < n → elemO w (fun s => ∃ m, ovr w S m s) g (i * 8 + 3)
theorem ovI_lt {w : World} {S : Nat → Prop} {g n : Nat} (h : ovI w S g n) : g < w.heap.size := by
  obtain ⟨_, ⟨cs, T, hh, _⟩, _⟩ := h
  rcases Nat.lt_or_ge g w.heap.size with h | h
  · exact h
  · rw [Array.getElem?_eq_none h] at hh; cases hh
theorem ovI_keep {w w' : World} {S : Nat → Prop} {g n : Nat} (h : ovI w S g n) (hk : OvrKeep S w w') (hg : w'.heap[g]? = w.heap[g]?) : ovI w' S g n := by
  obtain ⟨h0, ⟨cs, T, hh, hs⟩, he⟩ := h
  refine ⟨h0, ⟨cs, T, by rw [hg, hh], hs⟩, fun i hi => ?_⟩
  have hc : ∀ o, w'.cell? ⟨g, o, none⟩ = w.cell? ⟨g, o, none⟩ := fun o => World.cell?_of_block (w := w) (a := ⟨g, o, none⟩) hg
  obtain ⟨k, bb, nn, t, a1, n1, c1, x0, x1, x2, x3, x4, m, x5⟩ := he i hi
  exact ⟨k, bb, nn, t, a1, n1, c1, by rw [hc, x0], by rw [hc, x1], by rw [hc, x2], by rw [hc, x3], by rw [hc, x4], m, hk m _ x5⟩
/-- what a call has made may be written over -/
theorem ovI_of {w : World} {lo : Nat} {v : Value} {l : List GI} (h : ownI true w lo lo 40 v l) (hl : 0 < l.length) (hf : fitI l) :
    ∃ g c, v = .slice (some ⟨g, 0, none⟩) l.length c ∧ lo ≤ g ∧ g < w.heap.size ∧ ovI w (inS w lo (some g)) g l.length := by
  have hlt := fun g hg => ownI_lt h (g := g) hg
  obtain ⟨ss, hls, ⟨h1, h2 | ⟨g, cap, cur, e, hg, hh, hn, hcap, hsz, htk⟩⟩, hin⟩ := h
  · omega
  · subst e
    refine ⟨g, cap, rfl, hg, (hlt g rfl).2, fun hS => hS.2.2 rfl, ⟨cur, _, hh, by rw [hsz]; omega⟩, fun i hi => ?_⟩
    have hcell : ∀ j, j < l.length * 8 → w.cell? ⟨g, j, none⟩ = (flatI l ss)[j]? := fun j hj => by
      rw [← htk, List.getElem?_take, if_pos hj]
      simp [World.cell?, hh]
    obtain ⟨a0, a1, a2, a3, a4, a5, a6, a7⟩ := flatI_get l ss i hi (by omega)
    obtain ⟨a, c, e⟩ := isS_form (hin i hi (by omega))
    have hI := hin i hi (by omega)
    have hR : isR w (inS w lo (some g)) ss[i] l[i].v.l := isS_mono hI (fun _ _ _ => rfl) (fun _ h => h) (fun a c hr => hr rfl)
    rw [e] at a7 hR
    obtain ⟨_, _, _, _, _, h6, h7⟩ := fit_open (hf _ (List.getElem_mem hi)).1
    exact ⟨_, _, _, _, a, _, c, by rw [hcell _ (by omega), a3], by rw [hcell _ (by omega), a4], by rw [hcell _ (by omega), a5], by rw [hcell _ (by omega), a6], by rw [hcell _ (by omega), a7],
      _, ovr_of _ (Nat.le_refl _) h6 h7 hR (fun _ h => h)⟩
/-- the world with instruction i of block g written over -/
def over8 (w : World) (g q : Nat) (op : Int) : World :=
  (((((((w.setCell ⟨g, q, none⟩ (.int .i64 op)).setCell ⟨g, q + 1, none⟩ (.int .i64 0)).setCell ⟨g, q + 2, none⟩ (.string { data := #[] })).setCell ⟨g, q + 3, none⟩ (.int .i64 0)).setCell ⟨g, q + 4, none⟩ (.bool false)).setCell ⟨g, q + 5, none⟩ (.int .i64 0)).setCell ⟨g, q + 6, none⟩ (.string { data := #[] })).setCell ⟨g, q + 7, none⟩ (.slice none 0 0)
theorem over8_cells {w : World} {g q : Nat} {op : Int} {cs : Array Value} {T : TypeId} (h : w.heap[g]? = some (.cells cs T (0, 0))) (hq : q + 8 ≤ cs.size) : ∃ cs', (over8 w g q op).heap[g]? = some (.cells cs' T (0, 0)) ∧ cs'.size = cs.size ∧ (∀ o, (o < q ∨ q + 8 ≤ o) → cs'[o]? = cs[o]?) ∧
    cs'[q + 3]? = some (.int .i64 0) ∧ cs'[q + 4]? = some (.bool false) ∧ cs'[q + 5]? = some (.int .i64 0) ∧ cs'[q + 6]? = some (.string { data := #[] }) ∧ cs'[q + 7]? = some (.slice none 0 0) := by
  refine ⟨_, heap_setCell (heap_setCell (heap_setCell (heap_setCell (heap_setCell (heap_setCell (heap_setCell (heap_setCell h))))))), by simp only [Array.size_setIfInBounds], fun o ho => ?_, ?_, ?_, ?_, ?_, ?_⟩
  · iterate 8 rw [Array.getElem?_setIfInBounds_ne (by omega)]
  · iterate 4 rw [Array.getElem?_setIfInBounds_ne (by omega)]
    exact Array.getElem?_setIfInBounds_self_of_lt (by simp only [Array.size_setIfInBounds]; omega)
  · iterate 3 rw [Array.getElem?_setIfInBounds_ne (by omega)]
    exact Array.getElem?_setIfInBounds_self_of_lt (by simp only [Array.size_setIfInBounds]; omega)
  · iterate 2 rw [Array.getElem?_setIfInBounds_ne (by omega)]
    exact Array.getElem?_setIfInBounds_self_of_lt (by simp only [Array.size_setIfInBounds]; omega)
  · iterate 1 rw [Array.getElem?_setIfInBounds_ne (by omega)]
    exact Array.getElem?_setIfInBounds_self_of_lt (by simp only [Array.size_setIfInBounds]; omega)
  · exact Array.getElem?_setIfInBounds_self_of_lt (by simp only [Array.size_setIfInBounds]; omega)
theorem over8_block (w : World) (g q : Nat) (op : Int) (b : Nat) (hb : b ≠ g) : (over8 w g q op).heap[b]? = w.heap[b]? := by
  unfold over8
  iterate 8 rw [Below.heap_setCell _ _ _ _ hb]
theorem over8_size (w : World) (g q : Nat) (op : Int) : (over8 w g q op).heap.size = w.heap.size := by
  unfold over8
  simp only [hsz_setCell]
theorem ovI_over8 {w : World} {S : Nat → Prop} {g n i : Nat} (h : ovI w S g n) (hi : i < n) (op : Int) : ovI (over8 w g (i * 8) op) S g n ∧ OvrKeep S w (over8 w g (i * 8) op) := by
  obtain ⟨h0, ⟨cs, T, hh, hs⟩, he⟩ := h
  have hk : OvrKeep S w (over8 w g (i * 8) op) := fun m s hm => ovr_keep (fun b hb => over8_block _ _ _ _ _ (fun e => by subst e; exact h0 hb)) m s hm
  refine ⟨?_, hk⟩
  obtain ⟨cs', e1, e2, e3, y3, y4, y5, y6, y7⟩ := over8_cells (op := op) hh (show i * 8 + 8 ≤ cs.size by omega)
  refine ⟨h0, ⟨cs', T, e1, by omega⟩, fun j hj => ?_⟩
  have hc : ∀ o, w.cell? ⟨g, o, none⟩ = cs[o]? := fun o => by simp [World.cell?, hh]
  have hc' : ∀ o, (over8 w g (i * 8) op).cell? ⟨g, o, none⟩ = cs'[o]? := fun o => by simp [World.cell?, e1]
  by_cases e : j = i
  · subst e
    exact ⟨0, false, 0, _, none, 0, 0, by rw [hc', y3], by rw [hc', y4], by rw [hc', y5], by rw [hc', y6], by rw [hc', y7], 0, ovr_nil 0 none⟩
  · obtain ⟨k, bb, nn, t, a1, n1, c1, x0, x1, x2, x3, x4, m, x5⟩ := he j hj
    rw [hc] at x0 x1 x2 x3 x4
    exact ⟨k, bb, nn, t, a1, n1, c1, by rw [hc', e3 _ (by omega), x0], by rw [hc', e3 _ (by omega), x1], by rw [hc', e3 _ (by omega), x2], by rw [hc', e3 _ (by omega), x3], by rw [hc', e3 _ (by omega), x4], m, hk m _ x5⟩
theorem KeptS.over8 {S : Nat → Prop} {a w : World} (h : KeptS S a w) {g : Nat} (hg : S g) (q : Nat) (op : Int) : KeptS S a (over8 w g q op) :=
  (((((((h.set (p := ⟨g, _, none⟩) hg _).set (p := ⟨g, _, none⟩) hg _).set (p := ⟨g, _, none⟩) hg _).set (p := ⟨g, _, none⟩) hg _).set (p := ⟨g, _, none⟩) hg _).set (p := ⟨g, _, none⟩) hg _).set (p := ⟨g, _, none⟩) hg _).set (p := ⟨g, _, none⟩) hg _
theorem eight_cells {w : World} {g p : Nat} {cs : Array Value} {T : TypeId} (h : w.heap[g]? = some (.cells cs T (0, 0))) (hp : p + 8 ≤ cs.size) :
    ∃ u0 u1 u2 u3 u4 u5 u6 u7, w.cell? ⟨g, p, none⟩ = some u0 ∧ w.cell? ⟨g, p + 1, none⟩ = some u1 ∧ w.cell? ⟨g, p + 2, none⟩ = some u2 ∧ w.cell? ⟨g, p + 3, none⟩ = some u3 ∧ w.cell? ⟨g, p + 4, none⟩ = some u4 ∧
      w.cell? ⟨g, p + 5, none⟩ = some u5 ∧ w.cell? ⟨g, p + 6, none⟩ = some u6 ∧ w.cell? ⟨g, p + 7, none⟩ = some u7 := by
  have hc : ∀ o, w.cell? ⟨g, o, none⟩ = cs[o]? := fun o => by simp [World.cell?, h]
  refine ⟨cs[p], cs[p + 1], cs[p + 2], cs[p + 3], cs[p + 4], cs[p + 5], cs[p + 6], cs[p + 7], ?_, ?_, ?_, ?_, ?_, ?_, ?_, ?_⟩ <;> rw [hc, Array.getElem?_eq_getElem]
theorem ovr_slice {w : World} {S : Nat → Prop} {m : Nat} {s : Value} (h : ovr w S m s) : ∃ a n c, s = .slice a n c := by
  obtain ⟨a, n, c, e, _⟩ := ovr_form h
  exact ⟨a, n, c, e⟩
theorem isI_wide {w : World} {B B' : Nat} {s : Value} {l : List GI} (h : isI w B s l) (hB : B ≤ B') : isI w B' s l := by
  obtain ⟨a, c, b, off, e, hc, ha, hA⟩ := h
  refine ⟨a, c, b, off, e, hc, fun h => ⟨(ha h).1, Nat.lt_of_lt_of_le (ha h).2 hB⟩, fun i hi => ?_⟩
  obtain ⟨a, c, a0, a1, a2, a3, a4, a5, a6, a7, hs⟩ := hA i hi
  exact ⟨a, c, a0, a1, a2, a3, a4, a5, a6, a7, isL_wide hs (Nat.le_refl _) hB⟩
end Go.Proofs.YtnmolgmchoihmaaDoor
