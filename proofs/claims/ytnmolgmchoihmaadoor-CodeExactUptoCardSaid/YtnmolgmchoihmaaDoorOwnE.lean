/-
  Lists of expressions in memory that a call has made itself. Conditions: none.
-/
import Derived.Test.YtnmolgmchoihmaaDoorInstr
namespace Go.Proofs.YtnmolgmchoihmaaDoor
open Go Go.RowKit
set_option linter.unusedVariables false
def flatE : List GE → List Value → List Value → List Value
  | x :: r, s :: t, sa :: ta => .int .i64 x.op :: .string x.text :: .int .i64 x.v.k :: .bool x.v.b :: .int .i64 x.v.n :: .string x.v.t :: s :: sa :: flatE r t ta
  | _, _, _ => []
theorem flatE_length : ∀ (l : List GE) (ss sas : List Value), ss.length = l.length → sas.length = l.length → (flatE l ss sas).length = l.length * 8
  | [], [], [], _, _ => rfl
  | x :: r, s :: t, sa :: ta, h, h' => by
    have := flatE_length r t ta (by simpa using h) (by simpa using h')
    simp only [flatE, List.length_cons, this]
    omega
  | [], _ :: _, _, h, _ => by simp at h
  | [], [], _ :: _, _, h => by simp at h
  | _ :: _, [], _, h, _ => by simp at h
  | _ :: _, _ :: _, [], _, h => by simp at h
theorem flatE_append : ∀ (l : List GE) (ss sas : List Value) (y : GE) (s sa : Value), ss.length = l.length → sas.length = l.length →
    flatE (l ++ [y]) (ss ++ [s]) (sas ++ [sa]) = flatE l ss sas ++ [.int .i64 y.op, .string y.text, .int .i64 y.v.k, .bool y.v.b, .int .i64 y.v.n, .string y.v.t, s, sa]
  | [], [], [], _, _, _, _, _ => rfl
  | x :: r, s :: t, sa :: ta, y, u, ua, h, h' => by simp [flatE, flatE_append r t ta y u ua (by simpa using h) (by simpa using h')]
  | [], _ :: _, _, _, _, _, h, _ => by simp at h
  | [], [], _ :: _, _, _, _, _, h => by simp at h
  | _ :: _, [], _, _, _, _, h, _ => by simp at h
  | _ :: _, _ :: _, [], _, _, _, _, h => by simp at h
theorem flatE_get : ∀ (l : List GE) (ss sas : List Value) (i : Nat) (h : i < l.length) (h' : i < ss.length) (h2 : i < sas.length),
    (flatE l ss sas)[i * 8]? = some (.int .i64 l[i].op) ∧ (flatE l ss sas)[i * 8 + 1]? = some (.string l[i].text) ∧ (flatE l ss sas)[i * 8 + 2]? = some (.int .i64 l[i].v.k) ∧ (flatE l ss sas)[i * 8 + 3]? = some (.bool l[i].v.b) ∧
    (flatE l ss sas)[i * 8 + 4]? = some (.int .i64 l[i].v.n) ∧ (flatE l ss sas)[i * 8 + 5]? = some (.string l[i].v.t) ∧ (flatE l ss sas)[i * 8 + 6]? = some ss[i] ∧ (flatE l ss sas)[i * 8 + 7]? = some sas[i]
  | x :: r, s :: t, sa :: ta, 0, _, _, _ => by simp [flatE]
  | x :: r, s :: t, sa :: ta, i + 1, h, h', h2 => by
    have := flatE_get r t ta i (by simpa using h) (by simpa using h') (by simpa using h2)
    rw [show (i + 1) * 8 = i * 8 + 8 from by omega]
    simpa [flatE] using this
/-- a value's list and an expression's arguments, read in blocks of S -/
def innE (w : World) (S : Nat → Prop) (s sa : Value) (x : GE) : Prop := isS w S noRoom s x.v.l ∧ isE w S noRoom noRoom sa x.args
theorem innE_mono {w w' : World} {S S' : Nat → Prop} {s sa : Value} {x : GE} (h : innE w S s sa x) (hw : ∀ b, S b → w'.heap[b]? = w.heap[b]?) (h1 : ∀ b, S b → S' b) : innE w' S' s sa x :=
  ⟨isS_mono h.1 (fun b off g => World.cell?_of_block (w := w) (a := ⟨b, off, none⟩) (hw b g)) h1 (fun _ _ h => h),
    isE_mono h.2 (fun b off g => World.cell?_of_block (w := w) (a := ⟨b, off, none⟩) (hw b g)) h1 (fun _ _ h => h) (fun _ _ h => h)⟩
def ownE (w : World) (base : Nat) (T : TypeId) (v : Value) (l : List GE) : Prop :=
  ∃ ss sas : List Value, ss.length = l.length ∧ sas.length = l.length ∧ w.ownsRow base T 8 v l.length (flatE l ss sas) ∧
    ∀ i (h : i < l.length) (h' : i < ss.length) (h2 : i < sas.length), innE w (inS w base v.ownBlock) ss[i] sas[i] l[i]
theorem ownE_nil (w : World) (base : Nat) (T : TypeId) : ownE w base T (.slice none 0 0) [] :=
  ⟨[], [], rfl, rfl, ⟨by simp [flatE], .inl ⟨rfl, rfl⟩⟩, fun i h => by simp at h⟩
theorem ownE_keep {w w' : World} {base : Nat} {T : TypeId} {v : Value} {l : List GE} (h : ownE w base T v l) (hb : Below w.heap.size w w') : ownE w' base T v l := by
  obtain ⟨ss, sas, hl, hl2, hown, hin⟩ := h
  exact ⟨ss, sas, hl, hl2, ownsRow_keep hown (fun g hg => hb.block g (ownBlock_lt hown hg).2), fun i h h' h2 => innE_mono (hin i h h' h2) (fun b hb' => hb.block b hb'.2.1) (fun b hb' => inS_moved hb' hb.size (.inl rfl))⟩
theorem ownE_push {w w1 w2 : World} {base : Nat} {T : TypeId} {v v' s sa : Value} {l : List GE} {y : GE} {ss sas : List Value} {n : Nat} (hn : n = l.length + 1) (hl : ss.length = l.length) (hl2 : sas.length = l.length)
    (hin : ∀ i (h : i < l.length) (h' : i < ss.length) (h2 : i < sas.length), innE w (inS w base v.ownBlock) ss[i] sas[i] l[i]) (hw1 : Below w.heap.size w w1) (hs : innE w (inS w base v.ownBlock) s sa y)
    (h' : w2.ownsRow base T 8 v' n (flatE l ss sas ++ [.int .i64 y.op, .string y.text, .int .i64 y.v.k, .bool y.v.b, .int .i64 y.v.n, .string y.v.t, s, sa])) (hg : w1.grownBy w2 v.ownBlock)
    (hat : v'.ownBlock = v.ownBlock ∨ v'.ownBlock = some w1.heap.size) : ownE w2 base T v' (l ++ [y]) := by
  subst hn
  have hsz : w.heap.size ≤ w2.heap.size := Nat.le_trans hw1.size hg.size
  have key : ∀ b, inS w base v.ownBlock b → w2.heap[b]? = w.heap[b]? := fun b hb => by
    rw [hg.block b (Nat.lt_of_lt_of_le hb.2.1 hw1.size) hb.2.2]
    exact hw1.block b hb.2.1
  have hm : moved w v.ownBlock v'.ownBlock := by
    rcases hat with e | e
    · exact .inl e
    · exact .inr ⟨_, e, hw1.size⟩
  have hk : ∀ b, inS w base v.ownBlock b → inS w2 base v'.ownBlock b := fun b hb => inS_moved hb hsz hm
  refine ⟨ss ++ [s], sas ++ [sa], by simp [hl], by simp [hl2], ?_, fun i h h2 h3 => ?_⟩
  · rw [flatE_append l ss sas y s sa hl hl2]; simpa using h'
  · by_cases hi : i < l.length
    · have := innE_mono (hin i hi (by omega) (by omega)) key hk
      rw [List.getElem_append_left (by omega), List.getElem_append_left hi, List.getElem_append_left (by omega)]
      exact this
    · have e : i = l.length := by simp at h; omega
      have := innE_mono hs key hk
      subst e
      rw [List.getElem_append_right (by omega), List.getElem_append_right (by omega), List.getElem_append_right (by omega)]
      simpa [hl, hl2] using this
/-- the list as it is read -/
theorem ownE_isE {w : World} {base : Nat} {T : TypeId} {v : Value} {l : List GE} (h : ownE w base T v l) : isE w (since base w) noRoom noRoom v l := by
  obtain ⟨ss, sas, hl, hl2, hown, hin⟩ := h
  have hown' := hown
  obtain ⟨h1, h2 | ⟨g, cap, cur, e, hg, hh, hn, hcap, hsz, htk⟩⟩ := hown
  · have : l = [] := List.eq_nil_of_length_eq_zero h2.2
    subst this
    rw [h2.1]
    exact ⟨none, 0, rfl, Nat.le_refl _, trivial, fun h => by simp at h⟩
  · subst e
    have hlt := (ownBlock_lt hown' (g := g) rfl).2
    have hcell : ∀ j, j < l.length * 8 → w.cell? ⟨g, 0 + j, none⟩ = (flatE l ss sas)[j]? := fun j hj => by
      rw [← htk, List.getElem?_take, if_pos hj]
      simp [World.cell?, hh]
    refine isE_mk hn trivial (fun _ => ⟨rfl, hg, hlt⟩) fun i hi => ?_
    obtain ⟨a0, a1, a2, a3, a4, a5, a6, a7⟩ := flatE_get l ss sas i hi (by omega) (by omega)
    have q := innE_mono (hin i hi (by omega) (by omega)) (w' := w) (S' := since base w) (fun _ _ => rfl) (fun b hb => ⟨hb.1, hb.2.1⟩)
    have c : ∀ o u, o < 8 → (flatE l ss sas)[i * 8 + o]? = some u → w.cell? ⟨g, 0 + i * 8 + o, none⟩ = some u := fun o u ho hu => by
      rw [Nat.add_assoc, hcell _ (by omega), hu]
    exact cellsE_mk (s := ss[i]) (sa := sas[i]) (c 0 _ (by omega) a0) (c 1 _ (by omega) a1) (c 2 _ (by omega) a2) (c 3 _ (by omega) a3) (c 4 _ (by omega) a4) (c 5 _ (by omega) a5) (c 6 _ (by omega) a6) (c 7 _ (by omega) a7) q.1 q.2
end Go.Proofs.YtnmolgmchoihmaaDoor
