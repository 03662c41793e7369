/-
  Values of the program as a plain Lean type, and how memory holds them: no program is imported here. Conditions: none.
-/
import Derived.WalkKit
import Derived.Lib.QuietBelow
import Derived.Lib.Hide
import Derived.Test.YtljljhjdlicfeaaGreatProg
import Derived.WalkLawsBesides
import Derived.Deep.QuietTactic
import Derived.BigQuiet
import Derived.IntWalk
import Derived.Outline
namespace Go.Proofs.YtljljhjdlicfeaaGreat
open Go Go.RowKit
set_option linter.unusedVariables false
structure GV where
  k : Int
  b : Bool
  n : Int
  t : ByteArray
  l : List GV
  deriving Inhabited
def GV.agg (x : GV) (s : Value) : Value := .agg #[.int .i64 x.k, .bool x.b, .int .i64 x.n, .string x.t, s]
def hdr (S : Nat → Prop) (rm : Option Addr → Nat → Prop) (s : Value) (len : Nat) (R : Nat → Nat → Prop) : Prop :=
  ∃ a cap, s = .slice a len cap ∧ len ≤ cap ∧ rm a cap ∧ (0 < len → ∃ b off, a = some ⟨b, off, none⟩ ∧ S b ∧ R b off)
mutual
def cellsS (w : World) (S : Nat → Prop) (rm : Option Addr → Nat → Prop) : GV → Nat → Nat → Prop
  | ⟨k, bb, n, t, l⟩ => fun b off => w.cell? ⟨b, off, none⟩ = some (.int .i64 k) ∧ w.cell? ⟨b, off + 1, none⟩ = some (.bool bb) ∧ w.cell? ⟨b, off + 2, none⟩ = some (.int .i64 n) ∧
     w.cell? ⟨b, off + 3, none⟩ = some (.string t) ∧ ∃ s, w.cell? ⟨b, off + 4, none⟩ = some s ∧ hdr S rm s l.length (rowsS w S rm l)
def rowsS (w : World) (S : Nat → Prop) (rm : Option Addr → Nat → Prop) : List GV → Nat → Nat → Prop
  | [] => fun _ _ => True
  | x :: r => fun b off => cellsS w S rm x b off ∧ rowsS w S rm r b (off + 5)
end
def isS (w : World) (S : Nat → Prop) (rm : Option Addr → Nat → Prop) (s : Value) (l : List GV) : Prop := hdr S rm s l.length (rowsS w S rm l)
theorem hdr_mono {S S' : Nat → Prop} {rm rm' : Option Addr → Nat → Prop} {s : Value} {n : Nat} {R R' : Nat → Nat → Prop} (h : hdr S rm s n R) (h1 : ∀ b, S b → S' b) (h2 : ∀ a c, rm a c → rm' a c)
    (hR : ∀ b off, S b → R b off → R' b off) : hdr S' rm' s n R' := by
  obtain ⟨a, cap, e, hc, hr, h⟩ := h
  exact ⟨a, cap, e, hc, h2 _ _ hr, fun hn => by obtain ⟨b, off, ea, hb, hr⟩ := h hn; exact ⟨b, off, ea, h1 b hb, hR b off hb hr⟩⟩
mutual
theorem cellsS_mono {w w' : World} {S S' : Nat → Prop} {rm rm' : Option Addr → Nat → Prop} (hw : ∀ b off, S b → w'.cell? ⟨b, off, none⟩ = w.cell? ⟨b, off, none⟩) (h1 : ∀ b, S b → S' b) (h2 : ∀ a c, rm a c → rm' a c) :
    ∀ (x : GV) (b off : Nat), S b → cellsS w S rm x b off → cellsS w' S' rm' x b off
  | ⟨k, bb, n, t, l⟩, b, off, hb, h => by
    simp only [cellsS] at h ⊢
    obtain ⟨a0, a1, a2, a3, s, a4, hs⟩ := h
    exact ⟨by rw [hw _ _ hb, a0], by rw [hw _ _ hb, a1], by rw [hw _ _ hb, a2], by rw [hw _ _ hb, a3], s, by rw [hw _ _ hb, a4],
      hdr_mono hs h1 h2 (fun b off g1 g => rowsS_mono hw h1 h2 l b off g1 g)⟩
theorem rowsS_mono {w w' : World} {S S' : Nat → Prop} {rm rm' : Option Addr → Nat → Prop} (hw : ∀ b off, S b → w'.cell? ⟨b, off, none⟩ = w.cell? ⟨b, off, none⟩) (h1 : ∀ b, S b → S' b) (h2 : ∀ a c, rm a c → rm' a c) :
    ∀ (l : List GV) (b off : Nat), S b → rowsS w S rm l b off → rowsS w' S' rm' l b off
  | [], _, _, _, _ => by simp [rowsS]
  | x :: r, b, off, hb, h => by
    simp only [rowsS] at h ⊢
    exact ⟨cellsS_mono hw h1 h2 x b off hb h.1, rowsS_mono hw h1 h2 r b (off + 5) hb h.2⟩
end
theorem isS_mono {w w' : World} {S S' : Nat → Prop} {rm rm' : Option Addr → Nat → Prop} {s : Value} {l : List GV} (h : isS w S rm s l)
    (hw : ∀ b off, S b → w'.cell? ⟨b, off, none⟩ = w.cell? ⟨b, off, none⟩) (h1 : ∀ b, S b → S' b) (h2 : ∀ a c, rm a c → rm' a c) : isS w' S' rm' s l :=
  hdr_mono h h1 h2 (fun b off g1 g => rowsS_mono hw h1 h2 l b off g1 g)
theorem rowsS_get {w : World} {S : Nat → Prop} {rm : Option Addr → Nat → Prop} : ∀ (l : List GV) (b off : Nat), rowsS w S rm l b off → ∀ i (h : i < l.length), cellsS w S rm l[i] b (off + i * 5)
  | [], _, _, _, i, h => by simp at h
  | x :: r, b, off, h, 0, _ => by simpa [rowsS] using h.1
  | x :: r, b, off, h, i + 1, hi => by
    have := rowsS_get r b (off + 5) h.2 i (by simpa using hi)
    simpa [Nat.add_mul, Nat.add_assoc, Nat.add_comm, Nat.add_left_comm] using this
theorem rowsS_mk {w : World} {S : Nat → Prop} {rm : Option Addr → Nat → Prop} : ∀ (l : List GV) (b off : Nat), (∀ i (h : i < l.length), cellsS w S rm l[i] b (off + i * 5)) → rowsS w S rm l b off
  | [], _, _, _ => by simp [rowsS]
  | x :: r, b, off, h => by
    simp only [rowsS]
    refine ⟨h 0 (by simp), rowsS_mk r b (off + 5) fun i hi => ?_⟩
    have := h (i + 1) (by simpa using hi)
    simpa [Nat.add_mul, Nat.add_assoc, Nat.add_comm, Nat.add_left_comm] using this
theorem cellsS_open {w : World} {S : Nat → Prop} {rm : Option Addr → Nat → Prop} {x : GV} {b off : Nat} (h : cellsS w S rm x b off) :
    ∃ a c, w.cell? ⟨b, off, none⟩ = some (.int .i64 x.k) ∧ w.cell? ⟨b, off + 1, none⟩ = some (.bool x.b) ∧ w.cell? ⟨b, off + 2, none⟩ = some (.int .i64 x.n) ∧
     w.cell? ⟨b, off + 3, none⟩ = some (.string x.t) ∧ w.cell? ⟨b, off + 4, none⟩ = some (.slice a x.l.length c) ∧ isS w S rm (.slice a x.l.length c) x.l := by
  obtain ⟨k, bb, n, t, l⟩ := x
  simp only [cellsS] at h
  obtain ⟨a0, a1, a2, a3, s, a4, a, c, e, r⟩ := h
  subst e
  exact ⟨a, c, a0, a1, a2, a3, a4, a, c, rfl, r⟩
theorem cellsS_mk {w : World} {S : Nat → Prop} {rm : Option Addr → Nat → Prop} {x : GV} {b off : Nat} {s : Value} (a0 : w.cell? ⟨b, off, none⟩ = some (.int .i64 x.k)) (a1 : w.cell? ⟨b, off + 1, none⟩ = some (.bool x.b)) (a2 : w.cell? ⟨b, off + 2, none⟩ = some (.int .i64 x.n))
     (a3 : w.cell? ⟨b, off + 3, none⟩ = some (.string x.t)) (a4 : w.cell? ⟨b, off + 4, none⟩ = some s) (hs : isS w S rm s x.l) : cellsS w S rm x b off := by
  obtain ⟨k, bb, n, t, l⟩ := x
  simp only [cellsS]
  exact ⟨a0, a1, a2, a3, s, a4, hs⟩
theorem isS_open {w : World} {S : Nat → Prop} {rm : Option Addr → Nat → Prop} {s : Value} {l : List GV} (h : isS w S rm s l) :
    ∃ a cap b off, s = .slice a l.length cap ∧ l.length ≤ cap ∧ rm a cap ∧ (0 < l.length → a = some ⟨b, off, none⟩ ∧ S b) ∧ (∀ i (h : i < l.length), cellsS w S rm l[i] b (off + i * 5)) := by
  obtain ⟨a, cap, e, hc, hr, h⟩ := h
  by_cases hl : 0 < l.length
  · obtain ⟨b, off, ea, h1, hr'⟩ := h hl
    exact ⟨a, cap, b, off, e, hc, hr, fun _ => ⟨ea, h1⟩, rowsS_get l b off hr'⟩
  · exact ⟨a, cap, 0, 0, e, hc, hr, fun g => absurd g hl, fun i hi => absurd (Nat.lt_of_le_of_lt (Nat.zero_le _) hi) hl⟩
theorem isS_mk {w : World} {S : Nat → Prop} {rm : Option Addr → Nat → Prop} {l : List GV} {a : Option Addr} {cap b off : Nat} (hc : l.length ≤ cap) (hr : rm a cap) (ha : 0 < l.length → a = some ⟨b, off, none⟩ ∧ S b)
    (h : ∀ i (h : i < l.length), cellsS w S rm l[i] b (off + i * 5)) : isS w S rm (.slice a l.length cap) l :=
  ⟨a, cap, rfl, hc, hr, fun g => ⟨b, off, (ha g).1, (ha g).2, rowsS_mk l b off h⟩⟩
def noRoom : Option Addr → Nat → Prop := fun _ _ => True
def isL (w : World) (lo hi : Nat) (s : Value) (l : List GV) : Prop := isS w (fun b => lo ≤ b ∧ b < hi) noRoom s l
def cellsV (w : World) (lo hi : Nat) (x : GV) (b off : Nat) : Prop := cellsS w (fun b => lo ≤ b ∧ b < hi) noRoom x b off
theorem isL_mono {w w' : World} {lo hi lo' hi' : Nat} {s : Value} {l : List GV} (h : isL w lo hi s l)
    (hw : ∀ b off, lo ≤ b → b < hi → w'.cell? ⟨b, off, none⟩ = w.cell? ⟨b, off, none⟩) (h1 : lo' ≤ lo) (h2 : hi ≤ hi') : isL w' lo' hi' s l :=
  isS_mono h (fun b off g => hw b off g.1 g.2) (fun b g => ⟨by omega, by omega⟩) (fun _ _ h => h)
theorem isL_below {w w' : World} {B lo hi : Nat} {s : Value} {l : List GV} (h : isL w lo hi s l) (hb : Below B w w') (hB : hi ≤ B) : isL w' lo hi s l :=
  isL_mono h (fun b off _ g => hb.cell (p := ⟨b, off, none⟩) (Nat.lt_of_lt_of_le g hB)) (Nat.le_refl _) (Nat.le_refl _)
theorem isL_wide {w : World} {lo hi lo' hi' : Nat} {s : Value} {l : List GV} (h : isL w lo hi s l) (h1 : lo' ≤ lo) (h2 : hi ≤ hi') : isL w lo' hi' s l :=
  isL_mono h (fun _ _ _ _ => rfl) h1 h2
theorem cellsV_slice {w : World} {lo hi : Nat} {x : GV} {b off : Nat} (h : cellsV w lo hi x b off) :
    ∃ a c, w.cell? ⟨b, off, none⟩ = some (.int .i64 x.k) ∧ w.cell? ⟨b, off + 1, none⟩ = some (.bool x.b) ∧ w.cell? ⟨b, off + 2, none⟩ = some (.int .i64 x.n) ∧
     w.cell? ⟨b, off + 3, none⟩ = some (.string x.t) ∧ w.cell? ⟨b, off + 4, none⟩ = some (.slice a x.l.length c) ∧ isL w lo hi (.slice a x.l.length c) x.l := cellsS_open h
theorem cellsV_open {w : World} {lo hi : Nat} {x : GV} {b off : Nat} (h : cellsV w lo hi x b off) :
    ∃ s, w.cell? ⟨b, off, none⟩ = some (.int .i64 x.k) ∧ w.cell? ⟨b, off + 1, none⟩ = some (.bool x.b) ∧ w.cell? ⟨b, off + 2, none⟩ = some (.int .i64 x.n) ∧
     w.cell? ⟨b, off + 3, none⟩ = some (.string x.t) ∧ w.cell? ⟨b, off + 4, none⟩ = some s ∧ isL w lo hi s x.l := by
  obtain ⟨a, c, h⟩ := cellsV_slice h
  exact ⟨_, h⟩
theorem cellsV_mk {w : World} {lo hi : Nat} {x : GV} {b off : Nat} {s : Value} (a0 : w.cell? ⟨b, off, none⟩ = some (.int .i64 x.k)) (a1 : w.cell? ⟨b, off + 1, none⟩ = some (.bool x.b)) (a2 : w.cell? ⟨b, off + 2, none⟩ = some (.int .i64 x.n))
     (a3 : w.cell? ⟨b, off + 3, none⟩ = some (.string x.t)) (a4 : w.cell? ⟨b, off + 4, none⟩ = some s) (hs : isL w lo hi s x.l) : cellsV w lo hi x b off := cellsS_mk a0 a1 a2 a3 a4 hs
theorem isL_form {w : World} {lo hi : Nat} {s : Value} {l : List GV} (h : isL w lo hi s l) : ∃ a c, s = .slice a l.length c := by
  obtain ⟨a, c, e, _⟩ := h
  exact ⟨a, c, e⟩
theorem isL_open {w : World} {lo hi : Nat} {s : Value} {l : List GV} (h : isL w lo hi s l) :
    ∃ a cap b off, s = .slice a l.length cap ∧ l.length ≤ cap ∧ (0 < l.length → a = some ⟨b, off, none⟩ ∧ lo ≤ b ∧ b < hi) ∧ (∀ i (h : i < l.length), cellsV w lo hi l[i] b (off + i * 5)) := by
  obtain ⟨a, cap, b, off, e, hc, _, ha, h⟩ := isS_open h
  exact ⟨a, cap, b, off, e, hc, ha, h⟩
theorem isL_mk {w : World} {lo hi : Nat} {l : List GV} {a : Option Addr} {cap b off : Nat} (hc : l.length ≤ cap) (ha : 0 < l.length → a = some ⟨b, off, none⟩ ∧ lo ≤ b ∧ b < hi)
    (h : ∀ i (h : i < l.length), cellsV w lo hi l[i] b (off + i * 5)) : isL w lo hi (.slice a l.length cap) l := isS_mk hc trivial ha h
theorem isL_nil {w : World} {lo hi : Nat} (a : Option Addr) (cap : Nat) : isL w lo hi (.slice a 0 cap) [] :=
  ⟨a, cap, rfl, Nat.zero_le _, trivial, fun g => by simp at g⟩
mutual
/-- every list and every text is shorter than 2^31, every number is an int64 -/
def GV.fit : GV → Prop
  | ⟨k, _, n, t, l⟩ => -9223372036854775808 ≤ k ∧ k ≤ 9223372036854775807 ∧ -9223372036854775808 ≤ n ∧ n ≤ 9223372036854775807 ∧ t.size ≤ 2147483647 ∧ l.length ≤ 2147483647 ∧ fitL l
def fitL : List GV → Prop
  | [] => True
  | x :: r => x.fit ∧ fitL r
end
theorem fit_open {x : GV} (h : x.fit) : -9223372036854775808 ≤ x.k ∧ x.k ≤ 9223372036854775807 ∧ -9223372036854775808 ≤ x.n ∧ x.n ≤ 9223372036854775807 ∧ x.t.size ≤ 2147483647 ∧ x.l.length ≤ 2147483647 ∧ fitL x.l := by
  obtain ⟨k, b, n, t, l⟩ := x
  simpa [GV.fit] using h
theorem fitL_mem : ∀ {l : List GV}, fitL l → ∀ x ∈ l, x.fit
  | [], _, _, hx => by cases hx
  | y :: r, h, x, hx => by
    simp only [fitL] at h
    rcases List.mem_cons.1 hx with e | e
    · subst e; exact h.1
    · exact fitL_mem h.2 x e
mutual
def GV.size : GV → Nat
  | ⟨_, _, _, _, l⟩ => sizeL l + 1
def sizeL : List GV → Nat
  | [] => 0
  | x :: r => x.size + sizeL r
end
theorem size_l (x : GV) : sizeL x.l < x.size := by obtain ⟨k, b, n, t, l⟩ := x; simp [GV.size]
theorem sizeL_mem : ∀ {l : List GV} {x : GV}, x ∈ l → x.size ≤ sizeL l
  | y :: r, x, hx => by
    simp only [sizeL]
    rcases List.mem_cons.1 hx with e | e
    · subst e; omega
    · have := sizeL_mem e; omega
mutual
def same : GV → GV → Bool
  | ⟨k, b, n, t, l⟩, y => (k == y.k) && ((b == y.b) && ((n == y.n) && ((t.toList == y.t.toList) && sameL l y.l)))
def sameL : List GV → List GV → Bool
  | [], [] => true
  | x :: r, y :: s => same x y && sameL r s
  | [], _ :: _ => false
  | _ :: _, [] => false
end
theorem same_eq (x y : GV) : same x y = ((x.k == y.k) && ((x.b == y.b) && ((x.n == y.n) && ((x.t.toList == y.t.toList) && sameL x.l y.l)))) := by
  cases x; simp [same]
theorem sameL_len : ∀ (l m : List GV), l.length ≠ m.length → sameL l m = false
  | [], [], h => by simp at h
  | x :: r, y :: s, h => by simp [sameL, sameL_len r s (by simpa using h)]
  | [], _ :: _, _ => rfl
  | _ :: _, [], _ => rfl
theorem sameL_all : ∀ (l m : List GV), l.length = m.length → (∀ i (h : i < l.length) (h' : i < m.length), same l[i] m[i] = true) → sameL l m = true
  | [], [], _, _ => rfl
  | x :: r, y :: s, h, g => by
    have g0 : same x y = true := g 0 (by simp) (by simp)
    have gr := sameL_all r s (by simpa using h) (fun i h h' => g (i + 1) (by simpa using h) (by simpa using h'))
    simp [sameL, g0, gr]
  | [], _ :: _, h, _ => by simp at h
  | _ :: _, [], h, _ => by simp at h
theorem sameL_at : ∀ (l m : List GV) (i : Nat) (h : i < l.length) (h' : i < m.length), same l[i] m[i] = false → sameL l m = false
  | x :: r, y :: s, 0, _, _, g => by
    have g' : same x y = false := g
    simp [sameL, g']
  | x :: r, y :: s, i + 1, h, h', g => by
    have := sameL_at r s i (by simpa using h) (by simpa using h') g
    simp [sameL, this]
theorem bytes_ext {t u : ByteArray} (h : t.toList = u.toList) : t = u := by
  have e : ∀ (s : ByteArray), s.toList = s.data.toList := fun s => Go.ByteArray.toList_eq s
  rw [e, e] at h
  have := Array.toList_inj.1 h
  obtain ⟨a⟩ := t
  obtain ⟨b⟩ := u
  simp at this
  rw [this]
mutual
theorem same_iff : ∀ (x y : GV), same x y = true ↔ x = y
  | ⟨k, b, n, t, l⟩, ⟨k', b', n', t', l'⟩ => by
    have h := sameL_iff l l'
    have ht : t.toList = t'.toList ↔ t = t' := ⟨bytes_ext, fun h => by rw [h]⟩
    simp only [same, Bool.and_eq_true, beq_iff_eq, h, ht, GV.mk.injEq]
theorem sameL_iff : ∀ (l m : List GV), sameL l m = true ↔ l = m
  | [], [] => by simp [sameL]
  | x :: r, y :: s => by simp [sameL, same_iff x y, sameL_iff r s]
  | [], _ :: _ => by simp [sameL]
  | _ :: _, [] => by simp [sameL]
end
theorem ret_bool {a b : Bool} (h : a = b) : Ending.returned (.bool a) = .returned (.bool b) := by rw [h]
theorem ret_int {k : IntKind} {a b : Int} (h : a = b) : Ending.returned (.int k a) = .returned (.int k b) := by rw [h]
theorem below_down {B : Nat} {w w1 w2 : World} (h : Below B w w1) (h2 : Below w1.heap.size w1 w2) (hB : B ≤ w.heap.size) : Below B w w2 :=
  h.trans (h2.mono (Nat.le_trans hB h.size))
theorem cell_grow {B : Nat} {w wr : World} (h : Below B w wr) (hB : B ≤ w.heap.size) {b : Nat} (hb : b < B) (d : Nat) (os : Array Obj) (o : Nat) : (Go.Sort.grow (redrawn wr d) os).cell? ⟨b, o, none⟩ = w.cell? ⟨b, o, none⟩ := by
  rw [(below_regrown wr d os).cell (p := ⟨b, o, none⟩) (Nat.lt_of_lt_of_le hb (Nat.le_trans hB h.size)), h.cell (p := ⟨b, o, none⟩) hb]
theorem below_grow {B : Nat} {w wr : World} (h : Below B w wr) (hB : B ≤ w.heap.size) (d : Nat) (os : Array Obj) : Below B w (Go.Sort.grow (redrawn wr d) os) :=
  h.trans ((below_regrown wr d os).mono (Nat.le_trans hB h.size))
theorem toList_nil {t : ByteArray} : (t.toList = []) ↔ t.size = 0 := by
  rw [Go.ByteArray.toList_eq, ← List.length_eq_zero_iff]
  show t.data.toList.length = 0 ↔ t.data.size = 0
  rw [Array.length_toList]
theorem cell_last {w : World} {cs : Array Value} {T : TypeId} (i : Nat) : (w.alloc (.cells cs T)).cell? ⟨w.heap.size, i, none⟩ = cs[i]? := by
  simp only [World.cell?]
  rw [show (w.alloc (.cells cs T)).heap = w.heap.push (.cells cs T) from rfl, Array.getElem?_push, if_pos rfl]
  rfl
theorem cell_two {w : World} {cs : Array Value} {T : TypeId} {o : Obj} (i : Nat) : ((w.alloc (.cells cs T)).alloc o).cell? ⟨w.heap.size, i, none⟩ = cs[i]? := by
  simp only [World.cell?]
  rw [show ((w.alloc (.cells cs T)).alloc o).heap = (w.heap.push (.cells cs T)).push o from rfl, Array.getElem?_push, if_neg (by simp), Array.getElem?_push, if_pos rfl]
  rfl
theorem cell_second {w : World} {cs : Array Value} {T : TypeId} {o : Obj} (i : Nat) : ((w.alloc o).alloc (.cells cs T)).cell? ⟨w.heap.size + 1, i, none⟩ = cs[i]? := by
  have := @cell_last (w.alloc o) cs T i
  rwa [show (w.alloc o).heap.size = w.heap.size + 1 from by simp] at this
end Go.Proofs.YtljljhjdlicfeaaGreat
namespace Go.Proofs.YtljljhjdlicfeaaGreat
open Go Go.RowKit
set_option maxRecDepth 100000
set_option linter.unusedVariables false
mutual
def szV : GV → Nat → Nat
  | ⟨_, _, _, t, l⟩, d => 1 + t.size / 64 + (if 100 < d + 1 then 1048576 else szS l (d + 1))
def szS : List GV → Nat → Nat
  | [], _ => 0
  | x :: r, d => szV x d + szS r d
end
def szL (l : List GV) (d : Nat) : Nat := if 100 < d then 1048576 else szS l d
theorem szV_eq (x : GV) (d : Nat) : szV x d = 1 + x.t.size / 64 + szL x.l (d + 1) := by cases x; simp [szV, szL]
mutual
def GV.bulk : GV → Nat
  | ⟨_, _, _, t, l⟩ => 2 + t.size + bulkL l
def bulkL : List GV → Nat
  | [] => 0
  | x :: r => x.bulk + bulkL r
end
theorem bulk_eq (x : GV) : x.bulk = 2 + x.t.size + bulkL x.l := by cases x; simp [GV.bulk]
theorem bulkL_mem : ∀ {l : List GV} {x : GV}, x ∈ l → x.bulk ≤ bulkL l
  | y :: r, x, hx => by
    simp only [bulkL]
    rcases List.mem_cons.1 hx with e | e
    · subst e; omega
    · have := bulkL_mem e; omega
theorem len_bulk : ∀ (l : List GV), l.length ≤ bulkL l
  | [] => by simp
  | x :: r => by have := len_bulk r; have := bulk_eq x; simp only [bulkL, List.length_cons]; omega
mutual
theorem szV_le : ∀ (x : GV) (d : Nat), szV x d ≤ x.bulk * 1048576
  | ⟨_, _, _, t, l⟩, d => by
    have := szS_le l (d + 1)
    simp only [szV, GV.bulk]
    split <;> omega
theorem szS_le : ∀ (l : List GV) (d : Nat), szS l d ≤ bulkL l * 1048576
  | [], _ => by simp [szS]
  | x :: r, d => by
    have := szV_le x d
    have := szS_le r d
    simp only [szS, bulkL]
    omega
end
theorem szL_le (l : List GV) (d : Nat) : szL l d ≤ (bulkL l + 1) * 1048576 := by
  have := szS_le l d
  by_cases h : 100 < d
  · have e : szL l d = 1048576 := if_pos h
    omega
  · have e : szL l d = szS l d := if_neg h
    omega
theorem szS_take : ∀ (l : List GV) (d k : Nat) (h : k < l.length), szS (l.take (k + 1)) d = szS (l.take k) d + szV l[k] d
  | x :: r, d, 0, _ => by simp [szS]
  | x :: r, d, k + 1, h => by
    have := szS_take r d k (by simpa using h)
    simp only [List.take_succ_cons, szS, this, List.getElem_cons_succ]
    omega
theorem bulkL_take : ∀ (l : List GV) (k : Nat), bulkL (l.take k) ≤ bulkL l
  | [], _ => by simp [bulkL]
  | x :: r, 0 => by simp [bulkL]
  | x :: r, k + 1 => by have := bulkL_take r k; simp only [List.take_succ_cons, bulkL]; omega
def SizeC (l : List GV) (d : Nat) : Prop := ∀ (s : Value) (w : World) (B : Nat), B ≤ w.heap.size → isL w 0 B s l →
  Calls Tryz.prog 20 #[s, .int .i64 d] w fun e w' => e = .returned (.int .i64 (szL l d : Nat)) ∧ Below w.heap.size w w'
set_option maxHeartbeats 800000 in
theorem size_step (l : List GV) (d : Nat) (hb : bulkL l ≤ 1099511627776) (hd : d ≤ 101) (h : d ≤ 100 → ∀ x ∈ l, SizeC x.l (d + 1)) : SizeC l d := by
  intro s w B hB hs
  obtain ⟨a, c, bb, off, rfl, hc, ha, hA⟩ := isL_open hs
  have HA := Lib.hid hA
  have Ha := Lib.hid ha
  have HH := Lib.hid h
  clear hA hs ha h
  by_cases hd2 : 100 < d
  · go_enter Tryz.func20, Tryz.ntmps20
    go_wp2_with fail
    go_ret
    exact ⟨ret_int (by unfold szL; rw [if_pos hd2]; rfl), Below.refl _ _⟩
  have hlen := len_bulk l
  have HD := Lib.hid hd2
  have hd3 : d ≤ 100 := by omega
  clear hd2
  go_enter Tryz.func20, Tryz.ntmps20
  go_wp2_with fail
  go_loopw [5, 6] (fun n i wr => ∃ k : Nat, k ≤ l.length ∧ i = .int .i64 k ∧ n = .int .i64 (szS (l.take k) d : Nat) ∧ Below w.heap.size w wr) (fun _ i _ => l.length - (intOf i).toNat)
  case atStart => exact ⟨0, Nat.zero_le _, rfl, by simp [szS], Below.refl _ _⟩
  case round =>
    obtain ⟨k, hk, rfl, rfl, hbel⟩ := hrel
    have hs1 := szS_le (l.take k) d
    have hs2 := bulkL_take l k
    by_cases hlt : k < l.length
    · obtain ⟨rfl, hb1, hb2⟩ := Ha.out (by omega)
      obtain ⟨ax, cx, x0, x1, x2, x3, x4, hsx⟩ := cellsV_slice (HA.out k hlt)
      have hg := cell_grow hbel (Nat.le_refl _) (Nat.lt_of_lt_of_le hb2 hB)
      have HC : Hid (∀ dd os, Calls Tryz.prog 20 #[.slice ax l[k].l.length cx, .int .i64 (IntKind.i64.wrap ((d : Int) + 1))] (Go.Sort.grow (redrawn wr dd) os) fun e w' => e = .returned (.int .i64 (szL l[k].l (d + 1) : Nat)) ∧ Below (Go.Sort.grow (redrawn wr dd) os).heap.size (Go.Sort.grow (redrawn wr dd) os) w') := fun dd os => by
        rw [show IntKind.i64.wrap ((d : Int) + 1) = ((d + 1 : Nat) : Int) from by rw [IntWalk.i64_in _ (by omega)]; simp]
        exact HH.out hd3 l[k] (List.getElem_mem _) _ _ B (Nat.le_trans hB (below_grow hbel (Nat.le_refl _) dd os).size) (isL_below hsx (below_grow hbel (Nat.le_refl _) dd os) hB)
      have hk1 := bulkL_mem (List.getElem_mem hlt)
      have hk2 := bulk_eq l[k]
      have hk3 := szL_le l[k].l (d + 1)
      have HT := Lib.hid (szS_take l d k hlt)
      have HV := Lib.hid (szV_eq l[k] d)
      clear hsx
      generalize hS : szS (l.take k) d = S at *
      generalize hZ : szL l[k].l (d + 1) = Z at *
      generalize bulkL l[k].l = bl at *
      have HZ := Lib.hid hZ
      have HS := Lib.hid hS
      have HK2 := Lib.hid hk2
      clear hZ hS
      have ht : l[k].t.size ≤ 1099511627776 := by omega
      clear hk2
      go_wp2_with fail
      refine wp_region_quiet_below (by kernel_rfl) (by kernel_rfl) ?_
      repeat (quiet_step (exact Calls.regrown_of (HC.out _ _)))
      refine wpQuiet_nil ?_
      intro w2 hw2
      have hb3 : Below w.heap.size w w2 := by
        obtain ⟨p, hp⟩ := hw2
        rw [hp]
        exact below_grow hbel (Nat.le_refl _) _ _
      clear hw2 hg x0 x1 x2 x3 x4 HC Ha
      go_wp2_with fail
      go_roundw
      case rel =>
        refine ⟨k + 1, by omega, by go_num, ?_, hb3⟩
        have e1 := HT.out
        have e2 := HV.out
        have e3 := HK2.out
        have hq : ((l[k].t.size : Int) / 64) = ((l[k].t.size / 64 : Nat) : Int) := by simp
        rw [hq, IntWalk.i64_in ((l[k].t.size / 64 : Nat) : Int) (by omega), IntWalk.i64_in ((S : Int) + 1) (by omega), IntWalk.i64_in ((S : Int) + 1 + ((l[k].t.size / 64 : Nat) : Int)) (by omega), IntWalk.i64_in ((S : Int) + 1 + ((l[k].t.size / 64 : Nat) : Int) + (Z : Int)) (by omega), e1, e2]
        congr 1
        omega
      case measure => simp [intOf]; omega
    · go_wp2_with fail
      go_ret
      refine ⟨ret_int ?_, hbel⟩
      rw [List.take_of_length_le (by omega)]
      unfold szL
      rw [if_neg HD.out]
theorem size_all : ∀ (m : Nat) (l : List GV) (d : Nat), sizeL l ≤ m → bulkL l ≤ 1099511627776 → d ≤ 101 → SizeC l d := by
  intro m
  induction m with
  | zero =>
    intro l d h hb hd
    refine size_step l d hb hd fun _ x hx => ?_
    have := sizeL_mem hx
    have := size_l x
    omega
  | succ m ih =>
    intro l d h hb hd
    refine size_step l d hb hd fun hd3 x hx => ih x.l (d + 1) ?_ ?_ (by omega)
    · have := sizeL_mem hx
      have := size_l x
      omega
    · have := bulkL_mem hx
      have := bulk_eq x
      omega
theorem size_any (l : List GV) (d : Nat) (hb : bulkL l ≤ 1099511627776) (hd : d ≤ 101) : SizeC l d := size_all (sizeL l) l d (Nat.le_refl _) hb hd
def vsize (l : List GV) : Nat := szL l 0
theorem Size_any (l : List GV) (hb : bulkL l ≤ 1099511627776) (s : Value) (w : World) (B : Nat) (hB : B ≤ w.heap.size) (hs : isL w 0 B s l) :
    Calls Tryz.prog 12 #[s] w fun e w' => e = .returned (.int .i64 (vsize l : Nat)) ∧ Below w.heap.size w w' := by
  have HC := Lib.hid (size_any l 0 hb (Nat.zero_le _))
  have HS := Lib.hid hs
  clear hs
  go_enter Tryz.func12, Tryz.ntmps12
  go_wp2_with fail
  refine (HC.out _ _ B hB HS.out).mono ?_
  rintro e w' ⟨rfl, hb⟩
  go_wp2_with fail
  go_ret
  exact ⟨rfl, hb⟩
end Go.Proofs.YtljljhjdlicfeaaGreat
