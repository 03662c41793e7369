/-
  Expressions and instructions as plain Lean types, and how memory holds them. Conditions: none.
-/
import Derived.Test.YtljljhjdlicfeaaMD
namespace Go.Proofs.Ytljljhjdlicfeaa
open Go Go.RowKit
set_option linter.unusedVariables false
/-- an expression: operation, text, value, arguments -/
structure GE where
  op : Int
  text : ByteArray
  v : GV
  args : List GE
  deriving Inhabited
/-- the expression as one aggregate: s is the slice of its value's list, sa that of its arguments -/
def GE.agg (x : GE) (s sa : Value) : Value := .agg #[.int .i64 x.op, .string x.text, .int .i64 x.v.k, .bool x.v.b, .int .i64 x.v.n, .string x.v.t, s, sa]
mutual
def cellsE (w : World) (S : Nat → Prop) (rm rme : Option Addr → Nat → Prop) : GE → Nat → Nat → Prop
  | ⟨op, text, v, args⟩ => fun b off => w.cell? ⟨b, off, none⟩ = some (.int .i64 op) ∧ w.cell? ⟨b, off + 1, none⟩ = some (.string text) ∧ w.cell? ⟨b, off + 2, none⟩ = some (.int .i64 v.k) ∧
     w.cell? ⟨b, off + 3, none⟩ = some (.bool v.b) ∧ w.cell? ⟨b, off + 4, none⟩ = some (.int .i64 v.n) ∧ w.cell? ⟨b, off + 5, none⟩ = some (.string v.t) ∧
     (∃ s, w.cell? ⟨b, off + 6, none⟩ = some s ∧ isS w S rm s v.l) ∧ ∃ sa, w.cell? ⟨b, off + 7, none⟩ = some sa ∧ hdr S rme sa args.length (rowsE w S rm rme args)
def rowsE (w : World) (S : Nat → Prop) (rm rme : Option Addr → Nat → Prop) : List GE → Nat → Nat → Prop
  | [] => fun _ _ => True
  | x :: r => fun b off => cellsE w S rm rme x b off ∧ rowsE w S rm rme r b (off + 8)
end
/-- the slice value s reads as the list l of expressions, all of it in blocks of S -/
def isE (w : World) (S : Nat → Prop) (rm rme : Option Addr → Nat → Prop) (s : Value) (l : List GE) : Prop := hdr S rme s l.length (rowsE w S rm rme l)

mutual
theorem cellsE_mono {w w' : World} {S S' : Nat → Prop} {rm rm' re re' : Option Addr → Nat → Prop} (hw : ∀ b off, S b → w'.cell? ⟨b, off, none⟩ = w.cell? ⟨b, off, none⟩) (h1 : ∀ b, S b → S' b) (h2 : ∀ a c, rm a c → rm' a c) (h3 : ∀ a c, re a c → re' a c) :
    ∀ (x : GE) (b off : Nat), S b → cellsE w S rm re x b off → cellsE w' S' rm' re' x b off
  | ⟨op, text, v, args⟩, b, off, hb, h => by
    simp only [cellsE] at h ⊢
    obtain ⟨a0, a1, a2, a3, a4, a5, ⟨s, a6, hs⟩, sa, a7, ha⟩ := h
    exact ⟨by rw [hw _ _ hb, a0], by rw [hw _ _ hb, a1], by rw [hw _ _ hb, a2], by rw [hw _ _ hb, a3], by rw [hw _ _ hb, a4], by rw [hw _ _ hb, a5], ⟨s, by rw [hw _ _ hb, a6], isS_mono hs hw h1 h2⟩,
      sa, by rw [hw _ _ hb, a7], hdr_mono ha h1 h3 (fun b off g1 g => rowsE_mono hw h1 h2 h3 args b off g1 g)⟩
theorem rowsE_mono {w w' : World} {S S' : Nat → Prop} {rm rm' re re' : Option Addr → Nat → Prop} (hw : ∀ b off, S b → w'.cell? ⟨b, off, none⟩ = w.cell? ⟨b, off, none⟩) (h1 : ∀ b, S b → S' b) (h2 : ∀ a c, rm a c → rm' a c) (h3 : ∀ a c, re a c → re' a c) :
    ∀ (l : List GE) (b off : Nat), S b → rowsE w S rm re l b off → rowsE w' S' rm' re' l b off
  | [], _, _, _, _ => by simp [rowsE]
  | x :: r, b, off, hb, h => by
    simp only [rowsE] at h ⊢
    exact ⟨cellsE_mono hw h1 h2 h3 x b off hb h.1, rowsE_mono hw h1 h2 h3 r b (off + 8) hb h.2⟩
end
theorem isE_mono {w w' : World} {S S' : Nat → Prop} {rm rm' re re' : Option Addr → Nat → Prop} {s : Value} {l : List GE} (h : isE w S rm re s l)
    (hw : ∀ b off, S b → w'.cell? ⟨b, off, none⟩ = w.cell? ⟨b, off, none⟩) (h1 : ∀ b, S b → S' b) (h2 : ∀ a c, rm a c → rm' a c) (h3 : ∀ a c, re a c → re' a c) : isE w' S' rm' re' s l :=
  hdr_mono h h1 h3 (fun b off g1 g => rowsE_mono hw h1 h2 h3 l b off g1 g)

theorem rowsE_get {w : World} {S : Nat → Prop} {rm re : Option Addr → Nat → Prop} : ∀ (l : List GE) (b off : Nat), rowsE w S rm re l b off → ∀ i (h : i < l.length), cellsE w S rm re l[i] b (off + i * 8)
  | [], _, _, _, i, h => by simp at h
  | x :: r, b, off, h, 0, _ => by simpa [rowsE] using h.1
  | x :: r, b, off, h, i + 1, hi => by
    have := rowsE_get r b (off + 8) h.2 i (by simpa using hi)
    simpa [Nat.add_mul, Nat.add_assoc, Nat.add_comm, Nat.add_left_comm] using this
theorem rowsE_mk {w : World} {S : Nat → Prop} {rm re : Option Addr → Nat → Prop} : ∀ (l : List GE) (b off : Nat), (∀ i (h : i < l.length), cellsE w S rm re l[i] b (off + i * 8)) → rowsE w S rm re l b off
  | [], _, _, _ => by simp [rowsE]
  | x :: r, b, off, h => by
    simp only [rowsE]
    refine ⟨h 0 (by simp), rowsE_mk r b (off + 8) fun i hi => ?_⟩
    have := h (i + 1) (by simpa using hi)
    simpa [Nat.add_mul, Nat.add_assoc, Nat.add_comm, Nat.add_left_comm] using this
theorem cellsE_open {w : World} {S : Nat → Prop} {rm re : Option Addr → Nat → Prop} {x : GE} {b off : Nat} (h : cellsE w S rm re x b off) :
    ∃ a c aa ca, w.cell? ⟨b, off, none⟩ = some (.int .i64 x.op) ∧ w.cell? ⟨b, off + 1, none⟩ = some (.string x.text) ∧ w.cell? ⟨b, off + 2, none⟩ = some (.int .i64 x.v.k) ∧
     w.cell? ⟨b, off + 3, none⟩ = some (.bool x.v.b) ∧ w.cell? ⟨b, off + 4, none⟩ = some (.int .i64 x.v.n) ∧ w.cell? ⟨b, off + 5, none⟩ = some (.string x.v.t) ∧
     w.cell? ⟨b, off + 6, none⟩ = some (.slice a x.v.l.length c) ∧ w.cell? ⟨b, off + 7, none⟩ = some (.slice aa x.args.length ca) ∧
     isS w S rm (.slice a x.v.l.length c) x.v.l ∧ isE w S rm re (.slice aa x.args.length ca) x.args := by
  obtain ⟨op, text, v, args⟩ := x
  simp only [cellsE] at h
  obtain ⟨a0, a1, a2, a3, a4, a5, ⟨s, a6, a, c, e, r⟩, sa, a7, aa, ca, e2, r2⟩ := h
  subst e e2
  exact ⟨a, c, aa, ca, a0, a1, a2, a3, a4, a5, a6, a7, ⟨a, c, rfl, r⟩, aa, ca, rfl, r2⟩
theorem cellsE_mk {w : World} {S : Nat → Prop} {rm re : Option Addr → Nat → Prop} {x : GE} {b off : Nat} {s sa : Value} (a0 : w.cell? ⟨b, off, none⟩ = some (.int .i64 x.op)) (a1 : w.cell? ⟨b, off + 1, none⟩ = some (.string x.text)) (a2 : w.cell? ⟨b, off + 2, none⟩ = some (.int .i64 x.v.k))
     (a3 : w.cell? ⟨b, off + 3, none⟩ = some (.bool x.v.b)) (a4 : w.cell? ⟨b, off + 4, none⟩ = some (.int .i64 x.v.n)) (a5 : w.cell? ⟨b, off + 5, none⟩ = some (.string x.v.t))
     (a6 : w.cell? ⟨b, off + 6, none⟩ = some s) (a7 : w.cell? ⟨b, off + 7, none⟩ = some sa) (hs : isS w S rm s x.v.l) (ha : isE w S rm re sa x.args) : cellsE w S rm re x b off := by
  obtain ⟨op, text, v, args⟩ := x
  simp only [cellsE]
  exact ⟨a0, a1, a2, a3, a4, a5, ⟨s, a6, hs⟩, sa, a7, ha⟩
theorem isE_open {w : World} {S : Nat → Prop} {rm re : Option Addr → Nat → Prop} {s : Value} {l : List GE} (h : isE w S rm re s l) :
    ∃ a cap b off, s = .slice a l.length cap ∧ l.length ≤ cap ∧ re a cap ∧ (0 < l.length → a = some ⟨b, off, none⟩ ∧ S b) ∧ (∀ i (h : i < l.length), cellsE w S rm re l[i] b (off + i * 8)) := by
  obtain ⟨a, cap, e, hc, hr, h⟩ := h
  by_cases hl : 0 < l.length
  · obtain ⟨b, off, ea, h1, hr'⟩ := h hl
    exact ⟨a, cap, b, off, e, hc, hr, fun _ => ⟨ea, h1⟩, rowsE_get l b off hr'⟩
  · exact ⟨a, cap, 0, 0, e, hc, hr, fun g => absurd g hl, fun i hi => absurd (Nat.lt_of_le_of_lt (Nat.zero_le _) hi) hl⟩
theorem isE_mk {w : World} {S : Nat → Prop} {rm re : Option Addr → Nat → Prop} {l : List GE} {a : Option Addr} {cap b off : Nat} (hc : l.length ≤ cap) (hr : re a cap) (ha : 0 < l.length → a = some ⟨b, off, none⟩ ∧ S b)
    (h : ∀ i (h : i < l.length), cellsE w S rm re l[i] b (off + i * 8)) : isE w S rm re (.slice a l.length cap) l :=
  ⟨a, cap, rfl, hc, hr, fun g => ⟨b, off, (ha g).1, (ha g).2, rowsE_mk l b off h⟩⟩
theorem isE_form {w : World} {S : Nat → Prop} {rm re : Option Addr → Nat → Prop} {s : Value} {l : List GE} (h : isE w S rm re s l) : ∃ a c, s = .slice a l.length c := by
  obtain ⟨a, c, e, _⟩ := h
  exact ⟨a, c, e⟩

/-! ### what came in -/
def old (B : Nat) : Nat → Prop := fun b => 0 ≤ b ∧ b < B
def isX (w : World) (B : Nat) (s : Value) (l : List GE) : Prop := isE w (old B) noRoom noRoom s l
theorem isX_below {w w' : World} {B B' : Nat} {s : Value} {l : List GE} (h : isX w B s l) (hb : Below B' w w') (hB : B ≤ B') : isX w' B s l :=
  isE_mono h (fun b off g => hb.cell (p := ⟨b, off, none⟩) (Nat.lt_of_lt_of_le g.2 hB)) (fun _ h => h) (fun _ _ h => h) (fun _ _ h => h)
theorem isX_wide {w : World} {B B' : Nat} {s : Value} {l : List GE} (h : isX w B s l) (hB : B ≤ B') : isX w B' s l :=
  isE_mono h (fun _ _ _ => rfl) (fun b g => ⟨g.1, Nat.lt_of_lt_of_le g.2 hB⟩) (fun _ _ h => h) (fun _ _ h => h)
theorem isX_open {w : World} {B : Nat} {s : Value} {l : List GE} (h : isX w B s l) :
    ∃ a cap b off, s = .slice a l.length cap ∧ l.length ≤ cap ∧ (0 < l.length → a = some ⟨b, off, none⟩ ∧ b < B) ∧ (∀ i (h : i < l.length), cellsE w (old B) noRoom noRoom l[i] b (off + i * 8)) := by
  obtain ⟨a, cap, b, off, e, hc, _, ha, h⟩ := isE_open h
  exact ⟨a, cap, b, off, e, hc, fun g => ⟨(ha g).1, (ha g).2.2⟩, h⟩

/-! ### lengths that fit; how many -/
mutual
def GE.fit : GE → Prop
  | ⟨op, text, v, args⟩ => -9223372036854775808 ≤ op ∧ op ≤ 9223372036854775807 ∧ text.size ≤ 2147483647 ∧ v.fit ∧ args.length ≤ 2147483647 ∧ fitE args
def fitE : List GE → Prop
  | [] => True
  | x :: r => x.fit ∧ fitE r
end
theorem fitE_open {x : GE} (h : x.fit) : -9223372036854775808 ≤ x.op ∧ x.op ≤ 9223372036854775807 ∧ x.text.size ≤ 2147483647 ∧ x.v.fit ∧ x.args.length ≤ 2147483647 ∧ fitE x.args := by
  obtain ⟨op, text, v, args⟩ := x
  simpa [GE.fit] using h
theorem fitE_mem : ∀ {l : List GE}, fitE l → ∀ x ∈ l, x.fit
  | [], _, _, hx => by cases hx
  | y :: r, h, x, hx => by
    simp only [fitE] at h
    rcases List.mem_cons.1 hx with e | e
    · subst e; exact h.1
    · exact fitE_mem h.2 x e
mutual
def GE.size : GE → Nat
  | ⟨_, _, _, args⟩ => sizeE args + 1
def sizeE : List GE → Nat
  | [] => 0
  | x :: r => x.size + sizeE r
end
theorem size_args (x : GE) : x.size = sizeE x.args + 1 := by obtain ⟨op, text, v, args⟩ := x; simp [GE.size]
theorem sizeE_mem : ∀ {l : List GE} {x : GE}, x ∈ l → x.size ≤ sizeE l
  | y :: r, x, hx => by
    simp only [sizeE]
    rcases List.mem_cons.1 hx with e | e
    · subst e; omega
    · have := sizeE_mem e; omega

/-! ### two expressions the same -/
mutual
def sameE : GE → GE → Bool
  | ⟨op, text, v, args⟩, y => (op == y.op) && ((text.toList == y.text.toList) && (same v y.v && sameEs args y.args))
def sameEs : List GE → List GE → Bool
  | [], [] => true
  | x :: r, y :: s => sameE x y && sameEs r s
  | [], _ :: _ => false
  | _ :: _, [] => false
end
theorem sameE_eq (x y : GE) : sameE x y = ((x.op == y.op) && ((x.text.toList == y.text.toList) && (same x.v y.v && sameEs x.args y.args))) := by cases x; simp [sameE]
theorem sameEs_len : ∀ (l m : List GE), l.length ≠ m.length → sameEs l m = false
  | [], [], h => by simp at h
  | x :: r, y :: s, h => by simp [sameEs, sameEs_len r s (by simpa using h)]
  | [], _ :: _, _ => rfl
  | _ :: _, [], _ => rfl
theorem sameEs_all : ∀ (l m : List GE), l.length = m.length → (∀ i (h : i < l.length) (h' : i < m.length), sameE l[i] m[i] = true) → sameEs l m = true
  | [], [], _, _ => rfl
  | x :: r, y :: s, h, g => by
    have g0 : sameE x y = true := g 0 (by simp) (by simp)
    have gr := sameEs_all r s (by simpa using h) (fun i h h' => g (i + 1) (by simpa using h) (by simpa using h'))
    simp [sameEs, g0, gr]
  | [], _ :: _, h, _ => by simp at h
  | _ :: _, [], h, _ => by simp at h
theorem sameEs_at : ∀ (l m : List GE) (i : Nat) (h : i < l.length) (h' : i < m.length), sameE l[i] m[i] = false → sameEs l m = false
  | x :: r, y :: s, 0, _, _, g => by
    have g' : sameE x y = false := g
    simp [sameEs, g']
  | x :: r, y :: s, i + 1, h, h', g => by
    have := sameEs_at r s i (by simpa using h) (by simpa using h') g
    simp [sameEs, this]
mutual
theorem sameE_iff : ∀ (x y : GE), sameE x y = true ↔ x = y
  | ⟨op, text, v, args⟩, ⟨op', text', v', args'⟩ => by
    have h := sameEs_iff args args'
    have hv := same_iff v v'
    have ht : text.toList = text'.toList ↔ text = text' := ⟨bytes_ext, fun h => by rw [h]⟩
    simp only [sameE, Bool.and_eq_true, beq_iff_eq, h, ht, hv, GE.mk.injEq]
theorem sameEs_iff : ∀ (l m : List GE), sameEs l m = true ↔ l = m
  | [], [] => by simp [sameEs]
  | x :: r, y :: s => by simp [sameEs, sameE_iff x y, sameEs_iff r s]
  | [], _ :: _ => by simp [sameEs]
  | _ :: _, [] => by simp [sameEs]
end
end Go.Proofs.Ytljljhjdlicfeaa
