/-
  Expressions and instructions as plain Lean types, and how memory holds them. Conditions: none.
-/
import Derived.Test.YtljljhjdlicfeaaGreatMD
import Derived.Test.YtljljhjdlicfeaaGreatMA
namespace Go.Proofs.YtljljhjdlicfeaaGreat
open Go Go.RowKit
set_option linter.unusedVariables false
structure GE where
  op : Int
  text : ByteArray
  v : GV
  args : List GE
  deriving Inhabited
def GE.agg (x : GE) (s sa : Value) : Value := .agg #[.int .i64 x.op, .string x.text, .int .i64 x.v.k, .bool x.v.b, .int .i64 x.v.n, .string x.v.t, s, sa]
mutual
def cellsE (w : World) (S : Nat → Prop) (rm rme : Option Addr → Nat → Prop) : GE → Nat → Nat → Prop
  | ⟨op, text, v, args⟩ => fun b off => w.cell? ⟨b, off, none⟩ = some (.int .i64 op) ∧ w.cell? ⟨b, off + 1, none⟩ = some (.string text) ∧ w.cell? ⟨b, off + 2, none⟩ = some (.int .i64 v.k) ∧
     w.cell? ⟨b, off + 3, none⟩ = some (.bool v.b) ∧ w.cell? ⟨b, off + 4, none⟩ = some (.int .i64 v.n) ∧ w.cell? ⟨b, off + 5, none⟩ = some (.string v.t) ∧
     (∃ s, w.cell? ⟨b, off + 6, none⟩ = some s ∧ isS w S rm s v.l) ∧ ∃ sa, w.cell? ⟨b, off + 7, none⟩ = some sa ∧ hdr S rme sa args.length (rowsE w S rm rme args)
def rowsE (w : World) (S : Nat → Prop) (rm rme : Option Addr → Nat → Prop) : List GE → Nat → Nat → Prop
  | [] => fun _ _ => True
  | x :: r => fun b off => cellsE w S rm rme x b off ∧ rowsE w S rm rme r b (off + 8)
end
def isE (w : World) (S : Nat → Prop) (rm rme : Option Addr → Nat → Prop) (s : Value) (l : List GE) : Prop := hdr S rme s l.length (rowsE w S rm rme l)
mutual
theorem cellsE_mono {w w' : World} {S S' : Nat → Prop} {rm rm' re re' : Option Addr → Nat → Prop} (hw : ∀ b off, S b → w'.cell? ⟨b, off, none⟩ = w.cell? ⟨b, off, none⟩) (h1 : ∀ b, S b → S' b) (h2 : ∀ a c, rm a c → rm' a c) (h3 : ∀ a c, re a c → re' a c) :
    ∀ (x : GE) (b off : Nat), S b → cellsE w S rm re x b off → cellsE w' S' rm' re' x b off
  | ⟨op, text, v, args⟩, b, off, hb, h => by
    simp only [cellsE] at h ⊢
    obtain ⟨a0, a1, a2, a3, a4, a5, ⟨s, a6, hs⟩, sa, a7, ha⟩ := h
    exact ⟨by rw [hw _ _ hb, a0], by rw [hw _ _ hb, a1], by rw [hw _ _ hb, a2], by rw [hw _ _ hb, a3], by rw [hw _ _ hb, a4], by rw [hw _ _ hb, a5], ⟨s, by rw [hw _ _ hb, a6], isS_mono hs hw h1 h2⟩,
      sa, by rw [hw _ _ hb, a7], hdr_mono ha h1 h3 (fun b off g1 g => rowsE_mono hw h1 h2 h3 args b off g1 g)⟩
theorem rowsE_mono {w w' : World} {S S' : Nat → Prop} {rm rm' re re' : Option Addr → Nat → Prop} (hw : ∀ b off, S b → w'.cell? ⟨b, off, none⟩ = w.cell? ⟨b, off, none⟩) (h1 : ∀ b, S b → S' b) (h2 : ∀ a c, rm a c → rm' a c) (h3 : ∀ a c, re a c → re' a c) :
    ∀ (l : List GE) (b off : Nat), S b → rowsE w S rm re l b off → rowsE w' S' rm' re' l b off
  | [], _, _, _, _ => by simp [rowsE]
  | x :: r, b, off, hb, h => by
    simp only [rowsE] at h ⊢
    exact ⟨cellsE_mono hw h1 h2 h3 x b off hb h.1, rowsE_mono hw h1 h2 h3 r b (off + 8) hb h.2⟩
end
theorem isE_mono {w w' : World} {S S' : Nat → Prop} {rm rm' re re' : Option Addr → Nat → Prop} {s : Value} {l : List GE} (h : isE w S rm re s l)
    (hw : ∀ b off, S b → w'.cell? ⟨b, off, none⟩ = w.cell? ⟨b, off, none⟩) (h1 : ∀ b, S b → S' b) (h2 : ∀ a c, rm a c → rm' a c) (h3 : ∀ a c, re a c → re' a c) : isE w' S' rm' re' s l :=
  hdr_mono h h1 h3 (fun b off g1 g => rowsE_mono hw h1 h2 h3 l b off g1 g)
theorem rowsE_get {w : World} {S : Nat → Prop} {rm re : Option Addr → Nat → Prop} : ∀ (l : List GE) (b off : Nat), rowsE w S rm re l b off → ∀ i (h : i < l.length), cellsE w S rm re l[i] b (off + i * 8)
  | [], _, _, _, i, h => by simp at h
  | x :: r, b, off, h, 0, _ => by simpa [rowsE] using h.1
  | x :: r, b, off, h, i + 1, hi => by
    have := rowsE_get r b (off + 8) h.2 i (by simpa using hi)
    simpa [Nat.add_mul, Nat.add_assoc, Nat.add_comm, Nat.add_left_comm] using this
theorem rowsE_mk {w : World} {S : Nat → Prop} {rm re : Option Addr → Nat → Prop} : ∀ (l : List GE) (b off : Nat), (∀ i (h : i < l.length), cellsE w S rm re l[i] b (off + i * 8)) → rowsE w S rm re l b off
  | [], _, _, _ => by simp [rowsE]
  | x :: r, b, off, h => by
    simp only [rowsE]
    refine ⟨h 0 (by simp), rowsE_mk r b (off + 8) fun i hi => ?_⟩
    have := h (i + 1) (by simpa using hi)
    simpa [Nat.add_mul, Nat.add_assoc, Nat.add_comm, Nat.add_left_comm] using this
theorem cellsE_open {w : World} {S : Nat → Prop} {rm re : Option Addr → Nat → Prop} {x : GE} {b off : Nat} (h : cellsE w S rm re x b off) :
    ∃ a c aa ca, w.cell? ⟨b, off, none⟩ = some (.int .i64 x.op) ∧ w.cell? ⟨b, off + 1, none⟩ = some (.string x.text) ∧ w.cell? ⟨b, off + 2, none⟩ = some (.int .i64 x.v.k) ∧
     w.cell? ⟨b, off + 3, none⟩ = some (.bool x.v.b) ∧ w.cell? ⟨b, off + 4, none⟩ = some (.int .i64 x.v.n) ∧ w.cell? ⟨b, off + 5, none⟩ = some (.string x.v.t) ∧
     w.cell? ⟨b, off + 6, none⟩ = some (.slice a x.v.l.length c) ∧ w.cell? ⟨b, off + 7, none⟩ = some (.slice aa x.args.length ca) ∧
     isS w S rm (.slice a x.v.l.length c) x.v.l ∧ isE w S rm re (.slice aa x.args.length ca) x.args := by
  obtain ⟨op, text, v, args⟩ := x
  simp only [cellsE] at h
  obtain ⟨a0, a1, a2, a3, a4, a5, ⟨s, a6, a, c, e, r⟩, sa, a7, aa, ca, e2, r2⟩ := h
  subst e e2
  exact ⟨a, c, aa, ca, a0, a1, a2, a3, a4, a5, a6, a7, ⟨a, c, rfl, r⟩, aa, ca, rfl, r2⟩
theorem cellsE_mk {w : World} {S : Nat → Prop} {rm re : Option Addr → Nat → Prop} {x : GE} {b off : Nat} {s sa : Value} (a0 : w.cell? ⟨b, off, none⟩ = some (.int .i64 x.op)) (a1 : w.cell? ⟨b, off + 1, none⟩ = some (.string x.text)) (a2 : w.cell? ⟨b, off + 2, none⟩ = some (.int .i64 x.v.k))
     (a3 : w.cell? ⟨b, off + 3, none⟩ = some (.bool x.v.b)) (a4 : w.cell? ⟨b, off + 4, none⟩ = some (.int .i64 x.v.n)) (a5 : w.cell? ⟨b, off + 5, none⟩ = some (.string x.v.t))
     (a6 : w.cell? ⟨b, off + 6, none⟩ = some s) (a7 : w.cell? ⟨b, off + 7, none⟩ = some sa) (hs : isS w S rm s x.v.l) (ha : isE w S rm re sa x.args) : cellsE w S rm re x b off := by
  obtain ⟨op, text, v, args⟩ := x
  simp only [cellsE]
  exact ⟨a0, a1, a2, a3, a4, a5, ⟨s, a6, hs⟩, sa, a7, ha⟩
theorem isE_open {w : World} {S : Nat → Prop} {rm re : Option Addr → Nat → Prop} {s : Value} {l : List GE} (h : isE w S rm re s l) :
    ∃ a cap b off, s = .slice a l.length cap ∧ l.length ≤ cap ∧ re a cap ∧ (0 < l.length → a = some ⟨b, off, none⟩ ∧ S b) ∧ (∀ i (h : i < l.length), cellsE w S rm re l[i] b (off + i * 8)) := by
  obtain ⟨a, cap, e, hc, hr, h⟩ := h
  by_cases hl : 0 < l.length
  · obtain ⟨b, off, ea, h1, hr'⟩ := h hl
    exact ⟨a, cap, b, off, e, hc, hr, fun _ => ⟨ea, h1⟩, rowsE_get l b off hr'⟩
  · exact ⟨a, cap, 0, 0, e, hc, hr, fun g => absurd g hl, fun i hi => absurd (Nat.lt_of_le_of_lt (Nat.zero_le _) hi) hl⟩
theorem isE_mk {w : World} {S : Nat → Prop} {rm re : Option Addr → Nat → Prop} {l : List GE} {a : Option Addr} {cap b off : Nat} (hc : l.length ≤ cap) (hr : re a cap) (ha : 0 < l.length → a = some ⟨b, off, none⟩ ∧ S b)
    (h : ∀ i (h : i < l.length), cellsE w S rm re l[i] b (off + i * 8)) : isE w S rm re (.slice a l.length cap) l :=
  ⟨a, cap, rfl, hc, hr, fun g => ⟨b, off, (ha g).1, (ha g).2, rowsE_mk l b off h⟩⟩
theorem isE_form {w : World} {S : Nat → Prop} {rm re : Option Addr → Nat → Prop} {s : Value} {l : List GE} (h : isE w S rm re s l) : ∃ a c, s = .slice a l.length c := by
  obtain ⟨a, c, e, _⟩ := h
  exact ⟨a, c, e⟩
def old (B : Nat) : Nat → Prop := fun b => 0 ≤ b ∧ b < B
def isX (w : World) (B : Nat) (s : Value) (l : List GE) : Prop := isE w (old B) noRoom noRoom s l
theorem isX_below {w w' : World} {B B' : Nat} {s : Value} {l : List GE} (h : isX w B s l) (hb : Below B' w w') (hB : B ≤ B') : isX w' B s l :=
  isE_mono h (fun b off g => hb.cell (p := ⟨b, off, none⟩) (Nat.lt_of_lt_of_le g.2 hB)) (fun _ h => h) (fun _ _ h => h) (fun _ _ h => h)
theorem isX_wide {w : World} {B B' : Nat} {s : Value} {l : List GE} (h : isX w B s l) (hB : B ≤ B') : isX w B' s l :=
  isE_mono h (fun _ _ _ => rfl) (fun b g => ⟨g.1, Nat.lt_of_lt_of_le g.2 hB⟩) (fun _ _ h => h) (fun _ _ h => h)
theorem isX_open {w : World} {B : Nat} {s : Value} {l : List GE} (h : isX w B s l) :
    ∃ a cap b off, s = .slice a l.length cap ∧ l.length ≤ cap ∧ (0 < l.length → a = some ⟨b, off, none⟩ ∧ b < B) ∧ (∀ i (h : i < l.length), cellsE w (old B) noRoom noRoom l[i] b (off + i * 8)) := by
  obtain ⟨a, cap, b, off, e, hc, _, ha, h⟩ := isE_open h
  exact ⟨a, cap, b, off, e, hc, fun g => ⟨(ha g).1, (ha g).2.2⟩, h⟩
mutual
def GE.fit : GE → Prop
  | ⟨op, text, v, args⟩ => -9223372036854775808 ≤ op ∧ op ≤ 9223372036854775807 ∧ text.size ≤ 2147483647 ∧ v.fit ∧ args.length ≤ 2147483647 ∧ fitE args
def fitE : List GE → Prop
  | [] => True
  | x :: r => x.fit ∧ fitE r
end
theorem fitE_open {x : GE} (h : x.fit) : -9223372036854775808 ≤ x.op ∧ x.op ≤ 9223372036854775807 ∧ x.text.size ≤ 2147483647 ∧ x.v.fit ∧ x.args.length ≤ 2147483647 ∧ fitE x.args := by
  obtain ⟨op, text, v, args⟩ := x
  simpa [GE.fit] using h
theorem fitE_mem : ∀ {l : List GE}, fitE l → ∀ x ∈ l, x.fit
  | [], _, _, hx => by cases hx
  | y :: r, h, x, hx => by
    simp only [fitE] at h
    rcases List.mem_cons.1 hx with e | e
    · subst e; exact h.1
    · exact fitE_mem h.2 x e
mutual
def GE.size : GE → Nat
  | ⟨_, _, _, args⟩ => sizeE args + 1
def sizeE : List GE → Nat
  | [] => 0
  | x :: r => x.size + sizeE r
end
theorem size_args (x : GE) : x.size = sizeE x.args + 1 := by obtain ⟨op, text, v, args⟩ := x; simp [GE.size]
theorem sizeE_mem : ∀ {l : List GE} {x : GE}, x ∈ l → x.size ≤ sizeE l
  | y :: r, x, hx => by
    simp only [sizeE]
    rcases List.mem_cons.1 hx with e | e
    · subst e; omega
    · have := sizeE_mem e; omega
end Go.Proofs.YtljljhjdlicfeaaGreat
namespace Go.Proofs.YtljljhjdlicfeaaGreat
open Go Go.RowKit
set_option maxRecDepth 100000
set_option linter.unusedVariables false
mutual
/-- the values' bulk is small enough -/
def GE.okW : GE → Prop
  | ⟨_, _, v, args⟩ => bulkL [v] ≤ 1099511627776 ∧ args.length ≤ 2147483647 ∧ okWs args
def okWs : List GE → Prop
  | [] => True
  | x :: r => x.okW ∧ okWs r
end
theorem okW_open {x : GE} (h : x.okW) : bulkL [x.v] ≤ 1099511627776 ∧ x.args.length ≤ 2147483647 ∧ okWs x.args := by
  obtain ⟨op, text, v, args⟩ := x
  simpa only [GE.okW] using h
theorem okWs_mem : ∀ {l : List GE}, okWs l → ∀ x ∈ l, x.okW
  | [], _, _, hx => by cases hx
  | y :: r, h, x, hx => by
    simp only [okWs] at h
    rcases List.mem_cons.1 hx with e | e
    · subst e; exact h.1
    · exact okWs_mem h.2 x e
def WeightC (x : GE) : Prop := ∀ (d : Nat) (s sa : Value) (w : World) (B : Nat), d ≤ 81 → B ≤ w.heap.size → isL w 0 B s x.v.l → isX w B sa x.args →
  Calls Tryz.prog 7 #[x.agg s sa, .int .i64 (d : Nat)] w fun e w' => (∃ n : Int, e = .returned (.int .i64 n)) ∧ Below w.heap.size w w'
theorem one_isL {w : World} {g hi : Nat} {T : TypeId} {x : GV} {a : Option Addr} {c : Nat} (h : w.heap[g]? = some (.cells #[.int .i64 x.k, .bool x.b, .int .i64 x.n, .string x.t, .slice a x.l.length c] T (0, 0))) (hg : g < hi) (hs : isL w 0 hi (.slice a x.l.length c) x.l) :
    isL w 0 hi (.slice (some ⟨g, 0, none⟩) 1 1) [x] := by
  have q := fun o => cell_of h o
  refine isL_mk (l := [x]) (cap := 1) (b := g) (off := 0) (by simp) (fun _ => ⟨rfl, Nat.zero_le _, hg⟩) ?_
  intro i hi'
  have e : i = 0 := by simp at hi'; omega
  subst e
  exact cellsV_mk ((q _).trans rfl) ((q _).trans rfl) ((q _).trans rfl) ((q _).trans rfl) ((q _).trans rfl) hs
set_option maxHeartbeats 1600000 in
theorem weight_step (x : GE) (ox : x.okW) (h : ∀ y ∈ x.args, WeightC y) : WeightC x := by
  intro d s sa w B hd hB hs hsa
  obtain ⟨aa, ca, bb, off, rfl, hc, ha, hA⟩ := isX_open hsa
  obtain ⟨a, c, rfl⟩ := isL_form hs
  have ho := okW_open ox
  have HO := Lib.hid ho
  have HS := Lib.hid hs
  have HA := Lib.hid hA
  have Ha := Lib.hid ha
  have HH := Lib.hid h
  have hal := ho.2.1
  clear hs hsa hA ha h ox ho
  simp only [GE.agg]
  by_cases h80 : 80 < d
  · go_enter Tryz.func7, Tryz.ntmps7
    go_wp2_with fail
    go_ret
    exact ⟨⟨_, rfl⟩, (Below.refl _ _).alloc (Nat.le_refl _) _⟩
  go_enter Tryz.func7, Tryz.ntmps7
  go_wp2_with fail
  have hb0 : Below w.heap.size w ((w.alloc (.cells #[.int .i64 x.op, .string x.text, .int .i64 x.v.k, .bool x.v.b, .int .i64 x.v.n, .string x.v.t, .slice a x.v.l.length c, .slice aa x.args.length ca] 38)).alloc (.cells #[.int .i64 x.v.k, .bool x.v.b, .int .i64 x.v.n, .string x.v.t, .slice a x.v.l.length c] 36)) := ((Below.refl w.heap.size w).alloc (Nat.le_refl _) _).alloc (by simp) _
  have hl1 : isL ((w.alloc (.cells #[.int .i64 x.op, .string x.text, .int .i64 x.v.k, .bool x.v.b, .int .i64 x.v.n, .string x.v.t, .slice a x.v.l.length c, .slice aa x.args.length ca] 38)).alloc (.cells #[.int .i64 x.v.k, .bool x.v.b, .int .i64 x.v.n, .string x.v.t, .slice a x.v.l.length c] 36)) 0 (w.heap.size + 2) (.slice (some ⟨w.heap.size + 1, 0, none⟩) 1 1) [x.v] :=
    one_isL heap_second (by omega) (isL_wide (isL_below HS.out hb0 hB) (Nat.le_refl _) (by omega))
  refine (Size_any [x.v] HO.out.1 _ _ (w.heap.size + 2) (by simp) hl1).mono ?_
  rintro e w1 ⟨rfl, hb1⟩
  have hsz1 : w.heap.size + 2 ≤ w1.heap.size := by have := hb1.size; simpa using this
  have p1 := (hb1.block w.heap.size (by simp; omega)).trans heap_two
  have HBW := Lib.hid (hb0.trans (hb1.mono hb0.size))
  have HP := Lib.hid p1
  clear hb0 hl1 hb1 p1
  go_wp2_with fail
  go_loopw [5, 6] (fun n i wr => ∃ (k : Nat) (m : Int), k ≤ x.args.length ∧ n = .int .i64 m ∧ i = .int .i64 k ∧ Below w.heap.size w wr ∧ w.heap.size + 2 ≤ wr.heap.size ∧ Hid (wr.heap[w.heap.size]? = some (.cells #[.int .i64 x.op, .string x.text, .int .i64 x.v.k, .bool x.v.b, .int .i64 x.v.n, .string x.v.t, .slice a x.v.l.length c, .slice aa x.args.length ca] 38 (0, 0)))) (fun _ i _ => x.args.length - (intOf i).toNat)
  case atStart => exact ⟨0, _, Nat.zero_le _, rfl, rfl, HBW.out, hsz1, HP.out⟩
  case round =>
    obtain ⟨k, m, hk, rfl, rfl, hbel, hsz, hbox⟩ := hrel
    have q1 := fun o => cell_of hbox.out o
    by_cases hlt : k < x.args.length
    · obtain ⟨rfl, hb2⟩ := Ha.out (by omega)
      obtain ⟨ax, cx, aax, cax, x0, x1, x2, x3, x4, x5, x6, x7, hsx, hsax⟩ := cellsE_open (HA.out k hlt)
      have hg : ∀ o, wr.cell? ⟨bb, o, none⟩ = w.cell? ⟨bb, o, none⟩ := fun o => hbel.cell (p := ⟨bb, o, none⟩) (Nat.lt_of_lt_of_le hb2 hB)
      have HC : Hid (Calls Tryz.prog 7 #[GE.agg x.args[k] (.slice ax x.args[k].v.l.length cx) (.slice aax x.args[k].args.length cax), .int .i64 ((d : Int) + 1)] wr fun e w' => (∃ n : Int, e = .returned (.int .i64 n)) ∧ Below wr.heap.size wr w') :=
        HH.out _ (List.getElem_mem hlt) (d + 1) _ _ wr B (by omega) (Nat.le_trans hB hbel.size) (isL_below hsx hbel hB) (isX_below hsax hbel hB)
      have HB := Lib.hid hbel
      have hz1 : w.heap.size < wr.heap.size := by omega
      clear hsx hsax hbel Ha
      go_wp2_with fail
      refine HC.out.mono ?_
      rintro e w2 ⟨⟨n, rfl⟩, hb2⟩
      have HB2 := Lib.hid (below_down HB.out hb2 (Nat.le_refl _))
      have HX2 := Lib.hid ((hb2.block w.heap.size hz1).trans hbox.out)
      have hz2 : w.heap.size + 2 ≤ w2.heap.size := Nat.le_trans hsz hb2.size
      clear hb2 q1
      go_wp2_with fail
      go_roundw
      case rel => exact ⟨k + 1, _, by omega, rfl, by go_num, HB2.out, hz2, HX2.out⟩
      case measure => simp [intOf]; omega
    · have HB := Lib.hid hbel
      clear hbel
      go_wp2_with fail
      go_ret
      exact ⟨⟨_, rfl⟩, HB.out⟩
theorem weight_all : ∀ (m : Nat) (x : GE), x.size ≤ m → x.okW → WeightC x := by
  intro m
  induction m with
  | zero => exact fun x h => by have := size_args x; omega
  | succ m ih =>
    intro x h ox
    have := size_args x
    exact weight_step x ox fun y hy => ih y (by have := sizeE_mem hy; omega) (okWs_mem (okW_open ox).2.2 y hy)
theorem weight_any (x : GE) (ox : x.okW) : WeightC x := weight_all x.size x (Nat.le_refl _) ox
end Go.Proofs.YtljljhjdlicfeaaGreat
