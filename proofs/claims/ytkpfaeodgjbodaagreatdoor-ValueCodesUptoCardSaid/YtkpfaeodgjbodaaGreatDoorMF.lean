/-
  The table of the digits lies; numerals as texts; what value.Text is asked for. Conditions: none.
-/
import Derived.Test.YtkpfaeodgjbodaaGreatDoorMC
import Derived.Test.YtkpfaeodgjbodaaGreatDoorShelf
import Derived.Lib.ItoaLen
import Derived.Lib.UnsafeStr
import Derived.Shelf.Strings.BuilderK
import Derived.Test.YtkpfaeodgjbodaaGreatDoorProg
import Derived.Test.YtkpfaeodgjbodaaGreatDoorMA
import Derived.Lib.Join
import Derived.Shelf.Small.Wraps
import Derived.Test.YtkpfaeodgjbodaaGreatDoorMD
namespace Go.Proofs.YtkpfaeodgjbodaaGreatDoor
open Go Go.RowKit
set_option maxRecDepth 100000
set_option linter.unusedVariables false
/-- the table that strconv reads lies as the program's text lays it -/
def tabOk (w : World) : Prop := Lib.TabIs Tryz.prog w "internal/strconv.uint64pow10" .u64 Lib.pow10Tab
def itoaB (n : Int) : ByteArray := ⟨(Lib.itoa n).toArray⟩
theorem itoaB_size (n : Int) (h0 : -9223372036854775808 ≤ n) (h1 : n ≤ 9223372036854775807) : (itoaB n).size ≤ 21 := by
  have := Lib.itoa_length_le n h0 h1
  simpa [itoaB, ByteArray.size] using this
theorem pow_glob : ∃ g, Tryz.prog.globalNamed "internal/strconv.uint64pow10" = some g := Option.isSome_iff_exists.1 (by kernel_rfl)
theorem tabOk_below {w w' : World} (h : tabOk w) (hb : Below w.heap.size w w') : tabOk w' := by
  obtain ⟨g, hg⟩ := pow_glob
  unfold tabOk Lib.TabIs World.var? at *
  rw [hg] at h ⊢
  simp only [Option.bind_some] at h ⊢
  have hlt : g < w.heap.size := by
    cases e : w.heap[g]? with
    | none => rw [e] at h; cases h
    | some o => exact (Array.getElem?_eq_some_iff.1 e).1
  rw [hb.block g hlt]
  exact h
theorem below_grown {w : World} (k : Nat) (os : Array Obj) : Below w.heap.size w (Go.Sort.grow (w.drewN k) os) := below_regrown w (w.drawn + k) os
theorem builder_below {T e : TypeId} {B b : Nat} {bs : List Value} {w w' : World} (h : Lib.IsBuilderF T e B b bs w) (hb : Below w.heap.size w w') : Lib.IsBuilderF T e B b bs w' := by
  have key : ∀ p, Lib.BuilderAtF T e B b p bs w → Lib.BuilderAtF T e B b p bs w' := by
    rintro p ⟨h1, v, h2, ⟨h3, h4⟩, h5⟩
    have hlt := (Array.getElem?_eq_some_iff.1 h2).1
    refine ⟨h1, v, by rw [hb.block b hlt]; exact h2, ⟨h3, ?_⟩, h5⟩
    rcases h4 with h4 | ⟨g, cap, cur, fz, e1, e2, e3, r⟩
    · exact .inl h4
    · have hlt2 := (Array.getElem?_eq_some_iff.1 e3).1
      exact .inr ⟨g, cap, cur, fz, e1, e2, by rw [hb.block g hlt2]; exact e3, r⟩
  exact h.elim (fun x => .inl (key _ x)) (fun x => .inr (key _ x))

/-- value.Text tells vt -/
def TextC (f : FuncId) (vt : GV → ByteArray) (x : GV) : Prop := ∀ (s : Value) (w : World) (B : Nat), B ≤ w.heap.size → tabOk w → isL w 0 B s x.l →
  Calls Tryz.prog f #[x.agg s] w fun e w' => e = .returned (.string (vt x)) ∧ Below w.heap.size w w'
end Go.Proofs.YtkpfaeodgjbodaaGreatDoor
/-
  The layings of (*strings.Builder).WriteByte and what it calls at this program. Conditions: none.
-/
namespace Go.Proofs
open Go.Shelf
def Tryz.laysB167_ren : Go.Shelf.Ren := ⟨fun | 167 => 73 | 240 => 90 | 276 => 99 | n => n, fun | 0 => 0 | 4 => 4 | 5 => 5 | 9 => 9 | 20 => 20 | 37 => 28 | 70 => 91 | 72 => 93 | 75 => 95 | 80 => 98 | 164 => 121 | n => n, fun | n => n⟩
theorem Tryz.laysB167 : Go.Proofs.Lays.n167 Tryz.prog Tryz.laysB167_ren := {
  mixed := by kernel_rfl
  f167 := Tryz.func73.trans (congrArg some (by kernel_rfl))
  f240 := Tryz.func90.trans (congrArg some (by kernel_rfl))
  f276 := Tryz.func99.trans (congrArg some (by kernel_rfl))
  t0 := Tryz.underlying0
  a0 := Tryz.isAgg0
  z0 := Tryz.sizeOf0
  v0 := Tryz.zeroValue0
  t4 := Tryz.underlying4
  a4 := Tryz.isAgg4
  z4 := Tryz.sizeOf4
  v4 := Tryz.zeroValue4
  t5 := Tryz.underlying5
  a5 := Tryz.isAgg5
  z5 := Tryz.sizeOf5
  v5 := Tryz.zeroValue5
  t9 := Tryz.underlying9
  a9 := Tryz.isAgg9
  z9 := Tryz.sizeOf9
  v9 := Tryz.zeroValue9
  t20 := Tryz.underlying20
  a20 := Tryz.isAgg20
  z20 := Tryz.sizeOf20
  v20 := Tryz.zeroValue20
  t37 := Tryz.underlying28
  a37 := Tryz.isAgg28
  z37 := Tryz.sizeOf28
  v37 := Tryz.zeroValue28
  t70 := Tryz.underlying91
  a70 := Tryz.isAgg91
  z70 := Tryz.sizeOf91
  v70 := Tryz.zeroValue91
  t72 := Tryz.underlying93
  a72 := Tryz.isAgg93
  z72 := Tryz.sizeOf93
  v72 := Tryz.zeroValue93
  t75 := Tryz.underlying95
  a75 := Tryz.isAgg95
  z75 := Tryz.sizeOf95
  v75 := Tryz.zeroValue95
  t164 := Tryz.underlying121
  a164 := Tryz.isAgg121
  z164 := Tryz.sizeOf121
  v164 := Tryz.zeroValue121 }
theorem Tryz.BuilderB_Extra_167 : Builder.Extra Tryz.prog Tryz.laysB167_ren := {
  sizeBuilder := by kernel_rfl
  liesBuilder := by kernel_rfl
  t5 := Tryz.underlying5
  a5 := Tryz.isAgg5
  z5 := Tryz.sizeOf5
  v5 := Tryz.zeroValue5
  infoByte := by kernel_rfl
  cellsByte := by kernel_rfl
  sizeByte := by kernel_rfl
  neB5 := by decide }
open Go.RowKit in
/-- WriteByte: one byte comes behind those that the builder holds. -/
theorem Tryz.BuilderB_WriteByte (B b : Nat) (bs : List Value) (c : Int) (w : World) (h : Lib.IsBuilderF 93 5 B b bs w) (hlen : bs.length + 1 ≤ 140737488355328) (hBw : B ≤ w.heap.size) :
    Calls Tryz.prog 73 #[.pointer (some ⟨b, 0, none⟩), .int .u8 c] w fun e w' => e = .returned .nilIface ∧ (Lib.BuilderAtF 93 5 B b (.pointer (some ⟨b, 0, none⟩)) (bs ++ [.int .u8 c]) w' ∧ Below B w w' ∧ Lib.OthersKept 5 (some b) w w') := Any.Builder_WriteByte_k Tryz.laysB167 Tryz.BuilderB_Extra_167 B b bs c w h hlen hBw
end Go.Proofs
/-
  What value.Text tells of a value, as a list of bytes; how long it is. Conditions: none.
-/
namespace Go.Proofs.YtkpfaeodgjbodaaGreatDoor
open Go Go.RowKit
set_option linter.unusedVariables false
/-- how a text's byte is quoted -/
def quoteC (c : UInt8) : List UInt8 := if c = 34 ∨ c = 92 then [92, c] else if c = 10 then [92, 110] else if c = 9 then [92, 116] else [c]
def quoteL : List UInt8 → List UInt8
  | [] => []
  | c :: r => quoteC c ++ quoteL r
theorem quoteL_append (a b : List UInt8) : quoteL (a ++ b) = quoteL a ++ quoteL b := by
  induction a with
  | nil => rfl
  | cons x r ih => simp [quoteL, ih]
theorem quoteL_take (l : List UInt8) (k : Nat) (h : k < l.length) : quoteL (l.take (k + 1)) = quoteL (l.take k) ++ quoteC l[k] := by
  rw [List.take_succ_eq_append_getElem h, quoteL_append]
  simp [quoteL]
theorem quoteC_len (c : UInt8) : (quoteC c).length ≤ 2 := by
  unfold quoteC
  split
  · simp
  · split
    · simp
    · split <;> simp
theorem quoteL_len (l : List UInt8) : (quoteL l).length ≤ 2 * l.length := by
  induction l with
  | nil => simp [quoteL]
  | cons x r ih =>
    have := quoteC_len x
    simp only [quoteL, List.length_append, List.length_cons]
    omega
/-- a text in quotes -/
def quoteT (s : ByteArray) : List UInt8 := 34 :: quoteL s.data.toList ++ [34]
theorem quoteT_len (s : ByteArray) : (quoteT s).length ≤ 2 * s.size + 2 := by
  have h := quoteL_len s.data.toList
  have e : s.data.toList.length = s.size := Array.length_toList
  simp only [quoteT, List.length_append, List.length_cons, List.length_nil]
  omega
mutual
/-- the text of a value -/
def vtx : GV → List UInt8
  | ⟨k, b, n, t, l⟩ => if chk ⟨k, b, n, t, l⟩ 0 = true then
      (if k = 1 then Lib.formatBool b else if k = 2 then Lib.itoa n else if k = 3 then quoteT t else if k = 5 then 35 :: Lib.itoa n else if k = 4 then 91 :: Lib.join (vtxL l) [44, 32] ++ [93] else [110, 117, 108, 108]) else []
def vtxL : List GV → List (List UInt8)
  | [] => []
  | x :: r => vtx x :: vtxL r
end
theorem vtx_eq (x : GV) : vtx x = if vmay x = true then
      (if x.k = 1 then Lib.formatBool x.b else if x.k = 2 then Lib.itoa x.n else if x.k = 3 then quoteT x.t else if x.k = 5 then 35 :: Lib.itoa x.n else if x.k = 4 then 91 :: Lib.join (vtxL x.l) [44, 32] ++ [93] else [110, 117, 108, 108]) else [] := by
  cases x; simp only [vtx, vmay]
theorem vtxL_map (l : List GV) : vtxL l = l.map vtx := by
  induction l with
  | nil => rfl
  | cons x r ih => simp [vtxL, ih]
def vtext (x : GV) : ByteArray := ⟨(vtx x).toArray⟩
theorem vtext_size (x : GV) : (vtext x).size = (vtx x).length := by simp [vtext, ByteArray.size]
/-- how long the elements' texts are, with a separator each -/
def lensL : List (List UInt8) → Nat
  | [] => 0
  | x :: r => x.length + 2 + lensL r
theorem join_snoc (xs : List (List UInt8)) (x sep : List UInt8) (h : xs ≠ []) : Lib.join (xs ++ [x]) sep = Lib.join xs sep ++ sep ++ x := by
  cases xs with
  | nil => exact absurd rfl h
  | cons y r =>
    rw [List.cons_append, Lib.join_cons, Lib.join_cons]
    simp [Lib.joinTail, List.append_assoc]
theorem join_len (xs : List (List UInt8)) : (Lib.join xs [44, 32]).length ≤ lensL xs := by
  cases xs with
  | nil => simp [Lib.join_nil]
  | cons y r =>
    have key : ∀ r : List (List UInt8), (Lib.joinTail [44, 32] r).length ≤ lensL r := by
      intro r
      induction r with
      | nil => simp [Lib.joinTail]
      | cons z r ih =>
        have e : Lib.joinTail [44, 32] (z :: r) = [44, 32] ++ z ++ Lib.joinTail [44, 32] r := by simp [Lib.joinTail]
        rw [e]
        simp only [lensL, List.length_append, List.length_cons, List.length_nil]
        omega
    have := key r
    rw [Lib.join_cons]
    simp only [lensL, List.length_append]
    omega
theorem join_take_len (xs : List (List UInt8)) (k : Nat) : (Lib.join (xs.take k) [44, 32]).length ≤ lensL xs := by
  have key : ∀ (xs : List (List UInt8)) (k : Nat), lensL (xs.take k) ≤ lensL xs := by
    intro xs
    induction xs with
    | nil => intro k; simp [lensL]
    | cons x r ih =>
      intro k
      cases k with
      | zero => simp [lensL]
      | succ k => have := ih k; simp only [List.take_succ_cons, lensL]; omega
  exact Nat.le_trans (join_len _) (key _ _)
theorem fit_n {x : GV} (h : x.fit) : -9223372036854775808 ≤ x.n ∧ x.n ≤ 9223372036854775807 := by
  obtain ⟨_, _, a, b, _⟩ := fit_open h
  exact ⟨a, b⟩
theorem vtx_cap (x : GV) (hi : (Lib.itoa x.n).length ≤ 21) (hl : lensL (vtxL x.l) ≤ 24 * bulkL x.l) : (vtx x).length + 2 ≤ 24 * x.bulk := by
  rw [bulk_eq, vtx_eq]
  have hq := quoteT_len x.t
  have hj := join_len (vtxL x.l)
  have hb : (Lib.formatBool x.b).length ≤ 5 := by cases x.b <;> decide
  split
  · split
    · omega
    · split
      · omega
      · split
        · omega
        · split
          · simp only [List.length_cons]; omega
          · split
            · simp only [List.length_cons, List.length_append, List.length_nil]; omega
            · simp only [List.length_cons, List.length_nil]; omega
  · simp only [List.length_nil]; omega
mutual
theorem vtx_len : ∀ (x : GV), x.fit → (vtx x).length + 2 ≤ 24 * x.bulk
  | ⟨k, b, n, t, l⟩, h => by
    obtain ⟨_, _, a1, a2, _, _, hf⟩ := fit_open h
    exact vtx_cap ⟨k, b, n, t, l⟩ (Lib.itoa_length_le n a1 a2) (vtxL_len l hf)
theorem vtxL_len : ∀ (l : List GV), fitL l → lensL (vtxL l) ≤ 24 * bulkL l
  | [], _ => by simp [vtxL, lensL]
  | x :: r, h => by
    have h1 := vtx_len x (fitL_mem h x (by simp))
    have h2 := vtxL_len r (by simp only [fitL] at h; exact h.2)
    simp only [vtxL, lensL, bulkL]
    omega
end
end Go.Proofs.YtkpfaeodgjbodaaGreatDoor
/-
  What value.quote tells of a text: the text in quotes. Conditions: a text shorter than 2^31.
-/
namespace Go.Proofs.YtkpfaeodgjbodaaGreatDoor
open Go Go.RowKit
set_option maxRecDepth 100000
set_option linter.unusedVariables false
theorem idx_other (c : UInt8) (h1 : c ≠ 34) (h2 : c ≠ 92) (h3 : c ≠ 10) (h4 : c ≠ 9) : Lib.indexByte [34, 92, 10, 9] c = -1 := by
  have e1 : ((34 : UInt8) == c) = false := by simpa using fun e => h1 e.symm
  have e2 : ((92 : UInt8) == c) = false := by simpa using fun e => h2 e.symm
  have e3 : ((10 : UInt8) == c) = false := by simpa using fun e => h3 e.symm
  have e4 : ((9 : UInt8) == c) = false := by simpa using fun e => h4 e.symm
  simp [Lib.indexByte, e1, e2, e3, e4]
theorem quote_cases (c : UInt8) : (Lib.indexByte [34, 92, 10, 9] c = 0 ∧ quoteC c = [92, 34]) ∨ (Lib.indexByte [34, 92, 10, 9] c = 1 ∧ quoteC c = [92, 92]) ∨ (Lib.indexByte [34, 92, 10, 9] c = 2 ∧ quoteC c = [92, 110]) ∨
    (Lib.indexByte [34, 92, 10, 9] c = 3 ∧ quoteC c = [92, 116]) ∨ (Lib.indexByte [34, 92, 10, 9] c = -1 ∧ quoteC c = [c]) := by
  by_cases h1 : c = 34
  · subst h1; exact .inl ⟨by decide, by decide⟩
  by_cases h2 : c = 92
  · subst h2; exact .inr (.inl ⟨by decide, by decide⟩)
  by_cases h3 : c = 10
  · subst h3; exact .inr (.inr (.inl ⟨by decide, by decide⟩))
  by_cases h4 : c = 9
  · subst h4; exact .inr (.inr (.inr (.inl ⟨by decide, by decide⟩)))
  · exact .inr (.inr (.inr (.inr ⟨idx_other c h1 h2 h3 h4, by simp [quoteC, h1, h2, h3, h4]⟩)))
theorem u8_back (c : UInt8) : ((c.toNat : Int)).toNat.toUInt8 = c := by simp
set_option maxHeartbeats 1600000 in
theorem quote_any (s : ByteArray) (hs : s.size ≤ 2147483647) (w : World) :
    Calls Tryz.prog 37 #[.string s] w fun e w' => e = .returned (.string ⟨(quoteT s).toArray⟩) ∧ Below w.heap.size w w' := by
  have hsl : s.data.toList.length = s.size := Array.length_toList
  have HSL := Lib.hid hsl
  go_enter Tryz.func37, Tryz.ntmps37
  go_wp2_with fail
  refine (Tryz.BuilderB_WriteByte w.heap.size w.heap.size [] 34 _ (Lib.IsBuilderF.of (Lib.fresh_isBuilder _ _ w)) (by simp) (by simp)).mono ?_
  rintro e w1 ⟨rfl, hbt, hb1, _⟩
  have hbw : Below w.heap.size w w1 := ((Below.refl w.heap.size w).alloc (Nat.le_refl _) _).trans hb1
  have HW1 := Lib.hid hbw
  have HB1 : Hid (Lib.IsBuilderF 93 5 w.heap.size w.heap.size (Lib.byteCells [34]) w1) := .inr hbt
  have hz1 : w.heap.size + 1 ≤ w1.heap.size := by have := hb1.size; simpa using this
  clear hbt hb1 hbw hsl
  go_wp2_with fail
  go_loopw [9] (fun i wr => ∃ k : Nat, k ≤ s.size ∧ i = .int .i64 k ∧ Below w.heap.size w wr ∧ w.heap.size + 1 ≤ wr.heap.size ∧ Hid (Lib.IsBuilderF 93 5 w.heap.size w.heap.size (Lib.byteCells (34 :: quoteL (s.data.toList.take k))) wr)) (fun i _ => s.size - (intOf i).toNat)
  case atStart => exact ⟨0, Nat.zero_le _, rfl, HW1.out, hz1, by simpa [quoteL] using HB1⟩
  case round =>
    obtain ⟨k, hk, rfl, hbel, hsz, hI⟩ := hrel
    by_cases hlt : k < s.size
    rotate_left
    · have hfin := hI.out
      rw [List.take_of_length_le (by have := HSL.out; omega)] at hfin
      have HF := Lib.hid hfin
      have HB := Lib.hid hbel
      have hcap := quoteL_len s.data.toList
      rw [HSL.out] at hcap
      clear hfin hbel hI
      go_wp2_with fail
      refine (Tryz.BuilderB_WriteByte w.heap.size w.heap.size _ 34 _ HF.out (by simp [Lib.byteCells]; omega) HB.out.size).mono ?_
      rintro e w2 ⟨rfl, hbt, hb2, _⟩
      have hbt' : Lib.IsBuilderF 93 5 w.heap.size w.heap.size (Lib.byteCells (quoteT s)) w2 := by
        rw [quoteT, Lib.byteCells_append]
        exact .inr hbt
      have HT := Lib.hid hbt'
      have HB2 := Lib.hid (HB.out.trans hb2)
      clear hbt hbt' hb2 hcap
      go_wp2_with fail
      refine (Tryz.Builder_String_any_k w.heap.size w.heap.size _ _ HT.out HB2.out.size).mono ?_
      rintro e w3 ⟨rfl, _, hb3, _⟩
      go_wp2_with fail
      go_ret
      exact ⟨rfl, HB2.out.trans hb3⟩
    have hkl : k < s.data.toList.length := by rw [HSL.out]; exact hlt
    have HQ := Lib.hid (quoteL_take s.data.toList k hkl)
    have HB := Lib.hid hbel
    have hqb : (quoteL (s.data.toList.take k)).length ≤ 4294967294 := by
      have := quoteL_len (s.data.toList.take k)
      have h2 : (s.data.toList.take k).length ≤ k := List.length_take_le _ _
      omega
    have hix : s.data.toList[k]'hkl = s[k] := rfl
    clear hbel
    go_wp2_with fail
    refine (Tryz.strings_IndexByte _ _ wr).mono ?_
    rintro e w2 ⟨rfl, rfl⟩
    rw [u8_back, show ({ data := #[34, 92, 10, 9] } : ByteArray).data.toList = [34, 92, 10, 9] from rfl]
    obtain ⟨c, hc⟩ : ∃ c, c = s[k] := ⟨_, rfl⟩
    rw [hix, ← hc] at HQ
    have hc2 : s.data[k]'(by simpa using hlt) = c := hc.symm
    rw [← hc]
    rcases quote_cases c with ⟨hi, hq⟩ | ⟨hi, hq⟩ | ⟨hi, hq⟩ | ⟨hi, hq⟩ | ⟨hi, hq⟩
    rotate_right
    · rw [hi]
      rw [hq] at HQ
      clear hi hq
      go_wp2_with fail
      refine (Tryz.BuilderB_WriteByte w.heap.size w.heap.size _ _ _ hI.out (by simp [Lib.byteCells]; omega) HB.out.size).mono ?_
      rintro e w3 ⟨rfl, hbt, hb3, _⟩
      have HB3 := Lib.hid (HB.out.trans hb3)
      have hz3 := hb3.size
      have HT3 : Hid (Lib.IsBuilderF 93 5 w.heap.size w.heap.size (Lib.byteCells (34 :: quoteL (s.data.toList.take (k + 1)))) w3) := by
        rw [show (s[k] : UInt8) = c from hc.symm] at hbt
        rw [Hid, HQ.out, ← List.cons_append, Lib.byteCells_append]
        exact .inr hbt
      clear hbt hb3
      go_wp2_with fail
      go_roundw
      case rel => exact ⟨k + 1, by omega, by go_num, HB3.out, by omega, HT3⟩
      case measure => simp [intOf]; omega
    all_goals
      rw [hi]
      rw [hq] at HQ
      clear hi hq
      go_wp2_with fail
      refine (Tryz.BuilderB_WriteByte w.heap.size w.heap.size _ _ _ hI.out (by simp [Lib.byteCells]; omega) HB.out.size).mono ?_
      rintro e w3 ⟨rfl, hbt, hb3, _⟩
      have HB3 := Lib.hid (HB.out.trans hb3)
      have hz3 := hb3.size
      have HT3 : Hid (Lib.IsBuilderF 93 5 w.heap.size w.heap.size (Lib.byteCells (34 :: quoteL (s.data.toList.take k)) ++ [.int .u8 92]) w3) := .inr hbt
      clear hbt hb3
      go_wp2_with fail
      refine (Tryz.BuilderB_WriteByte w.heap.size w.heap.size _ _ _ HT3.out (by simp [Lib.byteCells]; omega) HB3.out.size).mono ?_
      rintro e w4 ⟨rfl, hbt, hb4, _⟩
      have HB4 := Lib.hid (HB3.out.trans hb4)
      have hz4 := hb4.size
      have HT4 : Hid (Lib.IsBuilderF 93 5 w.heap.size w.heap.size (Lib.byteCells (34 :: quoteL (s.data.toList.take (k + 1)))) w4) := by
        rw [List.append_assoc] at hbt
        rw [Hid, HQ.out, ← List.cons_append, Lib.byteCells_append]
        exact .inr hbt
      clear hbt hb4
      go_wp2_with fail
      go_roundw
      case rel => exact ⟨k + 1, by omega, by go_num, HB4.out, by omega, HT4⟩
      case measure => simp [intOf]; omega
end Go.Proofs.YtkpfaeodgjbodaaGreatDoor
/-
  What value.Text tells of a value: its text. Conditions: texts and lists shorter than 2^31, the value's bulk at most 2^40, the table of the digits lies.
-/
namespace Go.Proofs.YtkpfaeodgjbodaaGreatDoor
open Go Go.RowKit
set_option maxRecDepth 100000
set_option linter.unusedVariables false
theorem formatInt_any (n : Int) (h0 : -9223372036854775808 ≤ n) (h1 : n ≤ 9223372036854775807) (w : World) (ht : tabOk w) :
    Calls Tryz.prog 36 #[.int .i64 n, .int .i64 10] w fun e w' => e = .returned (.string (itoaB n)) ∧ Below w.heap.size w w' := by
  refine (Tryz.strconv_FormatInt_10 n h0 h1 w ht).mono ?_
  rintro e w' ⟨rfl, k, os, rfl⟩
  exact ⟨rfl, below_grown k os⟩
/-- texts as a row of memory holds them -/
def strsV (xs : List (List UInt8)) : List Value := xs.map fun x => .string ⟨x.toArray⟩
def strsB (xs : List (List UInt8)) : List ByteArray := xs.map fun x => ⟨x.toArray⟩
theorem strsB_back (xs : List (List UInt8)) : (strsB xs).map (·.data.toList) = xs := by
  induction xs with
  | nil => rfl
  | cons x r ih => simpa [strsB] using ih
theorem sinfo : (Tryz.prog.info? 9).map (fun i => (i.zero, i.size, i.bytes)) = some (some (.string { data := #[] }), 1, 16) := by kernel_rfl
theorem vtxL_len_eq (l : List GV) : (vtxL l).length = l.length := by rw [vtxL_map]; simp
theorem vtxL_get (l : List GV) (k : Nat) (h : k < l.length) : (vtxL l).take (k + 1) = (vtxL l).take k ++ [vtx l[k]] := by
  rw [List.take_succ_eq_append_getElem (by rw [vtxL_len_eq]; exact h)]
  simp [vtxL_map]
theorem owns_keep {w w' : World} {base size n : Nat} {T : TypeId} {v : Value} {xs : List Value} (h : w.ownsRow base T size v n xs) (hb : Below w.heap.size w w') : w'.ownsRow base T size v n xs := by
  obtain ⟨h1, h2⟩ := h
  refine ⟨h1, ?_⟩
  rcases h2 with h2 | ⟨g, cap, cur, e, hg, hh, r⟩
  · exact .inl h2
  · refine .inr ⟨g, cap, cur, e, hg, ?_, r⟩
    have : g < w.heap.size := by
      rcases Nat.lt_or_ge g w.heap.size with h | h
      · exact h
      · rw [Array.getElem?_eq_none h] at hh; cases hh
    rw [hb.block g this]; exact hh
theorem strs_cells {w : World} {base n : Nat} {T : TypeId} {g cap : Nat} {xs : List (List UInt8)} (h : w.ownsRow base T 1 (.slice (some ⟨g, 0, none⟩) n cap) n (strsV xs)) :
    ∀ (j : Nat) x, (strsB xs)[j]? = some x → w.cell? ⟨g, 0 + j, none⟩ = some (.string x) := by
  intro j x hj
  have hc := h.cells (g := g) rfl j (.string x) (by
    simp only [strsV, strsB, List.getElem?_map] at hj ⊢
    cases e : xs[j]? with
    | none => rw [e] at hj; cases hj
    | some y => rw [e] at hj; simp at hj ⊢; exact hj)
  rw [Addr.add_lit] at hc
  exact hc
theorem itoa_hash (n : Int) : ({ data := #[35] } : ByteArray) ++ itoaB n = ⟨(35 :: Lib.itoa n).toArray⟩ := by
  apply ByteArray.ext
  simp [itoaB]
theorem join_wrap (l : List UInt8) : ({ data := #[91] } : ByteArray) ++ ⟨l.toArray⟩ ++ { data := #[93] } = ⟨(91 :: l ++ [93]).toArray⟩ := by
  apply ByteArray.ext
  simp
set_option maxHeartbeats 1600000 in
theorem vText_step (x : GV) (fx : x.fit) (hbk : x.bulk ≤ 1099511627776) (h : ∀ y ∈ x.l, TextC 17 vtext y) : TextC 17 vtext x := by
  intro s w B hB ht hs
  obtain ⟨a, c, bb, off, rfl, hc, ha, hA⟩ := isL_open hs
  have HS := Lib.hid hs
  have HA := Lib.hid hA
  have Ha := Lib.hid ha
  have HH := Lib.hid h
  have HT := Lib.hid ht
  have HF := Lib.hid fx
  have HX := Lib.hid (vtx_eq x)
  have HL := Lib.hid (vtxL_len x.l (fit_open fx).2.2.2.2.2.2)
  clear hA hs ha h ht fx
  simp only [GV.agg]
  go_enter Tryz.func17, Tryz.ntmps17
  go_wp2_with fail
  have hb0 := (Below.refl w.heap.size w).alloc (Nat.le_refl _) (.cells #[.int .i64 x.k, .bool x.b, .int .i64 x.n, .string x.t, .slice a x.l.length c] 33)
  refine (vCheck_any x HF.out (.slice a x.l.length c) _ B (Nat.le_trans hB hb0.size) (isL_below HS.out hb0 hB)).mono ?_
  rintro e w1 ⟨rfl, hb1⟩
  have hbx := (hb1.block w.heap.size (by simp)).trans (heap_last (w := w))
  have HB1 := Lib.hid (below_down hb0 hb1 (Nat.le_refl _))
  have HTB := Lib.hid (tabOk_below HT.out HB1.out)
  have q1 := fun o => cell_of hbx o
  have hz1 : w.heap.size + 1 ≤ w1.heap.size := by have := hb1.size; simpa using this
  have HBX := Lib.hid hbx
  clear hb0 hb1 hbx
  cases hv : vmay x
  · have HX' : Hid (vtext x = ⟨#[]⟩) := by
      have h := HX.out
      rw [hv] at h
      rw [Hid, vtext, h]
      rfl
    clear hv
    go_wp2_with fail
    go_ret
    exact ⟨by rw [HX'.out]; rfl, HB1.out⟩
  have HV := Lib.hid hv
  have HX' := HX.out
  rw [hv, if_pos rfl] at HX'
  clear hv HX
  by_cases k1 : x.k = 1
  · rw [if_pos k1] at HX'
    have HX2 := Lib.hid HX'
    have e1 : (x.k == 1) = true := by simpa using k1
    clear HX' k1
    go_wp2_with fail
    refine (Tryz.strconv_FormatBool x.b _).mono ?_
    rintro e w2 ⟨rfl, rfl⟩
    go_wp2_with fail
    go_ret
    exact ⟨by rw [vtext, HX2.out]; rfl, HB1.out⟩
  rw [if_neg k1] at HX'
  have e1 : (x.k == 1) = false := by simpa using k1
  by_cases k2 : x.k = 2
  · rw [if_pos k2] at HX'
    have HX2 := Lib.hid HX'
    have e2 : (x.k == 2) = true := by simpa using k2
    clear HX' k1 k2
    go_wp2_with fail
    refine (formatInt_any x.n (fit_n HF.out).1 (fit_n HF.out).2 _ HTB.out).mono ?_
    rintro e w2 ⟨rfl, hb2⟩
    go_wp2_with fail
    go_ret
    exact ⟨by rw [vtext, HX2.out]; rfl, below_down HB1.out hb2 (Nat.le_refl _)⟩
  rw [if_neg k2] at HX'
  have e2 : (x.k == 2) = false := by simpa using k2
  by_cases k3 : x.k = 3
  · rw [if_pos k3] at HX'
    have HX2 := Lib.hid HX'
    have e3 : (x.k == 3) = true := by simpa using k3
    clear HX' k1 k2 k3
    go_wp2_with fail
    refine (quote_any x.t (fit_open HF.out).2.2.2.2.1 _).mono ?_
    rintro e w2 ⟨rfl, hb2⟩
    go_wp2_with fail
    go_ret
    exact ⟨by rw [vtext, HX2.out]; rfl, below_down HB1.out hb2 (Nat.le_refl _)⟩
  rw [if_neg k3] at HX'
  have e3 : (x.k == 3) = false := by simpa using k3
  by_cases k5 : x.k = 5
  · rw [if_pos k5] at HX'
    have HX2 := Lib.hid HX'
    have e5 : (x.k == 5) = true := by simpa using k5
    clear HX' k1 k2 k3 k5
    have hsz := itoaB_size x.n (fit_n HF.out).1 (fit_n HF.out).2
    go_wp2_with fail
    refine (formatInt_any x.n (fit_n HF.out).1 (fit_n HF.out).2 _ HTB.out).mono ?_
    rintro e w2 ⟨rfl, hb2⟩
    go_wp2_with fail
    go_ret
    exact ⟨by rw [vtext, HX2.out, ← itoa_hash]; rfl, below_down HB1.out hb2 (Nat.le_refl _)⟩
  rw [if_neg k5] at HX'
  have e5 : (x.k == 5) = false := by simpa using k5
  by_cases k4 : x.k = 4
  rotate_left
  · rw [if_neg k4] at HX'
    have HX2 := Lib.hid HX'
    have e4 : (x.k == 4) = false := by simpa using k4
    clear HX' k1 k2 k3 k5 k4
    go_wp2_with fail
    go_ret
    exact ⟨by rw [vtext, HX2.out]; rfl, HB1.out⟩
  rw [if_pos k4] at HX'
  have HX2 := Lib.hid HX'
  have e4 : (x.k == 4) = true := by simpa using k4
  have hll := (fit_open HF.out).2.2.2.2.2.1
  clear HX' k1 k2 k3 k5 k4
  go_wp2_with fail
  go_loopw [3, 37] (fun v i wr => ∃ k : Nat, k ≤ x.l.length ∧ i = .int .i64 k ∧ Below w.heap.size w wr ∧ w1.heap.size ≤ wr.heap.size ∧ Hid (wr.ownsRow w.heap.size 9 1 v k (strsV ((vtxL x.l).take k)))) (fun _ i _ => x.l.length - (intOf i).toNat)
  case atStart => exact ⟨0, Nat.zero_le _, rfl, HB1.out, Nat.le_refl _, ⟨by simp [strsV], .inl ⟨rfl, rfl⟩⟩⟩
  case round =>
    obtain ⟨k, hk, rfl, hbel, hsz, hO⟩ := hrel
    have HB := Lib.hid hbel
    clear q1 hbel
    by_cases hlt : k < x.l.length
    · obtain ⟨rfl, hb1, hb2⟩ := Ha.out (by omega)
      obtain ⟨ax, cx, x0, x1, x2, x3, x4, hsx⟩ := cellsV_slice (HA.out k hlt)
      have hg : ∀ o, wr.cell? ⟨bb, o, none⟩ = w.cell? ⟨bb, o, none⟩ := fun o => HB.out.cell (p := ⟨bb, o, none⟩) (Nat.lt_of_lt_of_le hb2 hB)
      have hz : bb < wr.heap.size := Nat.lt_of_lt_of_le hb2 (Nat.le_trans hB HB.out.size)
      have HSX := Lib.hid hsx
      have HM := Lib.hid (HH.out x.l[k] (List.getElem_mem hlt))
      clear hsx
      go_wp2_with fail
      have hb4 := HB.out.alloc HB.out.size (.cells #[.int .i64 x.l[k].k, .bool x.l[k].b, .int .i64 x.l[k].n, .string x.l[k].t, .slice ax x.l[k].l.length cx] 33)
      have hb4' := (Below.refl wr.heap.size wr).alloc (Nat.le_refl _) (.cells #[.int .i64 x.l[k].k, .bool x.l[k].b, .int .i64 x.l[k].n, .string x.l[k].t, .slice ax x.l[k].l.length cx] 33)
      refine (HM.out _ _ B (Nat.le_trans hB hb4.size) (tabOk_below HT.out hb4) (isL_below HSX.out hb4 hB)).mono ?_
      rintro e w2 ⟨rfl, hb5⟩
      have HO2 := Lib.hid (owns_keep (owns_keep hO.out hb4') hb5)
      have HB2 := Lib.hid (below_down hb4 hb5 (Nat.le_refl _))
      have hz2 : wr.heap.size + 1 ≤ w2.heap.size := by have := hb5.size; simpa using this
      obtain ⟨i0, hi, hz0, hz1', hz2'⟩ := info_parts sinfo
      have HI := Lib.hid (And.intro hi (And.intro hz0 (And.intro hz1' hz2')))
      clear hb4 hb4' hb5 hO hg x0 x1 x2 x3 x4 hi hz0 hz1' hz2' Ha
      go_wp2_with (at_builtin; refine wpList_append_own_at _ rfl _ _ 72 rfl w.heap.size 9 i0 (.string { data := #[] }) 1 16 Tryz.underlying72 HI.out.1 HI.out.2.1 HI.out.2.2.1 HI.out.2.2.2 rfl (by decide) _ _ _ rfl (HO2.out.alloc _) ⟨w2.heap.size, 0, none⟩ 1 1 [.string (vtext x.l[k])] rfl rfl ?c1 ?c2 ?c3 ?c4 ?c5 ?_)
      case c1 => exact fun j u hj => news_last hj
      case c2 => intro u hu; simp only [List.mem_cons, List.not_mem_nil, or_false] at hu; subst hu; rfl
      case c3 => unfold maxLen; omega
      case c4 => omega
      case c5 => simp; omega
      intro v' w3 hown2 hgrow _ hat
      have hb6 : Below w.heap.size w w3 := (HB2.out.alloc HB2.out.size (.cells #[.string (vtext x.l[k])] 9)).grown hgrow (by simp; omega) (fun g hg => (ownBlock_lt HO2.out hg).1)
      have HO3 : Hid (w3.ownsRow w.heap.size 9 1 v' (k + 1) (strsV ((vtxL x.l).take (k + 1)))) := by
        rw [Hid, vtxL_get x.l k hlt, strsV, List.map_append]
        exact hown2
      have hz3 := hgrow.size
      have hz3' : w2.heap.size + 1 ≤ w3.heap.size := by simpa using hz3
      clear hown2 hgrow hat hz3
      go_wp2_with fail
      go_roundw
      case rel => exact ⟨k + 1, by omega, by go_num, hb6, by omega, HO3⟩
      case measure => simp [intOf]; omega
    · obtain rfl : k = x.l.length := by omega
      have hO' := hO.out
      rw [List.take_of_length_le (by rw [vtxL_len_eq]; exact Nat.le_refl _)] at hO'
      have hjl := join_len (vtxL x.l)
      have hlb := HL.out
      have hbe := bulk_eq x
      have hjl2 : (Lib.join (vtxL x.l) [44, 32]).length ≤ 26388279066624 := by omega
      obtain ⟨_, ⟨rfl, h0⟩ | ⟨g, cap, cur, rfl, hbg, hgg, hnc, hcm, hcs, htk⟩⟩ := id hO'
      · have hnil : x.l = [] := List.eq_nil_of_length_eq_zero h0
        go_wp2_with fail
        refine (Tryz.strings_Join_none _ _ _ _).mono ?_
        rintro e w2 ⟨rfl, rfl⟩
        go_wp2_with fail
        go_ret
        exact ⟨by rw [vtext, HX2.out, hnil]; rfl, HB.out⟩
      · have hsl : (strsB (vtxL x.l)).length = x.l.length := by rw [strsB, List.length_map, vtxL_len_eq]
        have hgl : g < wr.heap.size := (Array.getElem?_eq_some_iff.1 hgg).1
        have hJ := Tryz.strings_Join g 0 cap (strsB (vtxL x.l)) ⟨#[44, 32]⟩ wr (strs_cells hO') hgl (by omega) (by rw [hsl]; exact hnc) (by rw [strsB_back]; exact Nat.le_trans hjl2 (by omega))
        rw [hsl, strsB_back] at hJ
        have HJ := Lib.hid hJ
        have hjs : ({ data := (Lib.join (vtxL x.l) [44, 32]).toArray } : ByteArray).size ≤ 26388279066624 := by simpa [ByteArray.size] using hjl2
        clear hJ hO hO' hgg htk
        go_wp2_with fail
        refine HJ.out.mono ?_
        rintro e w2 ⟨rfl, hb2⟩
        go_wp2_with fail
        go_ret
        exact ⟨by rw [vtext, HX2.out, ← join_wrap]; rfl, below_down HB.out hb2 (Nat.le_refl _)⟩
theorem vText_all : ∀ (m : Nat) (x : GV), x.size ≤ m → x.fit → x.bulk ≤ 1099511627776 → TextC 17 vtext x := by
  intro m
  induction m with
  | zero => intro x h; have := size_l x; omega
  | succ m ih =>
    intro x h fx hb
    obtain ⟨_, _, _, _, _, _, hf⟩ := fit_open fx
    exact vText_step x fx hb fun y hy => ih y (by have := size_l x; have := sizeL_mem hy; omega) (fitL_mem hf y hy) (by have := bulkL_mem hy; rw [bulk_eq] at hb; omega)
theorem vText_any (x : GV) (fx : x.fit) (hb : x.bulk ≤ 1099511627776) : TextC 17 vtext x := vText_all x.size x (Nat.le_refl _) fx hb
end Go.Proofs.YtkpfaeodgjbodaaGreatDoor
