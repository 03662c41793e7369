/-
  What code.Text tells of instructions, over what value.Text tells of values. Conditions: texts shorter than 2^31, the whole shorter than 2^46.
-/
import Derived.Test.YtnmolgmchoihmaaDoorReach
import Derived.Test.YtnmolgmchoihmaaDoorShelf
import Derived.Test.YtnmolgmchoihmaaDoorShelfB
import Derived.Lib.ItoaLen
import Derived.Deep.RegionLaw
namespace Go.Proofs.YtnmolgmchoihmaaDoor
open Go Go.RowKit
set_option maxRecDepth 100000
set_option linter.unusedVariables false
/-- the table that strconv reads lies as the program's text lays it -/
def tabOk (w : World) : Prop := Lib.TabIs Tryd.prog w "internal/strconv.uint64pow10" .u64 Lib.pow10Tab
def itoaB (n : Int) : ByteArray := ⟨(Lib.itoa n).toArray⟩
theorem itoaB_size (n : Int) (h0 : -9223372036854775808 ≤ n) (h1 : n ≤ 9223372036854775807) : (itoaB n).size ≤ 21 := by
  have := Lib.itoa_length_le n h0 h1
  simpa [itoaB, ByteArray.size] using this
theorem pow_glob : ∃ g, Tryd.prog.globalNamed "internal/strconv.uint64pow10" = some g := Option.isSome_iff_exists.1 (by kernel_rfl)
theorem tabOk_below {w w' : World} (h : tabOk w) (hb : Below w.heap.size w w') : tabOk w' := by
  obtain ⟨g, hg⟩ := pow_glob
  unfold tabOk Lib.TabIs World.var? at *
  rw [hg] at h ⊢
  simp only [Option.bind_some] at h ⊢
  have hlt : g < w.heap.size := by
    cases e : w.heap[g]? with
    | none => rw [e] at h; cases h
    | some o => exact (Array.getElem?_eq_some_iff.1 e).1
  rw [hb.block g hlt]
  exact h
theorem below_grown {w : World} (k : Nat) (os : Array Obj) : Below w.heap.size w (Go.Sort.grow (w.drewN k) os) := below_regrown w (w.drawn + k) os
theorem itoa_any (n : Int) (h0 : -9223372036854775808 ≤ n) (h1 : n ≤ 9223372036854775807) (w : World) (ht : tabOk w) :
    Calls Tryd.prog 36 #[.int .i64 n] w fun e w' => e = .returned (.string (itoaB n)) ∧ Below w.heap.size w w' := by
  refine (Tryd.strconv_Itoa n h0 h1 w ht).mono ?_
  rintro e w' ⟨rfl, k, os, rfl⟩
  exact ⟨rfl, below_grown k os⟩
theorem builder_below {T e : TypeId} {B b : Nat} {bs : List Value} {w w' : World} (h : Lib.IsBuilderF T e B b bs w) (hb : Below w.heap.size w w') : Lib.IsBuilderF T e B b bs w' := by
  have key : ∀ p, Lib.BuilderAtF T e B b p bs w → Lib.BuilderAtF T e B b p bs w' := by
    rintro p ⟨h1, v, h2, ⟨h3, h4⟩, h5⟩
    have hlt := (Array.getElem?_eq_some_iff.1 h2).1
    refine ⟨h1, v, by rw [hb.block b hlt]; exact h2, ⟨h3, ?_⟩, h5⟩
    rcases h4 with h4 | ⟨g, cap, cur, fz, e1, e2, e3, r⟩
    · exact .inl h4
    · have hlt2 := (Array.getElem?_eq_some_iff.1 e3).1
      exact .inr ⟨g, cap, cur, fz, e1, e2, by rw [hb.block g hlt2]; exact e3, r⟩
  exact h.elim (fun x => .inl (key _ x)) (fun x => .inr (key _ x))

/-- one instruction's line; the text -/
def lineI (vt : GV → ByteArray) (x : GI) : ByteArray := itoaB x.op ++ ⟨#[32]⟩ ++ itoaB x.arg ++ ⟨#[32]⟩ ++ x.s ++ ⟨#[32]⟩ ++ (if x.op = 0 then vt x.v else ⟨#[]⟩) ++ ⟨#[10]⟩
def textI (vt : GV → ByteArray) : List GI → List UInt8
  | [] => []
  | x :: r => (lineI vt x).data.toList ++ textI vt r
theorem textI_take (vt : GV → ByteArray) (l : List GI) (k : Nat) (hk : k < l.length) : textI vt (l.take (k + 1)) = textI vt (l.take k) ++ (lineI vt l[k]).data.toList := by
  induction l generalizing k with
  | nil => simp at hk
  | cons x r ih =>
    cases k with
    | zero => simp [textI]
    | succ k => simp [textI, ih k (by simpa using hk)]
theorem textI_le (vt : GV → ByteArray) (l : List GI) (k : Nat) : (textI vt (l.take k)).length ≤ (textI vt l).length := by
  induction l generalizing k with
  | nil => simp
  | cons x r ih =>
    cases k with
    | zero => simp [textI]
    | succ k => simp [textI]; exact ih k
/-- the instructions' numbers are int64s, their values' texts are short -/
def fitT (vt : GV → ByteArray) (l : List GI) : Prop := ∀ x ∈ l, -9223372036854775808 ≤ x.op ∧ x.op ≤ 9223372036854775807 ∧ -9223372036854775808 ≤ x.arg ∧ x.arg ≤ 9223372036854775807 ∧ (x.op = 0 → (vt x.v).size ≤ 1099511627776)
/-- value.Text tells vt -/
def TextC (f : FuncId) (vt : GV → ByteArray) (x : GV) : Prop := ∀ (s : Value) (w : World) (B : Nat), B ≤ w.heap.size → tabOk w → isL w 0 B s x.l →
  Calls Tryd.prog f #[x.agg s] w fun e w' => e = .returned (.string (vt x)) ∧ Below w.heap.size w w'
/-- what stands while a line is made: the builder, the instruction's box, the table -/
structure LineW (w : World) (bx : Nat) (cs : Array Value) (bs : List Value) (w' : World) : Prop where
  below : Below w.heap.size w w'
  size : bx < w'.heap.size
  box : w'.heap[bx]? = some (.cells cs 40 (0, 0))
  bld : Lib.IsBuilderF 73 5 w.heap.size w.heap.size bs w'
  tab : tabOk w'
theorem LineW.on {w w1 w2 : World} {bx : Nat} {cs : Array Value} {bs : List Value} (h : LineW w bx cs bs w1) (hb : Below w1.heap.size w1 w2) : LineW w bx cs bs w2 :=
  ⟨below_down h.below hb (Nat.le_refl _), Nat.lt_of_lt_of_le h.size hb.size, by rw [hb.block bx h.size]; exact h.box, builder_below h.bld hb, tabOk_below h.tab hb⟩
theorem LineW.drew {w w1 : World} {bx : Nat} {cs : Array Value} {bs : List Value} (h : LineW w bx cs bs w1) : LineW w bx cs bs w1.drew := h.on (Below.refl _ _).drew
set_option maxHeartbeats 3200000 in
theorem Text_any (vt : GV → ByteArray) (l : List GI) (hl : l.length ≤ 2147483646) (fl : fitI l) (ft : fitT vt l) (hv : ∀ x ∈ l, x.op = 0 → TextC 34 vt x.v) (hlen : (textI vt l).length ≤ 70368744177664)
    (s : Value) (w : World) (B : Nat) (hB : B ≤ w.heap.size) (ht : tabOk w) (hs : isI w B s l) :
    Calls Tryd.prog 20 #[s] w fun e w' => e = .returned (.string ⟨(textI vt l).toArray⟩) ∧ Below w.heap.size w w' := by
  obtain ⟨a, c, b, off, rfl, hc, ha, hA⟩ := hs
  have HA := Lib.hid hA
  have Ha := Lib.hid ha
  have HFL := Lib.hid fl
  have HFT := Lib.hid ft
  have HV := Lib.hid hv
  have HT := Lib.hid ht
  clear hA ha fl ft hv ht
  go_enter Tryd.func20, Tryd.ntmps20
  go_wp2_with fail
  go_loopw [9] (fun i wr => ∃ k : Nat, k ≤ l.length ∧ i = .int .i64 k ∧ Below w.heap.size w wr ∧ w.heap.size + 1 ≤ wr.heap.size ∧ Hid (Lib.IsBuilderF 73 5 w.heap.size w.heap.size (Lib.byteCells (textI vt (l.take k))) wr)) (fun i _ => l.length - (intOf i).toNat)
  case atStart => exact ⟨0, Nat.zero_le _, rfl, (Below.refl w.heap.size w).alloc (Nat.le_refl _) _, by simp, Lib.IsBuilderF.of (Lib.fresh_isBuilder _ _ w)⟩
  case round =>
    obtain ⟨k, hk, rfl, hbel, hsz, hI⟩ := hrel
    by_cases hlt : k < l.length
    rotate_left
    · have hfin := hI.out
      rw [List.take_of_length_le (by omega)] at hfin
      have HF := Lib.hid hfin
      have HB := Lib.hid hbel
      clear hfin hbel hI
      go_wp2_with fail
      refine (Tryd.Builder_String_any_k w.heap.size w.heap.size _ _ HF.out (by omega)).mono ?_
      rintro e w2 ⟨rfl, _, hb2, _⟩
      go_wp2_with fail
      go_ret
      exact ⟨rfl, HB.out.trans hb2⟩
    obtain ⟨rfl, hb2⟩ := Ha.out (by omega)
    obtain ⟨ax, cx, x0, x1, x2, x3, x4, x5, x6, x7, hsx⟩ := HA.out k hlt
    have hg : ∀ o, wr.cell? ⟨b, o, none⟩ = w.cell? ⟨b, o, none⟩ := fun o => hbel.cell (p := ⟨b, o, none⟩) (Nat.lt_of_lt_of_le hb2 hB)
    have hzb : b < wr.heap.size := by omega
    have HSX := Lib.hid hsx
    clear hsx Ha
    have hLW : LineW w wr.heap.size #[.int .i64 l[k].op, .int .i64 l[k].arg, .string l[k].s, .int .i64 l[k].v.k, .bool l[k].v.b, .int .i64 l[k].v.n, .string l[k].v.t, .slice ax l[k].v.l.length cx] (Lib.byteCells (textI vt (l.take k))) (wr.alloc (.cells #[.int .i64 l[k].op, .int .i64 l[k].arg, .string l[k].s, .int .i64 l[k].v.k, .bool l[k].v.b, .int .i64 l[k].v.n, .string l[k].v.t, .slice ax l[k].v.l.length cx] 40)) := by
      have hb := (Below.refl wr.heap.size wr).alloc (Nat.le_refl _) (.cells #[.int .i64 l[k].op, .int .i64 l[k].arg, .string l[k].s, .int .i64 l[k].v.k, .bool l[k].v.b, .int .i64 l[k].v.n, .string l[k].v.t, .slice ax l[k].v.l.length cx] 40)
      exact ⟨below_down hbel hb (Nat.le_refl _), by simp, heap_last, builder_below hI.out hb, tabOk_below (tabOk_below HT.out (hbel.mono (by omega))) hb⟩
    have HLW := Lib.hid hLW
    have hso := itoaB_size l[k].op (HFT.out _ (List.getElem_mem hlt)).1 (HFT.out _ (List.getElem_mem hlt)).2.1
    have hsa := itoaB_size l[k].arg (HFT.out _ (List.getElem_mem hlt)).2.2.1 (HFT.out _ (List.getElem_mem hlt)).2.2.2.1
    have hss := (HFL.out _ (List.getElem_mem hlt)).2
    have HIO : ∀ w', tabOk w' → Calls Tryd.prog 36 #[.int .i64 l[k].op] w' fun e w2 => e = .returned (.string (itoaB l[k].op)) ∧ Below w'.heap.size w' w2 := fun w' h => itoa_any _ (HFT.out _ (List.getElem_mem hlt)).1 (HFT.out _ (List.getElem_mem hlt)).2.1 w' h
    have HIA : ∀ w', tabOk w' → Calls Tryd.prog 36 #[.int .i64 l[k].arg] w' fun e w2 => e = .returned (.string (itoaB l[k].arg)) ∧ Below w'.heap.size w' w2 := fun w' h => itoa_any _ (HFT.out _ (List.getElem_mem hlt)).2.2.1 (HFT.out _ (List.getElem_mem hlt)).2.2.2.1 w' h
    have HIO := Lib.hid HIO
    have HIA := Lib.hid HIA
    have HLEN : Hid ((Lib.byteCells (textI vt (l.take k))).length + (lineI vt l[k]).size ≤ 140737488355328) := by
      have h := textI_le vt l (k + 1)
      rw [textI_take vt l k hlt, List.length_append] at h
      have e : (lineI vt l[k]).data.toList.length = (lineI vt l[k]).size := Array.length_toList
      rw [Hid, Lib.byteCells_length]
      omega
    cases h0 : (l[k].op == 0)
    · have HLINE : Hid (lineI vt l[k] = itoaB l[k].op ++ { data := #[32] } ++ itoaB l[k].arg ++ { data := #[32] } ++ l[k].s ++ { data := #[32] } ++ { data := #[] } ++ { data := #[10] }) := by
        rw [Hid, lineI, if_neg (by simpa using h0)]
      have n0 : ¬ (9223372036854775807 < (itoaB l[k].op).size + 1) := by omega
      have n1 : ¬ (9223372036854775807 < (itoaB l[k].op).size + 1 + (itoaB l[k].arg).size) := by omega
      have n2 : ¬ (9223372036854775807 < (itoaB l[k].op).size + 1 + (itoaB l[k].arg).size + 1) := by omega
      have n3 : ¬ (9223372036854775807 < (itoaB l[k].op).size + 1 + (itoaB l[k].arg).size + 1 + l[k].s.size) := by omega
      have n4 : ¬ (9223372036854775807 < (itoaB l[k].op).size + 1 + (itoaB l[k].arg).size + 1 + l[k].s.size + 1) := by omega
      have n5 : ¬ (9223372036854775807 < (itoaB l[k].op).size + 1 + (itoaB l[k].arg).size + 1 + l[k].s.size + 1 + 1) := by omega
      go_wp2_with fail
      obtain ⟨w5, hw5⟩ : ∃ w5, w5 = wr.alloc (.cells #[.int .i64 l[k].op, .int .i64 l[k].arg, .string l[k].s, .int .i64 l[k].v.k, .bool l[k].v.b, .int .i64 l[k].v.n, .string l[k].v.t, .slice ax l[k].v.l.length cx] 40) := ⟨_, rfl⟩
      rw [← hw5] at HLW ⊢
      clear hLW hw5
      have q5 := fun o => cell_of HLW.out.box o
      have HLD := Lib.hid HLW.out.drew
      go_region_law (first
        | (go_simp
           go_at_call 36
           first
             | refine (HIO.out _ HLD.out.tab).mono ?_
             | refine (HIA.out _ HLD.out.tab).mono ?_
           rintro e w6 ⟨rfl, hb6⟩
           have HLD := Lib.hid (HLD.out.on hb6)
           have q6 := fun o => cell_of HLD.out.box o
           clear hb6)
        | (go_simp
           go_at_call 35
           refine (Tryd.BuilderB_WriteString w.heap.size w.heap.size _ _ _ HLD.out.bld (by rw [← HLINE.out]; exact HLEN.out) HLD.out.below.size).mono ?_
           rintro e w7 ⟨rfl, hbt, hb7, _⟩
           have HB7 := Lib.hid (And.intro (HLD.out.below.trans hb7) (And.intro hbt (show w.heap.size + 1 ≤ w7.heap.size from by have h1 := HLD.out.size; have h2 := hb7.size; omega)))
           clear hbt hb7))
      all_goals
        go_wp2_with fail
        go_roundw
        case rel =>
          refine ⟨k + 1, by omega, by go_num, HB7.out.1, HB7.out.2.2, ?_⟩
          have h := HB7.out.2.1
          rw [← HLINE.out] at h
          rw [Hid, textI_take vt l k hlt, Lib.byteCells_append]
          exact .inr h
        case measure => simp [intOf]; omega
    · have HLINE : Hid (lineI vt l[k] = itoaB l[k].op ++ { data := #[32] } ++ itoaB l[k].arg ++ { data := #[32] } ++ l[k].s ++ { data := #[32] } ++ vt l[k].v ++ { data := #[10] }) := by
        rw [Hid, lineI, if_pos (by simpa using h0)]
      have hvs := (HFT.out _ (List.getElem_mem hlt)).2.2.2.2 (by simpa using h0)
      have n0 : ¬ (9223372036854775807 < (itoaB l[k].op).size + 1) := by omega
      have n1 : ¬ (9223372036854775807 < (itoaB l[k].op).size + 1 + (itoaB l[k].arg).size) := by omega
      have n2 : ¬ (9223372036854775807 < (itoaB l[k].op).size + 1 + (itoaB l[k].arg).size + 1) := by omega
      have n3 : ¬ (9223372036854775807 < (itoaB l[k].op).size + 1 + (itoaB l[k].arg).size + 1 + l[k].s.size) := by omega
      have n4 : ¬ (9223372036854775807 < (itoaB l[k].op).size + 1 + (itoaB l[k].arg).size + 1 + l[k].s.size + 1) := by omega
      have n5 : ¬ (9223372036854775807 < (itoaB l[k].op).size + 1 + (itoaB l[k].arg).size + 1 + l[k].s.size + 1 + (vt l[k].v).size) := by omega
      have n6 : ¬ (9223372036854775807 < (itoaB l[k].op).size + 1 + (itoaB l[k].arg).size + 1 + l[k].s.size + 1 + (vt l[k].v).size + 1) := by omega
      have HV0 := Lib.hid (HV.out _ (List.getElem_mem hlt) (by simpa using h0))
      go_wp2_with fail
      refine (HV0.out _ _ B (Nat.le_trans hB HLW.out.below.size) HLW.out.tab (isL_below HSX.out HLW.out.below hB)).mono ?_
      rintro e w5 ⟨rfl, hb5⟩
      have HLW := Lib.hid (HLW.out.on hb5)
      clear hLW hb5
      go_wp2_with fail
      have q5 := fun o => cell_of HLW.out.box o
      have HLD := Lib.hid HLW.out.drew
      go_region_law (first
        | (go_simp
           go_at_call 36
           first
             | refine (HIO.out _ HLD.out.tab).mono ?_
             | refine (HIA.out _ HLD.out.tab).mono ?_
           rintro e w6 ⟨rfl, hb6⟩
           have HLD := Lib.hid (HLD.out.on hb6)
           have q6 := fun o => cell_of HLD.out.box o
           clear hb6)
        | (go_simp
           go_at_call 35
           refine (Tryd.BuilderB_WriteString w.heap.size w.heap.size _ _ _ HLD.out.bld (by rw [← HLINE.out]; exact HLEN.out) HLD.out.below.size).mono ?_
           rintro e w7 ⟨rfl, hbt, hb7, _⟩
           have HB7 := Lib.hid (And.intro (HLD.out.below.trans hb7) (And.intro hbt (show w.heap.size + 1 ≤ w7.heap.size from by have h1 := HLD.out.size; have h2 := hb7.size; omega)))
           clear hbt hb7))
      all_goals
        go_wp2_with fail
        go_roundw
        case rel =>
          refine ⟨k + 1, by omega, by go_num, HB7.out.1, HB7.out.2.2, ?_⟩
          have h := HB7.out.2.1
          rw [← HLINE.out] at h
          rw [Hid, textI_take vt l k hlt, Lib.byteCells_append]
          exact .inr h
        case measure => simp [intOf]; omega
end Go.Proofs.YtnmolgmchoihmaaDoor
