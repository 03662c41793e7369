/-
  The values of ValueEnds: the longest list, the longest text, lists in one another; what Apply and Check tell of them. Conditions: none.
-/
import Derived.Test.YtaclkegoaajdgaaDoorMQ
import Derived.Laws.MakeOwn
namespace Go.Proofs.YtaclkegoaajdgaaDoor
open Go Go.RowKit
set_option maxRecDepth 100000
set_option linter.unusedVariables false
def nullG : GV := ⟨0, false, 0, ⟨#[]⟩, []⟩
def rowG (l : List GV) : GV := ⟨4, false, 0, ⟨#[]⟩, l⟩
def textG (t : ByteArray) : GV := ⟨3, false, 0, t, []⟩
def nestG : Nat → GV
  | 0 => rowG []
  | n + 1 => rowG [nestG n]
theorem empty_list : ({ data := #[] } : ByteArray).toList = [] := toList_nil.2 rfl
theorem null_chk (d : Nat) : chk nullG d = true := by
  simp [chk_eq, nullG, chkFlat]
theorem nulls_chk (d : Nat) : ∀ n, chkL (List.replicate n nullG) d = true
  | 0 => by simp [chkL]
  | n + 1 => by rw [List.replicate_succ]; simp [chkL, null_chk, nulls_chk d n]
theorem row_chk (l : List GV) (d : Nat) (hl : l.length ≤ 4096) : chk (rowG l) d = (decide (d < 30) && chkL l (d + 1)) := by
  rw [chk_eq]
  simp [rowG, chkFlat, hl]
theorem rowN_may (n : Nat) (h : n ≤ 4096) : vmay (rowG (List.replicate n nullG)) = true := by
  unfold vmay
  rw [row_chk _ _ (by simpa using h), nulls_chk]; rfl
theorem text_may (t : ByteArray) (h : t.size ≤ 65536) : vmay (textG t) = true := by
  simp [vmay, chk_eq, textG, chkFlat, h]
theorem nest_chk : ∀ (n d : Nat), chk (nestG n) d = decide (d + n < 30)
  | 0, d => by
    rw [nestG, row_chk _ _ (by simp)]; simp [chkL]
  | n + 1, d => by
    rw [nestG, row_chk _ _ (by simp)]
    simp only [chkL, nest_chk n (d + 1), Bool.and_true]
    rw [Bool.eq_iff_iff]
    simp; omega
theorem nest_may : vmay (nestG 29) = true := by unfold vmay; rw [nest_chk]; rfl
theorem nest_not : vmay (nestG 30) = false := by unfold vmay; rw [nest_chk]; rfl
theorem null_fit : nullG.fit := by
  simp only [nullG, GV.fit]
  exact ⟨by omega, by omega, by omega, by omega, by decide, by simp, trivial⟩
theorem nulls_fit : ∀ n, fitL (List.replicate n nullG)
  | 0 => trivial
  | n + 1 => by rw [List.replicate_succ]; exact ⟨null_fit, nulls_fit n⟩
theorem row_fit {l : List GV} (h : l.length ≤ 2147483647) (hl : fitL l) : (rowG l).fit := by
  simp only [rowG, GV.fit]
  exact ⟨by omega, by omega, by omega, by omega, by decide, h, hl⟩
theorem text_fit {t : ByteArray} (h : t.size ≤ 2147483647) : (textG t).fit := by
  simp only [textG, GV.fit]
  exact ⟨by omega, by omega, by omega, by omega, h, by simp, trivial⟩
theorem nest_fit : ∀ n, (nestG n).fit
  | 0 => row_fit (by simp) trivial
  | n + 1 => row_fit (by simp) ⟨nest_fit n, trivial⟩
theorem empty_size : ({ data := #[] } : ByteArray).size = 0 := rfl
theorem plus_rows (a b : Nat) (ha : a ≤ 4096) (hb : b ≤ 4096) : (appP 2 plusP [rowG (List.replicate a nullG), rowG (List.replicate b nullG)]).2 = if a + b ≤ 4096 then 0 else 2 := by
  rw [app2 (rowN_may a ha) (rowN_may b hb)]
  by_cases h : a + b ≤ 4096
  · rw [show (if a + b ≤ 4096 then (0 : Int) else 2) = 0 from if_pos h]
    simp [plusP, rowG, h, empty_size]
  · rw [show (if a + b ≤ 4096 then (0 : Int) else 2) = 2 from if_neg h]
    simp [plusP, rowG, h, noP, empty_size]
theorem plus_texts (a b : ByteArray) (ha : a.size ≤ 65536) (hb : b.size ≤ 65536) : (appP 2 plusP [textG a, textG b]).2 = if a.size + b.size ≤ 65536 then 0 else 2 := by
  rw [app2 (text_may a ha) (text_may b hb)]
  by_cases h : a.size + b.size ≤ 65536
  · rw [show (if a.size + b.size ≤ 65536 then (0 : Int) else 2) = 0 from if_pos h]
    simp [plusP, textG, h]
  · rw [show (if a.size + b.size ≤ 65536 then (0 : Int) else 2) = 2 from if_neg h]
    simp [plusP, textG, h, noP]
/-- what make gives: a block of values, all of them null -/
theorem made_vals (n : Nat) (w : World) (hn : n ≤ 4096) : (Instr.makeSlice 22 (.int .i64 (n : Int)) (.int .i64 (n : Int))).run Tryd.prog w = .ok (.slice (some ⟨w.heap.size, 0, none⟩) n n) (w.alloc (.cells (madeCells (Value.agg #[.int .i64 0, .bool false, .int .i64 0, .string { data := #[] }, .slice none 0 0]).cells (n * 5)) 24)) := by
  obtain ⟨i0, hi, hz0, hz1, hz2⟩ := info_parts vinfo
  have h := run_make (P := Tryd.prog) w 22 24 i0 _ Tryd.underlying22 hi hz0 .i64 .i64 n n (by omega) (by omega) (by rw [hz2]; omega) (by omega)
  rw [h, hz1]
  rfl
theorem made_isL (n : Nat) (w : World) (g : Nat) (hg : w.heap[g]? = some (.cells (madeCells (Value.agg #[.int .i64 0, .bool false, .int .i64 0, .string { data := #[] }, .slice none 0 0]).cells (n * 5)) 24 (0, 0))) :
    isL w 0 (g + 1) (.slice (some ⟨g, 0, none⟩) n n) (List.replicate n nullG) := by
  have q := fun o => cell_of hg o
  have k : ∀ i j, i < n → j < 5 → w.cell? ⟨g, i * 5 + j, none⟩ = (#[.int .i64 0, .bool false, .int .i64 0, .string { data := #[] }, .slice none 0 0] : Array Value)[j]? := fun i j hi hj => by
    rw [q]
    have hlt : i * 5 + j < n * 5 := by omega
    simp only [madeCells, Value.cells, Array.getElem?_map, Array.getElem?_range, hlt, if_true, Option.map_some]
    have e : (i * 5 + j) % (#[.int .i64 0, .bool false, .int .i64 0, .string { data := #[] }, .slice none 0 0] : Array Value).size = j := by
      show (i * 5 + j) % 5 = j
      omega
    rw [e]
    match j, hj with
    | 0, _ => rfl
    | 1, _ => rfl
    | 2, _ => rfl
    | 3, _ => rfl
    | 4, _ => rfl
  have := isL_mk (w := w) (lo := 0) (hi := g + 1) (l := List.replicate n nullG) (a := some ⟨g, 0, none⟩) (cap := n) (b := g) (off := 0) (by simp) (fun _ => ⟨rfl, Nat.zero_le _, by omega⟩) (fun i hi => by
    have hi' : i < n := by simpa using hi
    rw [List.getElem_replicate, Nat.zero_add]
    exact cellsV_mk (s := .slice none 0 0) (k i 0 hi' (by omega)) (k i 1 hi' (by omega)) (k i 2 hi' (by omega)) (k i 3 hi' (by omega)) (k i 4 hi' (by omega)) (isL_nil none 0))
  rwa [List.length_replicate] at this
/-- a text of noughts -/
def zerosN (n : Nat) : ByteArray := ⟨(List.replicate n (0 : UInt8)).toArray⟩
theorem zerosN_size (n : Nat) : (zerosN n).size = n := by simp [zerosN, ByteArray.size]
/-- the longest text, out of a block of bytes -/
def zerosT : ByteArray := zerosN 65536
theorem zerosT_size : zerosT.size = 65536 := zerosN_size _
theorem byinfo : (Tryd.prog.info? 5).map (fun i => (i.zero, i.size, i.bytes)) = some (some (.int .u8 0), 1, 1) := by kernel_rfl
theorem made_bytes (w : World) : (Instr.makeSlice 30 (.int .i64 65536) (.int .i64 65536)).run Tryd.prog w = .ok (.slice (some ⟨w.heap.size, 0, none⟩) 65536 65536) (w.alloc (.cells (madeCells (Value.int .u8 0).cells 65536) 5)) := by
  obtain ⟨i0, hi, hz0, hz1, hz2⟩ := info_parts byinfo
  have h := run_make (P := Tryd.prog) w 30 5 i0 _ Tryd.underlying30 hi hz0 .i64 .i64 65536 65536 (by omega) (by omega) (by rw [hz2]; omega) (by omega)
  rw [h, hz1]
  rfl
theorem bytes_textN (n : Nat) (w : World) (g : Nat) (hg : w.heap[g]? = some (.cells (madeCells (Value.int .u8 0).cells n) 5 (0, 0))) : (convert 30 9 (.slice (some ⟨g, 0, none⟩) n n)).run Tryd.prog w = .ok (.string (zerosN n)) w := by
  have h := run_convert_bytes_back (P := Tryd.prog) w 30 9 5 ⟨g, 0, none⟩ n (List.replicate n (0 : UInt8)) Tryd.underlying30 Tryd.underlying5 Tryd.underlying9 fun j hj => by
    have hj' : j < n := by rw [List.length_replicate] at hj; exact hj
    rw [addr_add, Nat.zero_add, cell_of hg, List.getElem_replicate]
    simp only [madeCells, Value.cells, Array.getElem?_map, Array.getElem?_range, hj', if_true, Option.map_some]
    have e : j % (#[.int .u8 0] : Array Value).size = 0 := Nat.mod_one j
    rw [e]; rfl
  rw [List.length_replicate] at h
  exact h
theorem bytes_text (w : World) (g : Nat) (hg : w.heap[g]? = some (.cells (madeCells (Value.int .u8 0).cells 65536) 5 (0, 0))) : (convert 30 9 (.slice (some ⟨g, 0, none⟩) 65536 65536)).run Tryd.prog w = .ok (.string zerosT) w := bytes_textN 65536 w g hg
end Go.Proofs.YtaclkegoaajdgaaDoor
