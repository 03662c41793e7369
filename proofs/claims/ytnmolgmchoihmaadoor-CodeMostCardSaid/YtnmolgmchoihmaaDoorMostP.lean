/-
  Plain words on the greatest expressions: a chain of nots, a list of literals; and how memory holds them. Conditions: none.
-/
import Derived.Test.YtnmolgmchoihmaaDoorCompile
import Derived.Test.YtnmolgmchoihmaaDoorKept
namespace Go.Proofs.YtnmolgmchoihmaaDoor
open Go Go.RowKit
set_option maxRecDepth 100000
set_option linter.unusedVariables false
def lit0 : GE := ⟨1, ⟨#[]⟩, zeroV, []⟩
def chain : Nat → GE
  | 0 => lit0
  | k + 1 => ⟨7, ⟨#[]⟩, zeroV, [chain k]⟩
def big (n : Nat) : GE := ⟨5, ⟨#[]⟩, zeroV, List.replicate n lit0⟩
theorem chain_yes : emay (chain 29) = true := by kernel_rfl
theorem chain_no : emay (chain 30) = false := by kernel_rfl
theorem lit0_ok : nodeOk lit0 = true := by kernel_rfl
theorem lits_yes : ∀ (k n : Nat), n + k ≤ 4096 → maysC (List.replicate k lit0) 2 n = (true, n + k)
  | 0, n, _ => by simp [maysC]
  | k + 1, n, h => by
    have e : mayC lit0 2 n = (true, n + 1) := by
      rw [mayC_eq, if_neg (by rw [lit0_ok]; simp; omega)]; rfl
    rw [List.replicate_succ, maysC, e, if_pos rfl]
    dsimp only
    rw [lits_yes k (n + 1) (by omega)]
    congr 1
    omega
theorem lits_no : ∀ (k n : Nat), n ≤ 4096 → 4096 < n + k → (maysC (List.replicate k lit0) 2 n).1 = false
  | 0, n, h, h' => by omega
  | k + 1, n, h, h' => by
    rw [List.replicate_succ, maysC]
    by_cases hn : n + 1 ≤ 4096
    · have e : mayC lit0 2 n = (true, n + 1) := by
        rw [mayC_eq, if_neg (by rw [lit0_ok]; simp; omega)]; rfl
      rw [e, if_pos rfl]
      exact lits_no k (n + 1) hn (by omega)
    · have e : mayC lit0 2 n = (false, n + 1) := by
        rw [mayC_eq, if_pos (.inl (by omega))]
      rw [e, if_neg (by simp)]
theorem big_node (n : Nat) (hn : n ≤ 4096) : nodeOk (big n) = true := by
  have hv : same zeroV zeroV = true := (same_iff _ _).2 rfl
  have e0 : ({ data := #[] } : ByteArray).toList = [] := by rw [toList_nil]; rfl
  simp [nodeOk, big, hv, e0, hn]
theorem big_yes : emay (big 4095) = true := by
  rw [emay, mayC_eq, if_neg (by rw [big_node _ (by omega)]; simp)]
  show (maysC (List.replicate 4095 lit0) 2 1).1 = true
  rw [lits_yes _ _ (by omega)]
theorem big_no : emay (big 4096) = false := by
  rw [emay, mayC_eq, if_neg (by rw [big_node _ (by omega)]; simp)]
  exact lits_no 4096 1 (by omega) (by omega)
theorem lit0_fit : lit0.fit := by
  simp only [lit0, GE.fit, fitE]
  exact ⟨by omega, by omega, by decide, zeroV_fit, by simp, trivial⟩
theorem chain_fit : ∀ k, (chain k).fit
  | 0 => lit0_fit
  | k + 1 => by
    simp only [chain, GE.fit, fitE]
    exact ⟨by omega, by omega, by decide, zeroV_fit, by simp, chain_fit k, trivial⟩
theorem lits_fit : ∀ n, fitE (List.replicate n lit0)
  | 0 => trivial
  | n + 1 => by rw [List.replicate_succ]; exact ⟨lit0_fit, lits_fit n⟩
theorem big_fit (n : Nat) (hn : n ≤ 2147483647) : (big n).fit := by
  simp only [big, GE.fit]
  exact ⟨by omega, by omega, by decide, zeroV_fit, by simpa using hn, lits_fit n⟩
theorem chain_v (k : Nat) : (chain k).v = zeroV := by cases k <;> rfl

/-! ### memory -/
/-- one expression in a block of its own -/
theorem isE_one {w : World} {S : Nat → Prop} {g : Nat} {T : TypeId} {x : GE} {sa : Value} {cs : Array Value} (h : w.heap[g]? = some (.cells cs T (0, 0)))
    (e : cs = #[.int .i64 x.op, .string x.text, .int .i64 x.v.k, .bool x.v.b, .int .i64 x.v.n, .string x.v.t, .slice none 0 0, sa]) (hv : x.v.l = []) (hS : S g) (ha : isE w S noRoom noRoom sa x.args) :
    isE w S noRoom noRoom (.slice (some ⟨g, 0, none⟩) 1 1) [x] := by
  subst e
  have q := fun o => cell_of h o
  refine isE_mk (l := [x]) (cap := 1) (b := g) (off := 0) (by simp) trivial (fun _ => ⟨rfl, hS⟩) ?_
  intro i hi
  have hi' : i = 0 := by simp at hi; omega
  subst hi'
  refine cellsE_mk (s := .slice none 0 0) (sa := sa) ((q _).trans rfl) ((q _).trans rfl) ((q _).trans rfl) ((q _).trans rfl) ((q _).trans rfl) ((q _).trans rfl) ((q _).trans rfl) ((q _).trans rfl) ?_ ha
  show isS w S noRoom _ x.v.l
  rw [hv]
  exact ⟨none, 0, rfl, Nat.zero_le _, trivial, fun h => by simp at h⟩
def litC : List Value := [.int .i64 1, .string { data := #[] }, .int .i64 0, .bool false, .int .i64 0, .string { data := #[] }, .slice none 0 0, .slice none 0 0]
def repC : Nat → List Value
  | 0 => []
  | n + 1 => litC ++ repC n
theorem repC_snoc : ∀ n, repC n ++ litC = repC (n + 1)
  | 0 => by simp [repC]
  | n + 1 => by rw [repC, List.append_assoc, repC_snoc n]; rfl
theorem repC_length : ∀ n, (repC n).length = n * 8
  | 0 => rfl
  | n + 1 => by rw [repC, List.length_append, repC_length n]; simp [litC]; omega
theorem repC_get : ∀ (n j i : Nat), j < n → i < 8 → (repC n)[j * 8 + i]? = litC[i]?
  | n + 1, 0, i, _, hi => by rw [repC, List.getElem?_append_left (by simp [litC]; omega)]; simp
  | n + 1, j + 1, i, hj, hi => by
    rw [repC, List.getElem?_append_right (by simp [litC]; omega)]
    rw [show (j + 1) * 8 + i - litC.length = j * 8 + i from by simp [litC]; omega]
    exact repC_get n j i (by omega) hi
/-- a row whose cells are literals reads as that many of them -/
theorem isE_lits {w : World} {S : Nat → Prop} {g n N cap : Nat} (hN : n ≤ N) (hc : n ≤ cap) (hS : S g) (h : ∀ j u, (repC N)[j]? = some u → w.cell? ((⟨g, 0, none⟩ : Addr).add j) = some u) :
    isE w S noRoom noRoom (.slice (some ⟨g, 0, none⟩) n cap) (List.replicate n lit0) := by
  have hl : (List.replicate n lit0).length = n := by simp
  have key : isE w S noRoom noRoom (.slice (some ⟨g, 0, none⟩) (List.replicate n lit0).length cap) (List.replicate n lit0) := by
    refine isE_mk (b := g) (off := 0) (by rw [hl]; exact hc) trivial (fun _ => ⟨rfl, hS⟩) ?_
    intro i hi
    have hi' : i < n := by rw [hl] at hi; exact hi
    have c : ∀ o u, o < 8 → litC[o]? = some u → w.cell? ⟨g, 0 + i * 8 + o, none⟩ = some u := fun o u ho hu => by
      have := h (i * 8 + o) u ((repC_get N i o (by omega) ho).trans hu)
      rw [Addr.add_lit, ← Nat.add_assoc] at this
      exact this
    rw [List.getElem_replicate]
    exact cellsE_mk (s := .slice none 0 0) (sa := .slice none 0 0) (c 0 _ (by omega) rfl) (c 1 _ (by omega) rfl) (c 2 _ (by omega) rfl) (c 3 _ (by omega) rfl) (c 4 _ (by omega) rfl) (c 5 _ (by omega) rfl) (c 6 _ (by omega) rfl) (c 7 _ (by omega) rfl)
      ⟨none, 0, rfl, Nat.zero_le _, trivial, fun h => by simp [lit0, zeroV] at h⟩ ⟨none, 0, rfl, Nat.zero_le _, trivial, fun h => by simp [lit0] at h⟩
  rwa [hl] at key
end Go.Proofs.YtnmolgmchoihmaaDoor
