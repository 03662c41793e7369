/-
  Plain facts for the walk of CodeExact: what is compiled fits; code that a call has made may be written over. Conditions: none.
-/
import Derived.Test.YtljljhjdlicfeaaCompile
import Derived.Test.YtljljhjdlicfeaaNE
namespace Go.Proofs.Ytljljhjdlicfeaa
open Go Go.RowKit
set_option maxRecDepth 100000
set_option linter.unusedVariables false
theorem noV_fit : noV.fit := by simp [noV, GV.fit, fitL]
def fitG (y : GI) : Prop := y.v.fit ∧ y.s.size ≤ 2147483647
theorem gi_fit (op arg : Int) : fitG (gi op arg ByteArray.empty noV) := ⟨noV_fit, by simp [gi]⟩
theorem giT_fit {t : ByteArray} (h : t.size ≤ 2147483647) (op arg : Int) : fitG (gi op arg t noV) := ⟨noV_fit, h⟩
mutual
theorem compE_fit : ∀ (x : GE) (m : Nat), x.fit → ∀ y ∈ compE x m, fitG y
  | ⟨op, text, v, args⟩, m, h, y, hy => by
    obtain ⟨_, _, h3, h4, h5, h6⟩ := fitE_open h
    have h1 := compTwo_fit args op m h6
    have h2 := compEs_fit args m h6
    simp only [compE] at hy
    split at hy
    · simp only [List.mem_singleton] at hy; subst hy; exact ⟨h4, by simp [gi]⟩
    split at hy
    · simp only [List.mem_singleton] at hy; subst hy; exact giT_fit h3 _ _
    split at hy
    · simp only [List.mem_singleton] at hy; subst hy; exact giT_fit h3 _ _
    split at hy
    · exact h1 y hy
    · rcases List.mem_append.1 hy with hy | hy
      · exact h2 y hy
      · simp only [List.mem_singleton] at hy
        subst hy
        split
        · exact giT_fit h3 _ _
        split
        · exact gi_fit _ _
        · exact gi_fit _ _
theorem compTwo_fit : ∀ (l : List GE) (op : Int) (m : Nat), fitE l → ∀ y ∈ compTwo l op m, fitG y
  | [], op, m, _, y, hy => by simp [compTwo] at hy
  | x :: r, op, m, h, y, hy => by
    simp only [fitE] at h
    simp only [compTwo, List.mem_append, List.mem_singleton] at hy
    rcases hy with (hy | hy) | hy
    · exact compE_fit x _ h.1 y hy
    · subst hy; exact gi_fit _ _
    · exact compLast_fit r _ _ h.2 y hy
theorem compLast_fit : ∀ (l : List GE) (op : Int) (m : Nat), fitE l → ∀ y ∈ compLast l op m, fitG y
  | [], op, m, _, y, hy => by simp [compLast] at hy
  | x :: r, op, m, h, y, hy => by
    simp only [fitE] at h
    simp only [compLast, List.mem_cons, List.mem_append, List.not_mem_nil, or_false] at hy
    rcases hy with hy | hy | hy
    · subst hy; exact gi_fit _ _
    · exact compE_fit x _ h.1 y hy
    · subst hy; exact gi_fit _ _
theorem compEs_fit : ∀ (l : List GE) (m : Nat), fitE l → ∀ y ∈ compEs l m, fitG y
  | [], m, _, y, hy => by simp [compEs] at hy
  | x :: r, m, h, y, hy => by
    simp only [fitE] at h
    simp only [compEs, List.mem_append] at hy
    rcases hy with hy | hy
    · exact compE_fit x _ h.1 y hy
    · exact compEs_fit r _ h.2 y hy
end
theorem codeOf_fit (x : GE) (fx : x.fit) : fitI (codeOf x) := by
  unfold codeOf
  split
  · exact compE_fit x 0 fx
  · intro y hy; simp at hy
theorem codeOf_len (x : GE) : (codeOf x).length ≤ 12288 := by
  unfold codeOf
  split
  · rename_i hm
    have h1 := (mayC_true x 1 0 hm).2
    have h2 := mayC_le x 1 0 hm
    have := compE_len x 0
    omega
  · simp
end Go.Proofs.Ytljljhjdlicfeaa
