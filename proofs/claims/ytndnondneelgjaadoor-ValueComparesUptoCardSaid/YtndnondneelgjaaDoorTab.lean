/-
  The table of the digits lies; numerals as texts; what value.Text is asked for. Conditions: none.
-/
import Derived.Test.YtndnondneelgjaaDoorChkL
import Derived.Test.YtndnondneelgjaaDoorShelf
import Derived.Lib.ItoaLen
import Derived.Lib.UnsafeStr
namespace Go.Proofs.YtndnondneelgjaaDoor
open Go Go.RowKit
set_option maxRecDepth 100000
set_option linter.unusedVariables false
/-- the table that strconv reads lies as the program's text lays it -/
def tabOk (w : World) : Prop := Lib.TabIs Tryd.prog w "internal/strconv.uint64pow10" .u64 Lib.pow10Tab
def itoaB (n : Int) : ByteArray := ⟨(Lib.itoa n).toArray⟩
theorem itoaB_size (n : Int) (h0 : -9223372036854775808 ≤ n) (h1 : n ≤ 9223372036854775807) : (itoaB n).size ≤ 21 := by
  have := Lib.itoa_length_le n h0 h1
  simpa [itoaB, ByteArray.size] using this
theorem pow_glob : ∃ g, Tryd.prog.globalNamed "internal/strconv.uint64pow10" = some g := Option.isSome_iff_exists.1 (by kernel_rfl)
theorem tabOk_below {w w' : World} (h : tabOk w) (hb : Below w.heap.size w w') : tabOk w' := by
  obtain ⟨g, hg⟩ := pow_glob
  unfold tabOk Lib.TabIs World.var? at *
  rw [hg] at h ⊢
  simp only [Option.bind_some] at h ⊢
  have hlt : g < w.heap.size := by
    cases e : w.heap[g]? with
    | none => rw [e] at h; cases h
    | some o => exact (Array.getElem?_eq_some_iff.1 e).1
  rw [hb.block g hlt]
  exact h
theorem below_grown {w : World} (k : Nat) (os : Array Obj) : Below w.heap.size w (Go.Sort.grow (w.drewN k) os) := below_regrown w (w.drawn + k) os
theorem builder_below {T e : TypeId} {B b : Nat} {bs : List Value} {w w' : World} (h : Lib.IsBuilderF T e B b bs w) (hb : Below w.heap.size w w') : Lib.IsBuilderF T e B b bs w' := by
  have key : ∀ p, Lib.BuilderAtF T e B b p bs w → Lib.BuilderAtF T e B b p bs w' := by
    rintro p ⟨h1, v, h2, ⟨h3, h4⟩, h5⟩
    have hlt := (Array.getElem?_eq_some_iff.1 h2).1
    refine ⟨h1, v, by rw [hb.block b hlt]; exact h2, ⟨h3, ?_⟩, h5⟩
    rcases h4 with h4 | ⟨g, cap, cur, fz, e1, e2, e3, r⟩
    · exact .inl h4
    · have hlt2 := (Array.getElem?_eq_some_iff.1 e3).1
      exact .inr ⟨g, cap, cur, fz, e1, e2, by rw [hb.block g hlt2]; exact e3, r⟩
  exact h.elim (fun x => .inl (key _ x)) (fun x => .inr (key _ x))

/-- value.Text tells vt -/
def TextC (f : FuncId) (vt : GV → ByteArray) (x : GV) : Prop := ∀ (s : Value) (w : World) (B : Nat), B ≤ w.heap.size → tabOk w → isL w 0 B s x.l →
  Calls Tryd.prog f #[x.agg s] w fun e w' => e = .returned (.string (vt x)) ∧ Below w.heap.size w w'
end Go.Proofs.YtndnondneelgjaaDoor
