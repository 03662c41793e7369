/-
  NARROWER THAN 'FOR EVERY INPUT', by the rows' own cells (each row's printed sentence says how): VmApplies: loops · VmLazy: loops.
  DERIVED. THE GIVEN ROWS OF THIS SEAT. 2 by the template 'for every input the law returns true; each argument reads behind the call as it read before'; 0 by the template 'total and deterministic' (their statements: YtljljhjdlicfeaaTotals.lean).
  GIVEN WITH THE SEED: the statements are not yours to turn. If you find one false, say at which input.
  Laid BY PROGRAM, IN A SANDBOX (cutbox-rows.mjs): the forced cells as the released guide's own fill.sh prints them over the translation af7dc7b1d89f8316… (all of the seat's roots in one cut). By AI agents, Wed Nov 11 2026. No macro, syntax, notation, axiom, sorry.
-/
import Derived.Test.YtljljhjdlicfeaaChecked
import GoSem.Claim
import GoSem.ClaimJoined
import GoSem.ClaimMapViews
import Derived.JoinedTies
import Derived.KernelRfl
namespace Go.Proofs.Ytljljhjdlicfeaa
/- THE CELL 'sum', in the pinned program and in every row, IS THE sha256 OF THE DUMP (.gsa) THAT YtljljhjdlicfeaaProg.lean LOADS. Nothing in Lean hashes anything: it is a label: what it is worth is what the hold of that sum in a sandbox is worth. -/
noncomputable def Try.pinned : Pinned := { name := "ytljljhjdlicfeaa", sum := "af7dc7b1d89f831643c611968fbc406a4313777f18e741f8d4df7e4a655067f7", checked := Try.checked }
namespace Rows
def none {H : Type} : Left H := { results := [], args := [] }

/-- 'proctorlaw11.VmApplies': WHATEVER THE INPUT: true; the input reads as it did. -/
def vmAppliesSpec : ChangeSpec := { name := "vmApplies", fn := fun _ => fun
  | [d] => { results := [.lit (.bool true)], args := [d] }
  | _ => none }
def vmAppliesRow : OpenClaim := { program := "ytljljhjdlicfeaa", sum := "af7dc7b1d89f831643c611968fbc406a4313777f18e741f8d4df7e4a655067f7", func := "proctor/proctorlaw11.VmApplies", spec := "vmApplies", unfollowed := true, recurses := true, loops := true, apart := false }
def VmAppliesSaid : Prop := vmAppliesRow.holds Try.pinned (OpenSpec.ofChange vmAppliesSpec)

/-- ITS FALSE NEIGHBOUR: 'it returns false'. Refute it at one input. -/
def vmAppliesWrong : ChangeSpec := { name := "vmApplies", fn := fun _ => fun
  | [d] => { results := [.lit (.bool false)], args := [d] }
  | _ => none }
def VmAppliesWrongFalsely : Prop := vmAppliesRow.holds Try.pinned (OpenSpec.ofChange vmAppliesWrong)

/-- 'proctorlaw11.VmLazy': WHATEVER THE INPUT: true; the input reads as it did. -/
def vmLazySpec : ChangeSpec := { name := "vmLazy", fn := fun _ => fun
  | [d] => { results := [.lit (.bool true)], args := [d] }
  | _ => none }
def vmLazyRow : OpenClaim := { program := "ytljljhjdlicfeaa", sum := "af7dc7b1d89f831643c611968fbc406a4313777f18e741f8d4df7e4a655067f7", func := "proctor/proctorlaw11.VmLazy", spec := "vmLazy", unfollowed := true, recurses := true, loops := true, apart := false }
def VmLazySaid : Prop := vmLazyRow.holds Try.pinned (OpenSpec.ofChange vmLazySpec)

/-- ITS FALSE NEIGHBOUR: 'it returns false'. Refute it at one input. -/
def vmLazyWrong : ChangeSpec := { name := "vmLazy", fn := fun _ => fun
  | [d] => { results := [.lit (.bool false)], args := [d] }
  | _ => none }
def VmLazyWrongFalsely : Prop := vmLazyRow.holds Try.pinned (OpenSpec.ofChange vmLazyWrong)

/- THE SECOND FORM. 'bulk': how many values and letters a reading holds, each counted each time it is reached (what is shared counts as often as it is met; a slice's spare places count too). A statement '..UptoSaid' is the law's where the arguments, and the package variables that the reading takes, are together of bulk at most 1048576: NARROWER than '..Said'. Prove '..Said' where nothing that the law and all that it calls make is longer than what came in: it says more and counts as full. Else prove '..UptoSaid'. A law counts once. -/
mutual
def uptoBulk {H : Type} : DataW H → Nat
  | .lit (.string bytes) => bytes.length + 1
  | .lit _ => 1
  | .nil => 1
  | .ptr d => uptoBulk d + 1
  | .slice elems spare => uptoBulkAll elems + uptoBulkAll spare + 1
  | .agg parts => uptoBulkAll parts + 1
  | .iface _ d => uptoBulk d + 1
  | .map entries => uptoBulkEntries entries + 1
  | .held _ => 1
def uptoBulkAll {H : Type} : List (DataW H) → Nat
  | [] => 0
  | d :: r => uptoBulk d + uptoBulkAll r
def uptoBulkEntries {H : Type} : List (Lit × DataW H) → Nat
  | [] => 0
  | x :: r => uptoBulkEntry x + uptoBulkEntries r
def uptoBulkEntry {H : Type} : Lit × DataW H → Nat
  | (.string bytes, d) => bytes.length + uptoBulk d + 1
  | (_, d) => uptoBulk d + 1
 end
def uptoSmall : (H : Type) → List (DataW H) → Bool := fun _ ds => decide (uptoBulkAll ds ≤ 1048576)
def OpenSpec.upto (s : _root_.Go.ChangeSpec) : _root_.Go.OpenSpec := { _root_.Go.OpenSpec.ofChange s with cond := some uptoSmall }

/-- 'proctorlaw11.VmApplies', WHERE WHAT IT READS IS OF BULK AT MOST 1048576: true; the input reads as it did. -/
def vmAppliesUptoRow : OpenClaim := { program := "ytljljhjdlicfeaa", sum := "af7dc7b1d89f831643c611968fbc406a4313777f18e741f8d4df7e4a655067f7", func := "proctor/proctorlaw11.VmApplies", spec := "vmApplies", unfollowed := true, recurses := true, loops := true, apart := false, narrowed := true }
def VmAppliesUptoSaid : Prop := vmAppliesUptoRow.holds Try.pinned (OpenSpec.upto vmAppliesSpec)

/-- 'proctorlaw11.VmLazy', WHERE WHAT IT READS IS OF BULK AT MOST 1048576: true; the input reads as it did. -/
def vmLazyUptoRow : OpenClaim := { program := "ytljljhjdlicfeaa", sum := "af7dc7b1d89f831643c611968fbc406a4313777f18e741f8d4df7e4a655067f7", func := "proctor/proctorlaw11.VmLazy", spec := "vmLazy", unfollowed := true, recurses := true, loops := true, apart := false, narrowed := true }
def VmLazyUptoSaid : Prop := vmLazyUptoRow.holds Try.pinned (OpenSpec.upto vmLazySpec)

end Rows
end Go.Proofs.Ytljljhjdlicfeaa
