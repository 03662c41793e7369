/-
  Plain facts for the walk of CodeExact: what is compiled fits; code that a call has made may be written over. Conditions: none.
-/
import Derived.Test.YtljljhjdlicfeaaGreatPAC
import Derived.Test.YtljljhjdlicfeaaGreatNE
import Derived.Test.YtljljhjdlicfeaaGreatPAF
import Derived.Test.YtljljhjdlicfeaaGreatPAB
import Derived.Test.YtljljhjdlicfeaaGreatVm1
import Derived.Test.YtljljhjdlicfeaaGreatNO
namespace Go.Proofs.YtljljhjdlicfeaaGreat
open Go Go.RowKit
set_option maxRecDepth 100000
set_option linter.unusedVariables false
theorem noV_fit : noV.fit := by simp [noV, GV.fit, fitL]
def fitG (y : GI) : Prop := y.v.fit ∧ y.s.size ≤ 2147483647
theorem gi_fit (op arg : Int) : fitG (gi op arg ByteArray.empty noV) := ⟨noV_fit, by simp [gi]⟩
theorem giT_fit {t : ByteArray} (h : t.size ≤ 2147483647) (op arg : Int) : fitG (gi op arg t noV) := ⟨noV_fit, h⟩
mutual
theorem compE_fit : ∀ (x : GE) (m : Nat), x.fit → ∀ y ∈ compE x m, fitG y
  | ⟨op, text, v, args⟩, m, h, y, hy => by
    obtain ⟨_, _, h3, h4, h5, h6⟩ := fitE_open h
    have h1 := compTwo_fit args op m h6
    have h2 := compEs_fit args m h6
    simp only [compE] at hy
    split at hy
    · simp only [List.mem_singleton] at hy; subst hy; exact ⟨h4, by simp [gi]⟩
    split at hy
    · simp only [List.mem_singleton] at hy; subst hy; exact giT_fit h3 _ _
    split at hy
    · simp only [List.mem_singleton] at hy; subst hy; exact giT_fit h3 _ _
    split at hy
    · exact h1 y hy
    · rcases List.mem_append.1 hy with hy | hy
      · exact h2 y hy
      · simp only [List.mem_singleton] at hy
        subst hy
        split
        · exact giT_fit h3 _ _
        split
        · exact gi_fit _ _
        · exact gi_fit _ _
theorem compTwo_fit : ∀ (l : List GE) (op : Int) (m : Nat), fitE l → ∀ y ∈ compTwo l op m, fitG y
  | [], op, m, _, y, hy => by simp [compTwo] at hy
  | x :: r, op, m, h, y, hy => by
    simp only [fitE] at h
    simp only [compTwo, List.mem_append, List.mem_singleton] at hy
    rcases hy with (hy | hy) | hy
    · exact compE_fit x _ h.1 y hy
    · subst hy; exact gi_fit _ _
    · exact compLast_fit r _ _ h.2 y hy
theorem compLast_fit : ∀ (l : List GE) (op : Int) (m : Nat), fitE l → ∀ y ∈ compLast l op m, fitG y
  | [], op, m, _, y, hy => by simp [compLast] at hy
  | x :: r, op, m, h, y, hy => by
    simp only [fitE] at h
    simp only [compLast, List.mem_cons, List.mem_append, List.not_mem_nil, or_false] at hy
    rcases hy with hy | hy | hy
    · subst hy; exact gi_fit _ _
    · exact compE_fit x _ h.1 y hy
    · subst hy; exact gi_fit _ _
theorem compEs_fit : ∀ (l : List GE) (m : Nat), fitE l → ∀ y ∈ compEs l m, fitG y
  | [], m, _, y, hy => by simp [compEs] at hy
  | x :: r, m, h, y, hy => by
    simp only [fitE] at h
    simp only [compEs, List.mem_append] at hy
    rcases hy with hy | hy
    · exact compE_fit x _ h.1 y hy
    · exact compEs_fit r _ h.2 y hy
end
theorem codeOf_fit (x : GE) (fx : x.fit) : fitI (codeOf x) := by
  unfold codeOf
  split
  · exact compE_fit x 0 fx
  · intro y hy; simp at hy
theorem codeOf_len (x : GE) : (codeOf x).length ≤ 12288 := by
  unfold codeOf
  split
  · rename_i hm
    have h1 := (mayC_true x 1 0 hm).2
    have h2 := mayC_le x 1 0 hm
    have := compE_len x 0
    omega
  · simp
end Go.Proofs.YtljljhjdlicfeaaGreat
namespace Go.Proofs.YtljljhjdlicfeaaGreat
open Go Go.RowKit
set_option maxRecDepth 100000
set_option linter.unusedVariables false
def litE (v : GV) : GE := ⟨1, ByteArray.empty, v, []⟩
def twoE (op : Int) (a b : GE) : GE := ⟨op, ByteArray.empty, noV, [a, b]⟩
def numV (n : Int) : GV := ⟨2, false, n, ByteArray.empty, []⟩
theorem isX_nil5 (w : World) (B : Nat) : isX w B (.slice none 0 0) [] := ⟨none, 0, rfl, Nat.le_refl _, trivial, fun h => by simp at h⟩
theorem isX_pair {w : World} {g B : Nat} {T : TypeId} {x y : GE} {a aa a' aa' : Option Addr} {c ca c' ca' : Nat} (h : w.heap[g]? = some (.cells #[.int .i64 x.op, .string x.text, .int .i64 x.v.k, .bool x.v.b, .int .i64 x.v.n, .string x.v.t, .slice a x.v.l.length c, .slice aa x.args.length ca, .int .i64 y.op, .string y.text, .int .i64 y.v.k, .bool y.v.b, .int .i64 y.v.n, .string y.v.t, .slice a' y.v.l.length c', .slice aa' y.args.length ca'] T (0, 0))) (hg : g < B)
    (hs : isL w 0 B (.slice a x.v.l.length c) x.v.l) (hsa : isX w B (.slice aa x.args.length ca) x.args) (hs' : isL w 0 B (.slice a' y.v.l.length c') y.v.l) (hsa' : isX w B (.slice aa' y.args.length ca') y.args) : isX w B (.slice (some ⟨g, 0, none⟩) 2 2) [x, y] := by
  have q := fun o => cell_of h o
  refine isE_mk (l := [x, y]) (cap := 2) (b := g) (off := 0) (by simp) trivial (fun _ => ⟨rfl, Nat.zero_le _, hg⟩) ?_
  intro i hi
  have hi' : i = 0 ∨ i = 1 := by simp at hi; omega
  rcases hi' with rfl | rfl
  · exact cellsE_mk ((q _).trans rfl) ((q _).trans rfl) ((q _).trans rfl) ((q _).trans rfl) ((q _).trans rfl) ((q _).trans rfl) ((q _).trans rfl) ((q _).trans rfl) hs hsa
  · exact cellsE_mk ((q _).trans rfl) ((q _).trans rfl) ((q _).trans rfl) ((q _).trans rfl) ((q _).trans rfl) ((q _).trans rfl) ((q _).trans rfl) ((q _).trans rfl) hs' hsa'
theorem num_any (n : Int) (w : World) : Calls Tryz.prog 15 #[.int .i64 n] w fun e w' => e = .returned ((litE (numV n)).agg (.slice none 0 0) (.slice none 0 0)) ∧ Below w.heap.size w w' := by
  go_enter Tryz.func15, Tryz.ntmps15
  go_wp2_with fail
  refine bodyPost_ret (v := (litE (numV n)).agg (.slice none 0 0) (.slice none 0 0)) (by simp [results, Tryz.results15, go_sem]; rfl) rfl ⟨rfl, (Below.refl _ _).alloc (Nat.le_refl _) _⟩
theorem two_any (op : Int) (x y : GE) (s sa s' sa' : Value) (w : World) (B : Nat) (hB : B ≤ w.heap.size) (hs : isL w 0 B s x.v.l) (hsa : isX w B sa x.args) (hs' : isL w 0 B s' y.v.l) (hsa' : isX w B sa' y.args) :
    Calls Tryz.prog 14 #[.int .i64 op, x.agg s sa, y.agg s' sa'] w fun e w' => ∃ g, e = .returned ((twoE op x y).agg (.slice none 0 0) (.slice (some ⟨g, 0, none⟩) 2 2)) ∧ isX w' w'.heap.size (.slice (some ⟨g, 0, none⟩) 2 2) [x, y] ∧ Below w.heap.size w w' := by
  obtain ⟨aa, ca, rfl⟩ := isE_form hsa
  obtain ⟨a, c, rfl⟩ := isL_form hs
  obtain ⟨aa', ca', rfl⟩ := isE_form hsa'
  obtain ⟨a', c', rfl⟩ := isL_form hs'
  have HS := Lib.hid hs
  have HSA := Lib.hid hsa
  have HS' := Lib.hid hs'
  have HSA' := Lib.hid hsa'
  clear hs hsa hs' hsa'
  simp only [GE.agg]
  go_enter Tryz.func14, Tryz.ntmps14
  go_wp2_with fail
  obtain ⟨w2, hw2⟩ : ∃ u, u = (w.alloc (.cells #[.int .i64 x.op, .string x.text, .int .i64 x.v.k, .bool x.v.b, .int .i64 x.v.n, .string x.v.t, .slice a x.v.l.length c, .slice aa x.args.length ca] 38)).alloc (.cells #[.int .i64 y.op, .string y.text, .int .i64 y.v.k, .bool y.v.b, .int .i64 y.v.n, .string y.v.t, .slice a' y.v.l.length c', .slice aa' y.args.length ca'] 38) := ⟨_, rfl⟩
  rw [← hw2]
  have hz2 : w2.heap.size = w.heap.size + 2 := by rw [hw2]; simp
  have hb2 : Below w.heap.size w w2 := by rw [hw2]; exact ((Below.refl _ _).alloc (Nat.le_refl _) _).alloc (by simp) _
  clear hw2
  obtain ⟨w4, hw4⟩ : ∃ u, u = (w2.alloc (.cells #[.int .i64 op, .string { data := #[] }, .int .i64 0, .bool false, .int .i64 0, .string { data := #[] }, .slice none 0 0, .slice (some ⟨w.heap.size + 1 + 1 + 1, 0, none⟩) 2 2] 38)).alloc (.cells #[.int .i64 x.op, .string x.text, .int .i64 x.v.k, .bool x.v.b, .int .i64 x.v.n, .string x.v.t, .slice a x.v.l.length c, .slice aa x.args.length ca, .int .i64 y.op, .string y.text, .int .i64 y.v.k, .bool y.v.b, .int .i64 y.v.n, .string y.v.t, .slice a' y.v.l.length c', .slice aa' y.args.length ca'] 38) := ⟨_, rfl⟩
  rw [← hw4]
  have hb4 : Below w.heap.size w w4 := by rw [hw4]; exact (hb2.alloc hb2.size _).alloc (by simp; omega) _
  have hr4 : w4.heap[w.heap.size + 1 + 1]? = some (.cells #[.int .i64 op, .string { data := #[] }, .int .i64 0, .bool false, .int .i64 0, .string { data := #[] }, .slice none 0 0, .slice (some ⟨w.heap.size + 1 + 1 + 1, 0, none⟩) 2 2] 38 (0, 0)) := by
    have := heap_two (w := w2) (o := .cells #[.int .i64 op, .string { data := #[] }, .int .i64 0, .bool false, .int .i64 0, .string { data := #[] }, .slice none 0 0, .slice (some ⟨w.heap.size + 1 + 1 + 1, 0, none⟩) 2 2] 38) (o2 := .cells #[.int .i64 x.op, .string x.text, .int .i64 x.v.k, .bool x.v.b, .int .i64 x.v.n, .string x.v.t, .slice a x.v.l.length c, .slice aa x.args.length ca, .int .i64 y.op, .string y.text, .int .i64 y.v.k, .bool y.v.b, .int .i64 y.v.n, .string y.v.t, .slice a' y.v.l.length c', .slice aa' y.args.length ca'] 38)
    rw [hz2, ← hw4] at this
    exact this
  have hx4 : w4.heap[w.heap.size + 3]? = some (.cells #[.int .i64 x.op, .string x.text, .int .i64 x.v.k, .bool x.v.b, .int .i64 x.v.n, .string x.v.t, .slice a x.v.l.length c, .slice aa x.args.length ca, .int .i64 y.op, .string y.text, .int .i64 y.v.k, .bool y.v.b, .int .i64 y.v.n, .string y.v.t, .slice a' y.v.l.length c', .slice aa' y.args.length ca'] 38 (0, 0)) := by
    have := heap_second (w := w2) (o := .cells #[.int .i64 op, .string { data := #[] }, .int .i64 0, .bool false, .int .i64 0, .string { data := #[] }, .slice none 0 0, .slice (some ⟨w.heap.size + 1 + 1 + 1, 0, none⟩) 2 2] 38) (o2 := .cells #[.int .i64 x.op, .string x.text, .int .i64 x.v.k, .bool x.v.b, .int .i64 x.v.n, .string x.v.t, .slice a x.v.l.length c, .slice aa x.args.length ca, .int .i64 y.op, .string y.text, .int .i64 y.v.k, .bool y.v.b, .int .i64 y.v.n, .string y.v.t, .slice a' y.v.l.length c', .slice aa' y.args.length ca'] 38)
    rw [hz2, ← hw4] at this
    exact this
  have hz4 : w4.heap.size = w.heap.size + 4 := by rw [hw4]; simp; omega
  clear hw4
  have qr := fun o => cell_of hr4 o
  refine bodyPost_ret (v := (twoE op x y).agg (.slice none 0 0) (.slice (some ⟨w.heap.size + 3, 0, none⟩) 2 2)) (by simp [results, Tryz.results14, go_sem, qr]; rfl) rfl ⟨w.heap.size + 3, rfl, ?_, hb4⟩
  have up := fun (s : Value) l (h : isL w 0 B s l) => isL_wide (hi' := w4.heap.size) (isL_below h hb4 hB) (Nat.le_refl _) (by omega)
  have ux := fun (s : Value) l (h : isX w B s l) => isX_wide (B' := w4.heap.size) (isX_below h hb4 hB) (by omega)
  exact isX_pair hx4 (by omega) (up _ _ HS.out) (ux _ _ HSA.out) (up _ _ HS'.out) (ux _ _ HSA'.out)
end Go.Proofs.YtljljhjdlicfeaaGreat
namespace Go.Proofs.YtljljhjdlicfeaaGreat
open Go Go.RowKit
set_option maxRecDepth 100000
set_option linter.unusedVariables false
end Go.Proofs.YtljljhjdlicfeaaGreat
namespace Go.Proofs.YtljljhjdlicfeaaGreat
open Go Go.RowKit
set_option maxRecDepth 100000
set_option linter.unusedVariables false
theorem bytes_nil {a : ByteArray} (h : a.toList = []) : a = ByteArray.empty := bytes_ext (by rw [h]; symm; rw [toList_nil]; rfl)
def Leaf (x : GE) : Prop := ∃ t, (∀ m, compE x m = [t]) ∧ ((t = gi 0 0 ByteArray.empty x.v ∧ x = ⟨1, ByteArray.empty, x.v, []⟩) ∨ (t = gi 1 0 x.text noV ∧ x = ⟨2, x.text, zeroV, []⟩) ∨ (t = gi 2 0 x.text noV ∧ x = ⟨3, x.text, zeroV, []⟩))
def Node (x : GE) : Prop := ∃ t, (∀ m, compE x m = compEs x.args m ++ [t]) ∧ ((t = gi 3 0 x.text noV ∧ x = ⟨4, x.text, zeroV, x.args⟩ ∧ x.args.length = 1) ∨ (t = gi 4 x.args.length ByteArray.empty noV ∧ x = ⟨5, ByteArray.empty, zeroV, x.args⟩) ∨
  (t = gi 5 x.op ByteArray.empty noV ∧ x = ⟨x.op, ByteArray.empty, zeroV, x.args⟩ ∧ (x.args.length : Int) = takesOf x.op))
def Pair (x : GE) : Prop := ∃ a b, (x.op = 8 ∨ x.op = 9) ∧ x = ⟨x.op, ByteArray.empty, zeroV, [a, b]⟩
theorem cls (x : GE) (h : nodeOk x = true) : Leaf x ∨ Node x ∨ Pair x := by
  obtain ⟨op, text, v, args⟩ := x
  unfold nodeOk at h
  dsimp only at h
  by_cases h1 : op = 1
  · rw [if_pos h1] at h
    simp at h
    subst h1
    refine .inl ⟨_, fun m => by rw [compE_eq, if_pos rfl], .inl ⟨rfl, ?_⟩⟩
    rw [bytes_nil h.1.2, h.2]
  rw [if_neg h1] at h
  simp only [Bool.and_eq_true, same_iff] at h
  obtain ⟨rfl, h⟩ := h
  by_cases h2 : op = 2
  · rw [if_pos (.inl h2)] at h
    simp at h
    subst h2
    refine .inl ⟨_, fun m => by rw [compE_eq, if_neg h1, if_pos rfl], .inr (.inl ⟨rfl, ?_⟩)⟩
    rw [h.2]
  by_cases h3 : op = 3
  · rw [if_pos (.inr h3)] at h
    simp at h
    subst h3
    refine .inl ⟨_, fun m => by rw [compE_eq, if_neg h1, if_neg h2, if_pos rfl], .inr (.inr ⟨rfl, ?_⟩)⟩
    rw [h.2]
  rw [if_neg (by omega)] at h
  by_cases h8 : op = 8 ∨ op = 9
  · rw [if_neg (by omega), if_neg (by omega), if_pos h8] at h
    simp at h
    match args, h.2 with
    | [a, b], _ => exact .inr (.inr ⟨a, b, h8, by rw [bytes_nil h.1]⟩)
  by_cases h4 : op = 4
  · rw [if_pos h4] at h
    simp at h
    subst h4
    exact .inr (.inl ⟨_, fun m => by rw [compE_eq, if_neg h1, if_neg h2, if_neg h3, if_neg h8, if_pos rfl], .inl ⟨rfl, rfl, h.2⟩⟩)
  rw [if_neg h4] at h
  by_cases h5 : op = 5
  · rw [if_pos h5] at h
    simp at h
    subst h5
    exact .inr (.inl ⟨_, fun m => by rw [compE_eq, if_neg h1, if_neg h2, if_neg h3, if_neg h8, if_neg h4, if_pos rfl], .inr (.inl ⟨rfl, by rw [bytes_nil h.1]⟩)⟩)
  rw [if_neg h5, if_neg h8] at h
  simp at h
  exact .inr (.inl ⟨_, fun m => by rw [compE_eq, if_neg h1, if_neg h2, if_neg h3, if_neg h8, if_neg h4, if_neg h5], .inr (.inr ⟨rfl, by rw [bytes_nil h.1.2], h.2⟩)⟩)
end Go.Proofs.YtljljhjdlicfeaaGreat
namespace Go.Proofs.YtljljhjdlicfeaaGreat
open Go Go.RowKit
set_option maxRecDepth 100000
set_option linter.unusedVariables false
theorem codeOf_may {x : GE} (h : emay x = true) : codeOf x = compE x 0 := by rw [codeOf, if_pos h]
end Go.Proofs.YtljljhjdlicfeaaGreat
namespace Go.Proofs.YtljljhjdlicfeaaGreat
open Go Go.RowKit
set_option maxRecDepth 100000
set_option linter.unusedVariables false
end Go.Proofs.YtljljhjdlicfeaaGreat
namespace Go.Proofs.YtljljhjdlicfeaaGreat
open Go Go.RowKit
set_option maxRecDepth 100000
set_option linter.unusedVariables false
end Go.Proofs.YtljljhjdlicfeaaGreat
namespace Go.Proofs.YtljljhjdlicfeaaGreat
open Go Go.RowKit
set_option maxRecDepth 100000
set_option linter.unusedVariables false
def OkV (r : GV × Int) : Prop := r.2 = 0 → vmay r.1 = true
theorem okV_no (n : Int) : OkV (noP n) := fun _ => by show vmay ⟨0, false, 0, ⟨#[]⟩, []⟩ = true; kernel_rfl
theorem okV_truth (b : Bool) : OkV (truthP b) := fun _ => by cases b <;> kernel_rfl
theorem num_mayE (n : Int) : vmay ⟨2, false, n, ⟨#[]⟩, []⟩ = true := by
  have h0 : ({ data := #[] } : ByteArray).toList = [] := by rw [toList_nil]; rfl
  simp [vmay, chk, chkFlat, h0]
theorem okV_num (n : Int) : OkV (numP n) := fun _ => num_mayE n
theorem okV_reck (g : Int → Int → Int × Int) (x y : GV) : OkV (reckP g x y) := by
  unfold reckP
  split
  · split
    · exact okV_num _
    · exact okV_no _
  · exact okV_no _
theorem okV_cmp (h : Int → Bool) (x y : GV) : OkV (cmpP h x y) := by
  unfold cmpP
  split
  · exact okV_truth _
  · exact okV_no _
theorem may_open {x : GV} (h : vmay x = true) : chkFlat x.k x.b x.n x.t x.l.length = true ∧ (x.k = 4 → chkL x.l 1 = true) := by
  rw [vmay, chk_eq, Bool.and_eq_true] at h
  refine ⟨h.1, fun hk => ?_⟩
  have h2 := h.2
  rw [hk] at h2
  simpa using h2
theorem chkL_app : ∀ (l m : List GV) (d : Nat), chkL l d = true → chkL m d = true → chkL (l ++ m) d = true
  | [], m, d, _, h => h
  | x :: r, m, d, h, h2 => by
    simp only [List.cons_append, chkL, Bool.and_eq_true] at h ⊢
    exact ⟨h.1, chkL_app r m d h.2 h2⟩
theorem okV_plus (x y : GV) (hx : vmay x = true) (hy : vmay y = true) : OkV (plusP x y) := by
  unfold plusP
  split
  · exact okV_reck _ _ _
  split
  · rename_i hk
    split
    · rename_i hs
      intro _
      obtain ⟨fx, lx⟩ := may_open hx
      obtain ⟨fy, ly⟩ := may_open hy
      show vmay ⟨x.k, false, 0, x.t ++ y.t, x.l ++ y.l⟩ = true
      have hz : (x.t ++ y.t).size = x.t.size + y.t.size := ByteArray.size_append
      obtain ⟨e, hk3 | hk4⟩ := hk
      · rw [hk3] at fx ⊢
        rw [← e, hk3] at fy
        simp [chkFlat] at fx fy
        simp only [vmay, chk, chkFlat, List.length_append]
        simp
        have a1 := fx.2
        have a2 := fy.2
        simp only [a1, a2]
        exact ⟨by omega, by simp⟩
      · rw [hk4] at fx ⊢
        rw [← e, hk4] at fy
        simp [chkFlat] at fx fy
        have e0 : (x.t ++ y.t).toList = [] := by
          rw [toList_nil, hz]
          have h1 := toList_nil.1 fx.1.2
          have h2 := toList_nil.1 fy.1.2
          omega
        have hL := chkL_app x.l y.l 1 (lx hk4) (ly (e ▸ hk4))
        simp only [vmay, chk, chkFlat, List.length_append]
        simp [e0, hL]
        exact hs.2
    · exact okV_no _
  · exact okV_no _
theorem okV_size (x y : GV) : OkV (sizeP x y) := by
  unfold sizeP
  split
  · exact okV_num _
  · exact okV_no _
theorem okV_has (x y : GV) : OkV (hasP x y) := by
  unfold hasP
  split
  · exact okV_truth _
  · exact okV_no _
theorem okV_of (k : Int) (h : GV → GV × Int) (hh : ∀ x, OkV (h x)) (x y : GV) : OkV (ofP k h x y) := by
  unfold ofP
  split
  · exact hh x
  · exact okV_no _
theorem good_mem {l : List GV} (h : badL l = false) : ∀ x ∈ l, vmay x = true := by
  intro x hx
  cases hv : vmay x
  · have : badL l = true := by
      rw [badL, List.any_eq_true]
      exact ⟨x, hx, by simp [hv]⟩
    rw [h] at this; cases this
  · rfl
theorem okV_app (t : Nat) (g : GV → GV → GV × Int) (hg : ∀ x y, vmay x = true → vmay y = true → OkV (g x y)) (l : List GV) : OkV (appP t g l) := by
  have hz : vmay ⟨0, false, 0, ⟨#[]⟩, []⟩ = true := by kernel_rfl
  unfold appP
  split
  · rename_i h
    refine hg _ _ ?_ ?_
    · cases l with
      | nil => exact hz
      | cons x r => exact good_mem h.2 x (by simp)
    · rw [List.getLastD_eq_getLast?]
      cases hl : l.getLast? with
      | none => exact hz
      | some y => exact good_mem h.2 y (List.mem_of_getLast? hl)
  · exact okV_no _
theorem okV_ite {c : Prop} [Decidable c] {a b : GV × Int} (h1 : OkV a) (h2 : OkV b) : OkV (if c then a else b) := by
  split
  · exact h1
  · exact h2
theorem applyP_may (op : Int) (l : List GV) : OkV (applyP op l) := by
  unfold applyP
  refine okV_ite (okV_app _ _ (fun x y _ _ => okV_of _ _ (fun _ => okV_reck _ _ _) x y) _) (okV_ite (okV_app _ _ (fun x y _ _ => okV_of _ _ (fun _ => okV_truth _) x y) _) (okV_ite (okV_app _ _ (fun x y _ _ => okV_truth _) _) (okV_ite (okV_app _ _ (fun x y _ _ => okV_truth _) _) ?_)))
  refine okV_ite (okV_app _ _ (fun x y _ _ => okV_cmp _ x y) _) (okV_ite (okV_app _ _ (fun x y _ _ => okV_cmp _ x y) _) (okV_ite (okV_app _ _ (fun x y _ _ => okV_cmp _ x y) _) (okV_ite (okV_app _ _ (fun x y _ _ => okV_cmp _ x y) _) ?_)))
  refine okV_ite (okV_app _ _ okV_plus _) (okV_ite (okV_app _ _ (fun x y _ _ => okV_reck _ x y) _) (okV_ite (okV_app _ _ (fun x y _ _ => okV_reck _ x y) _) (okV_ite (okV_app _ _ (fun x y _ _ => okV_reck _ x y) _) (okV_ite (okV_app _ _ (fun x y _ _ => okV_reck _ x y) _) ?_))))
  exact okV_ite (okV_app _ _ (fun x y _ _ => okV_size x y) _) (okV_ite (okV_app _ _ (fun x y _ _ => okV_has x y) _) (okV_no _))
def jmpI (x : GI) : Prop := x.op = 7 ∨ x.op = 8
def JC (c : List GI) (m : Nat) : Prop := (∃ x, c[0]? = some x ∧ ¬ jmpI x) ∧ ∀ i x, c[i]? = some x → jmpI x → 0 < i ∧ (∃ y, c[i - 1]? = some y ∧ y.op = 6) ∧ ∃ j : Nat, x.arg = ((m + j : Nat) : Int) ∧ j ≤ c.length ∧ ∀ y, c[j]? = some y → ¬ jmpI y
theorem JC.pos {c : List GI} {m : Nat} (h : JC c m) : 0 < c.length := by
  obtain ⟨⟨x, hx, _⟩, _⟩ := h
  exact (List.getElem?_eq_some_iff.1 hx).1
theorem jc_one {y : GI} (h : ¬ jmpI y) (m : Nat) : JC [y] m := by
  refine ⟨⟨y, rfl, h⟩, fun i x hx hj => ?_⟩
  obtain ⟨hi, e⟩ := List.getElem?_eq_some_iff.1 hx
  have : i = 0 := by simp at hi; omega
  subst this
  simp at e
  subst e
  exact absurd hj h
theorem jc_app {a b : List GI} {m : Nat} (ha : JC a m) (hb : JC b (m + a.length)) : JC (a ++ b) m := by
  have hp := ha.pos
  obtain ⟨⟨x0, h0, hn0⟩, ha⟩ := ha
  obtain ⟨⟨y0, g0, gn0⟩, hb⟩ := hb
  refine ⟨⟨x0, by rw [List.getElem?_append_left hp]; exact h0, hn0⟩, fun i x hx hj => ?_⟩
  by_cases hi : i < a.length
  · rw [List.getElem?_append_left hi] at hx
    obtain ⟨h1, ⟨y, hy, hy6⟩, j, hj1, hj2, hj3⟩ := ha i x hx hj
    refine ⟨h1, ⟨y, by rw [List.getElem?_append_left (by omega)]; exact hy, hy6⟩, j, hj1, by rw [List.length_append]; omega, fun z hz => ?_⟩
    by_cases hl : j < a.length
    · rw [List.getElem?_append_left hl] at hz; exact hj3 z hz
    · have : j = a.length := by omega
      subst this
      rw [List.getElem?_append_right (Nat.le_refl _), Nat.sub_self, g0] at hz
      cases hz; exact gn0
  · rw [List.getElem?_append_right (by omega)] at hx
    obtain ⟨h1, ⟨y, hy, hy6⟩, j, hj1, hj2, hj3⟩ := hb _ x hx hj
    refine ⟨by omega, ⟨y, by rw [List.getElem?_append_right (by omega), show i - 1 - a.length = i - a.length - 1 from by omega]; exact hy, hy6⟩, a.length + j, by rw [hj1]; congr 1; omega, by rw [List.length_append]; omega, fun z hz => ?_⟩
    rw [List.getElem?_append_right (by omega), Nat.add_sub_cancel_left] at hz
    exact hj3 z hz
theorem jc_two {c : List GI} {m : Nat} {y g : GI} (hc : JC c (m + 2)) (h6 : y.op = 6) (hg : g.arg = ((m + (c.length + 2) : Nat) : Int)) : JC (y :: g :: c) m := by
  obtain ⟨_, hc⟩ := hc
  refine ⟨⟨y, rfl, by unfold jmpI; omega⟩, fun i x hx hj => ?_⟩
  match i, hx with
  | 0, hx =>
    simp at hx; subst hx
    exact absurd hj (by unfold jmpI; omega)
  | 1, hx =>
    simp at hx; subst hx
    exact ⟨by omega, ⟨y, rfl, h6⟩, c.length + 2, hg, by simp, fun z hz => by rw [List.getElem?_eq_none (by simp)] at hz; cases hz⟩
  | k + 2, hx =>
    simp only [List.getElem?_cons_succ] at hx
    obtain ⟨h1, ⟨z, hz, hz6⟩, j, hj1, hj2, hj3⟩ := hc k x hx hj
    refine ⟨by omega, ⟨z, ?_, hz6⟩, j + 2, by rw [hj1]; congr 1; omega, by simp; omega, fun u hu => ?_⟩
    · rw [show k + 2 - 1 = (k - 1) + 2 from by omega]
      simp only [List.getElem?_cons_succ]
      exact hz
    · simp only [List.getElem?_cons_succ] at hu
      exact hj3 u hu
mutual
theorem comp_JC : ∀ (x : GE) (d n m : Nat), (mayC x d n).1 = true → JC (compE x m) m
  | ⟨op, text, v, args⟩, d, n, m, h => by
    have h' := h
    rw [mayC] at h
    split at h
    · cases h
    rename_i hc
    have hno : nodeOk ⟨op, text, v, args⟩ = true := by
      cases e : nodeOk ⟨op, text, v, args⟩
      · exact absurd (.inr (.inr e)) hc
      · rfl
    simp only [compE]
    by_cases h1 : op = 1
    · rw [if_pos h1]; exact jc_one (by unfold jmpI gi; simp) m
    rw [if_neg h1]
    by_cases h2 : op = 2
    · rw [if_pos h2]; exact jc_one (by unfold jmpI gi; simp) m
    rw [if_neg h2]
    by_cases h3 : op = 3
    · rw [if_pos h3]; exact jc_one (by unfold jmpI gi; simp) m
    rw [if_neg h3]
    by_cases h8 : op = 8 ∨ op = 9
    · rw [if_pos h8]
      have hlen : args.length = 2 := by
        unfold nodeOk at hno
        rw [if_neg (show ¬ op = 1 from h1)] at hno
        rw [if_neg (show ¬ (op = 2 ∨ op = 3) from by omega), if_neg (show ¬ op = 4 from by omega), if_neg (show ¬ op = 5 from by omega), if_pos (show op = 8 ∨ op = 9 from h8)] at hno
        simp at hno
        exact hno.2.2
      exact compTwo_JC args op (d + 1) (n + 1) m hlen h
    rw [if_neg h8]
    have hlast : ∀ m', JC [if op = 4 then gi 3 0 text noV else if op = 5 then gi 4 args.length ByteArray.empty noV else gi 5 op ByteArray.empty noV] m' := fun m' => jc_one (by
      unfold jmpI
      split
      · simp [gi]
      · split
        · simp [gi]
        · simp [gi]) m'
    rcases compEs_JC args (d + 1) (n + 1) m h with he | he
    · rw [he]; exact hlast m
    · exact jc_app he (hlast _)
theorem compTwo_JC : ∀ (l : List GE) (op : Int) (d n m : Nat), l.length = 2 → (maysC l d n).1 = true → JC (compTwo l op m) m
  | [x, y], op, d, n, m, _, h => by
    simp only [maysC] at h
    split at h
    · rename_i hx
      split at h
      · rename_i hy
        have j1 := comp_JC x d n m hx
        have j2 := comp_JC y d (mayC x d n).2 (m + (compE x m).length + 1 + 1) hy
        simp only [compTwo, compLast]
        rw [List.append_assoc]
        refine jc_app j1 ?_
        rw [List.singleton_append]
        refine jc_two (jc_app j2 (jc_one (by unfold jmpI gi; simp) _)) rfl ?_
        simp only [gi, List.length_append, List.length_singleton]
        congr 1
        omega
      · cases h
    · cases h
theorem compEs_JC : ∀ (l : List GE) (d n m : Nat), (maysC l d n).1 = true → compEs l m = [] ∨ JC (compEs l m) m
  | [], d, n, m, _ => .inl rfl
  | x :: r, d, n, m, h => by
    simp only [maysC] at h
    split at h
    · rename_i hx
      have j1 := comp_JC x d n m hx
      simp only [compEs]
      rcases compEs_JC r d (mayC x d n).2 (m + (compE x m).length) h with he | he
      · right; rw [he, List.append_nil]; exact j1
      · right; exact jc_app j1 he
    · cases h
end
theorem code_JC {x : GE} (h : emay x = true) : JC (codeOf x) 0 := by
  rw [codeOf_may h]
  exact comp_JC x 1 0 0 h
end Go.Proofs.YtljljhjdlicfeaaGreat
