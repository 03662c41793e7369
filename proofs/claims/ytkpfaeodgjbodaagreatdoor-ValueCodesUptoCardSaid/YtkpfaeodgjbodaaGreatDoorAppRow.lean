/-
  A row of bytes appended to another that the call has made. Conditions: fewer than 2^47 bytes.
-/
import Derived.Test.YtkpfaeodgjbodaaGreatDoorEqB
namespace Go.Proofs.YtkpfaeodgjbodaaGreatDoor
open Go Go.RowKit
set_option maxRecDepth 100000
set_option linter.unusedVariables false
theorem app_row {w : World} {base base2 : Nat} {v u : Value} {bs cs : List Nat} (hv : bytesR w base v bs) (hu : bytesR w base2 u cs) (h0 : 0 < cs.length) (hl : bs.length + cs.length ≤ 70368744177664) (hb : base ≤ w.heap.size) (ty : TypeId) :
    ∃ v' w', (Builtin.append_ #[28, 28] ty #[v, u]).run Tryz.prog w = .ok v' w' ∧ bytesR w' base v' (bs ++ cs) ∧ w.grownBy w' v.ownBlock ∧ (v'.ownBlock = v.ownBlock ∨ v'.ownBlock = some w.heap.size) := by
  obtain ⟨i0, hi, hz0, hz1, hz2⟩ := info_parts binfo
  obtain ⟨g, c, rfl, _, _, _, _, _, hcl⟩ := isB_of hu h0
  obtain ⟨v', w', hr, h2, h3, _, h5⟩ := run_append_own_at (P := Tryz.prog) w base 28 ty 5 i0 (.int .u8 0) 1 1 Tryz.underlying28 hi hz0 hz1 hz2 rfl (by decide) v bs.length _ hv ⟨g, 0, none⟩ cs.length c (cs.map fun (b : Nat) => Value.int .u8 (b : Int)) (by simp) (fun j x hj => by
    have hjl : j < cs.length := by have := (List.getElem?_eq_some_iff.1 hj).1; simpa using this
    rw [addr_add, Nat.zero_add, hcl j hjl]
    rw [List.getElem?_map, List.getElem?_eq_getElem hjl] at hj
    exact hj) (fun x hx => by obtain ⟨b, _, rfl⟩ := List.mem_map.1 hx; rfl) (by unfold maxLen; omega) (by omega) hb
  refine ⟨v', w', hr, bytesR_eq (n := bs.length + cs.length) (bs := bs ++ cs) ?_ (by simp) rfl, h3, h5⟩
  rw [List.map_append]
  exact h2
/-- an append that is known whole, as one step of a region that draws its order -/
theorem step_append_run {P : Program} {ops : Array Oper} {o : Oper} {a : Act} {w : World} {K : Act → World → Prop} {Q : Exit → Act → World → Prop} {E : Prop}
    (hg : o.guard = none) (s x : Operand) (t : TypeId) (hop : o.op = Op.call { callee := Callee.builtin Builtin.append, args := #[s, x], argTypes := #[t, t] })
    (v u : Value) (hs : a.eval s = v) (hx : a.eval x = u) (v' : Value) (w' : World) (hr : (Builtin.append_ #[t, t] o.type #[v, u]).run P w = .ok v' w') (h : K (a.put o.dst v') w') :
    if Region.wanted o (yielded ops a.tmps) = true then Oper.wp P o a w K Q else E := by
  have hw : Region.wanted o (yielded ops a.tmps) = true := by simp [Region.wanted, hg]
  rw [if_pos hw]
  unfold Oper.wp execOp
  simp only [hop, resolve, invoke, builtin, Sem.run_bind, Sem.run_pure, Result.andThen_ok, List.map_toArray, List.map_cons, List.map_nil, hs, hx, hr]
  exact h
/-- two blocks are as they were -/
def K2 (wC w' : World) (p : Nat) : Prop := (∀ o, w'.cell? ⟨p, o, none⟩ = wC.cell? ⟨p, o, none⟩) ∧ (∀ o, w'.cell? ⟨p + 1, o, none⟩ = wC.cell? ⟨p + 1, o, none⟩) ∧ wC.heap.size ≤ w'.heap.size
end Go.Proofs.YtkpfaeodgjbodaaGreatDoor
