/-
  A text appended to a row of bytes that the call has made, as one step of a region that draws its order; the row stays or is new. Conditions: none.
-/
import Derived.Test.YtkpfaeodgjbodaaGreatDoorBig
import Derived.Lib.AppendStr
import Derived.Deep.RegionLaw
namespace Go.Proofs.YtkpfaeodgjbodaaGreatDoor
open Go Go.RowKit
set_option linter.unusedVariables false
theorem app_text {P : Program} {w : World} (base : Nat) (t u ty e : TypeId) (i : TypeInfo) (ht : P.underlying t = some (.slice e)) (hu : P.underlying u = some .string) (hi : P.info? e = some i) (hz : i.zero = some (.int .u8 0)) (hsize : i.size = 1) (hby : i.bytes = 1)
    (v : Value) (n : Nat) (xs : List Value) (hown : w.ownsRow base e 1 v n xs) (h0 : 0 < n) (s : ByteArray) (h63 : n + s.size ≤ 140737488355328) (hbase : base ≤ w.heap.size) :
    ∃ v' w', (Builtin.append_ #[t, u] ty #[v, .string s]).run P w = .ok v' w' ∧ w'.ownsRow base e 1 v' (n + s.size) (xs ++ Lib.strCells s) ∧ w.grownBy w' v.ownBlock ∧ (v'.ownBlock = v.ownBlock ∨ v'.ownBlock = some w.heap.size) := by
  obtain ⟨v', w', hr, h2, h3, _⟩ := Lib.run_append_own_string (P := P) (w := w) base t u ty e i ht hu hi hz hsize hby v n xs hown s (by unfold maxLen; omega) h63 hbase
  refine ⟨v', w', hr, h2, h3, ?_⟩
  obtain ⟨hxl, ⟨_, h⟩ | ⟨g, cap, cur, rfl, hg, hh, hn, hcap, hsz, htk⟩⟩ := hown
  · omega
  · by_cases hroom : n + s.size ≤ cap
    · have h := Lib.run_append_room_string (P := P) (w := w) t u ty e i ht hu hi hsize g n cap cur hh s hroom (by omega)
      rw [hr] at h
      injection h with hv _
      rw [hv]
      exact .inl rfl
    · have holds : ∀ j u, xs[j]? = some u → w.cell? ((⟨g, 0, none⟩ : Addr).add j) = some u := fun j u hj => by
        have e1 : (⟨g, 0, none⟩ : Addr).add j = ⟨g, j, none⟩ := by
          unfold Addr.add
          split
          · rename_i h0; subst h0; rfl
          · simp
        rw [e1, cell_of hh, ← Array.getElem?_toList]
        rw [← htk, List.getElem?_take] at hj
        split at hj
        · exact hj
        · cases hj
      have h := Lib.run_append_grow_string (P := P) (w := w) t u ty e i (.int .u8 0) ht hu hi hz ⟨g, 0, none⟩ n cap xs (by rw [hsize]; simpa using hxl) holds s (by omega) (by omega) (by rw [hby]; exact growslice_fits (by omega) (by omega))
      rw [hr] at h
      injection h with hv _
      rw [hv]
      exact .inr rfl
theorem step_text {P : Program} {ops : Array Oper} {o : Oper} {a : Act} {w : World} {K : Act → World → Prop} {Q : Exit → Act → World → Prop} {E : Prop}
    (hg : o.guard = none) (sl x : Operand) (t u : TypeId) (hop : o.op = Op.call { callee := Callee.builtin Builtin.append, args := #[sl, x], argTypes := #[t, u] })
    (base : Nat) (e : TypeId) (i : TypeInfo) (ht : P.underlying t = some (.slice e)) (hu : P.underlying u = some .string) (hi : P.info? e = some i) (hz : i.zero = some (.int .u8 0)) (hsize : i.size = 1) (hby : i.bytes = 1)
    (v : Value) (n : Nat) (xs : List Value) (hs : a.eval sl = v) (hown : w.ownsRow base e 1 v n xs) (s : ByteArray) (hx : a.eval x = .string s)
    (h0 : 0 < n) (h63 : n + s.size ≤ 140737488355328) (hbase : base ≤ w.heap.size)
    (h : ∀ v' w', w'.ownsRow base e 1 v' (n + s.size) (xs ++ Lib.strCells s) → w.grownBy w' v.ownBlock → (v'.ownBlock = v.ownBlock ∨ v'.ownBlock = some w.heap.size) → K (a.put o.dst v') w') :
    if Region.wanted o (yielded ops a.tmps) = true then Oper.wp P o a w K Q else E := by
  have hw : Region.wanted o (yielded ops a.tmps) = true := by simp [Region.wanted, hg]
  rw [if_pos hw]
  obtain ⟨v', w', hr, h2, h3, h5⟩ := app_text (P := P) (w := w) base t u o.type e i ht hu hi hz hsize hby v n xs hown h0 s h63 hbase
  unfold Oper.wp execOp
  simp only [hop, resolve, invoke, builtin, Sem.run_bind, Sem.run_pure, Result.andThen_ok, List.map_toArray, List.map_cons, List.map_nil, hs, hx, hr]
  exact h v' w' h2 h3 h5
theorem strCells_tx (s : ByteArray) : Lib.strCells s = (txB s).map (fun (b : Nat) => Value.int .u8 (b : Int)) := by
  unfold Lib.strCells txB
  rw [List.map_map]
  rfl
theorem pushT {w : World} {base : Nat} {v : Value} {cs : List Nat} {t : ByteArray} (h : w.ownsRow base 5 1 v (cs.length + t.size) (cs.map (fun (b : Nat) => Value.int .u8 (b : Int)) ++ Lib.strCells t)) : bytesR w base v (cs ++ txB t) := by
  refine bytesR_eq (n := cs.length + t.size) (bs := cs ++ txB t) ?_ (by rw [List.length_append, txB_length]) rfl
  rw [List.map_append, ← strCells_tx]
  exact h
end Go.Proofs.YtkpfaeodgjbodaaGreatDoor
