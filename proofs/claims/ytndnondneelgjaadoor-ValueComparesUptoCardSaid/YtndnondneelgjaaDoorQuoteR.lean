/-
  What the references' Quote tells of a text: the text in quotes. Conditions: a text shorter than 2^31.
-/
import Derived.Test.YtndnondneelgjaaDoorNumber
namespace Go.Proofs.YtndnondneelgjaaDoor
open Go Go.RowKit
set_option maxRecDepth 100000
set_option linter.unusedVariables false
theorem binfo : (Tryd.prog.info? 5).map (fun i => (i.zero, i.size, i.bytes)) = some (some (.int .u8 0), 1, 1) := by kernel_rfl
theorem back_own {w : World} {base n : Nat} {v : Value} {l : List UInt8} (h : w.ownsRow base 5 1 v n (Lib.byteCells l)) (hn : 0 < n) (hl : l.length = n) :
    (convert 40 9 v).run Tryd.prog w = .ok (.string ⟨l.toArray⟩) w := by
  obtain ⟨g, cap, rfl⟩ : ∃ g cap, v = .slice (some ⟨g, 0, none⟩) n cap := by
    rcases h.2 with ⟨_, h0⟩ | ⟨g, cap, _, hv, _⟩
    · omega
    · exact ⟨g, cap, hv⟩
  subst hl
  refine run_convert_bytes_back (P := Tryd.prog) w 40 9 5 ⟨g, 0, none⟩ cap l Tryd.underlying40 Tryd.underlying5 Tryd.underlying9 fun j hj => ?_
  exact h.cells (g := g) rfl j _ (by simp [Lib.byteCells, List.getElem?_eq_getElem hj])
/-- what a round of the loop leaves -/
theorem own_more {w : World} {base n m : Nat} {v : Value} {l r : List UInt8} {news : List Value} (h : w.ownsRow base 5 1 v (n + m) (Lib.byteCells l ++ news)) (hn : n = l.length) (hm : m = r.length) (e : news = Lib.byteCells r) :
    w.ownsRow base 5 1 v (l ++ r).length (Lib.byteCells (l ++ r)) := by
  subst hn hm e
  rw [Lib.byteCells_append, List.length_append]
  exact h
theorem u8_ne {c : UInt8} {d : Nat} (hd : d < 256) (h : c ≠ UInt8.ofNat d) : (((c.toNat : Nat) : Int) == (d : Int)) = false := by
  have : c.toNat ≠ d := fun e => h (by rw [← e]; simp)
  simp only [beq_eq_false_iff_ne, ne_eq]
  omega
theorem u8_eq {c : UInt8} {d : Nat} (hd : d < 256) (h : c = UInt8.ofNat d) : (((c.toNat : Nat) : Int) == (d : Int)) = true := by
  subst h
  simp [Nat.mod_eq_of_lt hd]
set_option maxHeartbeats 1600000 in
theorem quoteR_any (s : ByteArray) (hs : s.size ≤ 2147483647) (w : World) :
    Calls Tryd.prog 32 #[.string s] w fun e w' => e = .returned (.string ⟨(quoteT s).toArray⟩) ∧ Below w.heap.size w w' := by
  have hsl : s.data.toList.length = s.size := Array.length_toList
  have HSL := Lib.hid hsl
  obtain ⟨i0, hi, hz0, hz1, hz2⟩ := info_parts binfo
  have HI := Lib.hid (And.intro hi (And.intro hz0 (And.intro hz1 hz2)))
  clear hsl hi hz0 hz1 hz2
  go_enter Tryd.func32, Tryd.ntmps32
  go_wp2_with fail
  go_loopw [3, 4] (fun v i wr => ∃ k : Nat, k ≤ s.size ∧ i = .int .i64 k ∧ Below w.heap.size w wr ∧ Hid (wr.ownsRow w.heap.size 5 1 v (34 :: quoteL (s.data.toList.take k)).length (Lib.byteCells (34 :: quoteL (s.data.toList.take k))))) (fun _ i _ => s.size - (intOf i).toNat)
  case atStart =>
    refine ⟨0, Nat.zero_le _, rfl, (Below.refl w.heap.size w).alloc (Nat.le_refl _) _, ⟨by simp [Lib.byteCells, quoteL], .inr ⟨w.heap.size, 1, #[.int .u8 34], rfl, Nat.le_refl _, heap_last, by simp [quoteL], by unfold maxLen; omega, rfl, rfl⟩⟩⟩
  case round =>
    obtain ⟨k, hk, rfl, hbel, hO⟩ := hrel
    have HB := Lib.hid hbel
    have hqb : (34 :: quoteL (s.data.toList.take k)).length ≤ 4294967295 := by
      have := quoteL_len (s.data.toList.take k)
      have h2 : (s.data.toList.take k).length ≤ k := List.length_take_le _ _
      simp only [List.length_cons]
      omega
    have hzb := hbel.size
    clear hbel
    by_cases hlt : k < s.size
    rotate_left
    · have hO' := hO.out
      rw [List.take_of_length_le (by have := HSL.out; omega)] at hO' hqb
      have HO' := Lib.hid hO'
      clear hO hO'
      go_wp2_with (at_builtin; refine wpList_append_own_at _ rfl _ _ 40 rfl w.heap.size 5 i0 (.int .u8 0) 1 1 Tryd.underlying40 HI.out.1 HI.out.2.1 HI.out.2.2.1 HI.out.2.2.2 rfl (by decide) _ _ _ rfl (HO'.out.alloc _) ⟨wr.heap.size, 0, none⟩ 1 1 [.int .u8 34] rfl rfl ?c1 ?c2 ?c3 ?c4 ?c5 ?_)
      case c1 => exact fun j u hj => news_last hj
      case c2 => intro u hu; simp only [List.mem_cons, List.not_mem_nil, or_false] at hu; subst hu; rfl
      case c3 => unfold maxLen; omega
      case c4 => omega
      case c5 => simp; omega
      intro v' w2 hown2 hgrow _ hat
      have hown3 := own_more hown2 rfl (show 1 = [(34 : UInt8)].length from rfl) rfl
      have kc := back_own hown3 (by simp) rfl
      have hb2 : Below w.heap.size w w2 := (HB.out.alloc HB.out.size (.cells #[.int .u8 34] 5)).grown hgrow (by simp; omega) (fun g hg => (ownBlock_lt HO'.out hg).1)
      clear hown2 hgrow hat hown3
      go_wp2_with fail
      go_ret
      exact ⟨rfl, hb2⟩
    have hkl : k < s.data.toList.length := by rw [HSL.out]; exact hlt
    have HQ := Lib.hid (quoteL_take s.data.toList k hkl)
    have hix : s.data.toList[k]'hkl = s[k] := rfl
    rw [hix] at HQ
    by_cases h34 : s[k] = 34 ∨ s[k] = 92
    · have hq : quoteC s[k] = [92, s[k]] := by simp [quoteC, h34]
      rw [hq] at HQ
      have HR : Hid (∀ (w2 : World) (v' : Value), w2.ownsRow w.heap.size 5 1 v' ((34 :: quoteL (s.data.toList.take k)).length + 2) (Lib.byteCells (34 :: quoteL (s.data.toList.take k)) ++ [.int .u8 92, .int .u8 (s[k].toNat : Nat)]) → w2.ownsRow w.heap.size 5 1 v' (34 :: quoteL (s.data.toList.take (k + 1))).length (Lib.byteCells (34 :: quoteL (s.data.toList.take (k + 1))))) := fun w2 v' h => by
        rw [HQ.out]
        exact own_more (r := [92, s[k]]) h rfl rfl rfl
      have e34 : (((s[k].toNat : Nat) : Int) == 34) = true ∨ ((((s[k].toNat : Nat) : Int) == 34) = false ∧ (((s[k].toNat : Nat) : Int) == 92) = true) := by
        by_cases h1 : s[k] = 34
        · exact .inl (u8_eq (d := 34) (by decide) h1)
        · exact .inr ⟨u8_ne (d := 34) (by decide) h1, u8_eq (d := 92) (by decide) (h34.resolve_left h1)⟩
      clear hq h34 hix HQ
      rcases e34 with e34 | ⟨e34, e92⟩
      all_goals
        go_wp2_with (at_builtin; refine wpList_append_own_at _ rfl _ _ 40 rfl w.heap.size 5 i0 (.int .u8 0) 1 1 Tryd.underlying40 HI.out.1 HI.out.2.1 HI.out.2.2.1 HI.out.2.2.2 rfl (by decide) _ _ _ rfl (hO.out.alloc _) ⟨wr.heap.size, 0, none⟩ 2 2 [.int .u8 92, .int .u8 (s[k].toNat : Nat)] rfl rfl ?c1 ?c2 ?c3 ?c4 ?c5 ?_)
        case c1 => exact fun j u hj => news_last hj
        case c2 => intro u hu; simp only [List.mem_cons, List.not_mem_nil, or_false] at hu; rcases hu with rfl | rfl <;> rfl
        case c3 => unfold maxLen; omega
        case c4 => omega
        case c5 => simp; omega
        intro v' w2 hown2 hgrow _ hat
        have hb2 : Below w.heap.size w w2 := (HB.out.alloc HB.out.size (.cells #[.int .u8 92, .int .u8 (s[k].toNat : Nat)] 5)).grown hgrow (by simp; omega) (fun g hg => (ownBlock_lt hO.out hg).1)
        have HO2 := Lib.hid (HR.out w2 v' hown2)
        clear hown2 hgrow hat
        go_wp2_with fail
        go_roundw
        case rel => exact ⟨k + 1, by omega, by go_num, hb2, HO2⟩
        case measure => simp [intOf]; omega
    have h1 : s[k] ≠ 34 := fun e => h34 (.inl e)
    have h2 : s[k] ≠ 92 := fun e => h34 (.inr e)
    have e34 := u8_ne (d := 34) (by decide) h1
    have e92 := u8_ne (d := 92) (by decide) h2
    by_cases h3 : s[k] = 10 ∨ s[k] = 9
    rotate_left
    · have h10 : s[k] ≠ 10 := fun e => h3 (.inl e)
      have h9 : s[k] ≠ 9 := fun e => h3 (.inr e)
      have hq : quoteC s[k] = [s[k]] := by simp [quoteC, h1, h2, h10, h9]
      rw [hq] at HQ
      have HR : Hid (∀ (w2 : World) (v' : Value), w2.ownsRow w.heap.size 5 1 v' ((34 :: quoteL (s.data.toList.take k)).length + 1) (Lib.byteCells (34 :: quoteL (s.data.toList.take k)) ++ [.int .u8 (s[k].toNat : Nat)]) → w2.ownsRow w.heap.size 5 1 v' (34 :: quoteL (s.data.toList.take (k + 1))).length (Lib.byteCells (34 :: quoteL (s.data.toList.take (k + 1))))) := fun w2 v' h => by
        rw [HQ.out]
        exact own_more (r := [s[k]]) h rfl rfl rfl
      have e10 := u8_ne (d := 10) (by decide) h10
      have e9 := u8_ne (d := 9) (by decide) h9
      clear hq h34 hix HQ h1 h2 h3 h10 h9
      go_wp2_with (at_builtin; refine wpList_append_own_at _ rfl _ _ 40 rfl w.heap.size 5 i0 (.int .u8 0) 1 1 Tryd.underlying40 HI.out.1 HI.out.2.1 HI.out.2.2.1 HI.out.2.2.2 rfl (by decide) _ _ _ rfl (hO.out.alloc _) ⟨wr.heap.size, 0, none⟩ 1 1 [.int .u8 (s[k].toNat : Nat)] rfl rfl ?c1 ?c2 ?c3 ?c4 ?c5 ?_)
      case c1 => exact fun j u hj => news_last hj
      case c2 => intro u hu; simp only [List.mem_cons, List.not_mem_nil, or_false] at hu; subst hu; rfl
      case c3 => unfold maxLen; omega
      case c4 => omega
      case c5 => simp; omega
      intro v' w2 hown2 hgrow _ hat
      have hb2 : Below w.heap.size w w2 := (HB.out.alloc HB.out.size (.cells #[.int .u8 (s[k].toNat : Nat)] 5)).grown hgrow (by simp; omega) (fun g hg => (ownBlock_lt hO.out hg).1)
      have HO2 := Lib.hid (HR.out w2 v' hown2)
      clear hown2 hgrow hat
      go_wp2_with fail
      go_roundw
      case rel => exact ⟨k + 1, by omega, by go_num, hb2, HO2⟩
      case measure => simp [intOf]; omega
    · obtain ⟨d, hd, hq⟩ : ∃ d : UInt8, (((((s[k].toNat : Nat) : Int) == 10) = true ∧ d = 110) ∨ ((((s[k].toNat : Nat) : Int) == 10) = false ∧ (((s[k].toNat : Nat) : Int) == 9) = true ∧ d = 116)) ∧ quoteC s[k] = [92, d] := by
        by_cases h10 : s[k] = 10
        · exact ⟨110, .inl ⟨u8_eq (d := 10) (by decide) h10, rfl⟩, by rw [h10]; rfl⟩
        · have h9 := h3.resolve_left h10
          exact ⟨116, .inr ⟨u8_ne (d := 10) (by decide) h10, u8_eq (d := 9) (by decide) h9, rfl⟩, by rw [h9]; rfl⟩
      rw [hq] at HQ
      have HR : Hid (∀ (w2 : World) (v' : Value), w2.ownsRow w.heap.size 5 1 v' ((34 :: quoteL (s.data.toList.take k)).length + 2) (Lib.byteCells (34 :: quoteL (s.data.toList.take k)) ++ [.int .u8 92, .int .u8 (d.toNat : Nat)]) → w2.ownsRow w.heap.size 5 1 v' (34 :: quoteL (s.data.toList.take (k + 1))).length (Lib.byteCells (34 :: quoteL (s.data.toList.take (k + 1))))) := fun w2 v' h => by
        rw [HQ.out]
        exact own_more (r := [92, d]) h rfl rfl rfl
      clear hq h34 hix HQ h1 h2 h3
      rcases hd with ⟨e10, rfl⟩ | ⟨e10, e9, rfl⟩
      · go_wp2_with (at_builtin; refine wpList_append_own_at _ rfl _ _ 40 rfl w.heap.size 5 i0 (.int .u8 0) 1 1 Tryd.underlying40 HI.out.1 HI.out.2.1 HI.out.2.2.1 HI.out.2.2.2 rfl (by decide) _ _ _ rfl (hO.out.alloc _) ⟨wr.heap.size, 0, none⟩ 2 2 [.int .u8 92, .int .u8 110] rfl rfl ?c1 ?c2 ?c3 ?c4 ?c5 ?_)
        case c1 => exact fun j u hj => news_last hj
        case c2 => intro u hu; simp only [List.mem_cons, List.not_mem_nil, or_false] at hu; rcases hu with rfl | rfl <;> rfl
        case c3 => unfold maxLen; omega
        case c4 => omega
        case c5 => simp; omega
        intro v' w2 hown2 hgrow _ hat
        have hb2 : Below w.heap.size w w2 := (HB.out.alloc HB.out.size (.cells #[.int .u8 92, .int .u8 110] 5)).grown hgrow (by simp; omega) (fun g hg => (ownBlock_lt hO.out hg).1)
        have HO2 := Lib.hid (HR.out w2 v' hown2)
        clear hown2 hgrow hat
        go_wp2_with fail
        go_roundw
        case rel => exact ⟨k + 1, by omega, by go_num, hb2, HO2⟩
        case measure => simp [intOf]; omega
      · go_wp2_with (at_builtin; refine wpList_append_own_at _ rfl _ _ 40 rfl w.heap.size 5 i0 (.int .u8 0) 1 1 Tryd.underlying40 HI.out.1 HI.out.2.1 HI.out.2.2.1 HI.out.2.2.2 rfl (by decide) _ _ _ rfl (hO.out.alloc _) ⟨wr.heap.size, 0, none⟩ 2 2 [.int .u8 92, .int .u8 116] rfl rfl ?c1 ?c2 ?c3 ?c4 ?c5 ?_)
        case c1 => exact fun j u hj => news_last hj
        case c2 => intro u hu; simp only [List.mem_cons, List.not_mem_nil, or_false] at hu; rcases hu with rfl | rfl <;> rfl
        case c3 => unfold maxLen; omega
        case c4 => omega
        case c5 => simp; omega
        intro v' w2 hown2 hgrow _ hat
        have hb2 : Below w.heap.size w w2 := (HB.out.alloc HB.out.size (.cells #[.int .u8 92, .int .u8 116] 5)).grown hgrow (by simp; omega) (fun g hg => (ownBlock_lt hO.out hg).1)
        have HO2 := Lib.hid (HR.out w2 v' hown2)
        clear hown2 hgrow hat
        go_wp2_with fail
        go_roundw
        case rel => exact ⟨k + 1, by omega, by go_num, hb2, HO2⟩
        case measure => simp [intOf]; omega
end Go.Proofs.YtndnondneelgjaaDoor
