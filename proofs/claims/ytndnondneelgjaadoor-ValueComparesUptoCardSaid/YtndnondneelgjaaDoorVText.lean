/-
  What value.Text tells of a value: its text. Conditions: texts and lists shorter than 2^31, the value's bulk at most 2^40, the table of the digits lies.
-/
import Derived.Test.YtndnondneelgjaaDoorQuote
import Derived.Test.YtndnondneelgjaaDoorCopyZ
namespace Go.Proofs.YtndnondneelgjaaDoor
open Go Go.RowKit
set_option maxRecDepth 100000
set_option linter.unusedVariables false
theorem formatInt_any (n : Int) (h0 : -9223372036854775808 ≤ n) (h1 : n ≤ 9223372036854775807) (w : World) (ht : tabOk w) :
    Calls Tryd.prog 28 #[.int .i64 n, .int .i64 10] w fun e w' => e = .returned (.string (itoaB n)) ∧ Below w.heap.size w w' := by
  refine (Tryd.strconv_FormatInt_10 n h0 h1 w ht).mono ?_
  rintro e w' ⟨rfl, k, os, rfl⟩
  exact ⟨rfl, below_grown k os⟩
/-- texts as a row of memory holds them -/
def strsV (xs : List (List UInt8)) : List Value := xs.map fun x => .string ⟨x.toArray⟩
def strsB (xs : List (List UInt8)) : List ByteArray := xs.map fun x => ⟨x.toArray⟩
theorem strsB_back (xs : List (List UInt8)) : (strsB xs).map (·.data.toList) = xs := by
  induction xs with
  | nil => rfl
  | cons x r ih => simpa [strsB] using ih
theorem sinfo : (Tryd.prog.info? 9).map (fun i => (i.zero, i.size, i.bytes)) = some (some (.string { data := #[] }), 1, 16) := by kernel_rfl
theorem vtxL_len_eq (l : List GV) : (vtxL l).length = l.length := by rw [vtxL_map]; simp
theorem vtxL_get (l : List GV) (k : Nat) (h : k < l.length) : (vtxL l).take (k + 1) = (vtxL l).take k ++ [vtx l[k]] := by
  rw [List.take_succ_eq_append_getElem (by rw [vtxL_len_eq]; exact h)]
  simp [vtxL_map]
theorem owns_keep {w w' : World} {base size n : Nat} {T : TypeId} {v : Value} {xs : List Value} (h : w.ownsRow base T size v n xs) (hb : Below w.heap.size w w') : w'.ownsRow base T size v n xs := by
  obtain ⟨h1, h2⟩ := h
  refine ⟨h1, ?_⟩
  rcases h2 with h2 | ⟨g, cap, cur, e, hg, hh, r⟩
  · exact .inl h2
  · refine .inr ⟨g, cap, cur, e, hg, ?_, r⟩
    have : g < w.heap.size := by
      rcases Nat.lt_or_ge g w.heap.size with h | h
      · exact h
      · rw [Array.getElem?_eq_none h] at hh; cases hh
    rw [hb.block g this]; exact hh
theorem strs_cells {w : World} {base n : Nat} {T : TypeId} {g cap : Nat} {xs : List (List UInt8)} (h : w.ownsRow base T 1 (.slice (some ⟨g, 0, none⟩) n cap) n (strsV xs)) :
    ∀ (j : Nat) x, (strsB xs)[j]? = some x → w.cell? ⟨g, 0 + j, none⟩ = some (.string x) := by
  intro j x hj
  have hc := h.cells (g := g) rfl j (.string x) (by
    simp only [strsV, strsB, List.getElem?_map] at hj ⊢
    cases e : xs[j]? with
    | none => rw [e] at hj; cases hj
    | some y => rw [e] at hj; simp at hj ⊢; exact hj)
  rw [Addr.add_lit] at hc
  exact hc
theorem itoa_hash (n : Int) : ({ data := #[35] } : ByteArray) ++ itoaB n = ⟨(35 :: Lib.itoa n).toArray⟩ := by
  apply ByteArray.ext
  simp [itoaB]
theorem join_wrap (l : List UInt8) : ({ data := #[91] } : ByteArray) ++ ⟨l.toArray⟩ ++ { data := #[93] } = ⟨(91 :: l ++ [93]).toArray⟩ := by
  apply ByteArray.ext
  simp
set_option maxHeartbeats 1600000 in
theorem vText_step (x : GV) (fx : x.fit) (hbk : x.bulk ≤ 1099511627776) (h : ∀ y ∈ x.l, TextC 13 vtext y) : TextC 13 vtext x := by
  intro s w B hB ht hs
  obtain ⟨a, c, bb, off, rfl, hc, ha, hA⟩ := isL_open hs
  have HS := Lib.hid hs
  have HA := Lib.hid hA
  have Ha := Lib.hid ha
  have HH := Lib.hid h
  have HT := Lib.hid ht
  have HF := Lib.hid fx
  have HX := Lib.hid (vtx_eq x)
  have HL := Lib.hid (vtxL_len x.l (fit_open fx).2.2.2.2.2.2)
  clear hA hs ha h ht fx
  simp only [GV.agg]
  go_enter Tryd.func13, Tryd.ntmps13
  go_wp2_with fail
  have hb0 := (Below.refl w.heap.size w).alloc (Nat.le_refl _) (.cells #[.int .i64 x.k, .bool x.b, .int .i64 x.n, .string x.t, .slice a x.l.length c] 28)
  refine (vCheck_any x HF.out (.slice a x.l.length c) _ B (Nat.le_trans hB hb0.size) (isL_below HS.out hb0 hB)).mono ?_
  rintro e w1 ⟨rfl, hb1⟩
  have hbx := (hb1.block w.heap.size (by simp)).trans (heap_last (w := w))
  have HB1 := Lib.hid (below_down hb0 hb1 (Nat.le_refl _))
  have HTB := Lib.hid (tabOk_below HT.out HB1.out)
  have q1 := fun o => cell_of hbx o
  have hz1 : w.heap.size + 1 ≤ w1.heap.size := by have := hb1.size; simpa using this
  have HBX := Lib.hid hbx
  clear hb0 hb1 hbx
  cases hv : vmay x
  · have HX' : Hid (vtext x = ⟨#[]⟩) := by
      have h := HX.out
      rw [hv] at h
      rw [Hid, vtext, h]
      rfl
    clear hv
    go_wp2_with fail
    go_ret
    exact ⟨by rw [HX'.out]; rfl, HB1.out⟩
  have HV := Lib.hid hv
  have HX' := HX.out
  rw [hv, if_pos rfl] at HX'
  clear hv HX
  by_cases k1 : x.k = 1
  · rw [if_pos k1] at HX'
    have HX2 := Lib.hid HX'
    have e1 : (x.k == 1) = true := by simpa using k1
    clear HX' k1
    go_wp2_with fail
    refine (Tryd.strconv_FormatBool x.b _).mono ?_
    rintro e w2 ⟨rfl, rfl⟩
    go_wp2_with fail
    go_ret
    exact ⟨by rw [vtext, HX2.out]; rfl, HB1.out⟩
  rw [if_neg k1] at HX'
  have e1 : (x.k == 1) = false := by simpa using k1
  by_cases k2 : x.k = 2
  · rw [if_pos k2] at HX'
    have HX2 := Lib.hid HX'
    have e2 : (x.k == 2) = true := by simpa using k2
    clear HX' k1 k2
    go_wp2_with fail
    refine (formatInt_any x.n (fit_n HF.out).1 (fit_n HF.out).2 _ HTB.out).mono ?_
    rintro e w2 ⟨rfl, hb2⟩
    go_wp2_with fail
    go_ret
    exact ⟨by rw [vtext, HX2.out]; rfl, below_down HB1.out hb2 (Nat.le_refl _)⟩
  rw [if_neg k2] at HX'
  have e2 : (x.k == 2) = false := by simpa using k2
  by_cases k3 : x.k = 3
  · rw [if_pos k3] at HX'
    have HX2 := Lib.hid HX'
    have e3 : (x.k == 3) = true := by simpa using k3
    clear HX' k1 k2 k3
    go_wp2_with fail
    refine (quote_any x.t (fit_open HF.out).2.2.2.2.1 _).mono ?_
    rintro e w2 ⟨rfl, hb2⟩
    go_wp2_with fail
    go_ret
    exact ⟨by rw [vtext, HX2.out]; rfl, below_down HB1.out hb2 (Nat.le_refl _)⟩
  rw [if_neg k3] at HX'
  have e3 : (x.k == 3) = false := by simpa using k3
  by_cases k5 : x.k = 5
  · rw [if_pos k5] at HX'
    have HX2 := Lib.hid HX'
    have e5 : (x.k == 5) = true := by simpa using k5
    clear HX' k1 k2 k3 k5
    have hsz := itoaB_size x.n (fit_n HF.out).1 (fit_n HF.out).2
    go_wp2_with fail
    refine (formatInt_any x.n (fit_n HF.out).1 (fit_n HF.out).2 _ HTB.out).mono ?_
    rintro e w2 ⟨rfl, hb2⟩
    go_wp2_with fail
    go_ret
    exact ⟨by rw [vtext, HX2.out, ← itoa_hash]; rfl, below_down HB1.out hb2 (Nat.le_refl _)⟩
  rw [if_neg k5] at HX'
  have e5 : (x.k == 5) = false := by simpa using k5
  by_cases k4 : x.k = 4
  rotate_left
  · rw [if_neg k4] at HX'
    have HX2 := Lib.hid HX'
    have e4 : (x.k == 4) = false := by simpa using k4
    clear HX' k1 k2 k3 k5 k4
    go_wp2_with fail
    go_ret
    exact ⟨by rw [vtext, HX2.out]; rfl, HB1.out⟩
  rw [if_pos k4] at HX'
  have HX2 := Lib.hid HX'
  have e4 : (x.k == 4) = true := by simpa using k4
  have hll := (fit_open HF.out).2.2.2.2.2.1
  clear HX' k1 k2 k3 k5 k4
  go_wp2_with fail
  go_loopw [3, 37] (fun v i wr => ∃ k : Nat, k ≤ x.l.length ∧ i = .int .i64 k ∧ Below w.heap.size w wr ∧ w1.heap.size ≤ wr.heap.size ∧ Hid (wr.ownsRow w.heap.size 9 1 v k (strsV ((vtxL x.l).take k)))) (fun _ i _ => x.l.length - (intOf i).toNat)
  case atStart => exact ⟨0, Nat.zero_le _, rfl, HB1.out, Nat.le_refl _, ⟨by simp [strsV], .inl ⟨rfl, rfl⟩⟩⟩
  case round =>
    obtain ⟨k, hk, rfl, hbel, hsz, hO⟩ := hrel
    have HB := Lib.hid hbel
    clear q1 hbel
    by_cases hlt : k < x.l.length
    · obtain ⟨rfl, hb1, hb2⟩ := Ha.out (by omega)
      obtain ⟨ax, cx, x0, x1, x2, x3, x4, hsx⟩ := cellsV_slice (HA.out k hlt)
      have hg : ∀ o, wr.cell? ⟨bb, o, none⟩ = w.cell? ⟨bb, o, none⟩ := fun o => HB.out.cell (p := ⟨bb, o, none⟩) (Nat.lt_of_lt_of_le hb2 hB)
      have hz : bb < wr.heap.size := Nat.lt_of_lt_of_le hb2 (Nat.le_trans hB HB.out.size)
      have HSX := Lib.hid hsx
      have HM := Lib.hid (HH.out x.l[k] (List.getElem_mem hlt))
      clear hsx
      go_wp2_with fail
      have hb4 := HB.out.alloc HB.out.size (.cells #[.int .i64 x.l[k].k, .bool x.l[k].b, .int .i64 x.l[k].n, .string x.l[k].t, .slice ax x.l[k].l.length cx] 28)
      have hb4' := (Below.refl wr.heap.size wr).alloc (Nat.le_refl _) (.cells #[.int .i64 x.l[k].k, .bool x.l[k].b, .int .i64 x.l[k].n, .string x.l[k].t, .slice ax x.l[k].l.length cx] 28)
      refine (HM.out _ _ B (Nat.le_trans hB hb4.size) (tabOk_below HT.out hb4) (isL_below HSX.out hb4 hB)).mono ?_
      rintro e w2 ⟨rfl, hb5⟩
      have HO2 := Lib.hid (owns_keep (owns_keep hO.out hb4') hb5)
      have HB2 := Lib.hid (below_down hb4 hb5 (Nat.le_refl _))
      have hz2 : wr.heap.size + 1 ≤ w2.heap.size := by have := hb5.size; simpa using this
      obtain ⟨i0, hi, hz0, hz1', hz2'⟩ := info_parts sinfo
      have HI := Lib.hid (And.intro hi (And.intro hz0 (And.intro hz1' hz2')))
      clear hb4 hb4' hb5 hO hg x0 x1 x2 x3 x4 hi hz0 hz1' hz2' Ha
      go_wp2_with (at_builtin; refine wpList_append_own_at _ rfl _ _ 48 rfl w.heap.size 9 i0 (.string { data := #[] }) 1 16 Tryd.underlying48 HI.out.1 HI.out.2.1 HI.out.2.2.1 HI.out.2.2.2 rfl (by decide) _ _ _ rfl (HO2.out.alloc _) ⟨w2.heap.size, 0, none⟩ 1 1 [.string (vtext x.l[k])] rfl rfl ?c1 ?c2 ?c3 ?c4 ?c5 ?_)
      case c1 => exact fun j u hj => news_last hj
      case c2 => intro u hu; simp only [List.mem_cons, List.not_mem_nil, or_false] at hu; subst hu; rfl
      case c3 => unfold maxLen; omega
      case c4 => omega
      case c5 => simp; omega
      intro v' w3 hown2 hgrow _ hat
      have hb6 : Below w.heap.size w w3 := (HB2.out.alloc HB2.out.size (.cells #[.string (vtext x.l[k])] 9)).grown hgrow (by simp; omega) (fun g hg => (ownBlock_lt HO2.out hg).1)
      have HO3 : Hid (w3.ownsRow w.heap.size 9 1 v' (k + 1) (strsV ((vtxL x.l).take (k + 1)))) := by
        rw [Hid, vtxL_get x.l k hlt, strsV, List.map_append]
        exact hown2
      have hz3 := hgrow.size
      have hz3' : w2.heap.size + 1 ≤ w3.heap.size := by simpa using hz3
      clear hown2 hgrow hat hz3
      go_wp2_with fail
      go_roundw
      case rel => exact ⟨k + 1, by omega, by go_num, hb6, by omega, HO3⟩
      case measure => simp [intOf]; omega
    · obtain rfl : k = x.l.length := by omega
      have hO' := hO.out
      rw [List.take_of_length_le (by rw [vtxL_len_eq]; exact Nat.le_refl _)] at hO'
      have hjl := join_len (vtxL x.l)
      have hlb := HL.out
      have hbe := bulk_eq x
      have hjl2 : (Lib.join (vtxL x.l) [44, 32]).length ≤ 26388279066624 := by omega
      obtain ⟨_, ⟨rfl, h0⟩ | ⟨g, cap, cur, rfl, hbg, hgg, hnc, hcm, hcs, htk⟩⟩ := id hO'
      · have hnil : x.l = [] := List.eq_nil_of_length_eq_zero h0
        go_wp2_with fail
        refine (Tryd.strings_Join_none _ _ _ _).mono ?_
        rintro e w2 ⟨rfl, rfl⟩
        go_wp2_with fail
        go_ret
        exact ⟨by rw [vtext, HX2.out, hnil]; rfl, HB.out⟩
      · have hsl : (strsB (vtxL x.l)).length = x.l.length := by rw [strsB, List.length_map, vtxL_len_eq]
        have hgl : g < wr.heap.size := (Array.getElem?_eq_some_iff.1 hgg).1
        have hJ := Tryd.strings_Join g 0 cap (strsB (vtxL x.l)) ⟨#[44, 32]⟩ wr (strs_cells hO') hgl (by omega) (by rw [hsl]; exact hnc) (by rw [strsB_back]; exact Nat.le_trans hjl2 (by omega))
        rw [hsl, strsB_back] at hJ
        have HJ := Lib.hid hJ
        have hjs : ({ data := (Lib.join (vtxL x.l) [44, 32]).toArray } : ByteArray).size ≤ 26388279066624 := by simpa [ByteArray.size] using hjl2
        clear hJ hO hO' hgg htk
        go_wp2_with fail
        refine HJ.out.mono ?_
        rintro e w2 ⟨rfl, hb2⟩
        go_wp2_with fail
        go_ret
        exact ⟨by rw [vtext, HX2.out, ← join_wrap]; rfl, below_down HB.out hb2 (Nat.le_refl _)⟩
theorem vText_all : ∀ (m : Nat) (x : GV), x.size ≤ m → x.fit → x.bulk ≤ 1099511627776 → TextC 13 vtext x := by
  intro m
  induction m with
  | zero => intro x h; have := size_l x; omega
  | succ m ih =>
    intro x h fx hb
    obtain ⟨_, _, _, _, _, _, hf⟩ := fit_open fx
    exact vText_step x fx hb fun y hy => ih y (by have := size_l x; have := sizeL_mem hy; omega) (fitL_mem hf y hy) (by have := bulkL_mem hy; rw [bulk_eq] at hb; omega)
theorem vText_any (x : GV) (fx : x.fit) (hb : x.bulk ≤ 1099511627776) : TextC 13 vtext x := vText_all x.size x (Nat.le_refl _) fx hb
end Go.Proofs.YtndnondneelgjaaDoor
