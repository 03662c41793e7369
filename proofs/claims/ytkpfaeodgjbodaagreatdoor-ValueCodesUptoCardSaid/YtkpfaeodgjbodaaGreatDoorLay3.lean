/-
  value.lay of any value that may be; value.Encode: its bytes, or the refusal. Conditions: lists and texts shorter than 2^31; fewer than 2^45 bytes.
-/
import Derived.Test.YtkpfaeodgjbodaaGreatDoorLay
namespace Go.Proofs.YtkpfaeodgjbodaaGreatDoor
open Go Go.RowKit
set_option maxRecDepth 100000
set_option linter.unusedVariables false
set_option maxHeartbeats 1600000 in
theorem lay_3 (t : ByteArray) (ht : t.size ≤ 65536) (a : Option Addr) (c : Nat) (w : World) (base B : Nat) (v : Value) (bs : List Nat) (hb : base ≤ w.heap.size) (hB : B ≤ base) (hv : bytesR w base v bs) (hlen : bs.length + 5 + t.size ≤ 35184372088832) : Calls Tryz.prog 18 #[v, .agg #[.int .i64 3, .bool false, .int .i64 0, .string t, .slice a 0 c]] w fun e w' => ∃ v', e = .returned v' ∧ bytesR w' base v' (bs ++ (3 :: (beN t.size 4 ++ txB t))) ∧ GK v.ownBlock w w' ∧ NB v.ownBlock w v'.ownBlock := by
  obtain ⟨i0, hi, hz0, hz1, hz2⟩ := info_parts binfo
  have HI := Lib.hid (And.intro hi (And.intro hz0 (And.intro hz1 hz2)))
  have HLE := Lib.hid hlen
  have HVV := Lib.hid hv
  have HBB := Lib.hid (And.intro hb hB)
  clear hi hz0 hz1 hz2 hlen
  go_enter Tryz.func18, Tryz.ntmps18
  go_upto_region 1 with fail
  obtain ⟨w1, hw1⟩ : ∃ u, u = w.alloc (.cells #[.int .i64 3, .bool false, .int .i64 0, .string t, .slice a 0 c] 33) := ⟨_, rfl⟩
  have hb1 : Below w.heap.size w w1 := by rw [hw1]; exact (Below.refl _ _).alloc (Nat.le_refl _) _
  have hx1 : w1.heap[w.heap.size]? = some (.cells #[.int .i64 3, .bool false, .int .i64 0, .string t, .slice a 0 c] 33 (0, 0)) := by rw [hw1]; exact heap_last
  have HV1 : Hid (bytesR w1 base v bs) := by rw [hw1]; exact World.ownsRow.alloc hv _
  rw [← hw1]
  obtain ⟨bx, hbx⟩ : ∃ b, b = w.heap.size := ⟨_, rfl⟩
  rw [← hbx] at hx1 ⊢
  have HNE : Hid (some bx ≠ v.ownBlock) := fun e => by have := (ownBlock_lt hv e.symm).2; omega
  have HGK1 : Hid (GK v.ownBlock w w1) := GK.below hb1 _
  have HX1 := Lib.hid hx1
  have q1 := fun o => cell_of hx1 o
  have l1 : bx < w1.heap.size := (Array.getElem?_eq_some_iff.1 hx1).1
  have n1 : bx ≠ w1.heap.size := by omega
  have hb1' : base ≤ w1.heap.size := Nat.le_trans hb hb1.size
  have HBX := Lib.hid hbx
  clear hw1 hb1 hx1 hv hbx
  go_wp2_with (at_builtin; refine wpList_append_own_at _ rfl _ _ 28 rfl base 5 i0 (.int .u8 0) 1 1 Tryz.underlying28 HI.out.1 HI.out.2.1 HI.out.2.2.1 HI.out.2.2.2 rfl (by decide) _ _ _ rfl (World.ownsRow.alloc HV1.out _) ⟨w1.heap.size, 0, none⟩ 1 1 [.int .u8 3] rfl rfl ?c1 ?c2 ?c3 ?c4 ?c5 ?_)
  case c1 => exact fun j u hj => news_last hj
  case c2 => intro u hu; simp only [List.mem_cons, List.not_mem_nil, or_false] at hu; subst hu; rfl
  case c3 => have h2 := HLE.out; unfold maxLen; omega
  case c4 => have h2 := HLE.out; omega
  case c5 => simp; omega
  intro v2 w2 hown2 hgrow _ hat
  have H2 := Lib.hid (push1 (k := 3) HGK1.out (NB.refl _ _) hown2 hgrow hat (Nat.le_succ _))
  have hx2 := box_far hgrow HNE.out HX1.out
  have HX2 := Lib.hid hx2
  have HNE2 := Lib.hid (ne_trans (w := w1) HNE.out (NB.at hat (Nat.le_succ _)) l1)
  have q2 := fun o => cell_of hx2 o
  have l2 : bx < w2.heap.size := (Array.getElem?_eq_some_iff.1 hx2).1
  have hb2' : base ≤ w2.heap.size := Nat.le_trans hb H2.out.2.1.2.2.2.1
  clear hown2 hgrow hat hx2 q1 n1 HX1 HNE HV1 HGK1
  go_wp2_with fail
  have HBG : Hid (∀ (w2' : World), bytesR w2' base v2 (bs ++ [3]) → base ≤ w2'.heap.size → Calls Tryz.prog 39 #[v2, .int .u64 (IntKind.u64.wrap (t.size : Int)), .int .i64 4] w2' fun e w' => ∃ v', e = .returned v' ∧ bytesR w' base v' (bs ++ [3] ++ beN t.size 4) ∧ GK v2.ownBlock w2' w' ∧ NB v2.ownBlock w2' v'.ownBlock) := fun w2' h1 h2 => by
    rw [show IntKind.u64.wrap (t.size : Int) = (t.size : Int) from by show (t.size : Int) % 18446744073709551616 = _; omega]
    exact big_b t.size base 4 (bs ++ [3]) (by have := HLE.out; simp; omega) (by omega) v2 w2' h2 h1
  have HD : Hid (bytesR w2.drew base v2 (bs ++ [3])) := H2.out.1
  have HST := Lib.hid Tryz.underlying9
  have HSL := Lib.hid Tryz.underlying28
  go_region_law (first
    | (refine step_text rfl _ _ 28 9 rfl base 5 i0 HSL.out HST.out HI.out.1 HI.out.2.1 HI.out.2.2.1 HI.out.2.2.2 v3 _ _ rfl HV3.out t rfl ?c1 ?c2 ?c3 ?_
       case c1 => simp [beN_length]
       case c2 => have h2 := HLE.out; simp [beN_length]; omega
       case c3 => exact Nat.le_trans hb2' HK3.out.2.2.2.1
       intro v4 w4 hown4 hgrow4 hat4
       have H4 : Hid (bytesR w4 base v4 (bs ++ 3 :: (beN t.size 4 ++ txB t)) ∧ GK v.ownBlock w w4 ∧ NB v.ownBlock w v4.ownBlock) := by
         refine ⟨?_, (H2.out.2.1.trans H2.out.2.2 HK3.out).trans HN3.out (GK.grown hgrow4), HN3.out.trans (H2.out.2.1.trans H2.out.2.2 HK3.out).2.2.2.1 (NB.at hat4 (Nat.le_refl _))⟩
         have h := pushT hown4
         have e : bs ++ 3 :: (beN t.size 4 ++ txB t) = bs ++ [3] ++ beN t.size 4 ++ txB t := by simp
         rw [e]
         exact h
       clear hown4 hgrow4 hat4)
    | (go_simp
       go_at_call 39
       refine (HBG.out _ HD.out hb2').mono ?_
       rintro e w3 ⟨v3, rfl, h31, h32, h33⟩
       have hx3 := (GK.far h32 l2 HNE2.out).trans HX2.out
       have q3 := fun o => cell_of hx3 o
       have l3 : bx < w3.heap.size := (Array.getElem?_eq_some_iff.1 hx3).1
       have HV3 := Lib.hid h31
       have HK3 : Hid (GK v2.ownBlock w2 w3) := h32
       have HN3 : Hid (NB v.ownBlock w v3.ownBlock) := H2.out.2.2.trans H2.out.2.1.2.2.2.1 h33
       clear h31 h32 h33 hx3))
  all_goals
    go_wp2_with fail
    go_ret
    exact ⟨v4, rfl, H4.out.1, H4.out.2.1, H4.out.2.2⟩
theorem lay_step (x : GV) (d : Nat) (fx : x.fit) (hc : chk x d = true) (h : ∀ y ∈ x.l, LayC y) : LayC x := by
  intro s w base B v bs hb hB hs hv hlen
  obtain ⟨a, c, rfl⟩ := isL_form hs
  rw [chk_eq, Bool.and_eq_true] at hc
  have hc1 := hc.1
  rw [enc_eq] at hlen ⊢
  obtain ⟨k, b, n, t, l⟩ := x
  dsimp only at hc1 hlen hs h ⊢
  simp only [GV.agg]
  rcases flat_null hc1 with ⟨rfl, rfl, rfl, rfl, h0⟩ | ⟨rfl, rfl, rfl, h0⟩ | ⟨rfl, rfl, rfl, h0⟩ | ⟨rfl, rfl, rfl, h1, h0⟩ | ⟨rfl, rfl, h1, rfl, h0⟩ | ⟨rfl, rfl, rfl, rfl, h0⟩
  · rw [h0] at *
    exact lay_0 a c w base B v bs hb hB hv (by simpa using hlen)
  · rw [h0] at *
    cases b
    · exact lay_1f a c w base B v bs hb hB hv (by simpa using hlen)
    · exact lay_1t a c w base B v bs hb hB hv (by simpa using hlen)
  · rw [h0] at *
    exact lay_2 n a c w base B v bs hb hB hv (by simpa [beN_length] using hlen)
  · rw [h0] at *
    exact lay_3 t h1 a c w base B v bs hb hB hv (by simp [beN_length, txB_length] at hlen; omega)
  · rw [h0] at *
    exact lay_5 n a c w base B v bs hb hB hv (by simpa [beN_length] using hlen)
  · exact lay_4 l h0 h w base B a c v bs hb hB hs hv (by simp [beN_length] at hlen; omega)
theorem lay_all : ∀ (m : Nat) (x : GV) (d : Nat), x.size ≤ m → x.fit → chk x d = true → LayC x
  | 0, x, d, h, _, _ => by have := size_l x; omega
  | m + 1, x, d, h, fx, hc => lay_step x d fx hc fun y hy => by
    have hs := size_l x
    have hy2 := sizeL_mem hy
    have hk : x.k = 4 := by
      rw [chk_eq, Bool.and_eq_true] at hc
      have hl : 0 < x.l.length := List.length_pos_of_mem hy
      rcases flat_null hc.1 with ⟨_, _, _, _, h0⟩ | ⟨_, _, _, h0⟩ | ⟨_, _, _, h0⟩ | ⟨_, _, _, _, h0⟩ | ⟨_, _, _, _, h0⟩ | ⟨h1, _⟩
      all_goals first | exact h1 | omega
    have hcl : chkL x.l (d + 1) = true := by
      rw [chk_eq, Bool.and_eq_true, hk] at hc
      have := hc.2
      simp only [bne_self_eq_false, Bool.false_or, Bool.and_eq_true] at this
      exact this.2
    exact lay_all m y (d + 1) (by omega) (fitL_mem (fit_open fx).2.2.2.2.2.2 y hy) (chkL_mem hcl y hy)
theorem lay_may (x : GV) (fx : x.fit) (hv : vmay x = true) : LayC x := lay_all x.size x 0 (Nat.le_refl _) fx hv
/-- what Encode tells -/
def EncO (w : World) (x : GV) (e : Ending) (w' : World) : Prop := (if vmay x = true then ∃ v, e = .returned (.tuple #[v, .int .i64 0]) ∧ bytesR w' w.heap.size v (enc x) else e = .returned (.tuple #[.slice none 0 0, .int .i64 1])) ∧ Below w.heap.size w w'
theorem encode_any (x : GV) (fx : x.fit) (hbk : x.bulk ≤ 1099511627776) (s : Value) (w : World) (B : Nat) (hB : B ≤ w.heap.size) (hs : isL w 0 B s x.l) : Calls Tryz.prog 6 #[x.agg s] w (EncO w x) := by
  obtain ⟨a, c, rfl⟩ := isL_form hs
  have HS := Lib.hid hs
  have HFX := Lib.hid fx
  have hlen := enc_bulk x.size x (Nat.le_refl _)
  have HLY : Hid (vmay x = true → ∀ (w1 : World), Below w.heap.size w w1 → Calls Tryz.prog 18 #[.slice none 0 0, x.agg (.slice a x.l.length c)] w1 fun e w' => ∃ v', e = .returned v' ∧ bytesR w' w.heap.size v' (enc x) ∧ Below w.heap.size w1 w') := fun hm w1 h1 => by
    refine (lay_may x fx hm (.slice a x.l.length c) w1 w.heap.size B (.slice none 0 0) [] h1.size hB (isL_below hs h1 hB) (bytesR_nil _ _) (by simp; omega)).mono ?_
    rintro e w' ⟨v', e1, h2, h3, h4⟩
    exact ⟨v', e1, by simpa using h2, h3.isBelow (bytesR_nil w1 w.heap.size) h1.size⟩
  obtain ⟨V, hV⟩ : ∃ V, V = vmay x := ⟨_, rfl⟩
  have HVY : Hid (V = vmay x) := hV
  have HCK : Hid (∀ (w1 : World), Below w.heap.size w w1 → Calls Tryz.prog 15 #[x.agg (.slice a x.l.length c)] w1 fun e w' => e = .returned (.bool V) ∧ Below w1.heap.size w1 w') := fun w1 h1 => by
    rw [hV]
    exact vCheck_any x fx _ w1 B (Nat.le_trans hB h1.size) (isL_below hs h1 hB)
  clear hs fx hlen hV hbk
  simp only [GV.agg] at HLY HCK ⊢
  go_enter Tryz.func6, Tryz.ntmps6
  go_upto_region 1 with fail
  obtain ⟨w1, hw1⟩ : ∃ u, u = w.alloc (.cells #[.int .i64 x.k, .bool x.b, .int .i64 x.n, .string x.t, .slice a x.l.length c] 33) := ⟨_, rfl⟩
  have hb1 : Below w.heap.size w w1 := by rw [hw1]; exact (Below.refl _ _).alloc (Nat.le_refl _) _
  have hx1 : w1.heap[w.heap.size]? = some (.cells #[.int .i64 x.k, .bool x.b, .int .i64 x.n, .string x.t, .slice a x.l.length c] 33 (0, 0)) := by rw [hw1]; exact heap_last
  rw [← hw1]
  have HX1 := Lib.hid hx1
  have HB1 := Lib.hid hb1
  have q1 := fun o => cell_of hx1 o
  have l1 : w.heap.size < w1.heap.size := (Array.getElem?_eq_some_iff.1 hx1).1
  clear hw1 hb1 hx1
  go_wp2_with fail
  refine (HCK.out w1 HB1.out).mono ?_
  rintro e w2 ⟨rfl, hb2⟩
  have hx2 := (hb2.block _ l1).trans HX1.out
  have HB2 := Lib.hid (below_down HB1.out hb2 (Nat.le_refl _))
  have q2 := fun o => cell_of hx2 o
  have l2 : w.heap.size < w2.heap.size := (Array.getElem?_eq_some_iff.1 hx2).1
  clear hb2 hx2 q1
  cases V
  · go_wp2_with fail
    go_ret2
    refine ⟨?_, HB2.out⟩
    rw [if_neg (by rw [← HVY.out]; simp)]
    exact rfl
  · go_wp2_with fail
    refine (HLY.out HVY.out.symm w2 HB2.out).mono ?_
    rintro e w3 ⟨v3, rfl, hv3, hb3⟩
    have HV3 := Lib.hid hv3
    have HB3 := Lib.hid (HB2.out.trans hb3)
    clear hv3 hb3 q2
    go_wp2_with fail
    go_ret2
    refine ⟨?_, HB3.out⟩
    rw [if_pos HVY.out.symm]
    exact ⟨v3, rfl, HV3.out⟩
end Go.Proofs.YtkpfaeodgjbodaaGreatDoor
