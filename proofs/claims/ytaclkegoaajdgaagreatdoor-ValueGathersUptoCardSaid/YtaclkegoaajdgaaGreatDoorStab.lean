/-
  slices.symMergeCmpFunc, stableCmpFunc, SortStableFunc, value.sorted over value.Order, at every length: the one sorted list. Conditions: lists and texts shorter than 2^31; the values may be.
-/
import Derived.Test.YtaclkegoaajdgaaGreatDoorSymC
import Derived.Test.YtaclkegoaajdgaaGreatDoorAggL
namespace Go.Proofs.YtaclkegoaajdgaaGreatDoor
open Go Go.RowKit
set_option maxRecDepth 100000
set_option linter.unusedVariables false
theorem symC_sub {n g cap B d d' : Nat} (h : SymC n g cap B d) (hd : d' ≤ d) : SymC n g cap B d' := fun l a m b w e fl h1 h2 h3 h4 => h l a m b w e fl h1 h2 h3 (Nat.lt_of_lt_of_le h4 hd)
theorem sym_all (n g cap B : Nat) (hn : n ≤ 2147483647) (hB : B ≤ g) : ∀ d, SymC n g cap B d
  | 0 => fun l a m b w e fl h1 h2 h3 h4 => by omega
  | d + 1 => fun l a m b w e fl h1 h2 h3 h4 s1 s2 hr => by
    have ih := symC_sub (sym_all n g cap B hn hB d) (show b - a ≤ d by omega)
    subst e
    by_cases c1 : m = a + 1
    · exact sym_first l hn fl a m b g cap B c1 h2 h3 w hB s1 s2 hr
    · by_cases c2 : b = m + 1
      · exact sym_last l hn fl a m b g cap B (by omega) c2 h3 w hB s1 s2 hr
      · by_cases c3 : (a + b) / 2 < m
        · exact sym_restA l hn fl a m b g cap B (by omega) (by omega) _ rfl c3 h3 w hB s1 s2 hr ih
        · exact sym_restB l hn fl a m b g cap B (by omega) (by omega) _ rfl c3 h3 w hB s1 s2 hr ih
/-! ### blocks in order -/
def BlI (f : Nat → GV) (s A n : Nat) : Prop := ∀ a, s ∣ a → a < A → srt f a (min (a + s) n)
def BlF (f : Nat → GV) (s A n : Nat) : Prop := ∀ a, s ∣ a → A ≤ a → srt f a (min (a + s) n)
theorem dvd_step {s a a' : Nat} (h : s ∣ a) (h' : s ∣ a') (hlt : a' < a) : a' + s ≤ a := by
  obtain ⟨t, rfl⟩ := h
  obtain ⟨t', rfl⟩ := h'
  have h1 : t' < t := Nat.lt_of_mul_lt_mul_left hlt
  have h2 : s * (t' + 1) ≤ s * t := Nat.mul_le_mul_left _ h1
  rw [Nat.mul_succ] at h2
  exact h2
theorem srt_none {f : Nat → GV} {a b : Nat} (h : b ≤ a) : srt f a b := fun i j h1 h2 h3 => by omega
theorem blI_step {f f' : Nat → GV} {s A n : Nat} (h : BlI f s A n) (hs : s ∣ A) (hk : ∀ i, i < A → f' i = f i) (hn : srt f' A (min (A + s) n)) : BlI f' s (A + s) n := fun a ha hlt => by
  by_cases e : a = A
  · subst e; exact hn
  · by_cases e2 : a < A
    · have := dvd_step hs ha e2
      exact srt_congr (h a ha e2) fun i i1 i2 => hk i (by omega)
    · have := dvd_step ha hs (by omega)
      omega
theorem blI_all {f f' : Nat → GV} {s A n : Nat} (h : BlI f s A n) (hs : s ∣ A) (hk : ∀ i, i < A → f' i = f i) (hn : srt f' A n) (hle : n ≤ A + s) : BlI f' s n n := fun a ha hlt => by
  have := blI_step h hs hk (srt_sub hn (Nat.le_refl _) (Nat.min_le_right _ _))
  exact this a ha (by omega)
theorem blF_of {f : Nat → GV} {s n : Nat} (h : BlI f s n n) : BlF f s 0 n := fun a ha _ => by
  by_cases e : a < n
  · exact h a ha e
  · exact srt_none (by omega)
theorem blF_step {f f' : Nat → GV} {s A A' n : Nat} (h : BlF f s A n) (hle : A ≤ A') (hk : ∀ i, A' ≤ i → f' i = f i) : BlF f' s A' n := fun a ha hl => srt_congr (h a ha (by omega)) fun i i1 _ => hk i (by omega)
theorem blF_two {f : Nat → GV} {s A n b : Nat} (h : BlF f s A n) (hs : s ∣ A) (hb : A + s + s = b ∨ (b = n ∧ n ≤ A + s + s)) (hbn : b ≤ n) : srt f A (A + s) ∧ srt f (A + s) b ∨ b < A + s := by
  by_cases e : A + s ≤ b
  · refine .inl ⟨?_, ?_⟩
    · have := h A hs (Nat.le_refl _)
      rwa [Nat.min_eq_left (by omega)] at this
    · have := h (A + s) (Nat.dvd_add hs (Nat.dvd_refl _)) (by omega)
      rcases hb with e2 | ⟨e2, e3⟩
      · rwa [Nat.min_eq_left (by omega), e2] at this
      · rwa [Nat.min_eq_right (by omega), ← e2] at this
  · exact .inr (by omega)
/-! ### stableCmpFunc -/
def StI (w wr : World) (g cap B : Nat) (l : List GV) (A : Nat) : Prop := ∃ m, Mov 0 l.length l m ∧ BlI (vat m) 20 A l.length ∧ rowO wr g cap B m ∧ Kg g w wr
def StO (w wr : World) (g cap B : Nat) (l : List GV) (s : Nat) : Prop := ∃ m, Mov 0 l.length l m ∧ BlI (vat m) s l.length l.length ∧ rowO wr g cap B m ∧ Kg g w wr
def StJ (w wr : World) (g cap B : Nat) (l : List GV) (s A : Nat) : Prop := ∃ m, Mov 0 l.length l m ∧ BlI (vat m) (s + s) A l.length ∧ BlF (vat m) s A l.length ∧ rowO wr g cap B m ∧ Kg g w wr
def StE (w wr : World) (g cap B : Nat) (l : List GV) : Prop := ∃ m, Mov 0 l.length l m ∧ srt (vat m) 0 l.length ∧ rowO wr g cap B m ∧ Kg g w wr
theorem st_ins {w wr w1 : World} {g cap B : Nat} {l m : List GV} {A : Nat} (hm : Mov 0 l.length l m) (hb : BlI (vat m) 20 A l.length) (hk : Kg g w wr) (hi : InI wr w1 g cap B m A (A + 20) (A + 20)) (hd : 20 ∣ A) (hle : A + 20 ≤ l.length) : StI w w1 g cap B l (A + 20) := by
  obtain ⟨m', r1, r2, r3, r4⟩ := hi
  exact ⟨m', hm.trans (r1.wide (Nat.zero_le _) hle), blI_step hb hd (fun i hi => r1.2.2.1 i (.inl hi)) (srt_sub r2 (Nat.le_refl _) (Nat.min_le_left _ _)), r3, hk.trans r4⟩
theorem st_last {w wr w1 : World} {g cap B : Nat} {l m : List GV} {A : Nat} (hm : Mov 0 l.length l m) (hb : BlI (vat m) 20 A l.length) (hk : Kg g w wr) (hi : InI wr w1 g cap B m A l.length l.length) (hd : 20 ∣ A) (hle : l.length ≤ A + 20) : StO w w1 g cap B l 20 := by
  obtain ⟨m', r1, r2, r3, r4⟩ := hi
  exact ⟨m', hm.trans (r1.wide (Nat.zero_le _) (Nat.le_refl _)), blI_all hb hd (fun i hi => r1.2.2.1 i (.inl hi)) r2 hle, r3, hk.trans r4⟩
theorem st_begin {w wr : World} {g cap B : Nat} {l : List GV} {s : Nat} (h : StO w wr g cap B l s) : StJ w wr g cap B l s 0 := by
  obtain ⟨m, h1, h2, h3, h4⟩ := h
  exact ⟨m, h1, fun a ha hlt => by omega, blF_of h2, h3, h4⟩
theorem st_two {w wr w1 : World} {g cap B : Nat} {l m : List GV} {s A : Nat} (hm : Mov 0 l.length l m) (hb : BlI (vat m) (s + s) A l.length) (hf : BlF (vat m) s A l.length) (hk : Kg g w wr) (hi : SyE wr w1 g cap B m A (A + s + s)) (hd : s + s ∣ A) (hle : A + s + s ≤ l.length) : StJ w w1 g cap B l s (A + s + s) := by
  obtain ⟨m', r1, r2, r3, r4⟩ := hi
  refine ⟨m', hm.trans (r1.wide (Nat.zero_le _) hle), ?_, blF_step hf (by omega) (fun i hi => r1.2.2.1 i (.inr hi)), r3, hk.trans r4⟩
  rw [Nat.add_assoc] at r2 ⊢
  exact blI_step hb hd (fun i hi => r1.2.2.1 i (.inl hi)) (srt_sub r2 (Nat.le_refl _) (Nat.min_le_left _ _))
theorem st_rest {w wr w1 : World} {g cap B : Nat} {l m : List GV} {s A : Nat} (hm : Mov 0 l.length l m) (hb : BlI (vat m) (s + s) A l.length) (hk : Kg g w wr) (hi : SyE wr w1 g cap B m A l.length) (hd : s + s ∣ A) (hle : l.length ≤ A + s + s) : StO w w1 g cap B l (s + s) := by
  obtain ⟨m', r1, r2, r3, r4⟩ := hi
  exact ⟨m', hm.trans (r1.wide (Nat.zero_le _) (Nat.le_refl _)), blI_all hb hd (fun i hi => r1.2.2.1 i (.inl hi)) r2 (by omega), r3, hk.trans r4⟩
theorem st_norest {w wr : World} {g cap B : Nat} {l : List GV} {s A : Nat} (h : StJ w wr g cap B l s A) (hd : s + s ∣ A) (hle : l.length ≤ A + s) : StO w wr g cap B l (s + s) := by
  obtain ⟨m, h1, h2, h3, h4, h5⟩ := h
  have hs : s ∣ A := Nat.dvd_trans ⟨2, by omega⟩ hd
  have := h3 A hs (Nat.le_refl _)
  rw [Nat.min_eq_right (by omega)] at this
  exact ⟨m, h1, blI_all h2 hd (fun _ _ => rfl) this (by omega), h4, h5⟩
theorem st_end {w wr : World} {g cap B : Nat} {l : List GV} {s : Nat} (h : StO w wr g cap B l s) (hle : l.length ≤ s) : StE w wr g cap B l := by
  obtain ⟨m, h1, h2, h3, h4⟩ := h
  refine ⟨m, h1, ?_, h3, h4⟩
  by_cases e : 0 < l.length
  · have := h2 0 (Nat.dvd_zero s) e
    rwa [Nat.zero_add, Nat.min_eq_right hle] at this
  · exact srt_none (by omega)
set_option maxHeartbeats 1600000 in
theorem stabler_any (l : List GV) (hl : l.length ≤ 2147483647) (fl : fitL l) (g cap B : Nat) (w : World) (hB : B ≤ g) (hr : rowO w g cap B l) :
    Calls Tryz.prog 89 #[.slice (some ⟨g, 0, none⟩) l.length cap, .int .i64 l.length, .func (.func 16) #[] #[]] w fun e w' => e = .returned (.tuple #[]) ∧ StE w w' g cap B l := by
  have HR0 : Hid (StI w w g cap B l 0) := ⟨l, Mov.refl _ _ _, fun a _ h => by omega, hr, Kg.refl g w⟩
  have HINS : Hid (∀ (m : List GV) (a b : Nat) (w' : World), m.length = l.length → fitL m → a ≤ b → b ≤ l.length → rowO w' g cap B m → Calls Tryz.prog 106 #[.slice (some ⟨g, 0, none⟩) l.length cap, .int .i64 a, .int .i64 b, .func (.func 16) #[] #[]] w' fun e w2 => e = .returned (.tuple #[]) ∧ InI w' w2 g cap B m a b b) := fun m a b w' e f h1 h2 h3 => by
    rw [← e] at hl h2 ⊢
    exact insr_any m hl f a b g cap B h1 h2 w' hB h3
  have HSYM : Hid (SymC l.length g cap B (l.length + 1)) := sym_all _ g cap B hl hB _
  have HFL := Lib.hid fl
  obtain ⟨n, hn⟩ : ∃ n, n = l.length := ⟨_, rfl⟩
  rw [← hn] at hl HINS HSYM ⊢
  have HN := Lib.hid hn
  have HNM := Lib.hid hl
  clear hr hn fl hl
  go_enter Tryz.func89, Tryz.ntmps89
  go_wp2_with fail
  go_loopw [7, 8] (fun x y wr => ∃ a b : Nat, x = .int .i64 a ∧ y = .int .i64 b ∧ Hid (b = a + 20 ∧ 20 ∣ a ∧ a ≤ n) ∧ Hid (StI w wr g cap B l a)) (fun x y _ => n + 20 - (intOf y).toNat)
  case atStart => exact ⟨0, 20, rfl, rfl, ⟨rfl, ⟨0, rfl⟩, Nat.zero_le _⟩, HR0⟩
  case round =>
    obtain ⟨a, b, rfl, rfl, HAB, HR⟩ := hrel
    obtain ⟨m, r1, r2, r3, r4⟩ := HR.out
    have HML := Lib.hid (show m.length = n from r1.1.trans HN.out.symm)
    have HFM := Lib.hid (mov_fit r1 HFL.out)
    have R1 := Lib.hid r1
    have R2 := Lib.hid r2
    have R3 := Lib.hid r3
    have R4 := Lib.hid r4
    clear r1 r2 r3 r4 HR
    by_cases hbn : b ≤ n
    · have d1 : decide ((b : Int) ≤ (n : Int)) = true := by simp; omega
      obtain ⟨b2, hb2⟩ : ∃ x, x = b + 20 := ⟨_, rfl⟩
      have f1 : (b : Int) + 20 = (b2 : Int) := by omega
      have f2 : IntKind.i64.wrap (b2 : Int) = (b2 : Int) := IntWalk.i64_in _ (by have := HNM.out; omega)
      have HB2 := Lib.hid hb2
      clear hb2
      go_wp2_with fail
      refine (HINS.out m a b _ HML.out HFM.out (by have := HAB.out; omega) hbn R3.out).mono ?_
      rintro e w1 ⟨rfl, hw⟩
      have HW := Lib.hid hw
      clear hw
      go_wp2_with fail
      go_roundw
      case rel =>
        have hab := HAB.out
        have hb2 := HB2.out
        have hnn := HN.out
        obtain ⟨e1, e2, e3⟩ := hab
        subst e1
        exact ⟨a + 20, b2, rfl, rfl, ⟨by omega, Nat.dvd_add e2 (Nat.dvd_refl _), by omega⟩, st_ins R1.out R2.out R4.out HW.out e2 (by omega)⟩
      case measure => have hb2 := HB2.out; simp [intOf]; omega
    · have d1 : decide ((b : Int) ≤ (n : Int)) = false := by simp; omega
      have d2 : decide (b ≤ n) = false := by simp; omega
      go_wp2_with fail
      refine (HINS.out m a n _ HML.out HFM.out HAB.out.2.2 (Nat.le_refl _) R3.out).mono ?_
      rintro e w1 ⟨rfl, hw⟩
      have HO0 : Hid (StO w w1 g cap B l 20) := by
        have hab := HAB.out
        rw [HN.out] at hw hbn
        exact st_last R1.out R2.out R4.out hw hab.2.1 (by omega)
      clear hw R1 R2 R3 R4 HML HFM HAB d1 d2 hbn
      go_wp2_with fail
      go_loopw [6] (fun x wq => ∃ s : Nat, x = .int .i64 s ∧ Hid (20 ≤ s) ∧ Hid (StO w wq g cap B l s)) (fun x _ => n - (intOf x).toNat)
      case atStart => exact ⟨20, rfl, Nat.le_refl _, HO0⟩
      case round =>
        obtain ⟨s, rfl, HS, HQ⟩ := hrel
        by_cases hsn : s < n
        rotate_left
        · have d1 : decide (s < n) = false := by simp; omega
          go_wp2_with fail
          go_end0
          exact ⟨rfl, st_end HQ.out (by have := HN.out; omega)⟩
        obtain ⟨s2, hs2⟩ : ∃ x, x = s + s := ⟨_, rfl⟩
        have f1 : (2 : Int) * (s : Int) = (s2 : Int) := by omega
        have f2 : (s : Int) * 2 = (s2 : Int) := by omega
        have f3 : IntKind.i64.wrap (s2 : Int) = (s2 : Int) := IntWalk.i64_in _ (by have := HNM.out; omega)
        have HS2 := Lib.hid hs2
        have HJ0 := Lib.hid (st_begin HQ.out)
        clear hs2 HQ
        go_wp2_with fail
        go_loopw [7, 8] (fun x y wq => ∃ a b : Nat, x = .int .i64 a ∧ y = .int .i64 b ∧ Hid (b = a + s + s ∧ s + s ∣ a ∧ a ≤ n) ∧ Hid (StJ w wq g cap B l s a)) (fun x y _ => n + s + s - (intOf y).toNat)
        case atStart => exact ⟨0, s2, rfl, rfl, ⟨by have := HS2.out; omega, ⟨0, rfl⟩, Nat.zero_le _⟩, HJ0⟩
        case round =>
          obtain ⟨a, b, rfl, rfl, HAB, HR⟩ := hrel
          obtain ⟨m1, hm1⟩ : ∃ x, x = a + s := ⟨_, rfl⟩
          have f4 : (a : Int) + (s : Int) = (m1 : Int) := by omega
          have f5 : IntKind.i64.wrap (m1 : Int) = (m1 : Int) := IntWalk.i64_in _ (by have := HNM.out; have := HAB.out; omega)
          have HM1 := Lib.hid hm1
          clear hm1
          by_cases hbn : b ≤ n
          · have d1 : decide ((b : Int) ≤ (n : Int)) = true := by simp; omega
            obtain ⟨m, r1, r2, r3, r4, r5⟩ := HR.out
            have HML := Lib.hid (show m.length = n from r1.1.trans HN.out.symm)
            have HFM := Lib.hid (mov_fit r1 HFL.out)
            have R1 := Lib.hid r1
            have R2 := Lib.hid r2
            have R3 := Lib.hid r3
            have R4 := Lib.hid r4
            have R5 := Lib.hid r5
            have HSP : Hid (srt (vat m) a m1 ∧ srt (vat m) m1 b) := by
              have hab := HAB.out
              rw [HM1.out]
              rcases blF_two (b := b) r3 (Nat.dvd_trans ⟨2, by omega⟩ hab.2.1) (.inl hab.1.symm) (by have := HN.out; omega) with h | h
              · exact h
              · omega
            obtain ⟨b2, hb2⟩ : ∃ x, x = b + s2 := ⟨_, rfl⟩
            have f6 : (b : Int) + (s2 : Int) = (b2 : Int) := by omega
            have f7 : IntKind.i64.wrap (b2 : Int) = (b2 : Int) := IntWalk.i64_in _ (by have := HNM.out; have := HS2.out; omega)
            have HB2 := Lib.hid hb2
            clear hb2 r1 r2 r3 r4 r5 HR
            go_wp2_with fail
            refine (HSYM.out m a m1 b _ HML.out HFM.out (by have := HM1.out; have := HS.out; omega) (by have := HM1.out; have := HAB.out; have := HS.out; omega) hbn (by omega) HSP.out.1 HSP.out.2 R4.out).mono ?_
            rintro e w2 ⟨rfl, hw⟩
            have HW := Lib.hid hw
            clear hw
            go_wp2_with fail
            go_roundw
            case rel =>
              have hb2 := HB2.out
              have hs2 := HS2.out
              have hnn := HN.out
              obtain ⟨e1, e2, e3⟩ := HAB.out
              have hw := HW.out
              rw [e1] at hw
              exact ⟨b, b2, rfl, rfl, ⟨by omega, by rw [e1, Nat.add_assoc]; exact Nat.dvd_add e2 (Nat.dvd_refl _), hbn⟩, by rw [e1]; exact st_two R1.out R2.out R3.out R5.out hw e2 (by omega)⟩
            case measure => have hb2 := HB2.out; have hs2 := HS2.out; have := HS.out; simp [intOf]; omega
          · have d1 : decide ((b : Int) ≤ (n : Int)) = false := by simp; omega
            have d2 : decide (b ≤ n) = false := by simp; omega
            by_cases hmn : m1 < n
            · obtain ⟨m, r1, r2, r3, r4, r5⟩ := HR.out
              have HML := Lib.hid (show m.length = n from r1.1.trans HN.out.symm)
              have HFM := Lib.hid (mov_fit r1 HFL.out)
              have R1 := Lib.hid r1
              have R2 := Lib.hid r2
              have R4 := Lib.hid r4
              have R5 := Lib.hid r5
              have HSP : Hid (srt (vat m) a m1 ∧ srt (vat m) m1 n) := by
                have hab := HAB.out
                have hm1 := HM1.out
                have hnn := HN.out
                rw [HM1.out]
                rcases blF_two (b := n) r3 (Nat.dvd_trans ⟨2, by omega⟩ hab.2.1) (.inr ⟨hnn, by omega⟩) (by omega) with h | h
                · exact h
                · omega
              clear r1 r2 r3 r4 r5 HR
              go_wp2_with fail
              refine (HSYM.out m a m1 n _ HML.out HFM.out (by have := HM1.out; have := HS.out; omega) hmn (Nat.le_refl _) (by omega) HSP.out.1 HSP.out.2 R4.out).mono ?_
              rintro e w2 ⟨rfl, hw⟩
              have HW := Lib.hid hw
              clear hw
              go_wp2_with fail
              go_roundw
              case rel =>
                have hs2 := HS2.out
                have hs := HS.out
                have hnn := HN.out
                have hw := HW.out
                have hab := HAB.out
                rw [hnn] at hw
                refine ⟨s2, rfl, Lib.hid (by omega), Lib.hid ?_⟩
                rw [hs2]
                exact st_rest R1.out R2.out R5.out hw hab.2.1 (by omega)
              case measure => have hs2 := HS2.out; have := HS.out; simp [intOf]; omega
            · have d3 : decide (m1 < n) = false := by simp; omega
              go_wp2_with fail
              go_roundw
              case rel =>
                have hs2 := HS2.out
                have hs := HS.out
                have hnn := HN.out
                have hm1 := HM1.out
                have hab := HAB.out
                refine ⟨s2, rfl, Lib.hid (by omega), Lib.hid ?_⟩
                rw [hs2]
                exact st_norest HR.out hab.2.1 (by omega)
              case measure => have hs2 := HS2.out; have := HS.out; simp [intOf]; omega
theorem ssfr_any (l : List GV) (hl : l.length ≤ 2147483647) (fl : fitL l) (g cap B : Nat) (w : World) (hB : B ≤ g) (hr : rowO w g cap B l) : Calls Tryz.prog 53 #[.slice (some ⟨g, 0, none⟩) l.length cap, .func (.func 16) #[] #[]] w fun e w' => e = .returned (.tuple #[]) ∧ StE w w' g cap B l := by
  have HC := Lib.hid (stabler_any l hl fl g cap B w hB hr)
  clear hr fl
  go_enter Tryz.func53, Tryz.ntmps53
  go_wp2_with fail
  refine HC.out.mono ?_
  rintro e w1 ⟨rfl, hw1⟩
  go_wp2_with fail
  go_end0
  exact ⟨rfl, hw1⟩
end Go.Proofs.YtaclkegoaajdgaaGreatDoor
