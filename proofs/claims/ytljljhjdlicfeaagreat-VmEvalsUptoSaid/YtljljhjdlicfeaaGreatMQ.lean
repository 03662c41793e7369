/-
  What the operations of one value tell: minus, not. Conditions: lists and texts shorter than 2^31.
-/
import Derived.Test.YtljljhjdlicfeaaGreatPAD
import Derived.Test.YtljljhjdlicfeaaGreatPAA
import Derived.Test.YtljljhjdlicfeaaGreatNH
import Derived.Test.YtljljhjdlicfeaaGreatHas
namespace Go.Proofs.YtljljhjdlicfeaaGreat
open Go Go.RowKit
set_option maxRecDepth 100000
set_option linter.unusedVariables false
def OneC (f : Nat) (h : GV → GV × Int) : Prop := ∀ (x : GV), x.fit → ∀ (sx : Value) (w : World) (B : Nat), B ≤ w.heap.size → isL w 0 B sx x.l → Calls Tryz.prog f #[x.agg sx] w (GivesO w (h x))
def ofP (kind : Int) (h : GV → GV × Int) (x y : GV) : GV × Int := if x.k = kind then h x else noP 4
set_option maxHeartbeats 1600000 in
theorem do_of (kind : Int) (f : Nat) (h : GV → GV × Int) (eg : ∀ (args : Array Value) (w : World), (callFunc f args).run Tryz.prog w = .ok (.enter f args) w) (hf : OneC f h) (b c : Nat) : DoC 107 #[.pointer (some ⟨b, 0, none⟩), .pointer (some ⟨c, 0, none⟩)] (fun w => lies w b (.int .i64 kind) 3 ∧ lies w c (fn0 f) 142) (ofP kind h) := by
  intro x y fx fy sx sy w B hB hx hy hl
  obtain ⟨ax, cx, rfl⟩ := isL_form hx
  obtain ⟨ay, cy, rfl⟩ := isL_form hy
  have HC : Hid (∀ w1, Below w.heap.size w w1 → Calls Tryz.prog f #[x.agg (.slice ax x.l.length cx)] w1 (GivesO w1 (h x))) := fun w1 h1 => hf x fx _ w1 B (Nat.le_trans hB h1.size) (isL_below hx h1 hB)
  obtain ⟨P, hP⟩ : ∃ P, P = ofP kind h x y := ⟨_, rfl⟩
  rw [← hP]
  have HP := Lib.hid hP
  have hlb := lies_lt hl.1
  have hlc := lies_lt hl.2
  have HL := Lib.hid hl
  obtain ⟨R, hR⟩ : ∃ R, R = h x := ⟨_, rfl⟩
  rw [← hR] at HC
  have HR := Lib.hid hR
  clear hx hy fx fy hP hl hf hR
  obtain ⟨kx, bx, nx, tx, lx⟩ := x
  obtain ⟨ky, by_, ny, ty, ly⟩ := y
  simp only [GV.agg] at HC ⊢
  show Calls Tryz.prog 107 #[.agg #[.int .i64 kx, .bool bx, .int .i64 nx, .string tx, .slice ax lx.length cx], .agg #[.int .i64 ky, .bool by_, .int .i64 ny, .string ty, .slice ay ly.length cy], .pointer (some ⟨b, 0, none⟩), .pointer (some ⟨c, 0, none⟩)] w _
  go_enter Tryz.func107, Tryz.ntmps107
  go_upto_region 1 with fail
  obtain ⟨wA, hwA, hb0, h0, h1, h2, hsz⟩ := boxes3 w #[.int .i64 kx, .bool bx, .int .i64 nx, .string tx, .slice ax lx.length cx] #[.int .i64 ky, .bool by_, .int .i64 ny, .string ty, .slice ay ly.length cy] #[.int .i64 0, .bool false, .int .i64 0, .string { data := #[] }, .slice none 0 0] 36
  rw [← hwA]
  have hcz : wA.cell? ⟨b, 0, none⟩ = some (.int .i64 kind) := (hb0.cell (p := ⟨b, 0, none⟩) hlb).trans ((cell_of HL.out.1 0).trans rfl)
  have hcf : wA.cell? ⟨c, 0, none⟩ = some (.func (.func f) #[] #[]) := (hb0.cell (p := ⟨c, 0, none⟩) hlc).trans ((cell_of HL.out.2 0).trans rfl)
  have HB0 := Lib.hid hb0
  have HZ := Lib.hid h2
  have q0 := fun o => cell_of h0 o
  have q1 := fun o => cell_of h1 o
  have s0 : w.heap.size < wA.heap.size := by omega
  have s1 : w.heap.size + 1 < wA.heap.size := by omega
  have s2 : w.heap.size + 2 < wA.heap.size := by omega
  have s5 : b < wA.heap.size := by omega
  have s6 : c < wA.heap.size := by omega
  clear hwA hb0 h0 h1 h2 hsz
  by_cases hk : kx = kind
  · have HN : Hid (P = R) := by rw [Hid, HP.out, ofP, if_pos hk, HR.out]
    have HC := Lib.hid (HC.out wA HB0.out)
    subst hk
    clear HR
    go_wp2_with fail
    refine HC.out.mono ?_
    rintro e w5 hgv
    obtain ⟨ar, cr, rfl, hr, hb5⟩ := hgv
    have hz5 := (hb5.block (w.heap.size + 2) s2).trans HZ.out
    have HB5 := Lib.hid (below_down HB0.out hb5 (Nat.le_refl _))
    have HR5 := Lib.hid hr
    have q5 := fun o => cell_of hz5 o
    have f5 := fun o => frozen_of hz5 o
    have hs5 : w.heap.size + 2 < w5.heap.size := by have := hb5.size; omega
    have hle5 : w.heap.size ≤ wA.heap.size := by omega
    simp only [GV.agg]
    clear hb5 hz5 hr
    go_wp2_with fail
    refine bodyPost_ret (v := .tuple #[.agg #[.int .i64 R.1.k, .bool R.1.b, .int .i64 R.1.n, .string R.1.t, .slice ar R.1.l.length cr], .int .i64 R.2]) (by simp [results, Tryz.results107, go_sem, q5]) rfl ?_
    rw [HN.out]
    exact gives_box (w1 := wA) HR5.out HB5.out hle5 (by omega) s2 _ _ _ _ _
  · have HN : Hid (P = noP 4) := by rw [Hid, HP.out, ofP, if_neg hk]
    have hne : (kx != kind) = true := by simp; omega
    have hne2 : (kx == kind) = false := by simp; omega
    clear hk HC
    go_wp2_with fail
    refine (no_v 4 _).mono ?_
    rintro e w9 ⟨rfl, hb9⟩
    have HB9 := Lib.hid (below_down HB0.out hb9 (Nat.le_refl _))
    have hz9 := (hb9.block (w.heap.size + 2) s2).trans HZ.out
    have s9 : w.heap.size + 2 < w9.heap.size := by have := hb9.size; omega
    have q9 := fun o => cell_of hz9 o
    have f9 := fun o => frozen_of hz9 o
    clear hb9 hz9
    go_wp2_with fail
    refine bodyPost_ret (v := .tuple #[.agg #[.int .i64 0, .bool false, .int .i64 0, .string { data := #[] }, .slice none 0 0], .int .i64 4]) (by simp [results, Tryz.results107, go_sem, q9]) rfl (gives_flat (by rw [HN.out]; rfl) (by rw [HN.out]; rfl) (below_set5 HB9.out (by omega) _ _ _ _ _))
set_option maxHeartbeats 800000 in
theorem not_one : OneC 89 (fun x => truthP (!x.b)) := by
  intro x fx sx w B hB hx
  obtain ⟨ax, cx, rfl⟩ := isL_form hx
  clear hx fx
  obtain ⟨kx, bx, nx, tx, lx⟩ := x
  simp only [GV.agg]
  show Calls Tryz.prog 89 #[.agg #[.int .i64 kx, .bool bx, .int .i64 nx, .string tx, .slice ax lx.length cx]] w _
  go_enter Tryz.func89, Tryz.ntmps89
  go_upto_region 1 with fail
  obtain ⟨wA, hwA, hb0, h0, h2, hsz⟩ := boxes2 w #[.int .i64 kx, .bool bx, .int .i64 nx, .string tx, .slice ax lx.length cx] #[.int .i64 0, .bool false, .int .i64 0, .string { data := #[] }, .slice none 0 0] 36
  rw [← hwA]
  have HB0 := Lib.hid hb0
  have HZ := Lib.hid h2
  have q0 := fun o => cell_of h0 o
  have s0 : w.heap.size < wA.heap.size := by omega
  have s2 : w.heap.size + 1 < wA.heap.size := by omega
  clear hwA hb0 h0 h2 hsz
  go_wp2_with fail
  refine (truth_v (!bx) _).mono ?_
  rintro e w9 ⟨rfl, hb9⟩
  have HB9 := Lib.hid (below_down HB0.out hb9 (Nat.le_refl _))
  have hz9 := (hb9.block (w.heap.size + 1) s2).trans HZ.out
  have s9 : w.heap.size + 1 < w9.heap.size := by have := hb9.size; omega
  have q9 := fun o => cell_of hz9 o
  have f9 := fun o => frozen_of hz9 o
  clear hb9 hz9
  go_wp2_with fail
  refine bodyPost_ret (v := .tuple #[.agg #[.int .i64 1, .bool (!bx), .int .i64 0, .string { data := #[] }, .slice none 0 0], .int .i64 0]) (by simp [results, Tryz.results89, go_sem, q9]) rfl (gives_flat rfl rfl (below_set5 HB9.out (by omega) _ _ _ _ _))
def zeroG : GV := ⟨2, false, 0, ⟨#[]⟩, []⟩
set_option maxHeartbeats 1600000 in
theorem neg_one : OneC 86 (fun x => reckP (fun a b => boundK (a - b)) zeroG x) := by
  intro x fx sx w B hB hx
  obtain ⟨ax, cx, rfl⟩ := isL_form hx
  dsimp only
  have HK : Hid (∀ (b : Nat) (w1 : World), Below w.heap.size w w1 → lies w1 b (fn0 88) 141 → Calls Tryz.prog 108 #[zeroG.agg (.slice none 0 0), x.agg (.slice ax x.l.length cx), .pointer (some ⟨b, 0, none⟩)] w1 (GivesO w1 (reckP (fun a b => boundK (a - b)) zeroG x))) := fun b w1 h1 hl =>
    do_reck 88 (fun a b => boundK (a - b)) Tryz.call88 sub_k b zeroG x (by simp only [zeroG, GV.fit]; exact ⟨by decide, by decide, by decide, by decide, by decide, by decide, trivial⟩) fx _ _ w1 B (Nat.le_trans hB h1.size) (isL_nil _ _) (isL_below hx h1 hB) hl
  obtain ⟨P, hP⟩ : ∃ P, P = reckP (fun a b => boundK (a - b)) zeroG x := ⟨_, rfl⟩
  rw [← hP] at HK ⊢
  clear hP hx fx
  obtain ⟨kx, bx, nx, tx, lx⟩ := x
  simp only [GV.agg, zeroG] at HK ⊢
  show Calls Tryz.prog 86 #[.agg #[.int .i64 kx, .bool bx, .int .i64 nx, .string tx, .slice ax lx.length cx]] w _
  go_enter Tryz.func86, Tryz.ntmps86
  go_upto_region 1 with fail
  obtain ⟨wA, hwA, hb0, h0, h2, hsz⟩ := boxes2 w #[.int .i64 kx, .bool bx, .int .i64 nx, .string tx, .slice ax lx.length cx] #[.int .i64 0, .bool false, .int .i64 0, .string { data := #[] }, .slice none 0 0] 36
  rw [← hwA]
  have HB0 := Lib.hid hb0
  have HX := Lib.hid h0
  have HZ := Lib.hid h2
  have qx := fun o => cell_of h0 o
  have s0 : w.heap.size < wA.heap.size := by omega
  have s2 : w.heap.size + 1 < wA.heap.size := by omega
  clear hwA hb0 h0 h2 hsz
  obtain ⟨p0, p1, p2, p3, p4⟩ : wA.cell? ⟨w.heap.size, 0, none⟩ = some (.int .i64 kx) ∧ wA.cell? ⟨w.heap.size, 1, none⟩ = some (.bool bx) ∧ wA.cell? ⟨w.heap.size, 2, none⟩ = some (.int .i64 nx) ∧ wA.cell? ⟨w.heap.size, 3, none⟩ = some (.string tx) ∧ wA.cell? ⟨w.heap.size, 4, none⟩ = some (.slice ax lx.length cx) := ⟨(qx 0).trans rfl, (qx 1).trans rfl, (qx 2).trans rfl, (qx 3).trans rfl, (qx 4).trans rfl⟩
  have HR : Hid (∀ w2, Calls Tryz.prog 87 #[.func (.func 88) #[] #[]] w2 fun e w' => e = .returned (.agg #[.int .i64 2, .func (.func 108) #[] #[.pointer (some ⟨w2.heap.size, 0, none⟩)]]) ∧ Below w2.heap.size w2 w' ∧ lies w' w2.heap.size (fn0 88) 141 ∧ w'.heap.size = w2.heap.size + 2) := fun w2 => reckons_any 88 w2
  have hfld := field_do
  have ne0 : w.heap.size ≠ w.heap.size + 1 := by omega
  clear qx
  go_region_law (first
    | (go_simp
       go_at_call 87
       refine (HR.out _).mono ?_
       rintro e w6 ⟨rfl, hb6, hl6, hsz6⟩
       have hb6' : Below wA.heap.size wA w6 := (Below.refl wA.heap.size wA).drew.trans hb6
       have HB6 := Lib.hid hb6'
       have HL6 := Lib.hid hl6
       have HW6 := Lib.hid (below_down HB0.out hb6' (Nat.le_refl _))
       have hx6 := (hb6'.block w.heap.size s0).trans HX.out
       have t0 := fun o => cell_of hx6 o
       have hz6 := hb6'.size
       have z0 : w.heap.size < w6.heap.size := by omega
       clear hb6 hl6 hsz6 hz6 hb6' hx6)
    | (go_simp
       go_at_call 108
       refine (HK.out _ _ HW6.out HL6.out).mono ?_
       rintro e w7 hgv
       obtain ⟨ar, cr, rfl, hr, hb7⟩ := hgv
       have hb7' := below_down HB6.out hb7 (Nat.le_refl _)
       have HB7 := Lib.hid (below_down HB0.out hb7' (Nat.le_refl _))
       have hz7 := (hb7'.block (w.heap.size + 1) s2).trans HZ.out
       have q7 := fun o => cell_of hz7 o
       have f7 := fun o => frozen_of hz7 o
       have hs7 := hb7'.size
       have hs6 := HB6.out.size
       have z2 : w.heap.size + 1 < w7.heap.size := by omega
       have z3 : w.heap.size ≤ w6.heap.size := by omega
       have z4 : w.heap.size + 1 < w6.heap.size := by omega
       have HR7 := Lib.hid hr
       simp only [GV.agg]
       clear hb7 hs7 hb7' hz7 hr hs6))
  all_goals
    go_wp2_with fail
    refine bodyPost_ret (v := .tuple #[.agg #[.int .i64 P.1.k, .bool P.1.b, .int .i64 P.1.n, .string P.1.t, .slice ar P.1.l.length cr], .int .i64 P.2]) (by simp [results, Tryz.results86, go_sem, q7]) rfl (gives_box (w1 := w6) HR7.out HB7.out z3 (by omega) z4 _ _ _ _ _)
end Go.Proofs.YtljljhjdlicfeaaGreat
namespace Go.Proofs.YtljljhjdlicfeaaGreat
open Go Go.RowKit
set_option maxRecDepth 100000
set_option linter.unusedVariables false
def subP : GV → GV → GV × Int := reckP fun a b => boundK (a - b)
def mulP : GV → GV → GV × Int := reckP fun a b => boundK (a * b)
def divP : GV → GV → GV × Int := reckP divK
def modP : GV → GV → GV × Int := reckP modK
def negP : GV → GV → GV × Int := ofP 2 fun x => reckP (fun a b => boundK (a - b)) zeroG x
def notP : GV → GV → GV × Int := ofP 1 fun x => truthP (!x.b)
def applyP (op : Int) (l : List GV) : GV × Int :=
  if op = 6 then appP 1 negP l else if op = 7 then appP 1 notP l else if op = 10 then appP 2 eqP l else if op = 11 then appP 2 neP l
  else if op = 12 then appP 2 ltP l else if op = 13 then appP 2 leP l else if op = 14 then appP 2 gtP l else if op = 15 then appP 2 geP l
  else if op = 16 then appP 2 plusP l else if op = 17 then appP 2 subP l else if op = 18 then appP 2 mulP l else if op = 19 then appP 2 divP l else if op = 20 then appP 2 modP l
  else if op = 21 then appP 1 sizeP l else if op = 22 then appP 2 hasP l else noP 1
theorem find_none (op : Int) (h : Nat) (hn : op ≠ 6 ∧ op ≠ 7 ∧ op ≠ 10 ∧ op ≠ 11 ∧ op ≠ 12 ∧ op ≠ 13 ∧ op ≠ 14 ∧ op ≠ 15 ∧ op ≠ 16 ∧ op ≠ 17 ∧ op ≠ 18 ∧ op ≠ 19 ∧ op ≠ 20 ∧ op ≠ 21 ∧ op ≠ 22) : Instr.findNow (.int .i64) (.int .i64 op) (opsE h) 0 = some none := by
  obtain ⟨h6, h7, h10, h11, h12, h13, h14, h15, h16, h17, h18, h19, h20, h21, h22⟩ := hn
  have e6 : (op == 6) = false := by simpa using h6
  have e7 : (op == 7) = false := by simpa using h7
  have e10 : (op == 10) = false := by simpa using h10
  have e11 : (op == 11) = false := by simpa using h11
  have e12 : (op == 12) = false := by simpa using h12
  have e13 : (op == 13) = false := by simpa using h13
  have e14 : (op == 14) = false := by simpa using h14
  have e15 : (op == 15) = false := by simpa using h15
  have e16 : (op == 16) = false := by simpa using h16
  have e17 : (op == 17) = false := by simpa using h17
  have e18 : (op == 18) = false := by simpa using h18
  have e19 : (op == 19) = false := by simpa using h19
  have e20 : (op == 20) = false := by simpa using h20
  have e21 : (op == 21) = false := by simpa using h21
  have e22 : (op == 22) = false := by simpa using h22
  simp only [opsE, Instr.findNow, Instr.sameNow, if_true, e6, e7, e10, e11, e12, e13, e14, e15, e16, e17, e18, e19, e20, e21, e22]
theorem apply_sub (l : List GV) (hll : l.length ≤ 2147483647) (fl : fitL l) (s : Value) (w : World) (B : Nat) (hB : B ≤ w.heap.size) (hs : isL w 0 B s l) :
    Calls Tryz.prog 67 #[.int .i64 17, s] w (GivesO w (appP 2 subP l)) :=
  apply_op 17 2 (by decide) 108 (fun h => #[.pointer (some ⟨h + 15, 0, none⟩)]) (fun h w => lies w (h + 15) (fn0 88) 141) subP l hll fl Tryz.call108 (fun h => do_reck 88 (fun a b => boundK (a - b)) Tryz.call88 sub_k (h + 15))
    (fun w0 w1 w2 T hb => lies_below ((T.lays (15, fn0 88, 141) (by simp [opsL])).2) hb) (fun h => ⟨9, rfl⟩) s w B hB hs
theorem apply_mul (l : List GV) (hll : l.length ≤ 2147483647) (fl : fitL l) (s : Value) (w : World) (B : Nat) (hB : B ≤ w.heap.size) (hs : isL w 0 B s l) :
    Calls Tryz.prog 67 #[.int .i64 18, s] w (GivesO w (appP 2 mulP l)) :=
  apply_op 18 2 (by decide) 108 (fun h => #[.pointer (some ⟨h + 17, 0, none⟩)]) (fun h w => lies w (h + 17) (fn0 99) 141) mulP l hll fl Tryz.call108 (fun h => do_reck 99 (fun a b => boundK (a * b)) Tryz.call99 mul_k (h + 17))
    (fun w0 w1 w2 T hb => lies_below ((T.lays (17, fn0 99, 141) (by simp [opsL])).2) hb) (fun h => ⟨10, rfl⟩) s w B hB hs
theorem apply_div (l : List GV) (hll : l.length ≤ 2147483647) (fl : fitL l) (s : Value) (w : World) (B : Nat) (hB : B ≤ w.heap.size) (hs : isL w 0 B s l) :
    Calls Tryz.prog 67 #[.int .i64 19, s] w (GivesO w (appP 2 divP l)) :=
  apply_op 19 2 (by decide) 108 (fun h => #[.pointer (some ⟨h + 19, 0, none⟩)]) (fun h w => lies w (h + 19) (fn0 100) 141) divP l hll fl Tryz.call108 (fun h => do_reck 100 divK Tryz.call100 div_k (h + 19))
    (fun w0 w1 w2 T hb => lies_below ((T.lays (19, fn0 100, 141) (by simp [opsL])).2) hb) (fun h => ⟨11, rfl⟩) s w B hB hs
theorem apply_mod (l : List GV) (hll : l.length ≤ 2147483647) (fl : fitL l) (s : Value) (w : World) (B : Nat) (hB : B ≤ w.heap.size) (hs : isL w 0 B s l) :
    Calls Tryz.prog 67 #[.int .i64 20, s] w (GivesO w (appP 2 modP l)) :=
  apply_op 20 2 (by decide) 108 (fun h => #[.pointer (some ⟨h + 21, 0, none⟩)]) (fun h w => lies w (h + 21) (fn0 101) 141) modP l hll fl Tryz.call108 (fun h => do_reck 101 modK Tryz.call101 mod_k (h + 21))
    (fun w0 w1 w2 T hb => lies_below ((T.lays (21, fn0 101, 141) (by simp [opsL])).2) hb) (fun h => ⟨12, rfl⟩) s w B hB hs
theorem apply_neg (l : List GV) (hll : l.length ≤ 2147483647) (fl : fitL l) (s : Value) (w : World) (B : Nat) (hB : B ≤ w.heap.size) (hs : isL w 0 B s l) :
    Calls Tryz.prog 67 #[.int .i64 6, s] w (GivesO w (appP 1 negP l)) :=
  apply_op 6 1 (by decide) 107 (fun h => #[.pointer (some ⟨h + 1, 0, none⟩), .pointer (some ⟨h + 2, 0, none⟩)]) (fun h w => lies w (h + 1) (.int .i64 2) 3 ∧ lies w (h + 2) (fn0 86) 142) negP l hll fl Tryz.call107 (fun h => do_of 2 86 (fun x => reckP (fun a b => boundK (a - b)) zeroG x) Tryz.call86 neg_one (h + 1) (h + 2))
    (fun w0 w1 w2 T hb => ⟨lies_below ((T.lays (1, .int .i64 2, 3) (by simp [opsL])).2) hb, lies_below ((T.lays (2, fn0 86, 142) (by simp [opsL])).2) hb⟩) (fun h => ⟨0, rfl⟩) s w B hB hs
theorem apply_not (l : List GV) (hll : l.length ≤ 2147483647) (fl : fitL l) (s : Value) (w : World) (B : Nat) (hB : B ≤ w.heap.size) (hs : isL w 0 B s l) :
    Calls Tryz.prog 67 #[.int .i64 7, s] w (GivesO w (appP 1 notP l)) :=
  apply_op 7 1 (by decide) 107 (fun h => #[.pointer (some ⟨h + 4, 0, none⟩), .pointer (some ⟨h + 5, 0, none⟩)]) (fun h w => lies w (h + 4) (.int .i64 1) 3 ∧ lies w (h + 5) (fn0 89) 142) notP l hll fl Tryz.call107 (fun h => do_of 1 89 (fun x => truthP (!x.b)) Tryz.call89 not_one (h + 4) (h + 5))
    (fun w0 w1 w2 T hb => ⟨lies_below ((T.lays (4, .int .i64 1, 3) (by simp [opsL])).2) hb, lies_below ((T.lays (5, fn0 89, 142) (by simp [opsL])).2) hb⟩) (fun h => ⟨1, rfl⟩) s w B hB hs
theorem apply_add' (l : List GV) (hll : l.length ≤ 2147483647) (fl : fitL l) (s : Value) (w : World) (B : Nat) (hB : B ≤ w.heap.size) (hs : isL w 0 B s l) :
    Calls Tryz.prog 67 #[.int .i64 16, s] w (GivesO w (appP 2 plusP l)) :=
  apply_op 16 2 (by decide) 98 (fun _ => #[]) (fun _ _ => True) plusP l hll fl Tryz.call98 (fun _ => do_plus) (fun _ _ _ _ _ => trivial) (fun h => ⟨8, rfl⟩) s w B hB hs
theorem apply_size' (l : List GV) (hll : l.length ≤ 2147483647) (fl : fitL l) (s : Value) (w : World) (B : Nat) (hB : B ≤ w.heap.size) (hs : isL w 0 B s l) :
    Calls Tryz.prog 67 #[.int .i64 21, s] w (GivesO w (appP 1 sizeP l)) :=
  apply_op 21 1 (by decide) 102 (fun _ => #[]) (fun _ _ => True) sizeP l hll fl Tryz.call102 (fun _ => do_size) (fun _ _ _ _ _ => trivial) (fun h => ⟨13, rfl⟩) s w B hB hs
theorem apply_has' (l : List GV) (hll : l.length ≤ 2147483647) (fl : fitL l) (s : Value) (w : World) (B : Nat) (hB : B ≤ w.heap.size) (hs : isL w 0 B s l) :
    Calls Tryz.prog 67 #[.int .i64 22, s] w (GivesO w (appP 2 hasP l)) :=
  apply_op 22 2 (by decide) 104 (fun _ => #[]) (fun _ _ => True) hasP l hll fl Tryz.call104 (fun _ => do_has) (fun _ _ _ _ _ => trivial) (fun h => ⟨14, rfl⟩) s w B hB hs
theorem apply_any (op : Int) (l : List GV) (hll : l.length ≤ 2147483647) (fl : fitL l) (s : Value) (w : World) (B : Nat) (hB : B ≤ w.heap.size) (hs : isL w 0 B s l) :
    Calls Tryz.prog 67 #[.int .i64 op, s] w (GivesO w (applyP op l)) := by
  unfold applyP
  by_cases h6 : op = 6
  · subst h6; exact apply_neg l hll fl s w B hB hs
  rw [if_neg h6]
  by_cases h7 : op = 7
  · subst h7; exact apply_not l hll fl s w B hB hs
  rw [if_neg h7]
  by_cases h10 : op = 10
  · subst h10; exact apply_eq l hll fl s w B hB hs
  rw [if_neg h10]
  by_cases h11 : op = 11
  · subst h11; exact apply_ne l hll fl s w B hB hs
  rw [if_neg h11]
  by_cases h12 : op = 12
  · subst h12; exact apply_lt l hll fl s w B hB hs
  rw [if_neg h12]
  by_cases h13 : op = 13
  · subst h13; exact apply_le l hll fl s w B hB hs
  rw [if_neg h13]
  by_cases h14 : op = 14
  · subst h14; exact apply_gt l hll fl s w B hB hs
  rw [if_neg h14]
  by_cases h15 : op = 15
  · subst h15; exact apply_ge l hll fl s w B hB hs
  rw [if_neg h15]
  by_cases h16 : op = 16
  · subst h16; exact apply_add' l hll fl s w B hB hs
  rw [if_neg h16]
  by_cases h17 : op = 17
  · subst h17; exact apply_sub l hll fl s w B hB hs
  rw [if_neg h17]
  by_cases h18 : op = 18
  · subst h18; exact apply_mul l hll fl s w B hB hs
  rw [if_neg h18]
  by_cases h19 : op = 19
  · subst h19; exact apply_div l hll fl s w B hB hs
  rw [if_neg h19]
  by_cases h20 : op = 20
  · subst h20; exact apply_mod l hll fl s w B hB hs
  rw [if_neg h20]
  by_cases h21 : op = 21
  · subst h21; exact apply_size' l hll fl s w B hB hs
  rw [if_neg h21]
  by_cases h22 : op = 22
  · subst h22; exact apply_has' l hll fl s w B hB hs
  rw [if_neg h22]
  exact apply_off op l (fun h => find_none op h ⟨h6, h7, h10, h11, h12, h13, h14, h15, h16, h17, h18, h19, h20, h21, h22⟩) s w B hB hs
end Go.Proofs.YtljljhjdlicfeaaGreat
