/-
  ModmatDeterminants: the walk.
-/
import Derived.Test.YtcjpjnneimjfiaaRfL
import Derived.Test.YtcjpjnneimjfiaaChgE
import Derived.Test.YtcjpjnneimjfiaaSan7
namespace Go.Proofs.Ytcjpjnneimjfiaa
open Go.RowKit
section
variable {p : Nat} [NeZero p]
attribute [local go_sem] opGrow growUpon

/-- A value that is known. -/
def EqY (u v : Value) (_ : World) : Prop := v = u
set_option maxRecDepth 100000 in
theorem EqY.keep {u : Value} (v : Value) (w w' : World) (h : EqY u v w) (_ : Q w w') : EqY u v w' := h
set_option maxRecDepth 100000 in
theorem det_i (hp : Fp p) (v : Value) (n : Nat) (M : Mt p) (w : World) (h : ModV w v n n M) (hn : n ≤ 4) {d : Fin p} (e : lap n M = d) :
    Calls Try.prog 16 #[v] w (DetP w d 0) := by
  have h1 := det_any hp v n M w h (by omega)
  rw [det_lap hn (rf_inv hp n n M), e] at h1
  exact h1
set_option maxRecDepth 100000 in
/-- The determinant is zero exactly if the rank falls short. -/
theorem det_zero (hp : Fp p) (n : Nat) (M : Mt p) (hn : n ≤ 4) : lap n M = 0 ↔ (rf n n M).r < n := by
  rw [← det_lap hn (rf_inv hp n n M)]
  unfold detOf
  constructor
  · intro h
    by_cases e : (rf n n M).r < n
    · exact e
    · rw [if_neg e] at h
      exact absurd h (dt_ne hp.two (iv_spec hp) n n M)
  · intro h; rw [if_pos h]
set_option maxRecDepth 100000 in
/-- A slice handed over as it lies in the result. -/
theorem rows_upd {p : Nat} {base k n c W : Nat} {w : World} {A : Option Addr} {M : Mt p} (h : RowsO base w A n c W M) (i : Nat) (u : Value) (hk : k < base) : RowsO base (w.setCell ⟨k, i, none⟩ u) A n c W M := h.away ((Upd.refl k w).setCell i u) hk
set_option maxRecDepth 100000 in
theorem chg0_det (I K n : Nat) (f : Fin p) (M : Mt p) (hn : n ≤ 4) : lap n (chgM 0 I K n f M) = if 0 < n ∧ I % n ≠ K % n then 0 - lap n M else lap n M := by
  by_cases h0 : n = 0
  · rw [if_neg (by omega)]; unfold chgM; rw [if_pos h0]
  · have hn0 : 0 < n := by omega
    rw [chgM_0 hn0 (by decide)]
    by_cases e : I % n = K % n
    · rw [if_neg (fun h => h.2 e), e, swp_self]
    · rw [if_pos ⟨hn0, e⟩, lap_swp hn (Nat.mod_lt _ hn0) (Nat.mod_lt _ hn0) e]
set_option maxRecDepth 100000 in
theorem sized_d (hp : Fp p) (v : Value) (P C : Nat) (L : List (List Nat)) (rows cols : Nat) (w : World) (h : RawV w v P C L) (hP : prN P = p) (hP2 : P < 256) (hr : rows ≤ 1024) (hc : cols ≤ 1024) {M : Mt p} (e : szM L = M) :
    Calls Try.prog 33 #[v, .int .i64 (rows : Int), .int .i64 (cols : Int)] w (ModQ w rows cols M) := e ▸ sized_any hp v P C L rows cols w h hP hP2 hr hc
set_option maxRecDepth 100000 in
theorem changed_d (hp : Fp p) (v : Value) (I K C n W : Nat) (M : Mt p) (w : World) (h : ModV w v n W M) (hn : n ≤ 1024) (hW : W ≤ 1024) (h2 : I < 256) (h3 : K < 256) (h4 : C < 4294967296) :
    Calls Try.prog 28 #[v, .agg #[.int .u8 0, .int .u8 I, .int .u8 K, .int .u32 C]] w (ModR w n W (chgM 0 I K n (Fin.ofNat p C) M)) := by
  have h1 := changed_any hp v 0 I K C n W M w h hn hW (by decide) h2 h3 h4
  rw [chgN_0 (by decide)] at h1
  exact h1
set_option maxHeartbeats 4000000 in
set_option maxRecDepth 100000 in
theorem law_dets (hp : Fp p) (v vy : Value) (P C : Nat) (L : List (List Nat)) (P2 C2 : Nat) (L2 : List (List Nat)) (what I K F : Nat) (w : World) (h : RawV w v P C L) (h2 : RawV w vy P2 C2 L2) (hP : prN P = p) (hP2 : P < 256) (_ : what < 256) (g2 : I < 256) (g3 : K < 256) (g4 : F < 4294967296) :
    Calls Try.prog 9 #[v, vy, .agg #[.int .u8 what, .int .u8 I, .int .u8 K, .int .u32 F]] w (SaneQ w) := by
  obtain ⟨j0, hj, hy0, hy1, hy2⟩ := info_parts info_u64
  obtain ⟨A, c, rfl, hR⟩ := h
  obtain ⟨A', c', rfl, hR'⟩ := h2
  obtain ⟨n, hn⟩ : ∃ n, min L.length 4 = n := ⟨_, rfl⟩
  have hn4 : n ≤ 4 := by omega
  obtain ⟨M, hM0⟩ : ∃ M : Mt p, szM L = M := ⟨_, rfl⟩
  obtain ⟨N, hN0⟩ : ∃ M : Mt p, szM L2 = M := ⟨_, rfl⟩
  obtain ⟨d, hd⟩ : ∃ d : Fin p, lap n M = d := ⟨_, rfl⟩
  obtain ⟨f, hf⟩ : ∃ d : Fin p, lap n N = d := ⟨_, rfl⟩
  obtain ⟨s, hs⟩ : ∃ d : Fin p, lap n (chgM 0 I K n (Fin.ofNat p F) M) = d := ⟨_, rfl⟩
  obtain ⟨r, hr⟩ : ∃ r, (rf n n M).r = r := ⟨_, rfl⟩
  have hmul : lap n (mm n M N) = d * f := by rw [lap_mul hn4 (iv_spec hp), hd, hf]
  have htrp : lap n (trp M) = d := by rw [lap_trp hn4, hd]
  have hss : s = if 0 < n ∧ I % n ≠ K % n then 0 - d else d := by rw [← hs, chg0_det I K n _ M hn4, hd]
  have hz := det_zero hp n M hn4
  rw [hd, hr] at hz
  have HR := Lib.hid hR
  have HR' := Lib.hid hR'
  have HP := Lib.hid hp
  have HPP := Lib.hid hP
  have HN := Lib.hid hn
  have HM0 := Lib.hid hM0
  have HN0 := Lib.hid hN0
  have HD := Lib.hid hd
  have HF := Lib.hid hf
  have HS := Lib.hid hs
  have HRK := Lib.hid hr
  have HML := Lib.hid hmul
  have HTR := Lib.hid htrp
  have HSS := Lib.hid hss
  have HZ := Lib.hid hz
  clear hp hR hR' hP hn hM0 hN0 hd hf hs hr hmul htrp hss hz
  go_enter Try.func9, Try.ntmps9
  go_wp2_with fail
  refine (sane7 _).mono ?_
  rintro e w1 ⟨rfl, hq1⟩
  obtain ⟨W0, hW0⟩ : ∃ W0, ((w.alloc (.cells #[.int .u8 P, .int .u8 C, .slice A L.length c] 24)).alloc (.cells #[.int .u8 P2, .int .u8 C2, .slice A' L2.length c'] 24)).alloc (.cells #[.int .u8 what, .int .u8 I, .int .u8 K, .int .u32 F] 51) = W0 := ⟨_, rfl⟩
  have hB1 : Blk W0 w.heap.size 24 #[.int .u8 P, .int .u8 C, .slice A L.length c] := hW0 ▸ ((Blk.new w _ _).alloc _).alloc _
  have hB2 : Blk W0 (w.heap.size + 1) 24 #[.int .u8 P2, .int .u8 C2, .slice A' L2.length c'] := hW0 ▸ (Blk.new' _ _ _ (by simp)).alloc _
  have hB3 : Blk W0 (w.heap.size + 1 + 1) 51 #[.int .u8 what, .int .u8 I, .int .u8 K, .int .u32 F] := hW0 ▸ Blk.new' _ _ _ (by simp)
  have hq0 : Q w W0 := hW0 ▸ (((Q.refl w).alloc _).alloc _).alloc _
  rw [hW0] at hq1
  have HB1 := Lib.hid (hB1.q hq1)
  have HB2 := Lib.hid (hB2.q hq1)
  have HB3 := Lib.hid (hB3.q hq1)
  have HQ1 := Lib.hid (hq0.trans hq1)
  clear hB1 hB2 hB3 hq0 hq1 hW0
  obtain ⟨b0, b1, b2⟩ := HB1.out.three'
  go_wp2_with fail
  refine (square_any HP.out _ P C L _ ⟨A, c, rfl, HR.out.q HQ1.out⟩ HPP.out hP2 n HN.out).mono ?_
  rw [HM0.out]
  rintro e w2 ⟨v2, rfl, ⟨A2, c2, rfl, hR2⟩, hq2⟩
  obtain ⟨W2, hW2⟩ : ∃ W2, w2.alloc (.cells #[.int .u64 p, .int .i64 n, .slice A2 n c2] 29) = W2 := ⟨_, rfl⟩
  have hB8 : Blk W2 w2.heap.size 29 #[.int .u64 p, .int .i64 n, .slice A2 n c2] := hW2 ▸ Blk.new w2 _ _
  have hq2' : Q w2 W2 := hW2 ▸ (Q.refl w2).alloc _
  have hq12 : Q w1 W2 := hq2.trans hq2'
  have hl3 : w.heap.size + 1 + 1 < w1.heap.size := HB3.out.lt
  have hl8 : w1.heap.size ≤ w2.heap.size := hq2.size
  have hB2 := HB2.out.q hq12
  have g0 := hB2.cell 0
  have gf := hB2.frozen 0
  have gl := hB2.lt
  have HB1 := Lib.hid (HB1.out.q hq12)
  have HB3 := Lib.hid (HB3.out.q hq12)
  have hq3 := Below.setCell (p := ⟨w.heap.size + 1, 0, none⟩) (HQ1.out.trans hq12) (by show _ ≤ w.heap.size + 1; omega) (.int .u8 P)
  have hRa := rows_upd (hR2.q hq2') 0 (.int .u8 P) (show w.heap.size + 1 < w1.heap.size by omega)
  have hB8' := hB8.far (p := ⟨w.heap.size + 1, 0, none⟩) (by show w2.heap.size ≠ w.heap.size + 1; omega) (.int .u8 P)
  have hB3' := HB3.out.far (p := ⟨w.heap.size + 1, 0, none⟩) (by show w.heap.size + 1 + 1 ≠ w.heap.size + 1; omega) (.int .u8 P)
  have hB2' := hB2.set 0 (.int .u8 P)
  obtain ⟨b0, b1, b2⟩ := HB1.out.three'
  have HQ3 := Lib.hid hq3
  have HRA := Lib.hid hRa
  have HB8 := Lib.hid hB8'
  have HB3 := Lib.hid hB3'
  have HB2 := Lib.hid hB2'
  clear hR2 hq2 hq2' hq12 hq3 hRa hB8 hB8' hB3' hB2' hB2
  obtain ⟨W3, hW3⟩ : ∃ W3, W2.setCell ⟨w.heap.size + 1, 0, none⟩ (.int .u8 P) = W3 := ⟨_, rfl⟩
  rw [hW3] at HQ3 HRA HB8 HB3 HB2
  have HQ3 := Lib.hid (show Q w W3 from HQ3.out)
  obtain ⟨a0, a1, a2⟩ := HB8.out.three'
  obtain ⟨y0, y1, y2⟩ := (show Blk W3 (w.heap.size + 1) 24 #[.int .u8 P, .int .u8 C2, .slice A' L2.length c'] from HB2.out).three'
  go_wp2_with fail
  try rw [hW3]
  clear hW3 hW2
  refine (sized_d HP.out _ P C2 L2 n n _ ⟨A', c', rfl, HR'.out.q HQ3.out⟩ HPP.out hP2 (by omega) (by omega) HN0.out).mono ?_
  rintro e w4 ⟨v4, rfl, ⟨A4, c4, rfl, hR4⟩, hq4⟩
  obtain ⟨W4, hW4⟩ : ∃ W4, w4.alloc (.cells #[.int .u64 p, .int .i64 n, .slice A4 n c4] 29) = W4 := ⟨_, rfl⟩
  have hB9 : Blk W4 w4.heap.size 29 #[.int .u64 p, .int .i64 n, .slice A4 n c4] := hW4 ▸ Blk.new w4 _ _
  have hq4' : Q w4 W4 := hW4 ▸ (Q.refl w4).alloc _
  have HQ4 := Lib.hid (HQ3.out.trans (hq4.trans hq4'))
  have HRA := Lib.hid (HRA.out.q (hq4.trans hq4'))
  have HB8 := Lib.hid (HB8.out.q (hq4.trans hq4'))
  have HB3 := Lib.hid (HB3.out.q (hq4.trans hq4'))
  have HRB := Lib.hid (hR4.rows.q hq4')
  have HB9 := Lib.hid hB9
  clear hR4 hq4 hq4' hB9 a0 a1 a2 y0 y1 y2 b0 b1 b2 g0 gf gl
  obtain ⟨a0, a1, a2⟩ := HB8.out.three'
  obtain ⟨b0, b1, b2⟩ := HB9.out.three'
  go_wp2_with fail
  clear hW4
  refine (det_i HP.out _ n M _ ⟨A2, c2, rfl, HRA.out.rows⟩ hn4 HD.out).mono ?_
  rintro e w5 ⟨rfl, hq5⟩
  have HT := Lib.hid hq5
  clear hq5 a0 a1 a2 b0 b1 b2
  obtain ⟨a0, a1, a2⟩ := (HB8.out.q HT.out).three'
  obtain ⟨b0, b1, b2⟩ := (HB9.out.q HT.out).three'
  go_wp2_with fail
  refine (det_i HP.out _ n N _ ⟨A4, c4, rfl, HRB.out.q HT.out⟩ hn4 HF.out).mono ?_
  rintro e w6 ⟨rfl, hq6⟩
  have HT := Lib.hid (HT.out.trans hq6)
  clear hq6 a0 a1 a2 b0 b1 b2
  obtain ⟨a0, a1, a2⟩ := (HB8.out.q HT.out).three'
  obtain ⟨b0, b1, b2⟩ := (HB9.out.q HT.out).three'
  go_wp2_with fail
  refine (mul_any HP.out _ _ n n n M N _ ⟨A2, c2, rfl, HRA.out.rows.q HT.out⟩ ⟨A4, c4, rfl, HRB.out.q HT.out⟩ (by omega) (by omega) (by omega)).mono ?_
  rintro e w7 ⟨v7, rfl, hM7, hq7⟩
  have HT := Lib.hid (HT.out.trans hq7)
  clear hq7 a0 a1 a2 b0 b1 b2
  go_wp2_with fail
  refine (det_i HP.out _ n (mm n M N) _ hM7.modv hn4 HML.out).mono ?_
  rintro e w8 ⟨rfl, hq8⟩
  have HT := Lib.hid (HT.out.trans hq8)
  clear hq8 hM7
  obtain ⟨a0, a1, a2⟩ := (HB8.out.q HT.out).three'
  go_wp2_with fail
  refine (turned_any _ n n M _ ⟨A2, c2, rfl, HRA.out.rows.q HT.out⟩ (by omega) (by omega)).mono ?_
  rintro e w9 ⟨v9, rfl, hM9, hq9⟩
  have HT := Lib.hid (HT.out.trans hq9)
  clear hq9 a0 a1 a2
  go_wp2_with fail
  refine (det_i HP.out _ n (trp M) _ hM9.modv hn4 HTR.out).mono ?_
  rintro e w10 ⟨rfl, hq10⟩
  have HT := Lib.hid (HT.out.trans hq10)
  clear hq10 hM9
  have hB3 := HB3.out.q HT.out
  have x0 := hB3.cell 0
  have xf := hB3.frozen 0
  have xl := hB3.lt
  have hRa := rows_upd (HRA.out.q HT.out) 0 (.int .u8 0) (show w.heap.size + 1 + 1 < w1.heap.size by omega)
  have hB8' := (HB8.out.q HT.out).far (p := ⟨w.heap.size + 1 + 1, 0, none⟩) (by show w2.heap.size ≠ w.heap.size + 1 + 1; omega) (.int .u8 0)
  have hB3' := hB3.set 0 (.int .u8 0)
  have hqx := Below.setCell (p := ⟨w.heap.size + 1 + 1, 0, none⟩) (HQ4.out.trans HT.out) (by show _ ≤ w.heap.size + 1 + 1; omega) (.int .u8 0)
  obtain ⟨W9, hW9⟩ : ∃ W9, w10.setCell ⟨w.heap.size + 1 + 1, 0, none⟩ (.int .u8 0) = W9 := ⟨_, rfl⟩
  rw [hW9] at hRa hB8' hB3' hqx
  have HRA := Lib.hid hRa
  have HB8 := Lib.hid hB8'
  have HB3 := Lib.hid (show Blk W9 (w.heap.size + 1 + 1) 51 #[.int .u8 0, .int .u8 I, .int .u8 K, .int .u32 F] from hB3')
  have HQ9 := Lib.hid (show Q w W9 from hqx)
  clear hRa hB8' hB3' hqx hB3
  obtain ⟨a0, a1, a2⟩ := HB8.out.three'
  have z0 : W9.cell? ⟨w.heap.size + 1 + 1, 0, none⟩ = some (.int .u8 0) := by rw [HB3.out.cell]; rfl
  have z1 : W9.cell? ⟨w.heap.size + 1 + 1, 1, none⟩ = some (.int .u8 I) := by rw [HB3.out.cell]; rfl
  have z2 : W9.cell? ⟨w.heap.size + 1 + 1, 2, none⟩ = some (.int .u8 K) := by rw [HB3.out.cell]; rfl
  have z3 : W9.cell? ⟨w.heap.size + 1 + 1, 3, none⟩ = some (.int .u32 F) := by rw [HB3.out.cell]; rfl
  go_wp2_with fail
  try rw [hW9]
  clear hW9 x0 xf xl
  refine (changed_d HP.out _ I K F n n M _ ⟨A2, c2, rfl, HRA.out.rows⟩ (by omega) (by omega) g2 g3 g4).mono ?_
  rintro e w11 ⟨v11, rfl, hM11, hq11⟩
  clear a0 a1 a2 z0 z1 z2 z3
  go_wp2_with fail
  refine (det_i HP.out _ n _ _ hM11 hn4 HS.out).mono ?_
  rintro e w12 ⟨rfl, hq12⟩
  have HT := Lib.hid (hq11.trans hq12)
  clear hq11 hq12 hM11
  have HRA := Lib.hid (HRA.out.rows.q HT.out)
  have HB8 := Lib.hid (HB8.out.q HT.out)
  have HB3 := Lib.hid (HB3.out.q HT.out)
  have HQ12 := Lib.hid (HQ9.out.trans HT.out)
  obtain ⟨a0, a1, a2⟩ := HB8.out.three'
  have z1 : w12.cell? ⟨w.heap.size + 1 + 1, 1, none⟩ = some (.int .u8 I) := by rw [HB3.out.cell]; rfl
  have z2 : w12.cell? ⟨w.heap.size + 1 + 1, 2, none⟩ = some (.int .u8 K) := by rw [HB3.out.cell]; rfl
  have hdp := d.isLt
  have hfp := f.isLt
  have hsp := s.isLt
  have u1 : decide ((p : Int) ≤ ((d : Nat) : Int)) = false := by rw [decide_eq_false_iff_not]; omega
  have u2 : decide ((p : Int) ≤ ((f : Nat) : Int)) = false := by rw [decide_eq_false_iff_not]; omega
  have u3 : decide ((p : Int) ≤ ((s : Nat) : Int)) = false := by rw [decide_eq_false_iff_not]; omega
  have v1 : decide (p ≤ (d : Nat)) = false := by rw [decide_eq_false_iff_not]; omega
  have v2 : decide (p ≤ (f : Nat)) = false := by rw [decide_eq_false_iff_not]; omega
  have v3 : decide (p ≤ (s : Nat)) = false := by rw [decide_eq_false_iff_not]; omega
  clear hdp hfp hsp
  go_wp2_with fail
  have hcases : n = 0 ∨ (0 < n ∧ I % n = K % n) ∨ (0 < n ∧ I % n ≠ K % n) := by
    by_cases e : n = 0
    · exact .inl e
    · by_cases e2 : I % n = K % n
      · exact .inr (.inl ⟨by omega, e2⟩)
      · exact .inr (.inr ⟨by omega, e2⟩)
  rcases hcases with e0 | ⟨hn0, e0⟩ | ⟨hn0, e0⟩
  case' inl =>
    have esd : s = d := by rw [HSS.out, if_neg (by omega)]
    have t1 : decide ((0 : Int) < (n : Int)) = false := by rw [decide_eq_false_iff_not]; omega
    have t2 : decide (0 < n) = false := by rw [decide_eq_false_iff_not]; omega
    have HESD := Lib.hid esd
    clear e0 esd
    have hqn : ∀ W6, Q w12.drew W6 → Q w12 W6 := fun W6 q => (Q.refl w12).drew.trans q
    have qF := fun W6 q => And.intro ((hqn W6 q).cell a2) (And.intro ((hqn W6 q).cell z1) ((hqn W6 q).cell z2))
    refine wp_region_grow [true, true, true, true, true, true, true, true, true, true, true, true, true, true, true, true, true, true, true, true] (by kernel_rfl) (by kernel_rfl) ?_
    simp only [List.length_cons, List.length_nil, Nat.reduceAdd, sel_nil, sel_tt, sel_ft, List.drop_succ_cons, List.drop_zero]
    iterate 20 ((apply wpDets_read; case h => (intro wq hq K' hK; have qr := qF wq hq; go_simp; exact hK)))
    refine wpDets_nil (wpMks_nil ?_)
    rintro w13 hq13 _
    have q13 := hqn _ hq13
    have a0 := q13.cell a0
    have a1 := q13.cell a1
    have a2 := q13.cell a2
    clear qF hqn
    go_wp2_with fail
    rw [HESD.out]
  case' inr.inl =>
    have esd : s = d := by rw [HSS.out, if_neg (fun h => h.2 e0)]
    have t1 : decide ((0 : Int) < (n : Int)) = true := by rw [decide_eq_true_eq]; omega
    have t2 : decide (0 < n) = true := by rw [decide_eq_true_eq]; omega
    obtain ⟨i, hi⟩ : ∃ i, I % n = i := ⟨_, rfl⟩
    have hk : K % n = i := by rw [← e0, hi]
    have hnb : ((n : Int) == 0) = false := by rw [beq_eq_false_iff_ne]; omega
    have hnn : ¬ ((n : Int) = 0) := by omega
    have hnn2 : ¬ (n = 0) := by omega
    have wI : IntKind.i64.wrap (I : Int) = (I : Int) := IntWalk.i64_in _ (by omega)
    have wK : IntKind.i64.wrap (K : Int) = (K : Int) := IntWalk.i64_in _ (by omega)
    have hin : i < n := hi ▸ Nat.mod_lt _ hn0
    have zz1 : (I : Int) % (n : Int) = (i : Int) := by rw [← hi]; rfl
    have zz2 : (K : Int) % (n : Int) = (i : Int) := by rw [← hk]; rfl
    have zt1 : (I : Int).tmod (n : Int) = (i : Int) := by rw [Int.tmod_eq_emod_of_nonneg (by omega), zz1]
    have zt2 : (K : Int).tmod (n : Int) = (i : Int) := by rw [Int.tmod_eq_emod_of_nonneg (by omega), zz2]
    have HESD := Lib.hid esd
    clear e0 hi hk esd
    have hqn : ∀ W6, Q w12.drew W6 → Q w12 W6 := fun W6 q => (Q.refl w12).drew.trans q
    have qF := fun W6 q => And.intro ((hqn W6 q).cell a2) (And.intro ((hqn W6 q).cell z1) ((hqn W6 q).cell z2))
    refine wp_region_grow [true, true, true, true, true, true, true, true, true, true, true, true, true, true, true, true, true, true, true, true] (by kernel_rfl) (by kernel_rfl) ?_
    simp only [List.length_cons, List.length_nil, Nat.reduceAdd, sel_nil, sel_tt, sel_ft, List.drop_succ_cons, List.drop_zero]
    iterate 20 ((apply wpDets_read; case h => (intro wq hq K' hK; have qr := qF wq hq; go_simp; exact hK)))
    refine wpDets_nil (wpMks_nil ?_)
    rintro w13 hq13 _
    have q13 := hqn _ hq13
    have a0 := q13.cell a0
    have a1 := q13.cell a1
    have a2 := q13.cell a2
    clear qF hqn
    go_wp2_with fail
    rw [HESD.out]
  case' inr.inr =>
    have esd : (0 - s : Fin p) = d := by rw [HSS.out, if_pos ⟨hn0, e0⟩]; grind
    have t1 : decide ((0 : Int) < (n : Int)) = true := by rw [decide_eq_true_eq]; omega
    have t2 : decide (0 < n) = true := by rw [decide_eq_true_eq]; omega
    obtain ⟨i, hi⟩ : ∃ i, I % n = i := ⟨_, rfl⟩
    obtain ⟨k, hk⟩ : ∃ k, K % n = k := ⟨_, rfl⟩
    have hik : i ≠ k := by rw [← hi, ← hk]; exact e0
    have hnb : ((n : Int) == 0) = false := by rw [beq_eq_false_iff_ne]; omega
    have hnn : ¬ ((n : Int) = 0) := by omega
    have hnn2 : ¬ (n = 0) := by omega
    have wI : IntKind.i64.wrap (I : Int) = (I : Int) := IntWalk.i64_in _ (by omega)
    have wK : IntKind.i64.wrap (K : Int) = (K : Int) := IntWalk.i64_in _ (by omega)
    have zz1 : (I : Int) % (n : Int) = (i : Int) := by rw [← hi]; rfl
    have zz2 : (K : Int) % (n : Int) = (k : Int) := by rw [← hk]; rfl
    have zt1 : (I : Int).tmod (n : Int) = (i : Int) := by rw [Int.tmod_eq_emod_of_nonneg (by omega), zz1]
    have zt2 : (K : Int).tmod (n : Int) = (k : Int) := by rw [Int.tmod_eq_emod_of_nonneg (by omega), zz2]
    have hin : i < n := hi ▸ Nat.mod_lt _ hn0
    have hkn : k < n := hk ▸ Nat.mod_lt _ hn0
    have hikb : ((i : Int) != (k : Int)) = true := by rw [bne_iff_ne]; omega
    have HESD := Lib.hid esd
    clear e0 hi hk hik esd
    have hqn : ∀ W6, Q w12.drew W6 → Q w12 W6 := fun W6 q => (Q.refl w12).drew.trans q
    have qF := fun W6 q => And.intro ((hqn W6 q).cell a2) (And.intro ((hqn W6 q).cell z1) ((hqn W6 q).cell z2))
    refine wp_region_grow [true, true, true, true, true, true, true, true, true, true, true, true, true, true, true, true, true, true, true, true] (by kernel_rfl) (by kernel_rfl) ?_
    simp only [List.length_cons, List.length_nil, Nat.reduceAdd, sel_nil, sel_tt, sel_ft, List.drop_succ_cons, List.drop_zero]
    iterate 20 ((apply wpDets_read; case h => (intro wq hq K' hK; have qr := qF wq hq; go_simp; exact hK)))
    refine wpDets_nil (wpMks_nil ?_)
    rintro w13 hq13 _
    have q13 := hqn _ hq13
    have a0 := q13.cell a0
    have a1 := q13.cell a1
    have a2 := q13.cell a2
    clear qF hqn
    go_wp2_with fail
    have hh := r_neg (p := p) w13 HP.out s
    rw [HESD.out] at hh
    refine hh.mono ?_
    rintro e w' ⟨rfl, rfl⟩
  all_goals
    clear z1 z2 t1 t2
    go_wp2_with fail
    have HQ13 := Lib.hid (HQ12.out.trans q13)
    have HRA := Lib.hid (HRA.out.q q13)
    clear q13 hq13
    have hmk := mk_any 44 26 j0 (.int .u64 0) 8 Try.underlying44 hj hy0 hy1 hy2 (by omega) rfl (n : Int) n rfl (by omega)
    have hqn : ∀ W6, Q w13.drew W6 → Q w13 W6 := fun W6 q => (Q.refl w13).drew.trans q
    have qF := fun W6 q => And.intro ((hqn W6 q).cell a0) (And.intro ((hqn W6 q).cell a1) ((hqn W6 q).cell a2))
    refine wp_region_phases [0, 0, 0, 1, 1, 1, 2, 2, 2, 2] (by kernel_rfl) (by kernel_rfl) ?_
    intro KF hKF
    simp only [List.length_cons, List.length_nil, Nat.reduceAdd, selN_nil, selN_00, selN_01, selN_02, selN_10, selN_11, selN_12, selN_20, selN_21, selN_22, List.drop_succ_cons, List.drop_zero] at hKF ⊢
    iterate 3 ((apply wpFix_read; (case hgd => rfl); (case h => (intro wq hq K' hK; have qr := qF wq hq; go_simp; exact hK))))
    refine hKF _ (wpMks_makeU (RowY w13.drew.heap.size n (fun _ => (0 : Fin p))) RowY.keep rfl ?_ ?_)
    · intro wq hq _ V' hV'
      go_simp
      exact ⟨(Q.refl wq).alloc _, hV' _ _ ((Q.refl wq).alloc _) ⟨_, _, rfl, zeros_rowO (M := fun _ _ => (0 : Fin p)) (i := 0) (fun _ => rfl) (Blk.new wq _ _) hq.size (by omega)⟩⟩
    rintro v ⟨_, _, A6, c6, rfl, _⟩
    refine wpMks_makeU (ModY (n + 1) n (wth n M (fun _ => (0 : Fin p)))) ModY.keep rfl ?_ ?_
    · intro wq hq hs V' hV'
      obtain ⟨_, A7, c7, e7, hR7⟩ := hs
      injection e7 with e7 _ e8
      subst e7 e8
      go_simp
      go_at_call 36
      refine (with7_any _ _ n n M (fun _ => (0 : Fin p)) wq ⟨A2, c2, rfl, HRA.out.q (hqn _ hq)⟩ ⟨_, _, rfl, hR7.sc⟩ (by omega) (by omega)).mono ?_
      rintro e w' ⟨v2, rfl, h1, h2⟩
      exact ⟨_, rfl, h2, hV' _ _ h2 h1⟩
    rintro v ⟨_, _, _⟩
    refine wpMks_makeU (EqY (.tuple #[.int .u64 (((0 : Fin p) : Nat) : Int), .int .i64 ((50 : Nat) : Int)])) EqY.keep rfl ?_ ?_
    · intro wq hq hs V' hV'
      go_simp
      go_at_call 16
      exact (det_shape v (n + 1) n (wth n M (fun _ => (0 : Fin p))) wq hs.2 (by omega) (by omega) (by omega)).mono fun e w' h => ⟨_, h.1, h.2, hV' _ _ h.2 rfl⟩
    rintro _ ⟨_, _, rfl⟩
    refine wpMks_nil ?_
    iterate 4 ((apply wpDets_readU; (case hgd => rfl); (case h => (intro wq hq K' hK; have qr := qF wq hq; go_simp; exact hK))))
    refine wpDets_nil ?_
    rintro w14 hq14 _
    have q14 := hqn _ hq14
    have a0 := q14.cell a0
    have a1 := q14.cell a1
    have a2 := q14.cell a2
    have HQ14 := Lib.hid (HQ13.out.trans q14)
    have HRA := Lib.hid (HRA.out.q q14)
    clear qF hqn hKF q14 hq14
    go_wp2_with fail
    have hqn : ∀ W6, Q w14.drew W6 → Q w14 W6 := fun W6 q => (Q.refl w14).drew.trans q
    have qF := fun W6 q => And.intro ((hqn W6 q).cell a0) (And.intro ((hqn W6 q).cell a1) ((hqn W6 q).cell a2))
    by_cases hrn : r < n
    · have hd0 : (((d : Nat) : Int) == 0) = true := by rw [beq_fin, HZ.out.2 hrn]; simp
      have hd1 : ((d : Nat) == 0) = true := by rw [beq_iff_eq]; exact (f_eq0 d).1 (HZ.out.2 hrn)
      have hr1 : decide ((r : Int) < (n : Int)) = true := by rw [decide_eq_true_eq]; omega
      have hr2 : decide (r < n) = true := by rw [decide_eq_true_eq]; omega
      clear hrn
      refine wp_region_grow [true, true, true, true, true, true, true, true, true, true, true, true, true, true, true, true, true, true, true, true, true, true, true, true, true, true, true, true, true, true, true, true, true, true, true] (by kernel_rfl) (by kernel_rfl) ?_
      simp only [List.length_cons, List.length_nil, Nat.reduceAdd, sel_nil, sel_tt, sel_ft, List.drop_succ_cons, List.drop_zero]
      iterate 5 ((apply wpDets_read; case h => (intro wq hq K' hK; have qr := qF wq hq; go_simp; exact hK)))
      refine wpDets_call (.int .u64 (((d * f : Fin p) : Nat) : Int)) ?_ ?_
      · intro wq hq V hV
        go_simp
        go_at_call 37
        exact (r_mul _ HP.out d f).mono fun e w' h => ⟨_, h.1, h.2 ▸ Q.refl _, hV _ (h.2 ▸ Q.refl _)⟩
      iterate 15 ((apply wpDets_read; case h => (intro wq hq K' hK; have qr := qF wq hq; go_simp; exact hK)))
      refine wpDets_call (.int .i64 (r : Int)) ?_ ?_
      · intro wq hq V hV
        have hh := rank_any HP.out _ n n M wq ⟨A2, c2, rfl, HRA.out.q (hqn _ hq)⟩ (by omega) (by omega)
        rw [HRK.out] at hh
        have qr := qF wq hq
        go_simp
        go_at_call 22
        exact hh.mono fun e w' h => ⟨_, h.1, h.2, hV _ h.2⟩
      iterate 13 ((apply wpDets_read; case h => (intro wq hq K' hK; have qr := qF wq hq; go_simp; exact hK)))
      refine wpDets_nil (wpMks_nil ?_)
      rintro w15 hq15 _
      have q15 := hqn _ hq15
      clear qF hqn
      go_wp2_with fail
      go_ret
      exact ⟨rfl, HQ14.out.trans q15⟩
    · have hne : d ≠ 0 := fun h => hrn (HZ.out.1 h)
      have hd0 : (((d : Nat) : Int) == 0) = false := by rw [beq_fin]; simpa using hne
      have hd1 : ((d : Nat) == 0) = false := by rw [beq_eq_false_iff_ne]; exact fun h => hne ((f_eq0 d).2 h)
      have hr1 : decide ((r : Int) < (n : Int)) = false := by rw [decide_eq_false_iff_not]; omega
      have hr2 : decide (r < n) = false := by rw [decide_eq_false_iff_not]; omega
      clear hrn hne
      refine wp_region_grow [true, true, true, true, true, true, true, true, true, true, true, true, true, true, true, true, true, true, true, true, true, true, true, true, true, true, true, true, true, true, true, true, true, true, true] (by kernel_rfl) (by kernel_rfl) ?_
      simp only [List.length_cons, List.length_nil, Nat.reduceAdd, sel_nil, sel_tt, sel_ft, List.drop_succ_cons, List.drop_zero]
      iterate 5 ((apply wpDets_read; case h => (intro wq hq K' hK; have qr := qF wq hq; go_simp; exact hK)))
      refine wpDets_call (.int .u64 (((d * f : Fin p) : Nat) : Int)) ?_ ?_
      · intro wq hq V hV
        go_simp
        go_at_call 37
        exact (r_mul _ HP.out d f).mono fun e w' h => ⟨_, h.1, h.2 ▸ Q.refl _, hV _ (h.2 ▸ Q.refl _)⟩
      iterate 15 ((apply wpDets_read; case h => (intro wq hq K' hK; have qr := qF wq hq; go_simp; exact hK)))
      refine wpDets_call (.int .i64 (r : Int)) ?_ ?_
      · intro wq hq V hV
        have hh := rank_any HP.out _ n n M wq ⟨A2, c2, rfl, HRA.out.q (hqn _ hq)⟩ (by omega) (by omega)
        rw [HRK.out] at hh
        have qr := qF wq hq
        go_simp
        go_at_call 22
        exact hh.mono fun e w' h => ⟨_, h.1, h.2, hV _ h.2⟩
      iterate 13 ((apply wpDets_read; case h => (intro wq hq K' hK; have qr := qF wq hq; go_simp; exact hK)))
      refine wpDets_nil (wpMks_nil ?_)
      rintro w15 hq15 _
      have q15 := hqn _ hq15
      clear qF hqn
      go_wp2_with fail
      go_ret
      exact ⟨rfl, HQ14.out.trans q15⟩
end
end Go.Proofs.Ytcjpjnneimjfiaa
