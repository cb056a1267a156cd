/-
  torsionref07: Rank, With, Solvable.
-/
import Derived.Test.YtcjpjnneimjfiaaRfJ
import Derived.Test.YtcjpjnneimjfiaaCopy
namespace Go.Proofs.Ytcjpjnneimjfiaa
open Go.RowKit
section
variable {p : Nat} [NeZero p]
attribute [local go_sem] opGrow growUpon

set_option maxHeartbeats 2000000 in
set_option maxRecDepth 100000 in
theorem rank7_any (hp : Fp p) (v : Value) (n W : Nat) (M : Mt p) (w : World) (h : ModV w v n W M) (hn : n ≤ 4096) (hW : W ≤ 4096) :
    Calls Try.prog 60 #[v] w (IntQ w ((rf n W M).r : Int)) := by
  have HP := Lib.hid hp
  obtain ⟨A, c, w1, rfl, hw1, HM, HB, HQ1, hcap, b0, b1, b2⟩ := modbox h
  clear h hp
  obtain ⟨r, hr⟩ : ∃ r, (rf n W M).r = r := ⟨_, rfl⟩
  go_enter Try.func60, Try.ntmps60
  go_wp2_with fail
  try rw [hw1]
  clear hw1
  refine (rref7_any HP.out _ n W M _ HM.out hn hW).mono ?_
  rintro e w2 ⟨v2, A2, c2, rfl, ⟨A3, c3, rfl, hR3⟩, hR2, hq2⟩
  rw [hr] at hR2 hR3
  go_wp2_with fail
  go_ret
  exact ⟨by rw [hr]; rfl, (HQ1.out.trans hq2).alloc _⟩
set_option maxRecDepth 100000 in
theorem with_end {p : Nat} {w w1 wr w7 : World} {B0 B n W c : Nat} {A : Option Addr} {M : Mt p} (hu : Upd B0 wr w7) (h : ChS w1 wr B n W A c M) (hq : Q w w1) (hB : B0 < w1.heap.size) (hBw : w.heap.size ≤ B0) :
    ModR w n W M (.returned (.agg #[.int .u64 (p : Int), .int .i64 (W : Int), .slice A n c])) w7 :=
  ⟨_, rfl, ⟨A, c, rfl, (h.rows.away hu hB).rows⟩, Below.trans (hq.trans h.q) (hu.below hBw)⟩
set_option maxHeartbeats 4000000 in
set_option maxRecDepth 100000 in
theorem with7_any {p : Nat} (v bv : Value) (n W : Nat) (M : Mt p) (b : Nat → Fin p) (w : World) (h : ModV w v n W M) (hb : Sl w bv W (u64 b)) (hn : n ≤ 1024) (hW : W ≤ 1024) :
    Calls Try.prog 36 #[v, bv] w (ModR w (n + 1) W (wth n M b)) := by
  obtain ⟨i0, hi, hz0, hz1, hz2⟩ := info_parts info_row
  obtain ⟨j0, hj, hy0, hy1, hy2⟩ := info_parts info_u64
  obtain ⟨Ab, cb, rfl, hb⟩ := hb
  obtain ⟨A, c, w1, rfl, hw1, HM, HB, HB2, HQ1, hcap, b0, b1, b2⟩ := modbox2 h
  have HSB := Lib.hid (hb.q HQ1.out)
  clear h hb
  go_enter Try.func36, Try.ntmps36
  go_wp2_with fail
  try rw [hw1]
  clear hw1
  refine (copied_own _ n W M _ HM.out (by omega) (by omega)).mono ?_
  rintro e w2 ⟨A2, c2, ρ2, rfl, hO2, hq2⟩
  have hS := chs_late (p := p) (hO2.rowsO (by omega)) hq2
  have hO := own_late (p := p) (W' := W) hO2
  obtain ⟨B, hB⟩ : ∃ B, w2.heap.size = B := ⟨_, rfl⟩
  obtain ⟨W5, hW5⟩ : ∃ W5, w2.alloc (.cells #[.int .u64 p, .int .i64 W, .slice A2 n c2] 29) = W5 := ⟨_, rfl⟩
  rw [hW5] at hS hO
  rw [hB] at hS
  have HS := Lib.hid hS
  have HO := Lib.hid hO
  obtain ⟨k0, k1, k2⟩ := hS.box.three'
  clear hS hO hO2 hq2 b0 b1 b2
  go_wp2_with fail
  clear hW5 hB
  have hqn : ∀ W6, Q W5.drew W6 → Q W5 W6 := fun W6 q => (Q.refl W5).drew.trans q
  have qF := fun W6 q => And.intro ((hqn W6 q).cell k2) True.intro
  refine wp_region_fix [true, true, false, true, false, false] (by kernel_rfl) (by kernel_rfl) ?_
  intro KF hKF
  simp only [List.length_cons, List.length_nil, Nat.reduceAdd, sel_nil, sel_tt, sel_tf, sel_ft, sel_ff, List.drop_succ_cons, List.drop_zero] at hKF ⊢
  iterate 3 ((apply wpFix_read; (case hgd => rfl); (case h => (intro wq hq K' hK; have qr := qF wq hq; go_simp; exact hK))))
  refine hKF _ (wpMks_makeU (NewY 26) NewY.keep rfl ?_ ?_)
  · intro wq hq _ V' hV'
    go_simp
    exact ⟨(Q.refl wq).alloc _, hV' _ _ ((Q.refl wq).alloc _) (NewY.new _ wq)⟩
  rintro v ⟨_, _, B6, rfl, _⟩
  refine wpMks_makeU (RowY W5.drew.heap.size W b) RowY.keep rfl ?_ ?_
  · intro wq hq hs V' hV'
    exact grow_copy _ _ _ (by rfl) 26 j0 (.int .u64 0) 8 Try.underlying44 hj hy0 hy1 hy2 rfl B6 (by rfl) W5.drew.heap.size hq.size (u64 b) Ab W cb (by rfl) ((HSB.out.q HS.out.q).q (hqn _ hq)) (by omega) (by decide) (fun A' c' w' hR hq' => hV' _ _ hq' ⟨A', c', rfl, hR⟩)
  rintro v ⟨_, _, A6, c6, rfl, _⟩
  refine wpMks_makeU (BoxY 44 (.slice A6 W c6)) BoxY.keep rfl ?_ ?_
  · intro wq hq hs V' hV'
    go_simp
    exact ⟨(Q.refl wq).alloc _, hV' _ _ ((Q.refl wq).alloc _) (BoxY.new _ _ wq)⟩
  rintro v ⟨_, _, B7, rfl, _⟩
  refine wpMks_nil ?_
  rintro w6 hq6 ⟨⟨_, A7, c7, e7, hR6⟩, B8, e9, hB6⟩
  injection e7 with e7 _ e8
  subst e7 e8
  injection e9 with e9
  injection e9 with e9
  injection e9 with e9
  subst e9
  have hq7 := hqn _ hq6
  refine wpList_app1b (by rfl) _ _ _ (by rfl) w1.heap.size 44 i0 (.slice none 0 0) 24 Try.underlying27 hi hz0 hz1 hz2 rfl _ n (tab ρ2 n) (by rfl) (ownsRow_q HO.out.1 hq7) B7 (by rfl) (.slice A6 W c6) hB6 rfl (by omega) (by decide) (by have := HS.out.q.size; have := hq7.size; omega) ?_
  intro A8 c8 w8 hown8 hg8
  obtain ⟨hb8, hS⟩ := chs_push (x := b) HS.out HO.out (by omega) hq7 (hR6.mono (by exact Nat.le_refl _)) hown8 hg8
  have k2c := hb8.cell 2
  have f2c := hb8.frozen 2
  have hl8 := hb8.lt
  have HS9 := Lib.hid hS
  clear k0 k1 k2
  obtain ⟨k0, k1, k2⟩ := hS.box.three'
  have hB3 := HB2.out.q hS.q
  obtain ⟨e0, e1, e2⟩ := hB3.three'
  have f0 := hB3.frozen 0
  have f1 := hB3.frozen 1
  have f2 := hB3.frozen 2
  have hl7 := hB3.lt
  clear hS hB3 hb8 hown8 hg8
  go_wp2_with fail
  refine bodyPost_ret (v := .agg #[.int .u64 p, .int .i64 W, .slice A8 (n + 1) c8]) (by simp [results, Try.results36, go_sem, e0, e1, e2]) rfl ?_
  exact with_end (((Upd.refl _ _).setCell _ _).setCell _ _ |>.setCell _ _) HS9.out HQ1.out HB2.out.lt (by omega)
/-- Whether a further row leaves the rank as it is. -/
def svB (n W : Nat) (M : Mt p) (b : Nat → Fin p) : Bool := (((rf (n + 1) W (wth n M b)).r : Int) == ((rf n W M).r : Int))
set_option maxRecDepth 100000 in
theorem svB_iff (hp : Fp p) (n W : Nat) (M : Mt p) (b : Nat → Fin p) : svB n W M b = true ↔ InSp n W M b := by
  rw [← solvable_iff hp.two (rf_inv hp n W M) (rf_inv hp (n + 1) W (wth n M b))]
  unfold svB
  rw [beq_iff_eq]
  omega
set_option maxHeartbeats 4000000 in
set_option maxRecDepth 100000 in
theorem solvable7_any (hp : Fp p) (v bv : Value) (n W : Nat) (M : Mt p) (b : Nat → Fin p) (w : World) (h : ModV w v n W M) (hb : Sl w bv W (u64 b)) (hn : n ≤ 1024) (hW : W ≤ 1024) :
    Calls Try.prog 31 #[v, bv] w (BoolW w (svB n W M b)) := by
  have HP := Lib.hid hp
  obtain ⟨Ab, cb, rfl, hb⟩ := hb
  obtain ⟨A, c, w1, rfl, hw1, HM, HB, HQ1, hcap, b0, b1, b2⟩ := modbox h
  have HSB := Lib.hid (hb.q HQ1.out)
  obtain ⟨r, hr⟩ : ∃ r, (rf n W M).r = r := ⟨_, rfl⟩
  obtain ⟨q, hq⟩ : ∃ q, (rf (n + 1) W (wth n M b)).r = q := ⟨_, rfl⟩
  have hsv : svB n W M b = ((q : Int) == (r : Int)) := by unfold svB; rw [hr, hq]
  have HSV := Lib.hid hsv
  have HR := Lib.hid hr
  have HQ := Lib.hid hq
  clear h hb hp hr hq hsv
  go_enter Try.func31, Try.ntmps31
  go_wp2_with fail
  try rw [hw1]
  clear hw1
  have hqn : ∀ W6, Q w1.drew W6 → Q w1 W6 := fun W6 q => (Q.refl w1).drew.trans q
  have qF := fun W6 q => And.intro ((hqn W6 q).cell b0) (And.intro ((hqn W6 q).cell b1) ((hqn W6 q).cell b2))
  refine wp_region_fix [true, true, false, false, true, false] (by kernel_rfl) (by kernel_rfl) ?_
  intro KF hKF
  simp only [List.length_cons, List.length_nil, Nat.reduceAdd, sel_nil, sel_tt, sel_tf, sel_ft, sel_ff, List.drop_succ_cons, List.drop_zero] at hKF ⊢
  iterate 3 ((apply wpFix_read; (case hgd => rfl); (case h => (intro wq hq K' hK; have qr := qF wq hq; go_simp; exact hK))))
  refine hKF _ (wpMks_makeU (ModY (n + 1) W (wth n M b)) ModY.keep rfl ?_ ?_)
  · intro wq hq _ V' hV'
    go_simp
    go_at_call 36
    refine (with7_any _ _ n W M b wq (HM.out.q (hqn _ hq)) ⟨Ab, cb, rfl, HSB.out.q (hqn _ hq)⟩ hn hW).mono ?_
    rintro e w' ⟨v2, rfl, h1, h2⟩
    exact ⟨_, rfl, h2, hV' _ _ h2 h1⟩
  rintro v ⟨_, _, _⟩
  refine wpMks_makeU (NumY (q : Int)) NumY.keep rfl ?_ ?_
  · intro wq hq hs V' hV'
    go_simp
    go_at_call 60
    have hh := rank7_any HP.out v (n + 1) W (wth n M b) wq hs.2 (by omega) (by omega)
    rw [HQ.out] at hh
    exact hh.mono fun e w' h => ⟨_, h.1, h.2, hV' _ _ h.2 rfl⟩
  rintro _ ⟨_, _, rfl⟩
  refine wpMks_makeU (NumY (r : Int)) NumY.keep rfl ?_ ?_
  · intro wq hq _ V' hV'
    go_simp
    go_at_call 60
    have hh := rank7_any HP.out _ n W M wq (HM.out.q (hqn _ hq)) (by omega) (by omega)
    rw [HR.out] at hh
    exact hh.mono fun e w' h => ⟨_, h.1, h.2, hV' _ _ h.2 rfl⟩
  rintro _ ⟨_, _, rfl⟩
  refine wpMks_nil ?_
  rintro w6 hq6 _
  go_wp2_with fail
  go_ret
  exact ⟨by rw [HSV.out]; rfl, HQ1.out.trans (hqn _ hq6)⟩
end
end Go.Proofs.Ytcjpjnneimjfiaa
