/-
  ModmatMatchesReference: the walk.
-/
import Derived.Test.YtcjpjnneimjfiaaRfN
import Derived.Test.YtcjpjnneimjfiaaRfH
import Derived.Test.YtcjpjnneimjfiaaLw7D
namespace Go.Proofs.Ytcjpjnneimjfiaa
open Go.RowKit
section
variable {p : Nat} [NeZero p]
attribute [local go_sem] opGrow growUpon

/-- A value that is known. -/
def KnY (u v : Value) (_ : World) : Prop := v = u
set_option maxRecDepth 100000 in
theorem KnY.keep {u : Value} (v : Value) (w w' : World) (h : KnY u v w) (_ : Q w w') : KnY u v w' := h
set_option maxRecDepth 100000 in
/-- Both determinants. -/
theorem det_both (hp : Fp p) (n W : Nat) (M : Mt p) (hn : n ≤ 4) (hW : W ≤ 5) : ∃ (d : Fin p) (er : Nat), (∀ (v : Value) (w : World), ModV w v n W M → Calls Try.prog 16 #[v] w (DetP w d er)) ∧ ∀ (v : Value) (w : World), ModV w v n W M → Calls Try.prog 17 #[v] w (DetP w d er) := by
  by_cases e : n = W
  · subst e
    refine ⟨lap n M, 0, fun v w h => ?_, fun v w h => det7_any hp n (by omega) v M w h⟩
    have h1 := det_any hp v n M w h (by omega)
    rwa [det_lap hn (rf_inv hp n n M)] at h1
  · exact ⟨0, 50, fun v w h => det_shape v n W M w h (by omega) (by omega) e, fun v w h => det7_shape v n W M w h e⟩
set_option maxRecDepth 100000 in
theorem left7_d (hp : Fp p) (v : Value) (n W : Nat) (M : Mt p) (w : World) (h : ModV w v n W M) (hn : n ≤ 1000) (hW : W ≤ 1000) {q : Nat} {X : Mt p} (e : (lf n W M).r = q) (e2 : (lf n W M).M = X) : Calls Try.prog 23 #[v] w (ModQ w q n X) := e ▸ e2 ▸ left7_any hp v n W M w h hn hW
set_option maxHeartbeats 4000000 in
set_option maxRecDepth 100000 in
theorem law_matches (hp : Fp p) (v : Value) (P C : Nat) (L : List (List Nat)) (w : World) (h : RawV w v P C L) (hP : prN P = p) (hP2 : P < 256) (hC : C < 256) :
    Calls Try.prog 3 #[v] w (SaneQ w) := by
  obtain ⟨A, c, rfl, hR⟩ := h
  obtain ⟨n, hn⟩ : ∃ n, min L.length 4 = n := ⟨_, rfl⟩
  obtain ⟨W, hW⟩ : ∃ W, C % 6 = W := ⟨_, rfl⟩
  have hn4 : n ≤ 4 := by omega
  have hW6 : W ≤ 5 := by omega
  obtain ⟨M, hM0⟩ : ∃ M : Mt p, szM L = M := ⟨_, rfl⟩
  obtain ⟨s, hs⟩ : ∃ s, rf n W M = s := ⟨_, rfl⟩
  have hI := rf_inv hp n W M
  rw [hs] at hI
  obtain ⟨X, r, pv, dt⟩ := s
  have hrn : r ≤ n := hI.rn
  have hLr : (lf n W M).r ≤ n := by
    have := (rf_inv hp (n - (rf n W (bsd W M)).r) n (ker W (rf n W (bsd W M)).r (rf n W (bsd W M)).M)).rc
    exact this
  obtain ⟨q, hq⟩ : ∃ q, (lf n W M).r = q := ⟨_, rfl⟩
  obtain ⟨Y, hY⟩ : ∃ Y : Mt p, (lf n W M).M = Y := ⟨_, rfl⟩
  rw [hq] at hLr
  obtain ⟨d, er, hd1, hd2⟩ := det_both hp n W M hn4 hW6
  have HR := Lib.hid hR
  have HP := Lib.hid hp
  have HPP := Lib.hid hP
  have HN := Lib.hid hn
  have HW := Lib.hid hW
  have HM0 := Lib.hid hM0
  have HS := Lib.hid hs
  have HQK := Lib.hid hq
  have HYK := Lib.hid hY
  have HD1 := @Lib.hid _ hd1
  have HD2 := @Lib.hid _ hd2
  clear hp hR hP hn hW hM0 hI hs hq hY hd1 hd2
  go_enter Try.func3, Try.ntmps3
  go_wp2_with fail
  refine (sane7 _).mono ?_
  rintro e w1 ⟨rfl, hq1⟩
  have hB1 := (Blk.new w 24 #[.int .u8 P, .int .u8 C, .slice A L.length c]).q hq1
  obtain ⟨b0, b1, b2⟩ := hB1.three'
  have q1 := ((Q.refl w).alloc _).trans hq1
  have HQ1 := Lib.hid q1
  clear hB1 hq1 q1
  go_wp2_with fail
  refine (made_any7 HP.out _ P C L _ ⟨A, c, rfl, HR.out.q HQ1.out⟩ HPP.out hP2 hC n W HN.out HW.out).mono ?_
  rw [HM0.out]
  rintro e w2 ⟨v2, rfl, ⟨A2, c2, rfl, hR2⟩, hq2⟩
  obtain ⟨W2, hW2⟩ : ∃ W2, w2.alloc (.cells #[.int .u64 p, .int .i64 W, .slice A2 n c2] 29) = W2 := ⟨_, rfl⟩
  have hB2 : Blk W2 w2.heap.size 29 #[.int .u64 p, .int .i64 W, .slice A2 n c2] := hW2 ▸ Blk.new w2 _ _
  have HQ2 := Lib.hid ((HQ1.out.trans hq2).trans (hW2 ▸ (Q.refl w2).alloc _))
  have HB2 := Lib.hid hB2
  have HR2 := Lib.hid (show Rows64 W2 A2 n c2 W M from hR2.rows.q (hW2 ▸ (Q.refl w2).alloc _))
  clear hR2 hq2 hB2 b0 b1 b2
  obtain ⟨b0, b1, b2⟩ := HB2.out.three'
  go_wp2_with fail
  clear hW2
  refine (copied_any _ n W M _ ⟨A2, c2, rfl, HR2.out⟩ (by omega) (by omega)).mono ?_
  rintro e w3 ⟨v3, rfl, ⟨A3, c3, rfl, hR3⟩, hq3⟩
  obtain ⟨W3, hW3⟩ : ∃ W3, w3.alloc (.cells #[.int .u64 p, .int .i64 W, .slice A3 n c3] 29) = W3 := ⟨_, rfl⟩
  have hq3' : Q w3 W3 := hW3 ▸ (Q.refl w3).alloc _
  have hB3 : Blk W3 w3.heap.size 29 #[.int .u64 p, .int .i64 W, .slice A3 n c3] := hW3 ▸ Blk.new w3 _ _
  have hqq := hq3.trans hq3'
  have HQ := Lib.hid (HQ2.out.trans hqq)
  have HB2 := Lib.hid (HB2.out.q hqq)
  have HR2 := Lib.hid (HR2.out.q hqq)
  have HB3 := Lib.hid hB3
  have HR3 := Lib.hid (hR3.rows.q hq3')
  clear hR3 hq3 hq3' hB3 hqq b0 b1 b2
  obtain ⟨b0, b1, b2⟩ := HB2.out.three'
  go_wp2_with fail
  clear hW3
  refine (rref_any HP.out _ n W M _ ⟨A2, c2, rfl, HR2.out⟩ (by omega) (by omega)).mono ?_
  rw [HS.out]
  rintro e w4 ⟨v4, Ap, cp, rfl, ⟨A4, c4, rfl, hR4⟩, hpv, hq4⟩
  dsimp only at hR4 hpv
  obtain ⟨W4, hW4⟩ : ∃ W4, w4.alloc (.cells #[.int .u64 p, .int .i64 W, .slice A4 r c4] 29) = W4 := ⟨_, rfl⟩
  have hq4' : Q w4 W4 := hW4 ▸ (Q.refl w4).alloc _
  have hB4 : Blk W4 w4.heap.size 29 #[.int .u64 p, .int .i64 W, .slice A4 r c4] := hW4 ▸ Blk.new w4 _ _
  have hqq := hq4.trans hq4'
  have HQ := Lib.hid (HQ.out.trans hqq)
  have HB2 := Lib.hid (HB2.out.q hqq)
  have HR2 := Lib.hid (HR2.out.q hqq)
  have HB3 := Lib.hid (HB3.out.q hqq)
  have HR3 := Lib.hid (HR3.out.q hqq)
  have HB4 := Lib.hid hB4
  have HR4 := Lib.hid (hR4.rows.q hq4')
  have HPV := Lib.hid (hpv.sc.q hq4')
  clear hR4 hpv hq4 hq4' hB4 hqq b0 b1 b2
  obtain ⟨s0, s1, s2⟩ := HB3.out.three'
  go_wp2_with fail
  clear hW4
  refine (rref7_any HP.out _ n W M _ ⟨A3, c3, rfl, HR3.out⟩ (by omega) (by omega)).mono ?_
  rw [HS.out]
  rintro e w5 ⟨v5, Aq, cq, rfl, ⟨A5, c5, rfl, hR5⟩, hpq, hq5⟩
  dsimp only at hR5 hpq
  obtain ⟨W5, hW5⟩ : ∃ W5, w5.alloc (.cells #[.int .u64 p, .int .i64 W, .slice A5 r c5] 29) = W5 := ⟨_, rfl⟩
  have hq5' : Q w5 W5 := hW5 ▸ (Q.refl w5).alloc _
  have hB5 : Blk W5 w5.heap.size 29 #[.int .u64 p, .int .i64 W, .slice A5 r c5] := hW5 ▸ Blk.new w5 _ _
  have hqq := hq5.trans hq5'
  have HQ := Lib.hid (HQ.out.trans hqq)
  have HB2 := Lib.hid (HB2.out.q hqq)
  have HR2 := Lib.hid (HR2.out.q hqq)
  have HB3 := Lib.hid (HB3.out.q hqq)
  have HR3 := Lib.hid (HR3.out.q hqq)
  have HB4 := Lib.hid (HB4.out.q hqq)
  have HR4 := Lib.hid (HR4.out.q hqq)
  have HPV := Lib.hid (HPV.out.q hqq)
  have HB5 := Lib.hid hB5
  have HR5 := Lib.hid (hR5.rows.q hq5')
  have HPQ := Lib.hid (hpq.sc.q hq5')
  clear hR5 hpq hq5 hq5' hB5 hqq s0 s1 s2
  obtain ⟨b0, b1, b2⟩ := HB2.out.three'
  go_wp2_with fail
  clear hW5
  refine (HD1.out _ _ ⟨A2, c2, rfl, HR2.out⟩).mono ?_
  rintro e w6 ⟨rfl, hq6⟩
  have HT := Lib.hid hq6
  clear hq6 b0 b1 b2
  obtain ⟨s0, s1, s2⟩ := (HB3.out.q HT.out).three'
  go_wp2_with fail
  refine (HD2.out _ _ ⟨A3, c3, rfl, HR3.out.q HT.out⟩).mono ?_
  rintro e w7 ⟨rfl, hq7⟩
  have HT := Lib.hid (HT.out.trans hq7)
  clear hq7 s0 s1 s2
  obtain ⟨b0, b1, b2⟩ := (HB2.out.q HT.out).three'
  go_wp2_with fail
  refine (left_d HP.out _ n W M _ ⟨A2, c2, rfl, HR2.out.q HT.out⟩ (by omega) (by omega) HQK.out HYK.out).mono ?_
  rintro e w8 ⟨v8, rfl, ⟨A8, c8, rfl, hR8⟩, hq8⟩
  obtain ⟨W8, hW8⟩ : ∃ W8, w8.alloc (.cells #[.int .u64 p, .int .i64 n, .slice A8 q c8] 29) = W8 := ⟨_, rfl⟩
  have hq8' : Q w8 W8 := hW8 ▸ (Q.refl w8).alloc _
  have hB8 : Blk W8 w8.heap.size 29 #[.int .u64 p, .int .i64 n, .slice A8 q c8] := hW8 ▸ Blk.new w8 _ _
  have hqq := HT.out.trans (hq8.trans hq8')
  have HQ := Lib.hid (HQ.out.trans hqq)
  have HB2 := Lib.hid (HB2.out.q hqq)
  have HR2 := Lib.hid (HR2.out.q hqq)
  have HB3 := Lib.hid (HB3.out.q hqq)
  have HR3 := Lib.hid (HR3.out.q hqq)
  have HB4 := Lib.hid (HB4.out.q hqq)
  have HR4 := Lib.hid (HR4.out.q hqq)
  have HPV := Lib.hid (HPV.out.q hqq)
  have HB5 := Lib.hid (HB5.out.q hqq)
  have HR5 := Lib.hid (HR5.out.q hqq)
  have HPQ := Lib.hid (HPQ.out.q hqq)
  have HB8 := Lib.hid hB8
  have HR8 := Lib.hid (hR8.rows.q hq8')
  clear hR8 hq8 hq8' hB8 hqq b0 b1 b2 HT
  obtain ⟨b0, b1, b2⟩ := HB2.out.three'
  obtain ⟨s0, s1, s2⟩ := HB3.out.three'
  obtain ⟨d0, d1, d2⟩ := HB4.out.three'
  obtain ⟨f0, f1, f2⟩ := HB5.out.three'
  obtain ⟨g0, g1, g2⟩ := HB8.out.three'
  go_wp2_with fail
  clear hW8
  have hqn : ∀ W6, Q W8.drew W6 → Q W8 W6 := fun W6 q => (Q.refl W8).drew.trans q
  have qF := fun W6 q => And.intro ((hqn W6 q).cell b0) (And.intro ((hqn W6 q).cell b1) (And.intro ((hqn W6 q).cell b2) (And.intro ((hqn W6 q).cell s0) (And.intro ((hqn W6 q).cell s1) (And.intro ((hqn W6 q).cell s2) (And.intro ((hqn W6 q).cell d0) (And.intro ((hqn W6 q).cell d1) (And.intro ((hqn W6 q).cell d2) (And.intro ((hqn W6 q).cell f0) (And.intro ((hqn W6 q).cell f1) (And.intro ((hqn W6 q).cell f2) (And.intro ((hqn W6 q).cell g0) (And.intro ((hqn W6 q).cell g1) ((hqn W6 q).cell g2))))))))))))))
  clear b0 b1 b2 s0 s1 s2 d0 d1 d2 f0 f1 f2 g0 g1 g2
  refine wp_region_grow [true, true, true, true, true, true, true, true, true, true, true, true, true, true, true, true, true, true, true, true, true, true, true, true, true, true, true, true, true, true, true, true, true, true, true, true, true, true, true, true, true, false, false] (by kernel_rfl) (by kernel_rfl) ?_
  simp only [List.length_cons, List.length_nil, Nat.reduceAdd, sel_nil, sel_tt, sel_tf, sel_ft, sel_ff, List.drop_succ_cons, List.drop_zero]
  iterate 2 ((apply wpDets_read; case h => (intro wq hq K' hK; have qr := qF wq hq; go_simp; exact hK)))
  refine wpDets_call (.bool true) ?_ ?_
  · intro wq hq V hV
    go_simp
    go_at_call 19
    exact (same_mod _ _ n W M M _ ⟨A2, c2, rfl, HR2.out.q (hqn _ hq)⟩ ⟨A3, c3, rfl, HR3.out.q (hqn _ hq)⟩ (fun _ _ _ _ => rfl) (by omega)).mono fun e w' h => ⟨_, h.1, h.2, hV _ h.2⟩
  iterate 2 ((apply wpDets_read; case h => (intro wq hq K' hK; have qr := qF wq hq; go_simp; exact hK)))
  refine wpDets_call (.bool true) ?_ ?_
  · intro wq hq V hV
    go_simp
    go_at_call 20
    exact (valid_any HP.out _ r W X _ ⟨A4, c4, rfl, HR4.out.q (hqn _ hq)⟩ (by omega) (by omega)).mono fun e w' h => ⟨_, h.1, h.2, hV _ h.2⟩
  iterate 3 ((apply wpDets_read; case h => (intro wq hq K' hK; have qr := qF wq hq; go_simp; exact hK)))
  refine wpDets_call (.bool true) ?_ ?_
  · intro wq hq V hV
    go_simp
    go_at_call 20
    exact (valid_any HP.out _ q n Y _ ⟨A8, c8, rfl, HR8.out.q (hqn _ hq)⟩ (by omega) (by omega)).mono fun e w' h => ⟨_, h.1, h.2, hV _ h.2⟩
  iterate 4 ((apply wpDets_read; case h => (intro wq hq K' hK; have qr := qF wq hq; go_simp; exact hK)))
  refine wpDets_call (.bool true) ?_ ?_
  · intro wq hq V hV
    go_simp
    go_at_call 19
    exact (same_mod _ _ r W X X _ ⟨A4, c4, rfl, HR4.out.q (hqn _ hq)⟩ ⟨A5, c5, rfl, HR5.out.q (hqn _ hq)⟩ (fun _ _ _ _ => rfl) (by omega)).mono fun e w' h => ⟨_, h.1, h.2, hV _ h.2⟩
  iterate 4 ((apply wpDets_read; case h => (intro wq hq K' hK; have qr := qF wq hq; go_simp; exact hK)))
  refine wpDets_call (.bool true) ?_ ?_
  · intro wq hq V hV
    go_simp
    go_at_call 21
    exact (ints_true _ _ r pv pv _ ⟨Ap, cp, rfl, HPV.out.q (hqn _ hq)⟩ ⟨Aq, cq, rfl, HPQ.out.q (hqn _ hq)⟩ (fun _ _ => rfl)).mono fun e w' h => ⟨_, h.1, h.2, hV _ h.2⟩
  iterate 3 ((apply wpDets_read; case h => (intro wq hq K' hK; have qr := qF wq hq; go_simp; exact hK)))
  refine wpDets_call (.int .i64 (r : Int)) ?_ ?_
  · intro wq hq V hV
    have hh := rank_any HP.out _ n W M wq ⟨A2, c2, rfl, HR2.out.q (hqn _ hq)⟩ (by omega) (by omega)
    rw [HS.out] at hh
    go_simp
    go_at_call 22
    exact hh.mono fun e w' h => ⟨_, h.1, h.2, hV _ h.2⟩
  iterate 17 ((apply wpDets_read; case h => (intro wq hq K' hK; have qr := qF wq hq; go_simp; exact hK)))
  refine wpDets_nil ?_
  refine wpMks_make (ModY q n Y) ModY.keep ?_ ?_
  · intro wq hq _ V' hV'
    go_simp
    go_at_call 23
    refine (left7_d HP.out _ n W M _ ⟨A2, c2, rfl, HR2.out.q (hqn _ hq)⟩ (by omega) (by omega) HQK.out HYK.out).mono ?_
    rintro e w' ⟨v2, rfl, h1, h2⟩
    exact ⟨_, rfl, h2, hV' _ _ h2 h1.modv⟩
  rintro vl ⟨_, _, _⟩
  refine wpMks_make (KnY (.bool true)) KnY.keep ?_ ?_
  · intro wq hq hs V' hV'
    go_simp
    go_at_call 19
    exact (same_mod _ vl q n Y Y _ ⟨A8, c8, rfl, HR8.out.q (hqn _ hq)⟩ hs.2 (fun _ _ _ _ => rfl) (by omega)).mono fun e w' h => ⟨_, h.1, h.2, hV' _ _ h.2 rfl⟩
  rintro _ ⟨_, _, rfl⟩
  refine wpMks_nil ?_
  rintro w9 hq9 _
  have q9 := hqn _ hq9
  clear qF hqn
  go_wp2_with fail
  go_ret
  exact ⟨rfl, HQ.out.trans q9⟩
end
end Go.Proofs.Ytcjpjnneimjfiaa
