/-
  ModmatLeft: the walk.
-/
import Derived.Test.YtcjpjnneimjfiaaRfK
import Derived.Test.YtcjpjnneimjfiaaRfF
import Derived.Test.YtcjpjnneimjfiaaRfE
import Derived.Test.YtcjpjnneimjfiaaSan7
namespace Go.Proofs.Ytcjpjnneimjfiaa
open Go.RowKit
section
variable {p : Nat} [NeZero p]
attribute [local go_sem] opGrow growUpon

set_option maxRecDepth 100000 in
theorem zero_b (va : Value) (n : Nat) (x : Nat → Fin p) (w : World) (ha : Sl w va n (u64 x)) (b : Bool) (hb : b = true ↔ ∀ k, k < n → x k = 0) :
    Calls Try.prog 24 #[va] w (BoolW w b) := by
  cases b
  · exact zero_false va n x w ha (fun h => by have := hb.2 h; cases this)
  · exact zero_true va n x w ha (hb.1 rfl)
set_option maxRecDepth 100000 in
/-- The rows of Left, and what lies in their span. -/
theorem lf_kills (hp : Fp p) (n W : Nat) (M : Mt p) {i k : Nat} (hi : i < (lf n W M).r) (hk : k < W) : comb n ((lf n W M).M i) M k = 0 := by
  have h := rf_inv hp n W (bsd W M)
  obtain ⟨E', g⟩ := h.wide
  have h2 := rf_inv hp (n - (rf n W (bsd W M)).r) n (ker W (rf n W (bsd W M)).r (rf n W (bsd W M)).M)
  exact sp_kills (fun j k hj hk => ker_kills h g hj hk) (h2.up (Nat.lt_of_lt_of_le hi h2.rn)) hk
set_option maxRecDepth 100000 in
theorem lf_span (hp : Fp p) (n W : Nat) (M : Mt p) (v : Nat → Fin p) : InSp (lf n W M).r n (lf n W M).M v ↔ ∀ k, k < W → comb n v M k = 0 := by
  constructor
  · exact fun h k hk => sp_kills (fun j k hj hk => lf_kills hp n W M hj hk) h hk
  · intro h
    have h1 := rf_inv hp n W (bsd W M)
    obtain ⟨E', g⟩ := h1.wide
    have h2 := rf_inv hp (n - (rf n W (bsd W M)).r) n (ker W (rf n W (bsd W M)).r (rf n W (bsd W M)).M)
    exact (ker_all h1 g h).trans (fun i hi => h2.down hi)
set_option maxRecDepth 100000 in
theorem left_d (hp : Fp p) (v : Value) (n W : Nat) (M : Mt p) (w : World) (h : ModV w v n W M) (hn : n ≤ 1024) (hW : W ≤ 1024) {q : Nat} {X : Mt p} (e : (lf n W M).r = q) (e2 : (lf n W M).M = X) : Calls Try.prog 18 #[v] w (ModQ w q n X) := e ▸ e2 ▸ left_any hp v n W M w h hn hW
set_option maxRecDepth 100000 in
/-- The reference's form, its number of rows under a name, its rows and pivots those of another. -/
theorem rref7_i (hp : Fp p) (v : Value) (n W : Nat) (M : Mt p) (w : World) (h : ModV w v n W M) (hn : n ≤ 4096) (hW : W ≤ 4096) {r : Nat} {X : Mt p} {pv : Nat → Nat} (e : (rf n W M).r = r) (e1 : ∀ i, i < r → (rf n W M).pv i = pv i) (e2 : ∀ i k, i < r → k < W → (rf n W M).M i k = X i k) :
    Calls Try.prog 15 #[v] w (fun e w' => ∃ A3 c3 A c, e = .returned (.tuple #[.agg #[.int .u64 (p : Int), .int .i64 (W : Int), .slice A3 r c3], .slice A r c]) ∧ Rows64 w' A3 r c3 W X ∧ Sc w' A r c (i64s pv) ∧ Q w w') := by
  subst e
  refine (rref7_any hp v n W M w h hn hW).mono ?_
  rintro e w' ⟨v3, A, c, rfl, ⟨A3, c3, rfl, hR⟩, hpv, hq⟩
  exact ⟨A3, c3, A, c, rfl, hR.rows.congr e2, hpv.sc.congr (fun k hk => by unfold i64s; rw [e1 k hk]), hq⟩
set_option maxHeartbeats 4000000 in
set_option maxRecDepth 100000 in
theorem law_left (hp : Fp p) (v : Value) (P C : Nat) (L : List (List Nat)) (A1 : Option Addr) (c1 : Nat) (l : List Nat) (w : World) (h : RawV w v P C L) (hl : Lm w A1 c1 l) (hP : prN P = p) (hP2 : P < 256) (hC : C < 256) :
    Calls Try.prog 7 #[v, .slice A1 l.length c1] w (SaneQ w) := by
  obtain ⟨A, c, rfl, hR⟩ := h
  obtain ⟨n, hn⟩ : ∃ n, min L.length 4 = n := ⟨_, rfl⟩
  obtain ⟨W, hW⟩ : ∃ W, C % 6 = W := ⟨_, rfl⟩
  have hn4 : n ≤ 4 := by omega
  have hW6 : W ≤ 5 := by omega
  obtain ⟨M, hM0⟩ : ∃ M : Mt p, szM L = M := ⟨_, rfl⟩
  have hI := rf_inv hp (n - (rf n W (bsd W M)).r) n (ker W (rf n W (bsd W M)).r (rf n W (bsd W M)).M)
  obtain ⟨s, hs⟩ : ∃ s, lf n W M = s := ⟨_, rfl⟩
  have hkill := @lf_kills p _ hp n W M
  have hspan := lf_span hp n W M (rowF l)
  rw [hs] at hkill hspan
  have hI' : Inv (n - (rf n W (bsd W M)).r) n (ker W (rf n W (bsd W M)).r (rf n W (bsd W M)).M) s := hs ▸ hI
  obtain ⟨X, r, pv, dt⟩ := s
  obtain ⟨d1, d2, d3⟩ := form_idem hp.two (rf_inv hp r n X) hI'.isR
  dsimp only at hkill hspan d1 d2 d3
  have hrn : r ≤ n := hI'.rc
  have hsv : svB r n X (rowF l) = true ↔ ∀ k, k < W → comb n (rowF l) M k = 0 := (svB_iff hp r n X _).trans hspan
  obtain ⟨bz, hbz⟩ : ∃ b, svB r n X (rowF l) = b := ⟨_, rfl⟩
  rw [hbz] at hsv
  have HR := Lib.hid hR
  have HL := Lib.hid hl
  have HP := Lib.hid hp
  have HPP := Lib.hid hP
  have HN := Lib.hid hn
  have HW := Lib.hid hW
  have HS := Lib.hid hs
  have HKL := @Lib.hid _ @hkill
  have HSV := Lib.hid hsv
  have HBZ := Lib.hid hbz
  have HD1 := Lib.hid d1
  have HD2 := @Lib.hid _ d2
  have HD3 := @Lib.hid _ d3
  clear hp hR hl hP hn hW hI hI' hs hkill hspan hsv hbz d1 d2 d3
  go_enter Try.func7, Try.ntmps7
  go_wp2_with fail
  refine (sane7 _).mono ?_
  rintro e w1 ⟨rfl, hq1⟩
  have hB1 := (Blk.new w 24 #[.int .u8 P, .int .u8 C, .slice A L.length c]).q hq1
  obtain ⟨b0, b1, b2⟩ := hB1.three'
  have q1 := ((Q.refl w).alloc _).trans hq1
  have HQ1 := Lib.hid q1
  clear hB1 hq1 q1
  go_wp2_with fail
  refine (made_any7 HP.out _ P C L _ ⟨A, c, rfl, HR.out.q HQ1.out⟩ HPP.out hP2 hC n W HN.out HW.out).mono ?_
  rintro e w2 ⟨v2, rfl, ⟨A2, c2, rfl, hR2⟩, hq2⟩
  rw [hM0] at hR2
  obtain ⟨W2, hW2⟩ : ∃ W2, w2.alloc (.cells #[.int .u64 p, .int .i64 W, .slice A2 n c2] 29) = W2 := ⟨_, rfl⟩
  have hB2 : Blk W2 w2.heap.size 29 #[.int .u64 p, .int .i64 W, .slice A2 n c2] := hW2 ▸ Blk.new w2 _ _
  have hR2' : Rows64 W2 A2 n c2 W M := hR2.rows.q (hW2 ▸ (Q.refl w2).alloc _)
  obtain ⟨b0, b1, b2⟩ := hB2.three'
  have HQ2 := Lib.hid ((HQ1.out.trans hq2).trans (hW2 ▸ (Q.refl w2).alloc _))
  have HB2 := Lib.hid hB2
  have HR2 := Lib.hid hR2'
  clear hR2 hq2 hB2 hR2'
  go_wp2_with fail
  clear hW2
  refine (left_d HP.out _ n W M _ ⟨A2, c2, rfl, HR2.out⟩ (by omega) (by omega) (congrArg St.r HS.out) (congrArg St.M HS.out)).mono ?_
  dsimp only
  rintro e w3 ⟨v3, rfl, ⟨A3, c3, rfl, hR3⟩, hq3⟩
  obtain ⟨W3, hW3⟩ : ∃ W3, w3.alloc (.cells #[.int .u64 p, .int .i64 n, .slice A3 r c3] 29) = W3 := ⟨_, rfl⟩
  have hq3' : Q w3 W3 := hW3 ▸ (Q.refl w3).alloc _
  have hB3 : Blk W3 w3.heap.size 29 #[.int .u64 p, .int .i64 n, .slice A3 r c3] := hW3 ▸ Blk.new w3 _ _
  have HQ3 := Lib.hid (hq3.trans hq3')
  have HB3 := Lib.hid hB3
  have HR3 := Lib.hid (hR3.rows.q hq3')
  have HB2 := Lib.hid (HB2.out.q HQ3.out)
  have HR2 := Lib.hid (HR2.out.q HQ3.out)
  clear hR3 hq3 hq3' hB3 b0 b1 b2
  obtain ⟨b0, b1, b2⟩ := HB2.out.three'
  obtain ⟨d0, d1, d2⟩ := HB3.out.three'
  go_wp2_with fail
  clear hW3
  refine (valid_any HP.out _ r n X _ ⟨A3, c3, rfl, HR3.out⟩ (by omega) (by omega)).mono ?_
  rintro e w4 ⟨rfl, hq4⟩
  have HB2 := Lib.hid (HB2.out.q hq4)
  have HR2 := Lib.hid (HR2.out.q hq4)
  have HB3 := Lib.hid (HB3.out.q hq4)
  have HR3 := Lib.hid (HR3.out.q hq4)
  have HQ := Lib.hid ((HQ2.out.trans HQ3.out).trans hq4)
  clear HQ2 HQ3 hq4 b0 b1 b2 d0 d1 d2
  obtain ⟨b0, b1, b2⟩ := HB2.out.three'
  obtain ⟨d0, d1, d2⟩ := HB3.out.three'
  go_wp2_with fail
  clear b0 b1 b2 d0 d1 d2
  go_loopw [8] (fun iv' wr => ∃ i : Nat, iv' = .int .i64 i ∧ i ≤ r ∧ Q w4 wr) (fun iv' _ => r - (intOf iv').toNat)
  case atStart => exact ⟨0, rfl, Nat.zero_le _, Q.refl _⟩
  case round =>
    obtain ⟨i, rfl, hir, hq⟩ := hrel
    obtain ⟨W4, rfl⟩ : ∃ W4 : World, W4 = wr := ⟨_, rfl⟩
    obtain ⟨b0, b1, b2⟩ := (HB2.out.q hq).three'
    obtain ⟨d0, d1, d2⟩ := (HB3.out.q hq).three'
    have HQW := Lib.hid hq
    by_cases hlt : i < r
    · have hi2 : (i : Int) < (r : Int) := by omega
      obtain ⟨bf, of, rf', rfl, hbf, hcf, hSf⟩ := (HR3.out.q hq).at hlt
      obtain ⟨Af, cf, rfl, hSf⟩ := hSf
      have HSF := Lib.hid hSf
      clear hSf hq
      go_wp2_with fail
      have hqn : ∀ W6, Q W4.drew W6 → Q W4 W6 := fun W6 q => (Q.refl W4).drew.trans q
      have qF := fun W6 q => And.intro ((hqn W6 q).cell b0) (And.intro ((hqn W6 q).cell b1) (And.intro ((hqn W6 q).cell b2) (And.intro ((hqn W6 q).cell d2) ((hqn W6 q).cell hcf))))
      refine wp_region_fix [true, true, true, true, true, true, false] (by kernel_rfl) (by kernel_rfl) ?_
      intro KF hKF
      simp only [List.length_cons, List.length_nil, Nat.reduceAdd, sel_nil, sel_tt, sel_tf, sel_ft, sel_ff, List.drop_succ_cons, List.drop_zero] at hKF ⊢
      iterate 6 ((apply wpFix_read; (case hgd => rfl); (case h => (intro wq hq K' hK; have qr := qF wq hq; go_simp; exact hK))))
      refine hKF _ (wpMks_makeU (RowY W4.drew.heap.size W (comb n (X i) M)) RowY.keep rfl ?_ ?_)
      · intro wq hq _ V' hV'
        go_simp
        go_at_call 27
        exact (act_any HP.out _ _ n W (X i) M _ ⟨Af, cf, rfl, HSF.out.q (hqn _ hq)⟩ ⟨A2, c2, rfl, (HR2.out.q HQW.out).q (hqn _ hq)⟩ (by omega) (by omega)).mono fun e w' h => rowq_y hq hV' h
      rintro v ⟨_, _, A7, c7, rfl, _⟩
      refine wpMks_nil ?_
      rintro w7 hq7 ⟨_, A8, c8, e8, hR8⟩
      injection e8 with e8 _ e9
      subst e8 e9
      go_wp2_with fail
      refine (zero_true _ W _ _ ⟨_, _, rfl, hR8.sc⟩ (fun k hk => HKL.out hlt hk)).mono ?_
      rintro e w8 ⟨rfl, hq8⟩
      go_wp2_with fail
      refine ⟨⟨i + 1, rfl, by omega, (HQW.out.trans (hqn _ hq7)).trans hq8⟩, ?_⟩
      simp only [intOf]; omega
    · obtain rfl : i = r := by omega
      clear hq
      go_wp2_with fail
      refine (rref7_i HP.out _ i n X _ ⟨A3, c3, rfl, HR3.out.q HQW.out⟩ (by omega) (by omega) HD1.out HD2.out HD3.out).mono ?_
      rintro e w5 ⟨A5, c5, A6, c6, rfl, hR5, hpv5, hq5⟩
      obtain ⟨W5, hW5⟩ : ∃ W5, w5.alloc (.cells #[.int .u64 p, .int .i64 n, .slice A5 i c5] 29) = W5 := ⟨_, rfl⟩
      have hq5' : Q w5 W5 := hW5 ▸ (Q.refl w5).alloc _
      have hB5 : Blk W5 w5.heap.size 29 #[.int .u64 p, .int .i64 n, .slice A5 i c5] := hW5 ▸ Blk.new w5 _ _
      have HQ5 := Lib.hid ((HQW.out.trans hq5).trans hq5')
      have HB5 := Lib.hid hB5
      have HR5 := Lib.hid (hR5.q hq5')
      clear hR5 hpv5 hq5 hq5' hB5 b0 b1 b2 d0 d1 d2
      obtain ⟨b0, b1, b2⟩ := (HB2.out.q HQ5.out).three'
      obtain ⟨d0, d1, d2⟩ := (HB3.out.q HQ5.out).three'
      go_wp2_with fail
      clear hW5
      refine (vector_any HP.out _ l n _ A1 c1 rfl (HL.out.q (HQ.out.trans HQ5.out)) (by omega)).mono ?_
      rintro e w6 ⟨A7, c7, rfl, hR7, hq6⟩
      have HV := Lib.hid hR7.sc
      have HQ6 := Lib.hid (HQ5.out.trans hq6)
      have HQ56 := Lib.hid hq6
      clear hR7 hq6 b0 b1 b2 d0 d1 d2
      obtain ⟨d0, d1, d2⟩ := (HB3.out.q HQ6.out).three'
      go_wp2_with fail
      refine (solvable7_any HP.out _ _ i n X (rowF l) _ ⟨A3, c3, rfl, HR3.out.q HQ6.out⟩ ⟨A7, c7, rfl, HV.out⟩ (by omega) (by omega)).mono ?_
      rw [HBZ.out]
      rintro e w7 ⟨rfl, hq7⟩
      have HQ7 := Lib.hid (HQ6.out.trans hq7)
      have HQ57 := Lib.hid (HQ56.out.trans hq7)
      have HV := Lib.hid (HV.out.q hq7)
      clear hq7 d0 d1 d2
      obtain ⟨b0, b1, b2⟩ := (HB2.out.q HQ7.out).three'
      obtain ⟨d0, d1, d2⟩ := (HB3.out.q HQ7.out).three'
      obtain ⟨f0, f1, f2⟩ := (HB5.out.q HQ57.out).three'
      go_wp2_with fail
      refine (same_mod _ _ i n X X _ ⟨A5, c5, rfl, HR5.out.q HQ57.out⟩ ⟨A3, c3, rfl, HR3.out.q HQ7.out⟩ (fun _ _ _ _ => rfl) (by omega)).mono ?_
      rintro e w8 ⟨rfl, hq8⟩
      have HQ8 := Lib.hid (HQ7.out.trans hq8)
      have HV := Lib.hid (HV.out.q hq8)
      clear hq8 b0 b1 b2 d0 d1 d2 f0 f1 f2
      obtain ⟨b0, b1, b2⟩ := (HB2.out.q HQ8.out).three'
      obtain ⟨d0, d1, d2⟩ := (HB3.out.q HQ8.out).three'
      go_wp2_with fail
      refine (act_any HP.out _ _ n W (rowF l) M _ ⟨A7, c7, rfl, HV.out⟩ ⟨A2, c2, rfl, HR2.out.q HQ8.out⟩ (by omega) (by omega)).mono ?_
      rintro e w9 ⟨A9, c9, rfl, hR9, hq9⟩
      clear b0 b1 b2 d0 d1 d2
      go_wp2_with fail
      refine (zero_b _ W _ _ ⟨A9, c9, rfl, hR9.sc⟩ bz HSV.out).mono ?_
      rintro e w10 ⟨rfl, hq10⟩
      go_wp2_with fail
      go_ret
      exact ⟨by simp, ((HQ.out.trans HQ8.out).trans hq9).trans hq10⟩
end
end Go.Proofs.Ytcjpjnneimjfiaa
