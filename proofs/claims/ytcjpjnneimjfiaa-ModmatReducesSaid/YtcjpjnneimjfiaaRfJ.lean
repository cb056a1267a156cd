/-
  torsionref07.Rref: the walk.
-/
import Derived.Test.YtcjpjnneimjfiaaRfI
import Derived.Test.YtcjpjnneimjfiaaGrowR
import Derived.BigRegion
import Derived.Deep.Cut
import Derived.Deep.CutRange
import Derived.Deep.DeepCutAuto
namespace Go.Proofs.Ytcjpjnneimjfiaa
open Go.RowKit
section
variable {p : Nat} [NeZero p]
attribute [local go_sem] opGrow growUpon

/-- The relation of the outer loop. -/
def RrR (w1 : World) (B n W : Nat) (A : Option Addr) (c2 k0 : Nat) (M : Mt p) (v i : Value) (wr : World) : Prop :=
  ∃ c : Nat, i = .int .i64 c ∧ c ≤ W ∧ RrS w1 wr B n W A c2 k0 (run iv n c (ini M)).M v (run iv n c (ini M)).r (run iv n c (ini M)).pv
set_option maxRecDepth 100000 in
theorem rr_end {w w1 wr w7 : World} {B0 B n W c2 k0 r cp : Nat} {A Ap : Option Addr} {M X : Mt p} {pv : Nat → Nat} {dt : Fin p} (h0 : run iv n W (ini M) = ⟨X, r, pv, dt⟩) (hu : Upd B0 wr w7) (h : RrS w1 wr B n W A c2 k0 X (.slice Ap r cp) r pv) (hr : r ≤ n) (hn : n ≤ 4096) (hq : Q w w1) (hB : B0 < w1.heap.size) (hBw : w.heap.size ≤ B0) :
    FormP w W (rf n W M) (.returned (.tuple #[.agg #[.int .u64 (p : Int), .int .i64 (W : Int), .slice A r c2], .slice Ap r cp])) w7 := by
  unfold rf
  rw [h0]
  obtain ⟨A', c', e, hR⟩ := own_rowO h.piv rfl (by omega)
  injection e with e1 _ e2
  subst e1 e2
  refine ⟨_, _, _, rfl, ⟨A, c2, rfl, (((h.cs.rows.take hr).away hu hB).mono hq.size)⟩, ((hR.away hu (by have := h.kl; omega)).mono (by have := h.kl; have := hq.size; omega)), Below.trans (hq.trans h.cs.q) (hu.below hBw)⟩
set_option maxHeartbeats 8000000 in
set_option maxRecDepth 100000 in
theorem rref7_any (hp : Fp p) (v : Value) (n W : Nat) (M : Mt p) (w : World) (h : ModV w v n W M) (hn : n ≤ 4096) (hW : W ≤ 4096) :
    Calls Try.prog 15 #[v] w (FormP w W (rf n W M)) := by
  obtain ⟨i0, hi, hz0, hz1, hz2⟩ := info_parts info_int
  have HP := Lib.hid hp
  have h1p := fone_val hp
  obtain ⟨A, c, w1, rfl, hw1, HM, HB, HB2, HQ1, hcap, b0, b1, b2⟩ := modbox2 h
  clear h hp
  go_enter Try.func15, Try.ntmps15
  go_wp2_with fail
  try rw [hw1]
  clear hw1
  refine (copied_own _ n W M _ HM.out hn hW).mono ?_
  rintro e w2 ⟨A2, c2, ρ2, rfl, hO2, hq2⟩
  have hk2 : w1.heap.size ≤ w2.heap.size := hq2.size
  have hR2 := hO2.rowsO (by omega)
  obtain ⟨k0, hk0⟩ : ∃ k0, w2.heap.size = k0 := ⟨_, rfl⟩
  obtain ⟨W5, hW5⟩ : ∃ W5, (w2.alloc (.cells #[] 3)).alloc (.cells #[.int .u64 p, .int .i64 W, .slice A2 n c2] 29) = W5 := ⟨_, rfl⟩
  have hS0 : RrS w1 W5 (k0 + 1) n W A2 c2 k0 M (.slice (some ⟨k0, 0, none⟩) 0 0) 0 (fun _ => 0) := by
    have h1 := chs_late (p := p) (w1 := w1) (w2 := w2.alloc (.cells #[] 3)) (RowsO.q (w := w2) hR2 ((Q.refl w2).alloc _)) (hq2.alloc _)
    have e1 : (w2.alloc (.cells #[] 3)).heap.size = k0 + 1 := by rw [← hk0]; simp
    rw [e1, hW5] at h1
    refine ⟨h1, ?_, fun g e hn0 => ?_, by omega, ?_⟩
    · rw [← hW5]
      exact ownsRow_q (own_new w2 3 k0 k0 hk0 (Nat.le_refl _)) ((Q.refl _).alloc _)
    · obtain ⟨g', cs, e', _, _, hb, _⟩ := rows_open hR2 hn0
      rw [e] at e'
      injection e' with e'
      injection e' with e'
      subst e'
      rw [← hk0]; exact hb.lt
    · rw [← hW5]; simp; omega
  go_wp2_with fail
  try rw [hW5]
  have HK := Lib.hid hk0
  have HS0 := Lib.hid hS0
  clear hW5 hS0 hR2 hO2 hq2 b0 b1 b2 hk2
  go_loopw [5, 6] (fun v i wr => RrR w1 (k0 + 1) n W A2 c2 k0 M v i wr) (fun _ i _ => W - (intOf i).toNat)
  case atStart => exact ⟨0, rfl, Nat.zero_le _, HS0.out⟩
  case round =>
    obtain ⟨c, rfl, hcW, hS⟩ := hrel
    have hI := run_inv (iv_spec HP.out) n c M
    have hst := run_s iv n c (ini M)
    obtain ⟨s, hs0⟩ : ∃ s, run iv n c (ini M) = s := ⟨_, rfl⟩
    rw [hs0] at hS hI hst
    obtain ⟨X, r, pv, dt⟩ := s
    dsimp only at hS
    have hrn : r ≤ n := hI.rn
    have hrW : r ≤ W := Nat.le_trans hI.rc hcW
    obtain ⟨Av, cv, rfl, _⟩ := own_shape hS.piv
    obtain ⟨b0, b1, b2⟩ := (HB.out.q hS.cs.q).three'
    obtain ⟨k00, k01, k02⟩ := hS.cs.box.three'
    by_cases hlt : c < W
    · have HSS := Lib.hid hS
      have HI := Lib.hid hI
      have HST := Lib.hid hst
      clear hS hI hst hs0
      have hc5 : (c : Int) < (W : Int) := by omega
      go_wp2_with fail
      go_loop [8] (fun av => ∃ t : Nat, av = .int .i64 t ∧ r ≤ t ∧ t ≤ n ∧ ∀ j, r ≤ j → j < t → X j c = 0) (fun av => n - (intOf av).toNat)
      case atStart => exact ⟨r, rfl, Nat.le_refl _, hrn, fun j h1 h2 => by omega⟩
      case round =>
        obtain ⟨t, rfl, hrt, htn, hz⟩ := hrel
        by_cases htl : t < n
        · obtain ⟨g, cs, rfl, hgw, hnc, hbg, hrw⟩ := HSS.out.open (by omega)
          obtain ⟨At, ct, et, hRt⟩ := hrw t htl
          obtain ⟨Ar, cr, er, hRr⟩ := hrw r (by omega)
          obtain ⟨bt, ot, rfl, hlt2, hct⟩ := hRt.sc.at64 hlt
          have mt : wr.cell? ⟨g, t, none⟩ = some (.slice (some ⟨bt, ot, none⟩) W ct) := by rw [hbg.cell, et]
          have mr : wr.cell? ⟨g, r, none⟩ = some (.slice Ar W cr) := by rw [hbg.cell, er]
          have ht5 : (t : Int) < (n : Int) := by omega
          by_cases hx : X t c = 0
          · have hb : (((X t c : Nat) : Int) == 0) = true := by rw [beq_fin, hx]; simp
            have HZ := @Lib.hid _ hz
            have HX := Lib.hid hx
            clear hz hx hRt hRr hrw hbg
            go_wp2_with fail
            refine ⟨⟨t + 1, rfl, by omega, by omega, fun j h1 h2 => ?_⟩, ?_⟩
            · by_cases e : j = t
              · subst e; exact HX.out
              · exact HZ.out j h1 (by omega)
            · simp only [intOf]; omega
          · have hb : (((X t c : Nat) : Int) == 0) = false := by rw [beq_fin]; simpa using hx
            have hft : fnd X c (n - r) r = t := fnd_eq hrt (by omega) hz (fun _ => hx)
            have htb : ((t : Int) == (n : Int)) = false := by rw [beq_eq_false_iff_ne]; omega
            have hr5 : (r : Int) < (n : Int) := by omega
            have HF := Lib.hid hft
            have HX := Lib.hid hx
            have HBG := Lib.hid hbg
            have fr := hbg.frozen r
            have ft := hbg.frozen t
            have hlg := hbg.lt
            have m5 : (wr.setCell ⟨g, r, none⟩ (.slice (some ⟨bt, ot, none⟩) W ct)).cell? ⟨g, t, none⟩ = some (.slice (some ⟨bt, ot, none⟩) W ct) := by
              rw [(hbg.set r _).cell]
              by_cases e : r = t
              · subst e; simp [(Array.getElem?_eq_some_iff.1 er).1]
              · rw [Array.getElem?_setIfInBounds_ne e]; exact et
            have m6 : (wr.setCell ⟨g, r, none⟩ (.slice (some ⟨bt, ot, none⟩) W ct)).cell? ⟨k0 + 1, 2, none⟩ = some (.slice (some ⟨g, 0, none⟩) n c2) := by
              rw [((HSS.out.cs.box).far (blk_ne HSS.out.cs.box hbg (by decide)) _).cell]; rfl
            clear hz hx hft hRt hRr hrw hbg
            obtain ⟨Y, hY⟩ : ∃ Y, swp r t X = Y := ⟨_, rfl⟩
            obtain ⟨Z, hZ⟩ : ∃ Z : Mt p, (fun j => if j = r then fun k => iv (Y r c) * Y r k else Y j) = Z := ⟨_, rfl⟩
            have hYc : X t c = Y r c := by rw [← hY]; unfold swp; rw [if_pos rfl]
            have HYC := Lib.hid hYc
            have HY := Lib.hid hY
            have HZZ := Lib.hid hZ
            clear hY hZ hYc
            go_upto_region 9 with fail
            go_cut [] from 46 to 63 (fun wx => RrS w1 wx (k0 + 1) n W (some ⟨g, 0, none⟩) c2 k0 Y (.slice Av r cv) r pv)
            case first =>
              go_region
              all_goals
                have hS6 := (HSS.out.swap hn HBG.out (Q.refl wr) (show r < n by omega) htl er et).q (Q.refl _).drew
                rw [HY.out] at hS6
                go_wp2_with fail
                go_meet
                exact hS6
            case rest =>
              obtain ⟨W6, rfl⟩ : ∃ W6 : World, W6 = wc := ⟨_, rfl⟩
              have HS6 := Lib.hid hcut
              clear hcut m5 m6 fr ft hlg mt mr hct b0 b1 b2 k00 k01 k02
              go_upto_region 10 with fail
              go_cut [] from 64 to 86 (fun wx => RrS w1 wx (k0 + 1) n W (some ⟨g, 0, none⟩) c2 k0 Z (.slice Av r cv) r pv)
              case first =>
                have hne : Y r c ≠ 0 := by rw [← HYC.out]; exact HX.out
                have HNE := Lib.hid hne
                clear hne
                obtain ⟨b0, b1, b2⟩ := (HB.out.q HS6.out.cs.q).three'
                obtain ⟨k00, k01, k02⟩ := HS6.out.cs.box.three'
                obtain ⟨g', cs6, eg, hgw6, hnc6, hbg6, hrw6⟩ := HS6.out.open (by omega)
                injection eg with eg
                injection eg with eg
                subst eg
                obtain ⟨A6, c6, e6, hR6⟩ := hrw6 r (by omega)
                obtain ⟨b6, o6, rfl, hl6, hc6⟩ := hR6.sc.at64 hlt
                have m6 : W6.cell? ⟨g, r, none⟩ = some (.slice (some ⟨b6, o6, none⟩) W c6) := by rw [hbg6.cell, e6]
                have HR6 := Lib.hid hR6
                have HBG6 := Lib.hid hbg6
                clear hrw6 hbg6 hR6
                have qF := fun (W9 : World) (q : Q W6.drew W9) => And.intro (((Q.refl W6).drew.trans q).cell k02) (And.intro (((Q.refl W6).drew.trans q).cell b0) (And.intro (((Q.refl W6).drew.trans q).cell m6) (((Q.refl W6).drew.trans q).cell hc6)))
                refine wp_region_fix [true, true, true, true, true, true, true, true, true, true, true, true, true, true, true, true, true, true, true, true, true, false] (by kernel_rfl) (by kernel_rfl) ?_
                intro KF hKF
                simp only [List.length_cons, List.length_nil, Nat.reduceAdd, sel_nil, sel_tt, sel_tf, sel_ft, sel_ff, List.drop_succ_cons, List.drop_zero] at hKF ⊢
                iterate 20 ((apply wpFix_read; (case hgd => rfl); (case h => (intro wq hq K' hK; have qr := qF wq hq; go_simp; exact hK))))
                refine wpFix_call (.int .u64 (((iv (Y r c) : Fin p) : Nat) : Int)) rfl ?_ ?_
                · intro wq hq V hV
                  go_simp
                  go_at_call 51
                  exact (r_over _ HP.out HNE.out).mono fun e w' h => ⟨_, h.1, h.2, hV _ h.2⟩
                refine hKF _ (wpMks_makeU (RowY W6.drew.heap.size W (fun k => iv (Y r c) * Y r k)) RowY.keep rfl ?_ ?_)
                · intro wq hq _ V' hV'
                  go_simp
                  go_at_call 50
                  exact (times_any HP.out _ W (Y r) (iv (Y r c)) _ ⟨_, c6, rfl, (HR6.out.sc.q ((Q.refl W6).drew.trans hq))⟩ (by omega)).mono fun e w' h => rowq_y hq hV' h
                rintro v ⟨_, _, A7, c7, rfl, _⟩
                refine wpMks_nil ?_
                rintro w7 hq7 ⟨_, A8, c8, e8, hR8⟩
                injection e8 with e8 _ e9
                subst e8 e9
                have hq8 := (Q.refl W6).drew.trans hq7
                have fg := (HBG6.out.q hq8).frozen r
                have lg := (HBG6.out.q hq8).lt
                have mm := hq8.cell m6
                have hS7 := HS6.out.row hn hq8 (show r < n by omega) (hR8.mono (by exact Nat.le_refl _))
                rw [HZZ.out] at hS7
                have HS7 := Lib.hid hS7
                clear hS7
                go_wp2_with fail
                go_meet
                exact HS7.out
              case rest =>
                obtain ⟨W7, rfl⟩ : ∃ W7 : World, W7 = wc := ⟨_, rfl⟩
                have HS7 := Lib.hid hcut
                clear hcut
                go_wp2_with fail
                go_loopw [9] (fun iv' wx => ∃ i : Nat, iv' = .int .i64 i ∧ i ≤ n ∧ RrS w1 wx (k0 + 1) n W (some ⟨g, 0, none⟩) c2 k0 (elz r c i Z) (.slice Av r cv) r pv) (fun iv' _ => n - (intOf iv').toNat)
                case atStart => exact ⟨0, rfl, Nat.zero_le _, by rw [elz_0]; exact HS7.out⟩
                case round =>
                  obtain ⟨i, rfl, hin, hS8⟩ := hrel
                  obtain ⟨W8, rfl⟩ : ∃ W8 : World, W8 = wr := ⟨_, rfl⟩
                  obtain ⟨b0, b1, b2⟩ := (HB.out.q hS8.cs.q).three'
                  obtain ⟨k00, k01, k02⟩ := hS8.cs.box.three'
                  have HS8 := Lib.hid hS8
                  clear hS8
                  by_cases hi6 : i < n
                  · have hi7 : (i : Int) < (n : Int) := by omega
                    by_cases hir : i = r
                    · have hb6 : ((i : Int) != (r : Int)) = false := by rw [bne_eq_false_iff_eq]; omega
                      have HIR := Lib.hid hir
                      clear hir
                      go_wp2_with fail
                      refine ⟨⟨i + 1, rfl, by omega, ?_⟩, ?_⟩
                      · obtain rfl := HIR.out
                        rw [← elz_skip]; exact HS8.out
                      · simp only [intOf]; omega
                    · have hb6 : ((i : Int) != (r : Int)) = true := by rw [bne_iff_ne]; omega
                      have HIR := Lib.hid hir
                      obtain ⟨g', cs6, eg, hgw6, hnc6, hbg6, hrw6⟩ := HS8.out.open (by omega)
                      injection eg with eg
                      injection eg with eg
                      subst eg
                      obtain ⟨A6, c6, e6, hR6⟩ := hrw6 i hi6
                      obtain ⟨A9, c9, e9, hR9⟩ := hrw6 r (by omega)
                      rw [elz_i] at hR6
                      rw [elz_r] at hR9
                      obtain ⟨b6, o6, rfl, hl6, hc6⟩ := hR6.sc.at64 hlt
                      have m6 : W8.cell? ⟨g, i, none⟩ = some (.slice (some ⟨b6, o6, none⟩) W c6) := by rw [hbg6.cell, e6]
                      have m9 : W8.cell? ⟨g, r, none⟩ = some (.slice A9 W c9) := by rw [hbg6.cell, e9]
                      have HR6 := Lib.hid hR6
                      have HR9 := Lib.hid hR9
                      have HBG6 := Lib.hid hbg6
                      clear hrw6 hbg6 hR6 hR9 hir
                      go_wp2_with fail
                      have qF := fun (W9 : World) (q : Q W8.drew W9) => And.intro (((Q.refl W8).drew.trans q).cell k02) (And.intro (((Q.refl W8).drew.trans q).cell b0) (And.intro (((Q.refl W8).drew.trans q).cell m6) (And.intro (((Q.refl W8).drew.trans q).cell m9) (((Q.refl W8).drew.trans q).cell hc6))))
                      refine wp_region_fix [true, true, true, true, true, true, true, true, true, true, true, true, true, true, true, true, true, true, true, true, true, true, true, true, true, true, true, false] (by kernel_rfl) (by kernel_rfl) ?_
                      intro KF hKF
                      simp only [List.length_cons, List.length_nil, Nat.reduceAdd, sel_nil, sel_tt, sel_tf, sel_ft, sel_ff, List.drop_succ_cons, List.drop_zero] at hKF ⊢
                      iterate 26 ((apply wpFix_read; (case hgd => rfl); (case h => (intro wq hq K' hK; have qr := qF wq hq; go_simp; exact hK))))
                      refine wpFix_call (.int .u64 (((0 - Z i c : Fin p) : Nat) : Int)) rfl ?_ ?_
                      · intro wq hq V hV
                        go_simp
                        go_at_call 35
                        exact (r_neg _ HP.out (Z i c)).mono fun e w' h => ⟨_, h.1, h.2 ▸ Q.refl _, hV _ (h.2 ▸ Q.refl _)⟩
                      refine hKF _ (wpMks_makeU (RowY W8.drew.heap.size W (fun l => Z i l + (0 - Z i c) * Z r l)) RowY.keep rfl ?_ ?_)
                      · intro wq hq _ V' hV'
                        go_simp
                        go_at_call 52
                        exact (plus_row HP.out _ _ W (Z i) (Z r) (0 - Z i c) _ ⟨_, c6, rfl, (HR6.out.sc.q ((Q.refl W8).drew.trans hq))⟩ ⟨A9, c9, rfl, (HR9.out.sc.q ((Q.refl W8).drew.trans hq))⟩ (by omega)).mono fun e w' h => rowq_y hq hV' h
                      rintro v ⟨_, _, A7, c7, rfl, _⟩
                      refine wpMks_nil ?_
                      rintro w7 hq7 ⟨_, A8, c8, e8, hR8⟩
                      injection e8 with e8 _ e9
                      subst e8 e9
                      have hq8 := (Q.refl W8).drew.trans hq7
                      have fg := (HBG6.out.q hq8).frozen i
                      have lg := (HBG6.out.q hq8).lt
                      have mm := hq8.cell m6
                      have hS9 := HS8.out.row hn hq8 hi6 (hR8.mono (by exact Nat.le_refl _))
                      rw [elz_step HIR.out] at hS9
                      have HS9 := Lib.hid hS9
                      clear hS9
                      go_wp2_with fail
                      refine ⟨⟨i + 1, rfl, by omega, HS9.out⟩, ?_⟩
                      simp only [intOf]; omega
                  · obtain rfl : i = n := by omega
                    have hS9 := HS8.out.congr (Y := prw r c (iv (Y r c)) Y) (fun j l hj _ => by rw [← HZZ.out]; exact elz_all hj)
                    have hnx : run iv i (c + 1) (ini M) = ⟨prw r c (iv (Y r c)) Y, r + 1, fun j => if j = r then c else pv j, (if t = r then dt else 0 - dt) * X t c⟩ := by
                      rw [HST.out]; unfold stp; dsimp only; rw [HF.out, if_pos htl, HYC.out, HY.out]
                    have HNX := Lib.hid hnx
                    have hpv := hS9.piv
                    have HS9 := Lib.hid hS9
                    have hsz := hS9.ks
                    clear hS9 hnx
                    go_wp2_with (at_builtin; go_must (refine wpList_app1g rfl _ _ 32 rfl k0 3 i0 (.int .i64 0) 8 Try.underlying32 hi hz0 hz1 hz2 rfl _ r (tab (i64s pv) r) rfl hpv _ rfl rfl (by omega) (by decide) (by omega) ?_); intro A3 c3 w3 hown3 hg3)
                    refine ⟨⟨c + 1, rfl, by omega, ?_⟩, ?_⟩
                    · rw [HNX.out]
                      exact HS9.out.push ((Q.refl _).alloc _) hown3 hg3 (fun j hj => if_neg (by have hj' : j < r := hj; omega)) (if_pos rfl)
                    · simp only [intOf]; omega
        · obtain rfl : t = n := by omega
          have htb : ((t : Int) == (t : Int)) = true := by simp
          have hft : ¬ fnd X c (t - r) r < t := by rw [fnd_eq hrt (by omega) hz (fun h => by omega)]; omega
          have hnx : run iv t (c + 1) (ini M) = ⟨X, r, pv, dt⟩ := by rw [HST.out]; unfold stp; dsimp only; rw [if_neg hft]
          have HNX := Lib.hid hnx
          clear hz hft hnx
          go_wp2_with fail
          refine ⟨⟨c + 1, rfl, by omega, by rw [HNX.out]; exact HSS.out⟩, ?_⟩
          simp only [intOf]; omega
    · obtain rfl : c = W := by omega
      have hnc : r ≤ c2 := by have := hS.cs.rows.rows.cap; omega
      have hB3 := HB2.out.q hS.cs.q
      obtain ⟨e0, e1, e2⟩ := hB3.three'
      have f0 := hB3.frozen 0
      have f1 := hB3.frozen 1
      have f2 := hB3.frozen 2
      have hl7 := hB3.lt
      have HSS := Lib.hid hS
      have HR0 := Lib.hid hs0
      clear hS hB3 hI hst hs0
      go_wp2_with fail
      go_region
      all_goals
        go_wp2_with fail
        refine bodyPost_ret (v := .tuple #[.agg #[.int .u64 p, .int .i64 c, .slice A2 r c2], .slice Av r cv]) (by simp [results, Try.results15, go_sem, e0, e1, e2]) rfl ?_
        exact rr_end HR0.out (((Upd.refl _ _).setCell _ _).setCell _ _ |>.setCell _ _) (HSS.out.q (Q.refl wr).drew) hrn hn HQ1.out HB2.out.lt (by omega)
end
end Go.Proofs.Ytcjpjnneimjfiaa
