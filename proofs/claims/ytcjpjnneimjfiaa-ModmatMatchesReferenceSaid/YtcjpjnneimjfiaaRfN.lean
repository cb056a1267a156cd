/-
  torsionref07: unit, Left.
-/
import Derived.Test.YtcjpjnneimjfiaaRfM
namespace Go.Proofs.Ytcjpjnneimjfiaa
open Go.RowKit
section
variable {p : Nat} [NeZero p]
attribute [local go_sem] opGrow growUpon

set_option maxRecDepth 100000 in
theorem unit_any (hp : Fp p) (n i : Nat) (w : World) (hi : i < n) (hn : n ≤ 4096) :
    Calls Try.prog 57 #[.int .i64 n, .int .i64 i] w (RowQ w n (idm i : Nat → Fin p)) := by
  obtain ⟨j0, hj, hy0, hy1, hy2⟩ := info_parts info_u64
  have h1p := fone_val hp
  have hmk := mk_any 44 26 j0 (.int .u64 0) 8 Try.underlying44 hj hy0 hy1 hy2 (by omega) rfl (n : Int) n rfl (by omega)
  obtain ⟨w1, hw1⟩ : ∃ w1, w.alloc (.cells (Array.replicate n (.int .u64 0)) 26) = w1 := ⟨_, rfl⟩
  have hB : Blk w1 w.heap.size 26 (Array.replicate n (.int .u64 0)) := hw1 ▸ Blk.new w _ _
  have hq : Q w w1 := hw1 ▸ (Q.refl w).alloc _
  have c0 : w1.cell? ⟨w.heap.size, i, none⟩ = some (.int .u64 0) := by rw [hB.cell]; simp [hi]
  have c1 : w1.cell? ⟨w.heap.size, 0 + i, none⟩ = some (.int .u64 0) := by rw [Nat.zero_add]; exact c0
  have f0 := hB.frozen i
  have hl := hB.lt
  have hi2 : (i : Int) < (n : Int) := by omega
  have HB := Lib.hid hB
  have HQ := Lib.hid hq
  have HI := Lib.hid hi
  clear hB hq hi
  go_enter Try.func57, Try.ntmps57
  go_wp2_with fail
  go_ret
  refine ⟨_, _, rfl, ⟨Nat.le_refl _, by omega, fun _ => ⟨_, _, rfl, Nat.le_refl _, HB.out.set i (.int .u64 1), fun k hk => ?_⟩⟩, Below.setCell HQ.out (Nat.le_refl _) _⟩
  unfold u64 idm
  by_cases e : i = k
  · subst e
    rw [if_pos rfl, h1p]; simp [hk]
  · rw [if_neg e, fzero_val, Array.getElem?_setIfInBounds_ne e]; simp [hk]
set_option maxRecDepth 100000 in
theorem bsd_tab (W n i : Nat) (M : Mt p) : tab (u64 (M i)) W ++ tab (u64 (idm i : Nat → Fin p)) n = tab (u64 (bsd W M i)) (W + n) := by
  rw [tab_add]
  congr 1
  · exact tab_congr (fun l hl => by unfold u64; rw [bsd_l M hl])
  · exact tab_congr (fun l hl => by unfold u64; rw [bsd_r])
set_option maxRecDepth 100000 in
theorem wide_round {W5 W7 w9 w10 : World} {K n W N i m c2 c9 c10 : Nat} {A2 A9 A10 : Option Addr} {ρ : Nat → Value} {M : Mt p} {o : Obj} (h : Bld W5 W7 K p N i A2 c2 N ρ (bsd W M)) (hq : Q W7 w9) (e : W + n = N) (em : m = N) (hn : N ≤ 140737488355328)
    (hown9 : w9.ownsRow W7.heap.size 26 1 (.slice A9 m c9) m (tab (u64 (M i)) W ++ tab (u64 (idm i : Nat → Fin p)) n))
    (hown10 : w10.ownsRow (K + 1) 44 1 (.slice A10 (i + 1) c10) (i + 1) (tab ρ i ++ [.slice A9 m c9])) (hg10 : (w9.alloc o).grownBy w10 (Value.slice A2 i c2).ownBlock)
    (hb : Blk w10 K 29 #[.int .u64 (p : Int), .int .i64 (N : Int), .slice A2 i c2]) :
    ∃ ρ', Bld W5 (w10.setCell ⟨K, 2, none⟩ (.slice A10 (i + 1) c10)) K p N (i + 1) A10 c10 N ρ' (bsd W M) := by
  subst em
  rw [bsd_tab, e] at hown9
  obtain ⟨A, c, e9, hR⟩ := own_rowO hown9 rfl hn
  injection e9 with e1 _ e2
  subst e1 e2
  exact h.push (hq.alloc o) ((hR.mono (by have := h.lt; omega)).q ((Q.refl w9).alloc o)) hown10 hg10 ((Upd.refl _ w10).setCell 2 _) (hb.set 2 _)
set_option maxRecDepth 100000 in
theorem wide_grown {W7 w8 wU w9 : World} {A8 : Option Addr} {k c8 : Nat} {xs : List Value} (hq : Q W7 w8) (ho : w8.ownsRow W7.heap.size 26 1 (.slice A8 k c8) k xs) (hu : Q w8 wU) (hg : wU.grownBy w9 (Value.slice A8 k c8).ownBlock) : Q W7 w9 :=
  grown_q (w := wU) (hq.trans hu) hg (fun x e => (ho.lt x e).1)
set_option maxRecDepth 100000 in
/-- What the reduction of the wide matrix holds. -/
theorem left_form (hp : Fp p) (n W N : Nat) (M : Mt p) (e : W + n = N) : ∃ r0, (rf n N (bsd W M)).r = r0 + (lf n W M).r ∧ (∀ j, j < r0 → (rf n N (bsd W M)).pv j < W) ∧ (∀ j, j < (lf n W M).r → W ≤ (rf n N (bsd W M)).pv (r0 + j)) ∧ ∀ j k, (rf n N (bsd W M)).M (r0 + j) (W + k) = (lf n W M).M j k := by
  subst e
  have h0 := run_inv (iv_spec hp) n W (bsd W M)
  obtain ⟨h1, h2, h3, h4⟩ := run_low iv (n := n) (cols := W) (m := bsd W M) h0.rn n
  refine ⟨(rf n W (bsd W M)).r, h1, fun j hj => ?_, fun j hj => ?_, h4⟩
  · have := h2 j hj
    unfold rf at hj ⊢
    rw [this]
    exact h0.lt j hj
  · rcases h3 j with h | h
    · unfold rf at *
      rw [h]; omega
    · exact absurd hj (by have h' : (lf n W M).r ≤ j := h; omega)
set_option maxRecDepth 100000 in
theorem wide_tail {p : Nat} {w : World} {be oe ce N W n : Nat} {AD : Option Addr} {X : Nat → Fin p} {L : Nat → Fin p} (h : Sc w (some ⟨be, oe, none⟩) N ce (u64 X)) (hA : (if ce = W then (some ⟨be, oe, none⟩ : Option Addr) else some ⟨be, oe + W, none⟩) = AD) (e : W + n = N) (hL : ∀ k, X (W + k) = L k) : Sc w AD n (ce - W) (u64 L) := by
  have h1 := h.cap
  have h2 := h.len
  refine ⟨by omega, by omega, fun hn => ?_⟩
  obtain ⟨b', o', e1, hb, hc⟩ := h.open (by omega)
  injection e1 with e1
  injection e1 with e1 e2
  subst e1 e2
  rw [if_neg (by omega)] at hA
  refine ⟨be, oe + W, hA.symm, hb, fun k hk => ?_⟩
  have := hc (W + k) (by omega)
  rw [← Nat.add_assoc] at this
  rw [this]
  unfold u64
  rw [hL]
set_option maxHeartbeats 4000000 in
set_option maxRecDepth 100000 in
theorem left7_any (hp : Fp p) (v : Value) (n W : Nat) (M : Mt p) (w : World) (h : ModV w v n W M) (hn : n ≤ 1000) (hW : W ≤ 1000) :
    Calls Try.prog 23 #[v] w (ModQ w (lf n W M).r n (lf n W M).M) := by
  obtain ⟨i0, hi, hz0, hz1, hz2⟩ := info_parts info_row
  obtain ⟨j0, hj, hy0, hy1, hy2⟩ := info_parts info_u64
  obtain ⟨A, c, w1, rfl, hw1, HM, HB, HB2, HQ1, hcap, b0, b1, b2⟩ := modbox2 h
  have hR := HM.out.rows_of
  have HR := Lib.hid hR
  have HP := Lib.hid hp
  obtain ⟨N, hN⟩ : ∃ N, W + n = N := ⟨_, rfl⟩
  have hN1 : (W : Int) + (n : Int) = (N : Int) := by omega
  have hN2 : IntKind.i64.wrap ((W : Int) + (n : Int)) = (N : Int) := by rw [IntWalk.i64_in _ (by omega)]; omega
  have hNb : N ≤ 2000 := by omega
  have HN := Lib.hid hN
  clear h hp hR hN
  go_enter Try.func23, Try.ntmps23
  go_wp2_with fail
  try rw [hw1]
  clear hw1 b0 b1 b2
  go_loopw [5] (fun iv' wx => ∃ (i : Nat) (A2 : Option Addr) (c2 : Nat) (ρ : Nat → Value), iv' = .int .i64 i ∧ i ≤ n ∧ Bld w1 wx w1.heap.size p N i A2 c2 N ρ (bsd W M)) (fun iv' _ => n - (intOf iv').toNat)
  case atStart => exact ⟨0, none, 0, fun _ => .slice none 0 0, rfl, Nat.zero_le _, Bld.start (Blk.new _ _ _) ((Q.refl _).alloc _) (Nat.le_refl _)⟩
  case round =>
    obtain ⟨i, A2, c2, ρ, rfl, hin, hB⟩ := hrel
    obtain ⟨W7, rfl⟩ : ∃ W7 : World, W7 = wr := ⟨_, rfl⟩
    obtain ⟨b0, b1, b2⟩ := (HB.out.q hB.q).three'
    obtain ⟨k0, k1, k2⟩ := hB.box.three'
    have HBL := Lib.hid hB
    clear hB
    by_cases hil : i < n
    · have hi5 : (i : Int) < (n : Int) := by omega
      obtain ⟨b, o, r, rfl, hbc, hc, hS⟩ := (HR.out.q HBL.out.q).at hil
      obtain ⟨Ar, cr, rfl, hSC⟩ := hS
      have HSC := Lib.hid hSC
      have ka := fun o => ((Q.refl W7).alloc o).cell b2
      have kb := fun o => ((Q.refl W7).alloc o).cell hc
      clear hSC
      go_wp2_with (at_builtin; go_must (refine wpList_app rfl _ _ 44 rfl W7.heap.size 26 j0 (.int .u64 0) 8 Try.underlying44 hj hy0 hy1 hy2 rfl _ 0 [] rfl (own_new _ _ _ _ rfl (Nat.le_refl _)) Ar W cr (tab (u64 (M i)) W) rfl (tab_len _ _) ((HSC.out.q ((Q.refl W7).alloc _)).news) (oneCell_tab (fun _ _ => rfl)) (by unfold maxLen; omega) (by omega) (by simp) ?_); intro v8 w8 hown8 hg8 hat8)
      rw [Nat.zero_add, List.nil_append] at hown8
      obtain ⟨A8, c8, rfl, _⟩ := own_shape hown8
      have hq8 : Q W7 w8 := grown_q ((Q.refl W7).alloc _) hg8 (fun x e => by have e' : some W7.heap.size = some x := e; injection e' with e'; omega)
      have HQ8 := Lib.hid hq8
      have HO8 := Lib.hid hown8
      have kW2 := k2
      have k2 := hq8.cell k2
      have HIL := Lib.hid hil
      have H1C := Lib.hid (oneCell_tab (φ := u64 (idm i : Nat → Fin p)) (n := n) (fun _ _ => rfl))
      have H63 := Lib.hid (show W + n ≤ maxLen by unfold maxLen; omega)
      have HBY := Lib.hid (show (W + n) * 8 ≤ 140737488355328 by omega)
      clear hown8 hg8 hat8 hq8 ka kb b0 b1 k0 k1 b2 hc
      go_region_law (first | (refine step_app (by rfl) _ _ _ (by rfl) W7.heap.size 26 j0 (.int .u64 0) 8 Try.underlying44 hj hy0 hy1 hy2 rfl (.slice A8 W c8) W (tab (u64 (M i)) W) (by rfl) (ownsRow_q HO8.out qU) AU n cU (tab (u64 (idm i : Nat → Fin p)) n) (by rfl) (tab_len _ _) hnU H1C.out H63.out HBY.out (Nat.le_trans HQ8.out.size qU.size) ?_; intro A9 c9 w9 hown9 hg9; have hq9 := wide_grown HQ8.out HO8.out qU hg9; have k2b := hq9.cell kW2; have k2d := fun o => (hq9.alloc o).cell kW2) | (refine step_app1 (by rfl) _ _ _ (by rfl) (w1.heap.size + 1) 44 i0 (.slice none 0 0) 24 Try.underlying27 hi hz0 hz1 hz2 rfl _ i (tab ρ i) (by rfl) (ownsRow_q HBL.out.own (hq9.alloc _)) _ (by rfl) (.slice A9 (W + n) c9) (Blk.new _ _ _) rfl (by omega) (by decide) (by have := HBL.out.lt; have := (hq9.alloc (.cells #[] 0)).size; simp at *; omega) ?_; intro A10 c10 w10 hown10 hg10; have hb10 := HBL.out.grown (hq9.alloc _) hg10; have k2c := hb10.cell 2; have f2c := hb10.frozen 2; have hl10 := hb10.lt) | (go_simp; go_at_call 57; refine (unit_any HP.out n i _ HIL.out (by omega)).mono ?_; rintro e wU ⟨AU, cU, rfl, hRU, hqU⟩; have qU : Q w8 wU := (Q.refl w8).drew.trans hqU; have hnU := hRU.sc.news; have k2u := qU.cell k2))
      all_goals
        go_wp2_with fail
        obtain ⟨ρ', hB'⟩ := wide_round HBL.out hq9 HN.out HN.out (by omega) hown9 hown10 hg10 hb10
        refine ⟨⟨i + 1, _, _, ρ', rfl, by omega, hB'⟩, ?_⟩
        simp only [intOf]; omega
    · obtain rfl : n = i := by omega
      obtain ⟨r0, f1, f2, f3, f4⟩ := left_form HP.out n W N M HN.out
      obtain ⟨s, hs⟩ : ∃ s, rf n N (bsd W M) = s := ⟨_, rfl⟩
      obtain ⟨L, hL⟩ : ∃ L : Mt p, (lf n W M).M = L := ⟨_, rfl⟩
      obtain ⟨r, hr⟩ : ∃ r, (lf n W M).r = r := ⟨_, rfl⟩
      have hrn := (rf_inv HP.out n N (bsd W M)).rn
      rw [hs] at f1 f2 f3 f4 hrn
      rw [hr] at f1 f3
      rw [hL] at f4
      obtain ⟨X, R, pv, dt⟩ := s
      dsimp only at f1 f2 f3 f4 hrn
      have HS := Lib.hid hs
      have HL := Lib.hid hL
      have HRR := Lib.hid hr
      have HF1 := Lib.hid f1
      have HF2 := @Lib.hid _ f2
      have HF3 := @Lib.hid _ f3
      have HF4 := @Lib.hid _ f4
      clear hs hL hr f1 f2 f3 f4
      have HMW := Lib.hid (show ModV W7 (.agg #[.int .u64 (p : Int), .int .i64 (N : Int), .slice A2 n c2]) n N (bsd W M) from ⟨A2, c2, rfl, HBL.out.rows (by omega)⟩)
      go_wp2_with fail
      refine (rref7_any HP.out _ n N (bsd W M) _ HMW.out (by omega) (by omega)).mono ?_
      rw [HS.out]
      rintro e w3 ⟨v3, A4, c4, rfl, ⟨A3, c3, rfl, hR3⟩, hpv, hq3⟩
      dsimp only at hR3 hpv
      obtain ⟨W3, hW3⟩ : ∃ W3, w3.alloc (.cells #[.int .u64 p, .int .i64 N, .slice A3 R c3] 29) = W3 := ⟨_, rfl⟩
      have hq3' : Q w3 W3 := hW3 ▸ (Q.refl w3).alloc _
      have hB3 : Blk W3 w3.heap.size 29 #[.int .u64 p, .int .i64 N, .slice A3 R c3] := hW3 ▸ Blk.new w3 _ _
      have HQ3 := Lib.hid (HBL.out.q.trans (hq3.trans hq3'))
      have HB3 := Lib.hid hB3
      have HR3 := Lib.hid (hR3.rows.q hq3')
      have HPV := Lib.hid (hpv.sc.q hq3')
      have hl3 : w1.heap.size ≤ W3.heap.size := HQ3.out.size
      clear hR3 hpv hq3 hq3' hB3 b0 b1 b2 k0 k1 k2
      obtain ⟨b0, b1, b2⟩ := (HB.out.q HQ3.out).three'
      go_wp2_with fail
      clear hW3 b0 b1 b2
      go_loopw [10] (fun iv' wx => ∃ (i j : Nat) (A2 : Option Addr) (c2 : Nat) (ρ : Nat → Value), iv' = .int .i64 i ∧ i ≤ R ∧ j = i - r0 ∧ Bld W3 wx W3.heap.size p n j A2 c2 n ρ L) (fun iv' _ => R - (intOf iv').toNat)
      case atStart => exact ⟨0, 0, none, 0, fun _ => .slice none 0 0, rfl, Nat.zero_le _, by omega, Bld.start (Blk.new _ _ _) ((Q.refl _).alloc _) (Nat.le_refl _)⟩
      case round =>
        obtain ⟨i, j, A5, c5, ρ5, rfl, hiR, hij, hB5⟩ := hrel
        obtain ⟨W8, rfl⟩ : ∃ W8 : World, W8 = wr := ⟨_, rfl⟩
        obtain ⟨b0, b1, b2⟩ := ((HB.out.q HQ3.out).q hB5.q).three'
        obtain ⟨d0, d1, d2⟩ := (HB3.out.q hB5.q).three'
        obtain ⟨k0, k1, k2⟩ := hB5.box.three'
        have HBL5 := Lib.hid hB5
        have HIJ := Lib.hid hij
        clear hB5 hij
        by_cases hlt : i < R
        · obtain ⟨bp, op, rfl, hbp, hcp0⟩ := (HPV.out.q HBL5.out.q).at hlt
          have hcp : W8.cell? ⟨bp, op + i, none⟩ = some (.int .i64 ((pv i : Nat) : Int)) := hcp0
          have hi5 : (i : Int) < (R : Int) := by omega
          have hqn : ∀ W6, Q W8.drew W6 → Q W8 W6 := fun W6 q => (Q.refl W8).drew.trans q
          have qF := fun W6 q => And.intro ((hqn W6 q).cell b1) ((hqn W6 q).cell hcp)
          clear hcp0
          by_cases hi0 : i < r0
          · have hpw : pv i < W := HF2.out i hi0
            have hg1 : decide ((W : Int) ≤ ((pv i : Nat) : Int)) = false := by rw [decide_eq_false_iff_not]; omega
            have hg2 : decide (W ≤ pv i) = false := by rw [decide_eq_false_iff_not]; omega
            have HI0 := Lib.hid hi0
            clear hi0
            go_wp2_with fail
            refine wp_region_grow [true, true, true, true, true, true] (by kernel_rfl) (by kernel_rfl) ?_
            simp only [List.length_cons, List.length_nil, Nat.reduceAdd, sel_nil, sel_tt, sel_ft, List.drop_succ_cons, List.drop_zero]
            iterate 6 ((apply wpDets_read; case h => (intro wq hq K' hK; have qr := qF wq hq; go_simp; exact hK)))
            refine wpDets_nil (wpMks_nil ?_)
            rintro w9 hq9 _
            have q9 := hqn _ hq9
            clear qF hqn
            go_wp2_with fail
            refine ⟨⟨i + 1, j, _, _, ρ5, rfl, by omega, by have := HIJ.out; have := HI0.out; omega, HBL5.out.move q9⟩, ?_⟩
            simp only [intOf]; omega
          · have hpw : W ≤ pv i := by
              have := HF3.out (i - r0) (by have := HF1.out; omega)
              rwa [show r0 + (i - r0) = i by omega] at this
            have hg1 : decide ((W : Int) ≤ ((pv i : Nat) : Int)) = true := by rw [decide_eq_true_eq]; omega
            have hg2 : decide (W ≤ pv i) = true := by rw [decide_eq_true_eq]; omega
            have HI0 := Lib.hid hi0
            clear hi0
            go_wp2_with fail
            refine wp_region_grow [true, true, true, true, true, true] (by kernel_rfl) (by kernel_rfl) ?_
            simp only [List.length_cons, List.length_nil, Nat.reduceAdd, sel_nil, sel_tt, sel_ft, List.drop_succ_cons, List.drop_zero]
            iterate 6 ((apply wpDets_read; case h => (intro wq hq K' hK; have qr := qF wq hq; go_simp; exact hK)))
            refine wpDets_nil (wpMks_nil ?_)
            rintro w9 hq9 _
            have q9 := hqn _ hq9
            clear qF hqn
            go_wp2_with fail
            have HQ9 := Lib.hid (HBL5.out.q.trans q9)
            have HB59 := Lib.hid (HBL5.out.move q9)
            clear b0 b1 b2 d0 d1 d2 k0 k1 k2 hcp
            obtain ⟨b0, b1, b2⟩ := ((HB.out.q HQ3.out).q HQ9.out).three'
            obtain ⟨d0, d1, d2⟩ := (HB3.out.q HQ9.out).three'
            obtain ⟨k0, k1, k2⟩ := HB59.out.box.three'
            obtain ⟨be, oe, re, rfl, hbe, hce, hSe⟩ := (HR3.out.q HQ9.out).at hlt
            have hW1 : 0 < N := by have := HN.out; omega
            obtain ⟨bb, oo, ce, rfl, hNc, _, _⟩ := hSe.at64 hW1
            obtain ⟨_, _, ee, hSC⟩ := hSe
            injection ee with ee1 _ ee2
            subst ee1 ee2
            obtain ⟨AD, hAD⟩ : ∃ AD : Option Addr, (if ce = W then some ⟨bb, oo, none⟩ else some ⟨bb, oo + W, none⟩) = AD := ⟨_, rfl⟩
            have hST := wide_tail (L := L j) hSC hAD HN.out (fun k => by
              have := HF4.out j k
              rwa [show r0 + j = i by have := HIJ.out; have := HI0.out; omega] at this)
            have HST := Lib.hid hST
            have hWN : (W : Int) ≤ (N : Int) := by have := HN.out; omega
            have hWN2 : W ≤ N := by omega
            have hNce : (N : Int) ≤ (ce : Int) := by omega
            have hWce : (W : Int) ≤ (ce : Int) := by omega
            have hWce2 : W ≤ ce := by omega
            have hNW : N - W = n := by have := HN.out; omega
            clear hSC hST q9 hq9
            have hqn : ∀ W6, Q w9.drew W6 → Q w9 W6 := fun W6 q => (Q.refl w9).drew.trans q
            have qF := fun W6 q => And.intro ((hqn W6 q).cell k2) (And.intro ((hqn W6 q).cell b1) (And.intro ((hqn W6 q).cell d2) ((hqn W6 q).cell hce)))
            refine wp_region_fix [true, true, false, true, true, true, true, true, true, true, true, false, false] (by kernel_rfl) (by kernel_rfl) ?_
            intro KF hKF
            simp only [List.length_cons, List.length_nil, Nat.reduceAdd, sel_nil, sel_tt, sel_tf, sel_ft, sel_ff, List.drop_succ_cons, List.drop_zero] at hKF ⊢
            iterate 10 ((apply wpFix_read; (case hgd => rfl); (case h => (intro wq hq K' hK; have qr := qF wq hq; go_simp; exact hK))))
            refine hKF _ (wpMks_makeU (NewY 26) NewY.keep rfl ?_ ?_)
            · intro wq hq _ V' hV'
              go_simp
              exact ⟨(Q.refl wq).alloc _, hV' _ _ ((Q.refl wq).alloc _) (NewY.new _ wq)⟩
            rintro v ⟨_, _, B6, rfl, _⟩
            refine wpMks_makeU (RowY w9.drew.heap.size n (L j)) RowY.keep rfl ?_ ?_
            · intro wq hq hs V' hV'
              exact grow_copy _ _ _ (by rfl) 26 j0 (.int .u64 0) 8 Try.underlying44 hj hy0 hy1 hy2 rfl B6 (by rfl) w9.drew.heap.size hq.size (Go.Proofs.Ytcjpjnneimjfiaa.u64 (L j)) AD n (ce - W) (by rfl) (HST.out.q (hqn _ hq)) (by omega) (by decide) (fun A' c' w' hR hq' => hV' _ _ hq' ⟨A', c', rfl, hR⟩)
            rintro v ⟨_, _, A6, c6, rfl, _⟩
            refine wpMks_makeU (BoxY 44 (.slice A6 n c6)) BoxY.keep rfl ?_ ?_
            · intro wq hq hs V' hV'
              go_simp
              exact ⟨(Q.refl wq).alloc _, hV' _ _ ((Q.refl wq).alloc _) (BoxY.new _ _ wq)⟩
            rintro v ⟨_, _, B7, rfl, _⟩
            refine wpMks_nil ?_
            rintro w6 hq6 ⟨⟨_, A7, c7, e7, hR6⟩, B8, e9, hB6⟩
            injection e7 with e7 _ e8
            subst e7 e8
            injection e9 with e9
            injection e9 with e9
            injection e9 with e9
            subst e9
            have hq7 := hqn _ hq6
            refine wpList_app1b (by rfl) _ _ _ (by rfl) (W3.heap.size + 1) 44 i0 (.slice none 0 0) 24 Try.underlying27 hi hz0 hz1 hz2 rfl _ j (tab ρ5 j) (by rfl) (ownsRow_q HB59.out.own hq7) B7 (by rfl) (.slice A6 n c6) hB6 rfl (by have := HIJ.out; omega) (by decide) (by have := HB59.out.lt; have := hq7.size; omega) ?_
            intro A8 c8 w8 hown8 hg8
            have hb8 := HB59.out.grown hq7 hg8
            have k2c := hb8.cell 2
            have f2c := hb8.frozen 2
            have hl4 := hb8.lt
            have hl := HB59.out.lt
            obtain ⟨ρ', h2⟩ := HB59.out.push hq7 (hR6.mono (by show _ ≤ w9.heap.size; omega)) hown8 hg8 ((Upd.refl W3.heap.size w8).setCell 2 (.slice A8 (j + 1) c8)) (hb8.set 2 _)
            have H2 := Lib.hid h2
            clear qF hKF h2
            go_wp2_with fail
            refine ⟨⟨i + 1, j + 1, _, _, ρ', rfl, by omega, by have := HIJ.out; have := HI0.out; omega, H2.out⟩, ?_⟩
            simp only [intOf]; omega
        · obtain rfl : R = i := by omega
          have hj : j = r := by have := HIJ.out; have := HF1.out; omega
          have hB7 := HB2.out.q (HQ3.out.trans HBL5.out.q)
          obtain ⟨e0, e1, e2⟩ := hB7.three'
          have f0 := hB7.frozen 0
          have f1 := hB7.frozen 1
          have f2 := hB7.frozen 2
          have hl7 := hB7.lt
          have HJ := Lib.hid hj
          clear hB7 hj b0 b1 b2 d0 d1 d2
          go_wp2_with fail
          refine bodyPost_ret (v := .agg #[.int .u64 p, .int .i64 n, .slice A5 j c5]) (by simp [results, Try.results23, go_sem, e0, e1, e2]) rfl ?_
          rw [HL.out, HRR.out, ← HJ.out]
          exact mod_end0 (((Upd.refl _ _).setCell _ _).setCell _ _ |>.setCell _ _) (HBL5.out.rowsO (by have := HJ.out; have := HF1.out; omega)) HQ1.out (HQ3.out.trans HBL5.out.q) HB2.out.lt (by omega) (by omega)
end
end Go.Proofs.Ytcjpjnneimjfiaa
