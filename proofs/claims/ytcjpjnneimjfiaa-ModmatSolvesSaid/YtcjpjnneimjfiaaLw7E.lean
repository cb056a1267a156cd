/-
  ModmatSolves: the walk.
-/
import Derived.Test.YtcjpjnneimjfiaaRfK
import Derived.Test.YtcjpjnneimjfiaaRfF
import Derived.Test.YtcjpjnneimjfiaaRfE
import Derived.Test.YtcjpjnneimjfiaaSan7
import Derived.Deep.RegionHeld3
namespace Go.Proofs.Ytcjpjnneimjfiaa
open Go.RowKit
section
variable {p : Nat} [NeZero p]
attribute [local go_sem] opGrow growUpon

set_option maxRecDepth 100000 in
theorem solve_t (hp : Fp p) (v bv : Value) (n W : Nat) (M : Mt p) (b x : Nat → Fin p) (w : World) (h : ModV w v n W M) (hb : Sl w bv W (u64 b)) (hn : n ≤ 1024) (hW : W ≤ 1024) (e : InSp n W M b) (ex : solF n W M b = x) :
    Calls Try.prog 25 #[v, bv] w (fun e w' => ∃ A c, e = .returned (.tuple #[.slice A n c, .bool true]) ∧ Sc w' A n c (u64 x) ∧ Q w w') := by
  subst ex
  refine (solve_any hp v bv n W M b w h hb hn hW).mono (fun e w' ⟨h1, _, hq⟩ => ?_)
  obtain ⟨x, hx, A, c, rfl, hs⟩ := h1 ((solved_iff (rf_inv hp n W (bsd W M)) b).2 (by assumption))
  exact ⟨A, c, hx, hs, hq⟩
set_option maxRecDepth 100000 in
theorem solve_f (hp : Fp p) (v bv : Value) (n W : Nat) (M : Mt p) (b : Nat → Fin p) (w : World) (h : ModV w v n W M) (hb : Sl w bv W (u64 b)) (hn : n ≤ 1024) (hW : W ≤ 1024) (e : ¬ InSp n W M b) :
    Calls Try.prog 25 #[v, bv] w (fun e w' => e = .returned (.tuple #[.slice none 0 0, .bool false]) ∧ Q w w') :=
  (solve_any hp v bv n W M b w h hb hn hW).mono (fun e w' ⟨_, h2, hq⟩ => ⟨h2 (fun h => by have := (solved_iff (rf_inv hp n W (bsd W M)) b).1 h; contradiction), hq⟩)
set_option maxRecDepth 100000 in
theorem sol_comb (hp : Fp p) (n W : Nat) (M : Mt p) (b : Nat → Fin p) (e : InSp n W M b) {k : Nat} (hk : k < W) : comb n (solF n W M b) M k = b k :=
  solution (rf_inv hp n W (bsd W M)) b ((solved_iff (rf_inv hp n W (bsd W M)) b).2 e) hk
set_option maxRecDepth 100000 in
theorem sv_b (hp : Fp p) (v bv : Value) (n W : Nat) (M : Mt p) (b : Nat → Fin p) (w : World) (h : ModV w v n W M) (hb : Sl w bv W (u64 b)) (hn : n ≤ 1024) (hW : W ≤ 1024) (z : Bool) (hz : z = true ↔ InSp n W M b) :
    Calls Try.prog 31 #[v, bv] w (BoolW w z) := by
  have e : svB n W M b = z := by
    cases z
    · cases h : svB n W M b
      · rfl
      · have := hz.2 ((svB_iff hp n W M b).1 h); cases this
    · exact (svB_iff hp n W M b).2 (hz.1 rfl)
  exact e ▸ solvable7_any hp v bv n W M b w h hb hn hW
set_option maxRecDepth 100000 in
/-- A matrix of one row. -/
theorem one_mod {p : Nat} {w : World} {B n c : Nat} {A : Option Addr} {x : Nat → Fin p} (hb : Blk w B 44 #[.slice A n c]) (hs : Sc w A n c (u64 x)) : ModV w (.agg #[.int .u64 (p : Int), .int .i64 (n : Int), .slice (some ⟨B, 0, none⟩) 1 1]) 1 n (fun _ => x) :=
  ⟨_, 1, rfl, fun _ => .slice A n c, ⟨Nat.le_refl _, by omega, fun _ => ⟨B, 0, rfl, hb.lt, fun k hk => (show w.cell? ⟨B, 0 + k, none⟩ = some _ from by rw [show k = 0 by omega, hb.cell]; rfl)⟩⟩, fun i hi => ⟨A, c, rfl, hs⟩⟩
set_option maxHeartbeats 4000000 in
set_option maxRecDepth 100000 in
theorem law_solves (hp : Fp p) (v : Value) (P C : Nat) (L : List (List Nat)) (A1 : Option Addr) (c1 : Nat) (l : List Nat) (A0 : Option Addr) (c0 : Nat) (lb : List Nat) (w : World) (h : RawV w v P C L) (hl : Lm w A1 c1 l) (hlb : Lm w A0 c0 lb) (hP : prN P = p) (hP2 : P < 256) (hC : C < 256) :
    Calls Try.prog 8 #[v, .slice A1 l.length c1, .slice A0 lb.length c0] w (SaneQ w) := by
  obtain ⟨A, c, rfl, hR⟩ := h
  obtain ⟨n, hn⟩ : ∃ n, min L.length 4 = n := ⟨_, rfl⟩
  obtain ⟨W, hW⟩ : ∃ W, C % 6 = W := ⟨_, rfl⟩
  have hn4 : n ≤ 4 := by omega
  have hW6 : W ≤ 5 := by omega
  obtain ⟨M, hM0⟩ : ∃ M : Mt p, szM L = M := ⟨_, rfl⟩
  obtain ⟨y, hy⟩ : ∃ y : Nat → Fin p, rowF l = y := ⟨_, rfl⟩
  obtain ⟨z, hz⟩ : ∃ z : Nat → Fin p, rowF lb = z := ⟨_, rfl⟩
  have HR := Lib.hid hR
  have HL := Lib.hid hl
  have HLB := Lib.hid hlb
  have HP := Lib.hid hp
  have HPP := Lib.hid hP
  have HN := Lib.hid hn
  have HW := Lib.hid hW
  have HY := Lib.hid hy
  have HZ := Lib.hid hz
  clear hp hR hl hlb hP hn hW hy hz
  go_enter Try.func8, Try.ntmps8
  go_wp2_with fail
  refine (sane7 _).mono ?_
  rintro e w1 ⟨rfl, hq1⟩
  have hB1 := (Blk.new w 24 #[.int .u8 P, .int .u8 C, .slice A L.length c]).q hq1
  obtain ⟨b0, b1, b2⟩ := hB1.three'
  have q1 := ((Q.refl w).alloc _).trans hq1
  have HQ1 := Lib.hid q1
  clear hB1 hq1 q1
  go_wp2_with fail
  refine (made_any7 HP.out _ P C L _ ⟨A, c, rfl, HR.out.q HQ1.out⟩ HPP.out hP2 hC n W HN.out HW.out).mono ?_
  rintro e w2 ⟨v2, rfl, ⟨A2, c2, rfl, hR2⟩, hq2⟩
  rw [hM0] at hR2
  obtain ⟨W2, hW2⟩ : ∃ W2, w2.alloc (.cells #[.int .u64 p, .int .i64 W, .slice A2 n c2] 29) = W2 := ⟨_, rfl⟩
  have hB2 : Blk W2 w2.heap.size 29 #[.int .u64 p, .int .i64 W, .slice A2 n c2] := hW2 ▸ Blk.new w2 _ _
  have hR2' : Rows64 W2 A2 n c2 W M := hR2.rows.q (hW2 ▸ (Q.refl w2).alloc _)
  obtain ⟨b0, b1, b2⟩ := hB2.three'
  have HQ2 := Lib.hid ((HQ1.out.trans hq2).trans (hW2 ▸ (Q.refl w2).alloc _))
  have HB2 := Lib.hid hB2
  have HR2 := Lib.hid hR2'
  clear hR2 hq2 hB2 hR2'
  go_wp2_with fail
  clear hW2
  have hqn : ∀ W6, Q W2.drew W6 → Q W2 W6 := fun W6 q => (Q.refl W2).drew.trans q
  have qF := fun W6 q => And.intro ((hqn W6 q).cell b0) (And.intro ((hqn W6 q).cell b1) ((hqn W6 q).cell b2))
  refine wp_region_fix [true, true, true, true, true, true, false, true, false] (by kernel_rfl) (by kernel_rfl) ?_
  intro KF hKF
  simp only [List.length_cons, List.length_nil, Nat.reduceAdd, sel_nil, sel_tt, sel_tf, sel_ft, sel_ff, List.drop_succ_cons, List.drop_zero] at hKF ⊢
  iterate 7 ((apply wpFix_read; (case hgd => rfl); (case h => (intro wq hq K' hK; have qr := qF wq hq; go_simp; exact hK))))
  refine hKF _ (wpMks_makeU (RowY W2.drew.heap.size n y) RowY.keep rfl ?_ ?_)
  · intro wq hq _ V' hV'
    go_simp
    go_at_call 30
    exact (HY.out ▸ vector_any HP.out _ l n _ A1 c1 rfl (HL.out.q (HQ2.out.trans (hqn _ hq))) (by omega)).mono fun e w' h => rowq_y hq hV' h
  rintro v ⟨_, _, A5, c5, rfl, _⟩
  refine wpMks_makeU (RowY W2.drew.heap.size W (comb n y M)) RowY.keep rfl ?_ ?_
  · intro wq hq hs V' hV'
    obtain ⟨_, A6, c6, e6, hR6⟩ := hs
    injection e6 with e6 _ e7
    subst e6 e7
    go_simp
    go_at_call 27
    exact (act_any HP.out _ _ n W y M _ ⟨_, _, rfl, hR6.sc⟩ ⟨A2, c2, rfl, HR2.out.q (hqn _ hq)⟩ (by omega) (by omega)).mono fun e w' h => rowq_y hq hV' h
  rintro v ⟨_, _, A7, c7, rfl, _⟩
  refine wpMks_nil ?_
  rintro w3 hq3 ⟨_, A8, c8, e8, hR8⟩
  injection e8 with e8 _ e9
  subst e8 e9
  have hq3' := hqn _ hq3
  have HV := Lib.hid hR8.sc
  have HQ3 := Lib.hid (HQ2.out.trans hq3')
  have HB2 := Lib.hid (HB2.out.q hq3')
  have HR2 := Lib.hid (HR2.out.q hq3')
  clear b0 b1 b2 qF hKF hR8 hq3 hqn hq3'
  obtain ⟨b0, b1, b2⟩ := HB2.out.three'
  go_wp2_with fail
  refine (HZ.out ▸ vector_any HP.out _ lb W _ A0 c0 rfl (HLB.out.q HQ3.out) (by omega)).mono ?_
  rintro e w4 ⟨A8, c8, rfl, hR8, hq4⟩
  obtain ⟨W4, hW4⟩ : ∃ W4, w4.alloc (.cells #[.slice A7 W c7, .slice A8 W c8] 58) = W4 := ⟨_, rfl⟩
  have hq4' : Q w4 W4 := hW4 ▸ (Q.refl w4).alloc _
  have hB4 : Blk W4 w4.heap.size 58 #[.slice A7 W c7, .slice A8 W c8] := hW4 ▸ Blk.new w4 _ _
  have HB4 := Lib.hid hB4
  have HQ34 := Lib.hid (hq4.trans hq4')
  have HV0 := Lib.hid (HV.out.q HQ34.out)
  have HV1 := Lib.hid (hR8.sc.q hq4')
  have HQ4 := Lib.hid (HQ3.out.trans HQ34.out)
  have HB2 := Lib.hid (HB2.out.q HQ34.out)
  have HR2 := Lib.hid (HR2.out.q HQ34.out)
  clear hR8 hq4 hq4' hB4 b0 b1 b2
  go_wp2_with fail
  try rw [hW4]
  clear hW4
  go_loopw [11] (fun iv' wr => ∃ i : Nat, iv' = .int .i64 i ∧ i ≤ 2 ∧ Q W4 wr) (fun iv' _ => 2 - (intOf iv').toNat)
  case atStart => exact ⟨0, rfl, by omega, Q.refl _⟩
  case round =>
    obtain ⟨i, rfl, hi2, hq⟩ := hrel
    obtain ⟨W5, rfl⟩ : ∃ W5 : World, W5 = wr := ⟨_, rfl⟩
    obtain ⟨b0, b1, b2⟩ := (HB2.out.q hq).three'
    have HQW := Lib.hid hq
    have hB4 := HB4.out.q hq
    by_cases hlt : i < 2
    · have hcase : i = 0 ∨ i = 1 := by omega
      obtain ⟨sd, hsd⟩ : ∃ sd : Nat → Fin p, (if i = 0 then comb n y M else z) = sd := ⟨_, rfl⟩
      obtain ⟨As, cs, hcs, hSs⟩ : ∃ As cs, W5.cell? ⟨w4.heap.size, i, none⟩ = some (.slice As W cs) ∧ Sc W5 As W cs (Go.Proofs.Ytcjpjnneimjfiaa.u64 sd) := by
        rcases hcase with rfl | rfl
        · exact ⟨A7, c7, by rw [hB4.cell]; rfl, by rw [← hsd, if_pos rfl]; exact HV0.out.q hq⟩
        · exact ⟨A8, c8, by rw [hB4.cell]; rfl, by rw [← hsd, if_neg (by decide)]; exact HV1.out.q hq⟩
      have hs0 : i = 0 → InSp n W M sd := fun e => ⟨y, fun k hk => by rw [← hsd, if_pos e]⟩
      have hi5 : (i : Int) < 2 := by omega
      have hcs2 : W5.cell? ⟨w4.heap.size, 0 + i, none⟩ = some (.slice As W cs) := by rw [Nat.zero_add]; exact hcs
      have HSS := Lib.hid hSs
      clear hq hB4 hsd hSs
      have hsz4 : 0 < 2 := by decide
      by_cases hin : InSp n W M sd
      · have HIN := Lib.hid hin
        obtain ⟨x, hx⟩ : ∃ x, solF n W M sd = x := ⟨_, rfl⟩
        have HXX := Lib.hid hx
        clear hin hx hs0
        go_wp2_with fail
        go_region_held3 (fun w' => w'.cell? ⟨w2.heap.size, 0, none⟩ = some (.int .u64 (p : Int)) ∧ w'.cell? ⟨w2.heap.size, 1, none⟩ = some (.int .i64 (W : Int)) ∧ w'.cell? ⟨w2.heap.size, 2, none⟩ = some (.slice A2 n c2) ∧ w'.cell? ⟨w4.heap.size, i, none⟩ = some (.slice As W cs)) (first | exact sk | go_keep)
          (first | (go_at_call 25; refine (solve_t HP.out _ _ n W M sd x _ ⟨A2, c2, rfl, (HR2.out.q HQW.out).q (Q.refl W5).drew⟩ ⟨As, cs, rfl, HSS.out.q (Q.refl W5).drew⟩ (by omega) (by omega) HIN.out HXX.out).mono ?_; rintro e w6 ⟨Av, cv, rfl, hV, hq6⟩; have q6 := (Q.refl W5).drew.trans hq6; have sk := And.intro (q6.cell b0) (And.intro (q6.cell b1) (And.intro (q6.cell b2) (q6.cell hcs)))))
        all_goals
          go_wp2_with fail
          have HV6 := Lib.hid hV
          have HQ6 := Lib.hid q6
          obtain ⟨b0, b1, b2, hcs⟩ := sk
          clear hV q6 hq6
          rcases hcase with e0 | e0
          case' inl =>
            have hib : ((i : Int) == 0) = true := by rw [beq_iff_eq]; omega
            have hib2 : (i == 0) = true := by rw [beq_iff_eq]; omega
            have hib3 : decide (i = 0) = true := by rw [decide_eq_true_eq]; omega
            have hib4 : decide ((i : Int) = 0) = true := by rw [decide_eq_true_eq]; omega
          case' inr =>
            have hib : ((i : Int) == 0) = false := by rw [beq_eq_false_iff_ne]; omega
            have hib2 : (i == 0) = false := by rw [beq_eq_false_iff_ne]; omega
            have hib3 : decide (i = 0) = false := by rw [decide_eq_false_iff_not]; omega
            have hib4 : decide ((i : Int) = 0) = false := by rw [decide_eq_false_iff_not]; omega
          all_goals
            clear e0
            have hqn : ∀ W6, Q w6.drew W6 → Q w6 W6 := fun W6 q => (Q.refl w6).drew.trans q
            have qF := fun W6 q => And.intro ((hqn W6 q).cell b0) (And.intro ((hqn W6 q).cell b1) (And.intro ((hqn W6 q).cell b2) ((hqn W6 q).cell hcs)))
            refine wp_region_grow [true, true, true, true, true, true, true, true, true, true, true, true, true, true, true, true, true, true, true, true, true, true, true] (by kernel_rfl) (by kernel_rfl) ?_
            simp only [List.length_cons, List.length_nil, Nat.reduceAdd, sel_nil, sel_tt, sel_ft, List.drop_succ_cons, List.drop_zero]
            iterate 5 ((apply wpDets_read; case h => (intro wq hq K' hK; have qr := qF wq hq; go_simp; exact hK)))
            refine wpDets_call (.bool true) ?_ ?_
            · intro wq hq V hV
              go_simp
              go_at_call 31
              exact (sv_b HP.out _ _ n W M sd _ ⟨A2, c2, rfl, ((HR2.out.q HQW.out).q HQ6.out).q (hqn _ hq)⟩ ⟨As, cs, rfl, (HSS.out.q HQ6.out).q (hqn _ hq)⟩ (by omega) (by omega) true ⟨fun _ => HIN.out, fun _ => rfl⟩).mono fun e w' h => ⟨_, h.1, h.2, hV _ h.2⟩
            iterate 17 ((apply wpDets_read; case h => (intro wq hq K' hK; have qr := qF wq hq; go_simp; exact hK)))
            refine wpDets_nil (wpMks_nil ?_)
            rintro w7 hq7 _
            have q7 := hqn _ hq7
            have b0 := q7.cell b0
            have b1 := q7.cell b1
            have b2 := q7.cell b2
            have hcs := q7.cell hcs
            go_wp2_with fail
            have HQ7 := Lib.hid (HQ6.out.trans q7)
            have HVQ := Lib.hid (HV6.out.q q7)
            clear qF hqn hq7 q7
            have k0 := fun o => ((Q.refl w7).drew.alloc o).cell b0
            have k1 := fun o => ((Q.refl w7).drew.alloc o).cell b1
            have k2 := fun o => ((Q.refl w7).drew.alloc o).cell b2
            have k3 := fun o => ((Q.refl w7).drew.alloc o).cell hcs
            go_region_held3 (fun w' => w'.cell? ⟨w2.heap.size, 0, none⟩ = some (.int .u64 (p : Int)) ∧ w'.cell? ⟨w2.heap.size, 1, none⟩ = some (.int .i64 (W : Int)) ∧ w'.cell? ⟨w2.heap.size, 2, none⟩ = some (.slice A2 n c2) ∧ w'.cell? ⟨w4.heap.size, i, none⟩ = some (.slice As W cs)) (first | exact sk | go_keep | exact ⟨k0 _, k1 _, k2 _, k3 _⟩)
              (first | (go_at_call 20; refine (valid_any HP.out _ 1 n (fun _ => x) _ (one_mod (Blk.new _ _ _) (HVQ.out.q ((Q.refl w7).drew.alloc _))) (by omega) (by omega)).mono ?_; rintro e w8 ⟨rfl, hq8⟩; have q8 := ((Q.refl w7).drew.alloc _).trans hq8; have sk := And.intro (q8.cell b0) (And.intro (q8.cell b1) (And.intro (q8.cell b2) (q8.cell hcs)))) | (go_at_call 27; refine (act_any HP.out _ _ n W x M _ ⟨Av, cv, rfl, HVQ.out.q q8⟩ ⟨A2, c2, rfl, ((HR2.out.q HQW.out).q HQ7.out).q q8⟩ (by omega) (by omega)).mono ?_; rintro e w9 ⟨A9, c9, rfl, hR9, hq9⟩; have q9 := q8.trans hq9; have sk := And.intro (q9.cell b0) (And.intro (q9.cell b1) (And.intro (q9.cell b2) (q9.cell hcs)))) | (go_at_call 26; refine (row_true _ _ W (comb n x M) sd _ ⟨A9, c9, rfl, hR9.sc⟩ ⟨As, cs, rfl, ((HSS.out.q HQ7.out).q q9)⟩ (fun k hk => by rw [← HXX.out]; exact sol_comb HP.out n W M sd HIN.out hk)).mono ?_; rintro e w10 ⟨rfl, hq10⟩; have q10 := q9.trans hq10; have sk := And.intro (q10.cell b0) (And.intro (q10.cell b1) (And.intro (q10.cell b2) (q10.cell hcs)))))
            all_goals
              go_wp2_with fail
              refine ⟨⟨i + 1, rfl, by omega, (HQW.out.trans HQ7.out).trans q10⟩, ?_⟩
              simp only [intOf]; omega
      · have hi1 : i ≠ 0 := fun e => hin (hs0 e)
        have hib : ((i : Int) == 0) = false := by rw [beq_eq_false_iff_ne]; omega
        have hib2 : (i == 0) = false := by rw [beq_eq_false_iff_ne]; omega
        have hib3 : decide (i = 0) = false := by rw [decide_eq_false_iff_not]; omega
        have hib4 : decide ((i : Int) = 0) = false := by rw [decide_eq_false_iff_not]; omega
        have HIN := Lib.hid hin
        clear hin hs0 hi1 hcase
        go_wp2_with fail
        go_region_held3 (fun w' => w'.cell? ⟨w2.heap.size, 0, none⟩ = some (.int .u64 (p : Int)) ∧ w'.cell? ⟨w2.heap.size, 1, none⟩ = some (.int .i64 (W : Int)) ∧ w'.cell? ⟨w2.heap.size, 2, none⟩ = some (.slice A2 n c2) ∧ w'.cell? ⟨w4.heap.size, i, none⟩ = some (.slice As W cs)) (first | exact sk | go_keep)
          (first | (go_at_call 25; refine (solve_f HP.out _ _ n W M sd _ ⟨A2, c2, rfl, (HR2.out.q HQW.out).q (Q.refl W5).drew⟩ ⟨As, cs, rfl, HSS.out.q (Q.refl W5).drew⟩ (by omega) (by omega) HIN.out).mono ?_; rintro e w6 ⟨rfl, hq6⟩; have q6 := (Q.refl W5).drew.trans hq6; have sk := And.intro (q6.cell b0) (And.intro (q6.cell b1) (And.intro (q6.cell b2) (q6.cell hcs)))))
        all_goals
          go_wp2_with fail
          have HQ6 := Lib.hid q6
          obtain ⟨b0, b1, b2, hcs⟩ := sk
          clear q6 hq6
          have hqn : ∀ W6, Q w6.drew W6 → Q w6 W6 := fun W6 q => (Q.refl w6).drew.trans q
          have qF := fun W6 q => And.intro ((hqn W6 q).cell b0) (And.intro ((hqn W6 q).cell b1) (And.intro ((hqn W6 q).cell b2) ((hqn W6 q).cell hcs)))
          refine wp_region_grow [true, true, true, true, true, true, true, true, true, true, true, true, true, true, true, true, true, true, true, true, true, true, true] (by kernel_rfl) (by kernel_rfl) ?_
          simp only [List.length_cons, List.length_nil, Nat.reduceAdd, sel_nil, sel_tt, sel_ft, List.drop_succ_cons, List.drop_zero]
          iterate 5 ((apply wpDets_read; case h => (intro wq hq K' hK; have qr := qF wq hq; go_simp; exact hK)))
          refine wpDets_call (.bool false) ?_ ?_
          · intro wq hq V hV
            go_simp
            go_at_call 31
            exact (sv_b HP.out _ _ n W M sd _ ⟨A2, c2, rfl, ((HR2.out.q HQW.out).q HQ6.out).q (hqn _ hq)⟩ ⟨As, cs, rfl, (HSS.out.q HQ6.out).q (hqn _ hq)⟩ (by omega) (by omega) false ⟨fun h => (by cases h), fun h => absurd h HIN.out⟩).mono fun e w' h => ⟨_, h.1, h.2, hV _ h.2⟩
          iterate 17 ((apply wpDets_read; case h => (intro wq hq K' hK; have qr := qF wq hq; go_simp; exact hK)))
          refine wpDets_nil (wpMks_nil ?_)
          rintro w7 hq7 _
          have q7 := hqn _ hq7
          have b0 := q7.cell b0
          have b1 := q7.cell b1
          have b2 := q7.cell b2
          have hcs := q7.cell hcs
          have HQ7 := Lib.hid (HQ6.out.trans q7)
          clear qF hqn hq7 q7
          go_wp2_with fail
          have hqn : ∀ W6, Q w7.drew W6 → Q w7 W6 := fun W6 q => (Q.refl w7).drew.trans q
          have qF := fun W6 q => And.intro ((hqn W6 q).cell b0) (And.intro ((hqn W6 q).cell b1) (And.intro ((hqn W6 q).cell b2) ((hqn W6 q).cell hcs)))
          refine wp_region_grow [true, true, true, true, true, true, true, true, true, true, true, true, true, true, true, true, true, true, true, true, true, true, true, true, true, true, true, true, true] (by kernel_rfl) (by kernel_rfl) ?_
          simp only [List.length_cons, List.length_nil, Nat.reduceAdd, sel_nil, sel_tt, sel_ft, List.drop_succ_cons, List.drop_zero]
          iterate 29 ((apply wpDets_read; case h => (intro wq hq K' hK; have qr := qF wq hq; go_simp; exact hK)))
          refine wpDets_nil (wpMks_nil ?_)
          rintro w8 hq8 _
          have q8 := hqn _ hq8
          clear qF hqn
          go_wp2_with fail
          refine ⟨⟨i + 1, rfl, by omega, (HQW.out.trans HQ7.out).trans q8⟩, ?_⟩
          simp only [intOf]; omega
    · obtain rfl : i = 2 := by omega
      clear hq hB4
      go_wp2_with fail
      go_ret
      exact ⟨rfl, HQ4.out.trans HQW.out⟩
end
end Go.Proofs.Ytcjpjnneimjfiaa
