/-
  ModmatEchelon: the walk.
-/
import Derived.Test.YtcjpjnneimjfiaaRfF
import Derived.Test.YtcjpjnneimjfiaaRfG
import Derived.Test.YtcjpjnneimjfiaaSan7
namespace Go.Proofs.Ytcjpjnneimjfiaa
open Go.RowKit
section
variable {p : Nat} [NeZero p]

set_option maxRecDepth 100000 in
/-- Solve where the combination is there. -/
theorem solve_in (hp : Fp p) (v bv : Value) (n W : Nat) (M : Mt p) (b : Nat → Fin p) (w : World) (h : ModV w v n W M) (hb : Sl w bv W (u64 b)) (hn : n ≤ 1024) (hW : W ≤ 1024) (e : InSp n W M b) :
    Calls Try.prog 25 #[v, bv] w (fun e w' => ∃ x, e = .returned (.tuple #[x, .bool true]) ∧ Q w w') :=
  (solve_any hp v bv n W M b w h hb hn hW).mono (fun e w' ⟨h1, _, hq⟩ => by
    obtain ⟨x, hx, _⟩ := h1 ((solved_iff (rf_inv hp n W (bsd W M)) b).2 (by assumption))
    exact ⟨x, hx, hq⟩)
set_option maxRecDepth 100000 in
theorem pv_cell {w : World} {b o r c : Nat} {pv : Nat → Nat} (h : Sc w (some ⟨b, o, none⟩) r c (i64s pv)) {j : Nat} (hj : j < r) : w.cell? ⟨b, o + j, none⟩ = some (.int .i64 ((pv j : Nat) : Int)) := by
  obtain ⟨b', o', e, _, hc⟩ := h.at hj
  injection e with e
  injection e with e1 e2
  subst e1 e2
  exact hc
set_option maxHeartbeats 1000000 in
set_option maxRecDepth 100000 in
theorem law_echelon (hp : Fp p) (v : Value) (P C : Nat) (L : List (List Nat)) (w : World) (h : RawV w v P C L) (hP : prN P = p) (hP2 : P < 256) (hC : C < 256) :
    Calls Try.prog 4 #[v] w (SaneQ w) := by
  obtain ⟨A, c, rfl, hR⟩ := h
  obtain ⟨n, hn⟩ : ∃ n, min L.length 4 = n := ⟨_, rfl⟩
  obtain ⟨W, hW⟩ : ∃ W, C % 6 = W := ⟨_, rfl⟩
  have hn4 : n ≤ 4 := by omega
  have hW6 : W ≤ 5 := by omega
  obtain ⟨M, hM0⟩ : ∃ M : Mt p, szM L = M := ⟨_, rfl⟩
  obtain ⟨s, hs⟩ : ∃ s, rf n W M = s := ⟨_, rfl⟩
  have hI := rf_inv hp n W M
  rw [hs] at hI
  obtain ⟨X, r, pv, dt⟩ := s
  have hrn : r ≤ n := hI.rn
  have hrc : r ≤ W := hI.rc
  have h1p := fone_val hp
  obtain ⟨i0, hi0, hz0, hz1, hz2⟩ := info_parts info_u64
  have HR := Lib.hid hR
  have HP := Lib.hid hp
  have HPP := Lib.hid hP
  have HN := Lib.hid hn
  have HW := Lib.hid hW
  have HI := Lib.hid hI
  have HS := Lib.hid hs
  clear hp hR hP hn hW hI hs
  go_enter Try.func4, Try.ntmps4
  go_wp2_with fail
  refine (sane7 _).mono ?_
  rintro e w1 ⟨rfl, hq1⟩
  have hB1 := (Blk.new w 24 #[.int .u8 P, .int .u8 C, .slice A L.length c]).q hq1
  obtain ⟨b0, b1, b2⟩ := hB1.three'
  have q1 := ((Q.refl w).alloc _).trans hq1
  have HQ1 := Lib.hid q1
  clear hB1 hq1 q1
  go_wp2_with fail
  refine (made_any7 HP.out _ P C L _ ⟨A, c, rfl, HR.out.q HQ1.out⟩ HPP.out hP2 hC n W HN.out HW.out).mono ?_
  rintro e w2 ⟨v2, rfl, ⟨A2, c2, rfl, hR2⟩, hq2⟩
  rw [hM0] at hR2
  obtain ⟨W2, hW2⟩ : ∃ W2, w2.alloc (.cells #[.int .u64 p, .int .i64 W, .slice A2 n c2] 29) = W2 := ⟨_, rfl⟩
  have hB2 : Blk W2 w2.heap.size 29 #[.int .u64 p, .int .i64 W, .slice A2 n c2] := hW2 ▸ Blk.new w2 _ _
  have hR2' : Rows64 W2 A2 n c2 W M := hR2.rows.q (hW2 ▸ (Q.refl w2).alloc _)
  obtain ⟨b0, b1, b2⟩ := hB2.three'
  have HQ2 := Lib.hid ((HQ1.out.trans hq2).trans (hW2 ▸ (Q.refl w2).alloc _))
  have HB2 := Lib.hid hB2
  have HR2 := Lib.hid hR2'
  have hc2 := hR2'.cap
  clear hR2 hq2 hB2 hR2'
  go_wp2_with fail
  clear hW2
  refine (rref_any HP.out _ n W M _ ⟨A2, c2, rfl, HR2.out⟩ (by omega) (by omega)).mono ?_
  rw [HS.out]
  rintro e w3 ⟨v3, A4, c4, rfl, ⟨A3, c3, rfl, hR3⟩, hpv, hq3⟩
  dsimp only at hR3 hpv
  obtain ⟨W3, hW3⟩ : ∃ W3, w3.alloc (.cells #[.int .u64 p, .int .i64 W, .slice A3 r c3] 29) = W3 := ⟨_, rfl⟩
  have hq3' : Q w3 W3 := hW3 ▸ (Q.refl w3).alloc _
  have hB3 : Blk W3 w3.heap.size 29 #[.int .u64 p, .int .i64 W, .slice A3 r c3] := hW3 ▸ Blk.new w3 _ _
  have hR3' : Rows64 W3 A3 r c3 W X := hR3.rows.q hq3'
  have hpv' : Sc W3 A4 r c4 (i64s pv) := hpv.sc.q hq3'
  have hc3 := hR3'.cap
  have hc4 := hpv'.cap
  have HQ3 := Lib.hid (hq3.trans hq3')
  have HB3 := Lib.hid hB3
  have HR3 := Lib.hid hR3'
  have HPV := Lib.hid hpv'
  clear hR3 hpv hq3 hq3' hB3 hR3' hpv' b0 b1 b2
  obtain ⟨b0, b1, b2⟩ := (HB2.out.q HQ3.out).three'
  obtain ⟨d0, d1, d2⟩ := HB3.out.three'
  go_wp2_with fail
  clear hW3
  refine (valid_any HP.out _ r W X _ ⟨A3, c3, rfl, HR3.out⟩ (by omega) (by omega)).mono ?_
  rintro e w4 ⟨rfl, hq4⟩
  have HQ4 := Lib.hid hq4
  have b0 := hq4.cell b0
  have b1 := hq4.cell b1
  have b2 := hq4.cell b2
  have d0 := hq4.cell d0
  have d1 := hq4.cell d1
  have d2 := hq4.cell d2
  clear hq4
  go_wp2_with fail
  have HB2 := Lib.hid ((HB2.out.q HQ3.out).q HQ4.out)
  have HR2 := Lib.hid ((HR2.out.q HQ3.out).q HQ4.out)
  have HB3 := Lib.hid (HB3.out.q HQ4.out)
  have HR3 := Lib.hid (HR3.out.q HQ4.out)
  have HPV := Lib.hid (HPV.out.q HQ4.out)
  have HQ := Lib.hid ((HQ2.out.trans HQ3.out).trans HQ4.out)
  clear HQ2 HQ3 HQ4 b0 b1 b2 d0 d1 d2
  go_loopw [7] (fun iv' wr => ∃ i : Nat, iv' = .int .i64 i ∧ i ≤ r ∧ Q w4 wr) (fun iv' _ => r - (intOf iv').toNat)
  case atStart => exact ⟨0, rfl, Nat.zero_le _, Q.refl _⟩
  case round =>
    obtain ⟨i, rfl, hir, hq⟩ := hrel
    obtain ⟨b0, b1, b2⟩ := (HB2.out.q hq).three'
    obtain ⟨d0, d1, d2⟩ := (HB3.out.q hq).three'
    by_cases hlt : i < r
    · obtain ⟨bp, op, rfl, hbp, hcp0⟩ := (HPV.out.q hq).at hlt
      have hcp : wr.cell? ⟨bp, op + i, none⟩ = some (.int .i64 ((pv i : Nat) : Int)) := hcp0
      obtain ⟨bf, of, rf', rfl, hbf, hcf, hSf⟩ := (HR3.out.q hq).at hlt
      have hpW : pv i < W := HI.out.lt i hlt
      obtain ⟨br, or', cr, rfl, hcr, hbr, _⟩ := hSf.at64 hpW
      have hi2 : (i : Int) < (r : Int) := by omega
      have hpW2 : (pv i : Int) ≤ (cr : Int) := by omega
      have hd1 : decide (((pv i : Nat) : Int) < 0) = false := by rw [decide_eq_false_iff_not]; omega
      have hd2 : decide ((W : Int) ≤ ((pv i : Nat) : Int)) = false := by rw [decide_eq_false_iff_not]; omega
      have hd3 : decide (W ≤ pv i) = false := by rw [decide_eq_false_iff_not]; omega
      have HPRE := Lib.hid (sl_pre hSf (m := pv i) (by omega))
      have HSF := Lib.hid hSf
      have HQW := Lib.hid hq
      clear hq hSf hcp0
      have HLT := Lib.hid hlt
      rcases Nat.eq_zero_or_pos i with hi0 | hi0
      case' inl =>
        have hdi : decide ((0 : Int) < (i : Int)) = false := by rw [decide_eq_false_iff_not]; omega
        have hdi2 : decide (0 < i) = false := by rw [decide_eq_false_iff_not]; omega
        clear hi0
        go_wp2_with fail
        go_quiet ((go_at_call 24; exact Calls.quiet_of_same (zero_q _ (pv i) (X i) _ (HPRE.out.q ((Q.refl wr).drewN _)) (fun k hk => HI.out.lead i k HLT.out hk))))
      case' inr =>
        obtain ⟨j, hj⟩ : ∃ j, j + 1 = i := ⟨i - 1, by omega⟩
        have hdi : decide ((0 : Int) < (i : Int)) = true := by rw [decide_eq_true_iff]; omega
        have hdi2 : decide (0 < i) = true := by rw [decide_eq_true_iff]; omega
        have hij : (i : Int) - 1 = (j : Int) := by omega
        have hij2 : ((i : Int) - 1).toNat = j := by omega
        have hcj := pv_cell (HPV.out.q HQW.out) (show j < r by omega)
        have hmn : pv j < pv i := HI.out.mono j i (by omega) HLT.out
        have hd4 : decide (((pv i : Nat) : Int) ≤ ((pv j : Nat) : Int)) = false := by rw [decide_eq_false_iff_not]; omega
        have hd5 : decide (pv i ≤ pv j) = false := by rw [decide_eq_false_iff_not]; omega
        have hj2 : (j : Int) < (r : Int) := by omega
        clear hi0 hj hmn
        go_wp2_with fail
        go_quiet ((go_at_call 24; exact Calls.quiet_of_same (zero_q _ (pv i) (X i) _ (HPRE.out.q ((Q.refl wr).drewN _)) (fun k hk => HI.out.lead i k HLT.out hk))))
      all_goals
        go_wp2_with fail
        go_loopw [8] (fun kv wx => ∃ k : Nat, kv = .int .i64 k ∧ k ≤ r ∧ Q wr wx) (fun kv _ => r - (intOf kv).toNat)
        case atStart => exact ⟨0, rfl, Nat.zero_le _, (Q.refl _).drewN _⟩
        case round =>
          obtain ⟨k, rfl, hkr, hqx⟩ := hrel
          have b0 := hqx.cell b0
          have b1 := hqx.cell b1
          have b2 := hqx.cell b2
          have d2 := hqx.cell d2
          have hcp := hqx.cell hcp
          have hcf := hqx.cell hcf
          by_cases hk : k < r
          · obtain ⟨bk, ok, rk, ek, hbk, hck, hSk⟩ := (HR3.out.q (HQW.out.trans hqx)).at hk
            injection ek with ek
            injection ek with ek1 ek2
            subst ek1 ek2
            obtain ⟨br2, or2, cr2, rfl, hcr2, hbr2, hcx0⟩ := hSk.at64 hpW
            have hk2 : (k : Int) < (r : Int) := by omega
            have HQX := Lib.hid hqx
            by_cases hki : k = i
            · have hcx : _ = some (Value.int .u64 1) := hcx0.trans (by rw [hki, show X i (pv i) = 1 from HI.out.one i HLT.out, h1p]; rfl)
              have hbe : ((i : Int) == (k : Int)) = true := by rw [beq_iff_eq]; omega
              have hbe2 : (i == k) = true := by rw [beq_iff_eq]; omega
              clear hcx0 hSk hki hqx
              go_wp2_with fail
              go_quiet (fail)
              go_wp2_with fail
              refine ⟨⟨k + 1, rfl, by omega, HQX.out.drewN _⟩, ?_⟩
              simp only [intOf]; omega
            · have hcx : _ = some (Value.int .u64 0) := hcx0.trans (by rw [show X k (pv i) = 0 from HI.out.col i k HLT.out (by omega) hki, fzero_val]; rfl)
              have hbe : ((i : Int) == (k : Int)) = false := by rw [beq_eq_false_iff_ne]; omega
              have hbe2 : (i == k) = false := by rw [beq_eq_false_iff_ne]; omega
              clear hcx0 hSk hki hqx
              go_wp2_with fail
              go_quiet (fail)
              go_wp2_with fail
              refine ⟨⟨k + 1, rfl, by omega, HQX.out.drewN _⟩, ?_⟩
              simp only [intOf]; omega
          · have HQX := Lib.hid hqx
            clear hqx
            go_wp2_with fail
            go_region_held3 (fun w' => w'.cell? ⟨w2.heap.size, 0, none⟩ = some (.int .u64 (p : Int)) ∧ w'.cell? ⟨w2.heap.size, 1, none⟩ = some (.int .i64 (W : Int)) ∧ w'.cell? ⟨w2.heap.size, 2, none⟩ = some (.slice A2 n c2) ∧ w'.cell? ⟨w3.heap.size, 2, none⟩ = some (.slice (some ⟨bf, of, none⟩) r c3) ∧ w'.cell? ⟨bf, of + i, none⟩ = some (.slice (some ⟨br, or', none⟩) W cr)) (first | exact ⟨hq6.cell b0, hq6.cell b1, hq6.cell b2, hq6.cell d2, hq6.cell hcf⟩ | go_keep)
              (first | (go_at_call 25; refine (solve_in HP.out _ _ n W M (X i) _ ⟨A2, c2, rfl, ((HR2.out.q HQW.out).q HQX.out).q (Q.refl wr).drew⟩ ((HSF.out.q HQX.out).q (Q.refl wr).drew) (by omega) (by omega) (HI.out.up (by omega))).mono ?_; rintro e w6 ⟨x, rfl, hq6⟩))
            all_goals
              go_wp2_with fail
              refine ⟨⟨i + 1, rfl, by omega, (HQW.out.trans HQX.out.drew).trans hq6⟩, ?_⟩
              simp only [intOf]; omega
    · have HQW := Lib.hid hq
      clear hq b0 b1 b2 d0 d1 d2
      obtain ⟨b0, b1, b2⟩ := (HB2.out.q HQW.out).three'
      go_wp2_with fail
      go_loopw [12] (fun iv' wx => ∃ i : Nat, iv' = .int .i64 i ∧ i ≤ n ∧ Q w4 wx) (fun iv' _ => n - (intOf iv').toNat)
      case atStart => exact ⟨0, rfl, Nat.zero_le _, HQW.out⟩
      case round =>
        clear b0 b1 b2
        obtain ⟨i, rfl, hin, hq⟩ := hrel
        obtain ⟨b0, b1, b2⟩ := (HB2.out.q hq).three'
        by_cases hlt : i < n
        · obtain ⟨bm, om, rm, rfl, hbm, hcm, hSm⟩ := (HR2.out.q hq).at hlt
          have hi2 : (i : Int) < (n : Int) := by omega
          obtain ⟨Am, cm, rfl, hSm⟩ := hSm
          have HSM := Lib.hid hSm
          have HQX := Lib.hid hq
          have hlb := (HB2.out.q hq).lt
          clear hq hSm
          go_wp2_with fail
          obtain ⟨wx, rfl⟩ : ∃ wx : World, wx = wr := ⟨_, rfl⟩
          go_loopw [13, 14] (fun ov kv wy => ∃ (k : Nat) (A5 : Option Addr) (c5 : Nat), kv = .int .i64 k ∧ ov = .slice A5 k c5 ∧ k ≤ r ∧ wy.ownsRow wx.heap.size 26 1 (.slice A5 k c5) k (tab (Go.Proofs.Ytcjpjnneimjfiaa.u64 fun t => M i (pv t)) k) ∧ Below wx.heap.size wx wy) (fun _ kv _ => r - (intOf kv).toNat)
          case atStart => exact ⟨0, _, _, rfl, rfl, Nat.zero_le _, own_new _ _ _ _ rfl (Nat.le_refl _), (Q.refl wx).alloc _⟩
          case round =>
            obtain ⟨k, A5, c5, rfl, rfl, hk, hown, hqx⟩ := hrel
            have b2 := Q.cell hqx b2
            have hcm := Q.cell hqx hcm
            have hsz := hqx.size
            by_cases hkr : k < r
            · have hk2 : (k : Int) < (r : Int) := by omega
              have hpW : pv k < W := HI.out.lt k hkr
              obtain ⟨bp, op, rfl, hbp, hcp0⟩ := HPV.out.at hkr
              have hcp1 : w4.cell? ⟨bp, op + k, none⟩ = some (.int .i64 ((pv k : Nat) : Int)) := hcp0
              have hcp := Q.cell (HQX.out.trans hqx) hcp1
              obtain ⟨be, oe, rfl, hbe, hce1⟩ := HSM.out.at64 hpW
              have hce := Q.cell hqx hce1
              have hl1 : bp < wx.heap.size := Nat.lt_of_lt_of_le hbp HQX.out.size
              have hpk2 : (pv k : Int) < (W : Int) := by omega
              have HQY := Lib.hid hqx
              have HOWN := Lib.hid hown
              clear hqx hown hcp0 hcp1 hce1
              go_wp2_with fail
              go_region_held3 (fun w' => w'.cell? ⟨w2.heap.size, 2, none⟩ = some (.slice (some ⟨bm, om, none⟩) n c2) ∧ w'.cell? ⟨bm, om + i, none⟩ = some (.slice (some ⟨be, oe, none⟩) W cm) ∧ w'.cell? ⟨bp, op + k, none⟩ = some (.int .i64 ((pv k : Nat) : Int)) ∧ w'.cell? ⟨be, oe + pv k, none⟩ = some (.int .u64 ((M i (pv k) : Nat) : Int))) (first | exact ⟨(hq9.cell (p := ⟨w2.heap.size, 2, none⟩) hlb).trans b2, (hq9.cell (p := ⟨bm, om + i, none⟩) hbm).trans hcm, (hq9.cell (p := ⟨bp, op + k, none⟩) hl1).trans hcp, (hq9.cell (p := ⟨be, oe + pv k, none⟩) hbe).trans hce⟩ | go_keep)
                (first | (refine step_app1 (by rfl) _ _ _ (by rfl) wx.heap.size 26 i0 (.int .u64 0) 8 Try.underlying44 hi0 hz0 hz1 hz2 rfl _ k (tab (Go.Proofs.Ytcjpjnneimjfiaa.u64 fun t => M i (pv t)) k) (by rfl) (ownsRow_q HOWN.out ((Q.refl wr).drew.alloc _)) _ (by rfl) (.int .u64 ((M i (pv k) : Fin p) : Nat)) (Blk.new _ _ _) rfl (by omega) (by decide) (by simp; omega) ?_; intro A6 c6 w5 hown2 hg2; have hq9 : Below wx.heap.size wr w5 := Below.grown (Below.alloc (Below.drew (Below.refl _ wr)) hsz _) hg2 (by simp; omega) (fun k e => (HOWN.out.lt k e).1)))
              all_goals
                go_wp2_with fail
                exact app_round hown2 hq9 HQY.out hkr rfl
            · obtain rfl : r = k := by omega
              obtain ⟨A6, c6, e6, hR6⟩ := own_rowO hown rfl (by omega)
              injection e6 with e6 _ e7
              subst e6 e7
              have hqo := Q.trans HQX.out hqx
              obtain ⟨d0, d1, d2⟩ := (HB3.out.q hqo).three'
              have HR6 := Lib.hid hR6.sc
              have HQY := Lib.hid hqx
              have HQO := Lib.hid hqo
              clear hqx hown hR6 hqo
              go_wp2_with fail
              go_region_held3 (fun w' => w'.cell? ⟨w3.heap.size, 0, none⟩ = some (.int .u64 (p : Int)) ∧ w'.cell? ⟨w3.heap.size, 1, none⟩ = some (.int .i64 (W : Int)) ∧ w'.cell? ⟨w3.heap.size, 2, none⟩ = some (.slice A3 r c3) ∧ w'.cell? ⟨w2.heap.size, 2, none⟩ = some (.slice (some ⟨bm, om, none⟩) n c2) ∧ w'.cell? ⟨bm, om + i, none⟩ = some (.slice Am W cm)) (first | exact sk | go_keep)
                (first | (go_at_call 27; refine (act_any HP.out _ _ r W (fun t => M i (pv t)) X _ ⟨_, _, rfl, HR6.out.q (Q.refl wr).drew⟩ ⟨A3, c3, rfl, (HR3.out.q HQO.out).q (Q.refl wr).drew⟩ (by omega) (by omega)).mono ?_; rintro e wA ⟨A7, c7, rfl, hR7, hqA⟩; have qA := (Q.refl wr).drew.trans hqA; have sk := And.intro (qA.cell d0) (And.intro (qA.cell d1) (And.intro (qA.cell d2) (And.intro (qA.cell b2) (qA.cell hcm))))) | (go_at_call 26; refine (row_true _ _ W (comb r (fun t => M i (pv t)) X) (M i) _ ⟨A7, c7, rfl, hR7.sc⟩ ⟨Am, cm, rfl, (HSM.out.q HQY.out).q qA⟩ (fun k hk => (HI.out.shown hlt hk).symm)).mono ?_; rintro e wB ⟨rfl, hqB⟩; have qB := qA.trans hqB; have sk := And.intro (qB.cell d0) (And.intro (qB.cell d1) (And.intro (qB.cell d2) (And.intro (qB.cell b2) (qB.cell hcm))))))
              all_goals
                go_wp2_with fail
                refine ⟨⟨i + 1, rfl, by omega, HQO.out.trans qB⟩, ?_⟩
                simp only [intOf]; omega
        · go_wp2_with fail
          go_ret
          exact ⟨rfl, HQ.out.trans hq⟩
end
end Go.Proofs.Ytcjpjnneimjfiaa
