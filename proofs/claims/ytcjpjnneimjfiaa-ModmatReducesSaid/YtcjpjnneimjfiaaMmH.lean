/-
  Solve of package modmat.
-/
import Derived.Test.YtcjpjnneimjfiaaMmG
import Derived.StillTailTactics
namespace Go.Proofs.Ytcjpjnneimjfiaa
open Go.RowKit
section
variable {p : Nat} [NeZero p]

/-- What is left of the right side. -/
def rstF (n W : Nat) (M : Mt p) (b : Nat → Fin p) : Nat → Fin p := rst W (rf n W (bsd W M)).r b (rf n W (bsd W M))
/-- The solution. -/
def solF (n W : Nat) (M : Mt p) (b : Nat → Fin p) : Nat → Fin p := fun i => 0 - rstF n W M b (W + i)
def SolP (w : World) (n W : Nat) (M : Mt p) (b : Nat → Fin p) (e : Ending) (w' : World) : Prop :=
  ((∀ k, k < W → rstF n W M b k = 0) → ∃ v, e = .returned (.tuple #[v, .bool true]) ∧ Sl w' v n (u64 (solF n W M b))) ∧
  (¬ (∀ k, k < W → rstF n W M b k = 0) → e = .returned (.tuple #[.slice none 0 0, .bool false])) ∧ Q w w'
set_option maxRecDepth 100000 in
theorem rst0_cells {W N : Nat} {b : Nat → Fin p} {s : St p} {cs : Array Value} (_ : W ≤ N) (h : ∀ j, j < (Array.replicate N (Value.int .u64 0)).size → cs[j]? = if j < W then some (u64 b j) else (Array.replicate N (Value.int .u64 0))[j]?) :
    Cells cs N (rst W 0 b s) := by
  intro j hj
  rw [h j (by simpa using hj), rst_0]
  by_cases e : j < W
  · rw [if_pos e, if_pos e]; rfl
  · rw [if_neg e, if_neg e, fzero_val]; simp [hj]
def ngk (W i : Nat) (x : Nat → Fin p) : Nat → Fin p := fun k => if W ≤ k ∧ k < W + i then 0 - x k else x k
set_option maxRecDepth 100000 in
theorem ngk_at (W i : Nat) (x : Nat → Fin p) : ngk W i x (W + i) = x (W + i) := by unfold ngk; rw [if_neg (by omega)]
set_option maxRecDepth 100000 in
theorem ngk_step {W i k : Nat} {x : Nat → Fin p} : ngk W (i + 1) x k = if k = W + i then 0 - x (W + i) else ngk W i x k := by
  unfold ngk; grind
set_option maxRecDepth 100000 in
theorem ngk_round {w wr : World} {G n W j : Nat} {cs : Array Value} {R : Nat → Fin p} {z : Value} (hb : Blk wr G 26 cs) (hc : Cells cs (W + n) (ngk W j R)) (hq : Below G w wr) (hj : j < n) (e : z = .int .u64 ((0 - R (W + j) : Fin p) : Nat)) :
    (∃ (j1 : Nat) (cs : Array Value), Value.int .i64 ((j : Int) + 1) = .int .i64 j1 ∧ j1 ≤ n ∧ Blk (wr.setCell ⟨G, W + j, none⟩ z).drew G 26 cs ∧ Cells cs (W + n) (ngk W j1 R) ∧ Below G w (wr.setCell ⟨G, W + j, none⟩ z).drew) ∧
      n - (intOf (Value.int .i64 ((j : Int) + 1))).toNat < n - (intOf (Value.int .i64 (j : Int))).toNat := by
  subst e
  refine ⟨⟨j + 1, _, rfl, by omega, (hb.set (W + j) _).drew, hc.set (by omega) (fun k _ => ngk_step), (Below.setCell hq (Nat.le_refl _) _).drew⟩, ?_⟩
  simp only [intOf]; omega
set_option maxHeartbeats 2000000 in
set_option maxRecDepth 100000 in
theorem solve_any (hp : Fp p) (v bv : Value) (n W : Nat) (M : Mt p) (b : Nat → Fin p) (w : World) (h : ModV w v n W M) (hb : Sl w bv W (u64 b)) (hn : n ≤ 1024) (hW : W ≤ 1024) :
    Calls Try.prog 25 #[v, bv] w (SolP w n W M b) := by
  have HP := Lib.hid hp
  obtain ⟨A, c, w1, rfl, hw1, HM, HB, HQ, hcap, b0, b1, b2⟩ := modbox h
  obtain ⟨Ab, cb, rfl, hSb⟩ := hb
  obtain ⟨j0, hj, hy0, hy1, hy2⟩ := info_parts info_u64
  have hmk2 := mk_any 44 26 j0 (.int .u64 0) 8 Try.underlying44 hj hy0 hy1 hy2 (by omega) rfl ((W : Int) + (n : Int)) (W + n) (by omega) (by omega)
  have hI := rf_inv hp n W (bsd W M)
  obtain ⟨s, hs⟩ : ∃ s, rf n W (bsd W M) = s := ⟨_, rfl⟩
  have hrst : rstF n W M b = rst W s.r b s := by unfold rstF; rw [hs]
  rw [hs] at hI
  have hrn := hI.rn
  obtain ⟨X, r, pv, dt⟩ := s
  dsimp only at hrn
  have HS := Lib.hid hs
  have HRST := Lib.hid hrst
  have HI := Lib.hid hI
  have HSB := Lib.hid hSb
  clear h hp hs hrst hI hSb
  go_enter Try.func25, Try.ntmps25
  go_wp2_with fail
  clear hw1
  refine (beside_any HP.out _ n W M _ HM.out (by omega) (by omega)).mono ?_
  rintro e w2 ⟨g, hs, gs, rfl, hO, hq2⟩
  obtain ⟨c0, c1, c2⟩ := (HB.out.q hq2).three'
  have HO := Lib.hid hO
  have HQ2 := Lib.hid hq2
  clear hO hq2 b0 b1 b2
  go_wp2_with fail
  refine (reduce_any HP.out _ g n n (W + n) W hs gs (bsd W M) _ HO.out (Nat.le_refl _) (by omega) (by omega) (by omega) HQ2.out.size).mono ?_
  rintro e w3 hr
  rw [show run iv n W (ini (bsd W M)) = ⟨X, r, pv, dt⟩ from HS.out] at hr
  obtain ⟨Ap, cp, hs3, gs3, rfl, hS, hO3, hq3⟩ := redq HQ2.out rfl hr
  dsimp only at hS hO3
  have hB3 := HB.out.q hq3
  obtain ⟨d0, d1, d2⟩ := hB3.three'
  have hl3 := hB3.lt
  have hcpp := hS.1
  have HSP := Lib.hid hS
  have HO3 := Lib.hid hO3
  have HQ3 := Lib.hid hq3
  have HB3 := Lib.hid hB3
  clear hr hS hO3 hq3 hB3 c0 c1 c2
  have hBN := Blk.new w3 26 (Array.replicate (W + n) (.int .u64 0))
  have hSB2 : Sc (w3.alloc (.cells (Array.replicate (W + n) (.int .u64 0)) 26)) Ab W cb (u64 b) := HSB.out.q ((HQ.out.trans HQ3.out).alloc _)
  have HBN := Lib.hid hBN
  have HSB2 := Lib.hid hSB2
  clear hBN hSB2
  go_wp2_with (with_reducible refine wpList_copy0 rfl _ _ rfl w3.heap.size (W + n) (W + n) Ab W cb (u64 b) rfl rfl _ HBN.out HSB2.out (fun _ _ => rfl) (by omega) (by simp) ?_; intro w4 cs4 hu4 hb4 hc4)
  clear hmk2
  have hQ4 : Q w3 w4 := Below.trans ((Q.refl w3).alloc _) (hu4.below (Nat.le_refl _))
  have HQ4 := Lib.hid hQ4
  have HB4 := @Lib.hid _ hb4
  have HC4 := @Lib.hid _ (rst0_cells (s := ⟨X, r, pv, dt⟩) (by omega) hc4)
  clear hQ4 hb4 hc4 hu4
  go_wp2_with fail
  go_loopw [39] (fun iv' wr => ∃ (i : Nat) (cs : Array Value), iv' = .int .i64 i ∧ i ≤ r ∧ Blk wr w3.heap.size 26 cs ∧ Cells cs (W + n) (rst W i b ⟨X, r, pv, dt⟩) ∧ Q w3 wr) (fun iv' _ => r - (intOf iv').toNat)
  case atStart => exact ⟨0, cs4, rfl, Nat.zero_le _, HB4.out, HC4.out, HQ4.out⟩
  case round =>
    clear d0 d1 d2
    obtain ⟨i, cs, rfl, hir, hb, hc, hq⟩ := hrel
    obtain ⟨d0, d1, d2⟩ := (HB3.out.q hq).three'
    by_cases hlt : i < r
    · obtain ⟨pb, po, rfl, hpb, hpc0⟩ := (HSP.out.q hq).sc.at hlt
      have hpc : wr.cell? ⟨pb, po + i, none⟩ = some (.int .i64 ((pv i : Nat) : Int)) := hpc0
      clear hpc0
      have hpv : pv i < W := HI.out.lt i hlt
      obtain ⟨A6, c6, e6, hc6, hA6⟩ := HO3.out.row i (by omega)
      obtain rfl := hA6 (by omega)
      obtain ⟨_, hge, cs6, hb6, hx6⟩ := HO3.out.own (by omega) i (by omega)
      have hne6 : gs3 i ≠ w3.heap.size := by have := hb6.lt; omega
      have k6 := hq.cell ((HO3.out.head.cell i).trans e6)
      have k7 := hc.cell hb (show pv i < W + n by omega) rfl
      obtain ⟨z, hz⟩ : ∃ z, rst W i b ⟨X, r, pv, dt⟩ (pv i) = z := ⟨_, rfl⟩
      rw [hz] at k7
      have hi1 : (i : Int) < (n : Int) := by omega
      have hi2 : (pv i : Int) < (W : Int) + (n : Int) := by omega
      have hi3 : i < n := by omega
      have hi4 : pv i < W + n := by omega
      have hsc6 := (Cells.sc (x := X i) hx6 hb6 hc6 (by omega)).q hq
      have HSC6 := Lib.hid hsc6
      have HNE6 := Lib.hid hne6
      have HQW := Lib.hid hq
      have HBW := @Lib.hid _ hb
      have HCW := @Lib.hid _ hc
      have HZ := Lib.hid hz
      have HIR := Lib.hid hir
      clear hsc6 hne6 hq hb hc hz hx6 hb6 e6 hge
      go_wp2_with fail
      go_still_tail 11, (by kernel_rfl)
      change wpList _ _ _ _ _ wr.drew
      go_wp2_with fail
      refine (subtract_any HP.out w3.heap.size (W + n) (W + n) c6 cs (rst W i b ⟨X, r, pv, dt⟩) (X i) _ z _ HBW.out.drew HCW.out (HSC6.out.q (Q.refl wr).drew) (fun b o e _ => ?_) (by omega) (Nat.le_refl _)).mono ?_
      · injection e with e; injection e with e; have := HNE6.out; omega
      rintro e w5 ⟨rfl, hu5, cs5, hb5, hx5⟩
      have HU5 := Lib.hid hu5
      have HB5 := @Lib.hid _ hb5
      have HX5 := @Lib.hid _ hx5
      clear hu5 hb5 hx5
      go_wp2_with fail
      refine ⟨⟨i + 1, cs5, rfl, by omega, HB5.out, HX5.out.keep (fun j _ => ?_), Below.trans (HQW.out.drew) (HU5.out.below (Nat.le_refl _))⟩, ?_⟩
      · rw [rst_s HI.out b (show i < r from hlt), HZ.out]
      · simp only [intOf]; omega
    · obtain rfl : i = r := by omega
      have HQW := Lib.hid hq
      have HBW := @Lib.hid _ hb
      have HCW := @Lib.hid _ hc
      clear hq hb hc
      have hQ : Q w wr := (HQ.out.trans HQ3.out).trans HQW.out
      obtain ⟨R, hR⟩ : ∃ R, rstF n W M b = R := ⟨_, rfl⟩
      have hcR : Cells cs (W + n) R := by rw [← hR, HRST.out]; exact HCW.out
      have HQQ := Lib.hid hQ
      have HR := Lib.hid hR
      have HCR := @Lib.hid _ hcR
      clear hQ hR hcR
      have hWW : (W : Int) ≤ (W : Int) + (n : Int) := by omega
      go_wp2_with fail
      go_loop [62] (fun iv' => ∃ k : Nat, iv' = .int .i64 k ∧ k ≤ W ∧ ∀ j, j < k → R j = 0) (fun iv' => W - (intOf iv').toNat)
      case atStart => exact ⟨0, rfl, Nat.zero_le _, fun j hj => by omega⟩
      case round =>
        obtain ⟨k, rfl, hk, hz⟩ := hrel
        have HZ := @Lib.hid _ hz
        clear hz
        by_cases hkW : k < W
        · have k1 := HCR.out.cell HBW.out (show k < W + n by omega) rfl
          by_cases hz : R k = 0
          · have hbz : (((R k : Nat) : Int) != 0) = false := by rw [bne_fin, hz]; simp
            have HZ0 := Lib.hid hz
            clear hz
            go_wp2_with fail
            refine ⟨⟨k + 1, rfl, by omega, fun j hj => ?_⟩, ?_⟩
            · by_cases e : j = k
              · rw [e]; exact HZ0.out
              · exact HZ.out j (by omega)
            · simp only [intOf]; omega
          · have hbz : (((R k : Nat) : Int) != 0) = true := by rw [bne_fin]; simpa using hz
            have HZ0 := Lib.hid hz
            clear hz
            go_wp2_with fail
            go_ret2
            refine ⟨fun h => absurd (h k hkW) (by rw [HR.out]; exact HZ0.out), fun _ => rfl, HQQ.out⟩
        · obtain rfl : k = W := by omega
          go_upto_region 16 with (fail)
          go_cut [14] (fun s14 wx => ∃ o c14, s14 = .slice (some ⟨w3.heap.size, o, none⟩) n c14 ∧ (0 < n → o = k) ∧ n ≤ c14 ∧ wx = wr)
          case first =>
            rcases Nat.eq_zero_or_pos n with hn0 | hn0
            · subst hn0
              go_wp2_with fail
              go_meet
              exact ⟨0, 0, by simp, fun h => by omega, by omega, rfl⟩
            · have hne : ¬ n = 0 := by omega
              go_wp2_with fail
              go_meet
              exact ⟨k, n, by simp, fun _ => rfl, by omega, rfl⟩
          case rest =>
            obtain ⟨o, c14, rfl, ho, hc14, rfl⟩ := hcut
            go_wp2_with fail
            go_loopw [75] (fun iv' wy => ∃ (j : Nat) (cs : Array Value), iv' = .int .i64 j ∧ j ≤ n ∧ Blk wy w3.heap.size 26 cs ∧ Cells cs (k + n) (ngk k j R) ∧ Q w3 wy) (fun iv' _ => n - (intOf iv').toNat)
            case atStart => exact ⟨0, cs, rfl, Nat.zero_le _, HBW.out, HCR.out.keep (fun j _ => by unfold ngk; rw [if_neg (by omega)]), HQW.out⟩
            case round =>
              clear d0 d1 d2
              obtain ⟨j, cs', rfl, hjn, hb, hc, hq⟩ := hrel
              obtain ⟨d0, d1, d2⟩ := (HB3.out.q hq).three'
              by_cases hj : j < n
              · have ho' := ho (by omega)
                subst ho'
                have k1 := hc.cell hb (show o + j < o + n by omega) (ngk_at o j R)
                have f1 := hb.frozen (o + j)
                have hji : (j : Int) < (n : Int) := by omega
                have HQY := Lib.hid hq
                have HBY := @Lib.hid _ hb
                have HCY := @Lib.hid _ hc
                clear hq hb hc
                go_wp2_with fail
                go_region_law (first | (go_simp; go_at_call 59; refine (f_neg _ HP.out (R (o + j))).mono ?_; rintro e w' ⟨rfl, rfl⟩))
                all_goals
                  go_wp2_with fail
                  exact ngk_round HBY.out HCY.out HQY.out hj rfl
              · obtain rfl : n = j := by omega
                have HQY := Lib.hid hq
                have HBY := @Lib.hid _ hb
                have HCY := @Lib.hid _ hc
                clear hq hb hc
                go_wp2_with fail
                go_ret2
                refine ⟨fun _ => ⟨_, rfl, ?_⟩, fun h => absurd (fun x hx => by rw [HR.out]; exact HZ.out x hx) h, (HQ.out.trans HQ3.out).trans HQY.out⟩
                refine ⟨_, c14, rfl, hc14, by omega, fun h0 => ⟨w3.heap.size, o, rfl, HBY.out.lt, fun x hx => ?_⟩⟩
                rw [HBY.out.cell, ho h0, HCY.out (k + x) (by omega)]
                have e : solF n k M b x = ngk k n R (k + x) := by
                  unfold solF ngk
                  rw [HR.out, if_pos ⟨by omega, by omega⟩]
                rw [← e]; rfl
end
end Go.Proofs.Ytcjpjnneimjfiaa
