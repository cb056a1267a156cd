/-
  reduce: the walk.
-/
import Derived.Test.YtcjpjnneimjfiaaMmA
import Derived.Deep.Cut
import Derived.Deep.CutRange
import Derived.Deep.DeepCutAuto
import Derived.RegionTactic
import Derived.BigRegion
namespace Go.Proofs.Ytcjpjnneimjfiaa
open Go.RowKit
section
variable {p : Nat} [NeZero p]

def RedP (base : Nat) (w : World) (g n W : Nat) (s : St p) (e : Ending) (w' : World) : Prop :=
  ∃ A c hs gs, e = .returned (.tuple #[.slice A s.r c, .int .u64 ((s.dt : Nat) : Int)]) ∧ RowO w.heap.size w' 3 A s.r c (i64s s.pv) ∧ OwnM base w' g hs gs n W s.M ∧ Below base w w'
set_option maxRecDepth 100000 in
theorem search_hit (A : Option Addr) (n cp W : Nat) (M : Mt p) (r c t : Nat) (w : World) (h : Rows64 w A n cp W M) (hr : r ≤ n) (hc : c < W) (hn : n ≤ 4096) (ht : fnd M c (n - r) r = t) (htn : t < n) :
    Calls Try.prog 70 #[.slice A n cp, .int .i64 r, .int .i64 c] w (NumW w (t : Int)) := by
  have := search_any A n cp W M r c w h hr hc (by omega)
  rwa [show atZ M n r c = (t : Int) by unfold atZ; rw [ht, if_pos htn]] at this
set_option maxRecDepth 100000 in
theorem search_miss (A : Option Addr) (n cp W : Nat) (M : Mt p) (r c : Nat) (w : World) (h : Rows64 w A n cp W M) (hr : r ≤ n) (hc : c < W) (hn : n ≤ 4096) (ht : ¬ fnd M c (n - r) r < n) :
    Calls Try.prog 70 #[.slice A n cp, .int .i64 r, .int .i64 c] w (NumW w (-1)) := by
  have := search_any A n cp W M r c w h hr hc (by omega)
  rwa [show atZ M n r c = -1 by unfold atZ; rw [if_neg ht]] at this

/-- The relation of the outer loop. -/
def RedR (base : Nat) (w : World) (g n W cols : Nat) (M : Mt p) (v d i : Value) (wr : World) : Prop :=
  ∃ (c : Nat) (hs : Array Value) (gs : Nat → Nat), i = .int .i64 c ∧ c ≤ cols ∧ d = .int .u64 (((run iv n c (ini M)).dt : Nat) : Int) ∧
    RedS base w wr g hs gs n W (run iv n c (ini M)).M v (run iv n c (ini M)).r (run iv n c (ini M)).pv

set_option maxRecDepth 100000 in
theorem red_close {base : Nat} {w wr w2 : World} {g : Nat} {hs : Array Value} {gs : Nat → Nat} {n W cols : Nat} {M X Y : Mt p} {v v2 : Value} {r t c : Nat} {pv : Nat → Nat} {dt d2 u : Fin p} {D : Value}
    (HST : run iv n (c + 1) (ini M) = stp iv n c ⟨X, r, pv, dt⟩) (HT : fnd X c (n - r) r = t) (ht : t < n) (HD : (if t = r then dt else 0 - dt) = d2) (HY : swp r t X = Y) (HYC : X t c = Y r c) (HU : iv (Y r c) = u)
    (h : RedS base w wr g hs gs n W (elm r (fun i => scl r u Y i c) (scl r u Y)) v r pv) (hown : w2.ownsRow w.heap.size 3 1 v2 (r + 1) (tab (i64s pv) r ++ [.int .i64 ((c : Nat) : Int)])) (hb : Below w.heap.size wr w2) (hc : c < cols) (eD : D = .int .u64 ((d2 * Y r c : Fin p) : Nat)) :
    RedR base w g n W cols M v2 D (.int .i64 ((c : Int) + 1)) w2 ∧ cols - (intOf (Value.int .i64 ((c : Int) + 1))).toNat < cols - (intOf (Value.int .i64 (c : Int))).toNat := by
  subst eD
  have e : run iv n (c + 1) (ini M) = ⟨prw r c u Y, r + 1, fun i => if i = r then c else pv i, d2 * Y r c⟩ := by
    rw [HST]
    unfold stp
    dsimp only
    rw [HT, if_pos ht, HD, HYC, HU, HY]
  refine ⟨⟨c + 1, hs, gs, rfl, by omega, by rw [e], ?_⟩, ?_⟩
  · rw [e]
    exact h.push hown hb (fun i hi => by simp only [if_neg (show ¬ i = r by omega)]) (by simp)
  · simp only [intOf]; omega

set_option maxRecDepth 100000 in
theorem red_end {base : Nat} {w wr : World} {g : Nat} {hs : Array Value} {gs : Nat → Nat} {n W c : Nat} {M X : Mt p} {v : Value} {r : Nat} {pv : Nat → Nat} {dt : Fin p} (h0 : run iv n c (ini M) = ⟨X, r, pv, dt⟩) (hr : r ≤ 4096)
    (h : RedS base w wr g hs gs n W X v r pv) : RedP base w g n W (run iv n c (ini M)) (.returned (.tuple #[v, .int .u64 ((dt : Nat) : Int)])) wr := by
  rw [h0]
  obtain ⟨A, c', rfl, hr⟩ := own_rowO h.piv rfl (by omega)
  exact ⟨A, c', hs, gs, rfl, hr, h.own, h.bel⟩
set_option maxRecDepth 100000 in
theorem red_zero {base : Nat} {w wr : World} {g : Nat} {hs : Array Value} {gs : Nat → Nat} {n W c : Nat} {M X : Mt p} {v : Value} {r : Nat} {pv : Nat → Nat} {dt : Fin p} (hI : Inv n c M ⟨X, r, pv, dt⟩)
    (h : RedS base w wr g hs gs n W X v r pv) (hc : c ≤ W) {i : Nat} (hi : i < n - r) :
    ∃ A c', wr.cell? ⟨g, r + i, none⟩ = some (.slice A W c') ∧ W ≤ c' ∧ (0 < c → ∃ g cs, A = some ⟨g, 0, none⟩ ∧ Blk wr g 26 cs ∧ ∀ k, k < c → cs[k]? = some (.int .u64 0)) := by
  obtain ⟨A, c', e, hcc, hA⟩ := h.own.row (r + i) (by omega)
  refine ⟨A, c', by rw [h.own.head.cell]; exact e, hcc, fun h0 => ?_⟩
  obtain ⟨_, _, cs, hb, hcs⟩ := h.own.own (by omega) (r + i) (by omega)
  refine ⟨_, cs, hA (by omega), hb, fun k hk => ?_⟩
  have hx : X (r + i) k = 0 := hI.zero (r + i) k (show r ≤ r + i by omega) (by omega) hk
  rw [hcs k (by omega), hx, fzero_val]; rfl

set_option maxHeartbeats 4000000 in
set_option maxRecDepth 100000 in
theorem reduce_any (hp : Fp p) (base g cp n W cols : Nat) (hs : Array Value) (gs : Nat → Nat) (M : Mt p) (w : World) (hO : OwnM base w g hs gs n W M) (hcp : n ≤ cp) (hcols : cols ≤ W) (hn : n ≤ 4096) (hW : W ≤ 4096) (hbase : base ≤ w.heap.size) :
    Calls Try.prog 49 #[.int .u64 p, .slice (some ⟨g, 0, none⟩) n cp, .int .i64 cols] w (RedP base w g n W (run iv n cols (ini M))) := by
  obtain ⟨i0, hi, hz0, hz1, hz2⟩ := info_parts info_int
  have HP := Lib.hid hp
  have h1p := fone_val hp
  have HO := Lib.hid hO
  clear hp hO
  go_enter Try.func49, Try.ntmps49
  go_wp2
  go_loopw [6, 7, 19] (fun v d i wr => RedR base w g n W cols M v d i wr) (fun _ _ i _ => cols - (intOf i).toNat)
  case atStart =>
    refine ⟨0, hs, gs, rfl, Nat.zero_le _, ?_, HO.out, HO.out.head.lt, fun h0 i hi => ?_, ⟨rfl, .inl ⟨rfl, rfl⟩⟩, Below.refl _ _, hbase⟩
    · show _ = Value.int .u64 (((1 : Fin p) : Nat) : Int)
      rw [h1p]; rfl
    · obtain ⟨_, _, cs, hb, _⟩ := HO.out.own h0 i hi
      exact hb.lt
  case round =>
    obtain ⟨c, hs, gs, rfl, hc, rfl, hS⟩ := hrel
    have hI := run_inv (iv_spec HP.out) n c M
    have hst := run_s iv n c (ini M)
    obtain ⟨s, hs0⟩ : ∃ s, run iv n c (ini M) = s := ⟨_, rfl⟩
    rw [hs0] at hS hI hst ⊢
    obtain ⟨X, r, pv, dt⟩ := s
    dsimp only at hS ⊢
    have hrn : r ≤ n := hI.rn
    obtain ⟨Av, cv, rfl, _⟩ := own_shape hS.piv
    by_cases hlt : c < cols
    · have hR := hS.own.rows (by omega) (by omega) hcp
      by_cases ht : fnd X c (n - r) r < n
      · obtain ⟨t, ht0⟩ : ∃ t, fnd X c (n - r) r = t := ⟨_, rfl⟩
        have hsp := fnd_spec X c (n - r) r
        rw [ht0] at ht hsp
        obtain ⟨hrt, _, _, hne⟩ := hsp
        have hne := hne (by omega)
        have hr1 : r < n := by omega
        have hr2 : (r : Int) < (n : Int) := by omega
        obtain ⟨ct, cst, hct, e1, k1, g1, b1, x1⟩ := hS.at ht (by omega)
        obtain ⟨cr, csr, hcr, e2, k2, g2, b2, x2⟩ := hS.at (show r < n by omega) (by omega)
        obtain ⟨d2, hd2⟩ : ∃ d2 : Fin p, (if t = r then dt else 0 - dt) = d2 := ⟨_, rfl⟩
        have f1 := hS.own.head.frozen t
        have f2 := hS.own.head.frozen r
        have HI := Lib.hid hI
        have HST := Lib.hid hst
        have HS0 := Lib.hid hs0
        have HS := Lib.hid hS
        have HT := Lib.hid ht0
        have HNE := Lib.hid hne
        have HD := Lib.hid hd2
        have E1 := Lib.hid e1
        have E2 := Lib.hid e2
        have HR := Lib.hid hR
        clear hI hst hs0 hS ht0 hne e1 e2 hR hd2
        go_wp2_with fail
        refine (search_hit _ n cp W X r c t _ HR.out hrn (by omega) hn HT.out ht).mono ?_
        rintro e w' ⟨rfl, rfl⟩
        go_upto_if 32 with (fail)
        go_cut [7] (fun s7 wx => ∃ hs' gs', s7 = .int .u64 ((d2 : Nat) : Int) ∧ RedS base w wx g hs' gs' n W (swp r t X) (.slice Av r cv) r pv)
        case first =>
          by_cases e : t = r
          · subst e
            go_wp2_with fail
            go_meet
            exact ⟨hs, gs, by rw [← HD.out]; simp, by rw [swp_self]; exact HS.out⟩
          · have hb : ((t : Int) != (r : Int)) = true := by rw [bne_iff_ne]; omega
            have hne : r ≠ t := fun h => e h.symm
            go_wp2_with fail
            go_region
            all_goals
              go_wp2_with fail
              refine (f_neg _ HP.out dt).mono ?_
              rintro e w' ⟨rfl, rfl⟩
              go_wp2_with fail
              go_meet
              obtain ⟨hs', gs', h'⟩ := HS.out.swap (show r < n by omega) ht hne E2.out E1.out
              exact ⟨hs', gs', by rw [← HD.out, if_neg e], h'⟩
        case rest =>
          obtain ⟨hs', gs', rfl, hS'⟩ := hcut
          clear k1 k2 g1 g2 b1 b2 x1 x2 f1 f2
          obtain ⟨Y, hY⟩ : ∃ Y, swp r t X = Y := ⟨_, rfl⟩
          have hYc : X t c = Y r c := by rw [← hY]; unfold swp; rw [if_pos rfl]
          rw [hY] at hS'
          have HNE' : Hid (Y r c ≠ 0) := by have := HNE.out; rw [hYc] at this; exact this
          have HY := Lib.hid hY
          have HYC := Lib.hid hYc
          clear hY hYc HNE
          obtain ⟨c2, cs2, hc2, e2, k2, g2, b2, x2⟩ := hS'.at (show r < n by omega) (by omega)
          have k3 := x2.cell b2 (show c < W by omega) rfl
          have HS' := Lib.hid hS'
          have E3 := Lib.hid e2
          clear hS' b2 x2 e2
          go_wp2_with fail
          refine (f_mul _ HP.out d2 (Y r c)).mono ?_
          rintro e w' ⟨rfl, rfl⟩
          go_wp2_with fail
          refine (f_inv _ HP.out HNE'.out).mono ?_
          rintro e w3 ⟨rfl, hq⟩
          have hS3 := HS'.out.q hq
          have k2 := hq.cell k2
          have HS3 := Lib.hid hS3
          clear hq k3 hS3 HS' HS
          go_wp2_with fail
          obtain ⟨u, hu⟩ : ∃ u, iv (Y r c) = u := ⟨_, rfl⟩
          rw [hu]
          have HU := Lib.hid hu
          clear hu
          go_loopw [72] (fun kv wx => ∃ k : Nat, kv = .int .i64 k ∧ k ≤ W ∧ RedS base w wx g hs' gs' n W (sclk r u k Y) (.slice Av r cv) r pv) (fun kv _ => W - (intOf kv).toNat)
          case atStart => exact ⟨0, rfl, Nat.zero_le _, by rw [sclk_0]; exact HS3.out⟩
          case round =>
            clear k2
            obtain ⟨k, rfl, hk, hS4⟩ := hrel
            by_cases hkW : k < W
            · obtain ⟨c4, cs4, hc4, e4, k4, g4, b4, x4⟩ := hS4.at (show r < n by omega) (by omega)
              have k5 := x4.cell b4 hkW (sclk_at r u k Y)
              have f5 := b4.frozen k
              have HS4 := Lib.hid hS4
              have HB4 := @Lib.hid _ b4
              have HX4 := @Lib.hid _ x4
              clear hS4 b4 x4 e4
              go_wp2_with fail
              go_region_law
                (first | (go_simp; go_at_call 71; refine (f_mul _ HP.out (Y r k) u).mono ?_; rintro e w' ⟨rfl, rfl⟩))
              all_goals
                go_wp2_with fail
                exact scl_close HS4.out hkW (show r < n by omega) HB4.out HX4.out rfl
            · obtain rfl : k = W := by omega
              have hS5 := hS4.congr (M' := scl r u Y) (fun j l _ hl => sclk_all hl)
              obtain ⟨Z, hZ⟩ : ∃ Z, scl r u Y = Z := ⟨_, rfl⟩
              rw [hZ] at hS5
              have HZ := Lib.hid hZ
              have HS5 := Lib.hid hS5
              clear hS4 hZ hS5 HS3
              go_wp2_with fail
              go_loopw [94] (fun iv' wx => ∃ i : Nat, iv' = .int .i64 i ∧ i ≤ n ∧ RedS base w wx g hs' gs' n k (elmk r c i Z) (.slice Av r cv) r pv) (fun iv' _ => n - (intOf iv').toNat)
              case atStart => exact ⟨0, rfl, Nat.zero_le _, by rw [elmk_0]; exact HS5.out⟩
              case round =>
                obtain ⟨i, rfl, hin, hS6⟩ := hrel
                by_cases hi6 : i < n
                · by_cases hir : i = r
                  · have hb6 : ((i : Int) != (r : Int)) = false := by rw [bne_eq_false_iff_eq]; omega
                    have HS6 := Lib.hid hS6
                    have HIR := Lib.hid hir
                    clear hS6 hir
                    go_wp2_with fail
                    refine ⟨⟨i + 1, rfl, by omega, HS6.out.congr (fun j l _ _ => elmk_skip (.inl HIR.out) j l)⟩, ?_⟩
                    simp only [intOf]; omega
                  · have hb6 : ((i : Int) != (r : Int)) = true := by rw [bne_iff_ne]; omega
                    have hi6' : (i : Int) < (n : Int) := by omega
                    obtain ⟨c6, cs6, hc6, e6, k6, g6, b6, x6⟩ := hS6.at hi6 (by omega)
                    obtain ⟨c7, cs7, hc7, e7, k7, g7, b7, x7⟩ := hS6.at hr1 (by omega)
                    have k8 := x6.cell b6 (show c < k by omega) (congrFun (elmk_i r c i Z) c)
                    have hc8 : (c : Int) < (k : Int) := by omega
                    have HIR := Lib.hid hir
                    by_cases hz : Z i c = 0
                    · have hbz : (((Z i c : Nat) : Int) != 0) = false := by rw [bne_fin, hz]; simp
                      have HS6 := Lib.hid hS6
                      have HZ0 := Lib.hid hz
                      clear hS6 hir hz b6 x6 e6 b7 x7 e7
                      go_wp2_with fail
                      refine ⟨⟨i + 1, rfl, by omega, HS6.out.congr (fun j l _ _ => elmk_skip (.inr HZ0.out) j l)⟩, ?_⟩
                      simp only [intOf]; omega
                    · have hbz : (((Z i c : Nat) : Int) != 0) = true := by rw [bne_fin]; simpa using hz
                      have hsc := x7.sc b7 hc7 (by omega)
                      rw [elmk_r] at hsc
                      have hij : gs' r ≠ gs' i := fun e => hir (hS6.own.inj (by omega) i r hi6 hr1 e.symm)
                      rw [elmk_i] at x6
                      have HS6 := Lib.hid hS6
                      have HB6 := @Lib.hid _ b6
                      have HX6 := @Lib.hid _ x6
                      have HSC := @Lib.hid _ hsc
                      have HIJ := Lib.hid hij
                      clear hS6 hir hz b6 x6 e6 b7 x7 e7 hsc hij
                      go_wp2_with fail
                      go_still_tail 16, (by kernel_rfl)
                      change wpList _ _ _ _ _ wr.drew
                      go_wp2_with fail
                      refine (subtract_any HP.out (gs' i) k c6 c7 cs6 (Z i) (Z r) _ (Z i c) _ HB6.out.drew HX6.out (HSC.out.q (Q.refl wr).drew) (fun b o e _ => ?_) (by omega) hc6).mono ?_
                      · injection e with e; injection e with e; have := HIJ.out; omega
                      rintro e w2 ⟨rfl, hu8, cs8, hb8, hx8⟩
                      go_wp2_with fail
                      exact elm_close HS6.out (by omega) hi6 HIR.out ((Upd.refl _ _).drew.trans hu8) hb8 hx8
                · obtain rfl : i = n := by omega
                  have hS7 := hS6.congr (M' := elm r (fun i => Z i c) Z) (fun j l hj _ => elmk_all hj)
                  rw [← HZ.out] at hS7
                  have hpv := hS7.piv
                  have HS7 := Lib.hid hS7
                  have hsz := hS7.size
                  clear hS6 hS7
                  go_wp2_with (at_builtin; go_must (refine wpList_app1 rfl _ _ 32 rfl w.heap.size 3 i0 (.int .i64 0) 8 Try.underlying32 hi hz0 hz1 hz2 rfl _ r (tab (i64s pv) r) rfl hpv _ rfl rfl (by omega) (by decide) (by omega) ?_); intro A2 c2' w2 hown2 hb2 hs2)
                  refine red_close HST.out HT.out ht HD.out HY.out HYC.out HU.out HS7.out hown2 hb2 hlt rfl
      · have hnx : run iv n (c + 1) (ini M) = ⟨X, r, pv, dt⟩ := by rw [hst]; unfold stp; dsimp only; rw [if_neg ht]
        have HNX := Lib.hid hnx
        have HS := Lib.hid hS
        have HT := Lib.hid ht
        have HR := Lib.hid hR
        clear hI hst hs0 hS ht hnx hR
        go_wp2_with fail
        refine (search_miss _ n cp W X r c _ HR.out hrn (by omega) hn HT.out).mono ?_
        rintro e w' ⟨rfl, rfl⟩
        go_wp2_with fail
        refine ⟨⟨c + 1, hs, gs, rfl, by omega, by rw [HNX.out], by rw [HNX.out]; exact HS.out⟩, ?_⟩
        simp only [intOf]; omega
    · obtain rfl : c = cols := by omega
      have HI := Lib.hid hI
      have HS0 := Lib.hid hs0
      have HS := Lib.hid hS
      clear hI hst hs0 hS
      go_wp2_with fail
      · have h0 : n - r = 0 := by omega
        rw [h0]
        go_loop [138] (fun iv' => iv' = .int .i64 0) (fun _ => 0)
        case atStart => rfl
        case round =>
          subst hrel
          go_wp2_with fail
          go_ret2
          exact red_end HS0.out (by omega) HS.out
      · have hcp2 : r < cp := by omega
        go_loop [138] (fun iv' => ∃ i : Nat, iv' = .int .i64 i ∧ i ≤ n - r) (fun iv' => n - (intOf iv').toNat)
        case atStart => exact ⟨0, rfl, Nat.zero_le _⟩
        case round =>
          obtain ⟨i, rfl, hin⟩ := hrel
          by_cases hi : i < n - r
          · obtain ⟨A3, c3, k3, hc3, hz3⟩ := red_zero HI.out HS.out hcols (show i < n - r from hi)
            have hi2 : (i : Int) < ((n - r : Nat) : Int) := by omega
            have hcc : c ≤ c3 := by omega
            have HZ3 := @Lib.hid _ hz3
            clear hz3
            go_wp2_with (with_reducible refine wpList_clear0 rfl _ rfl rfl A3 c c3 rfl HZ3.out ?_)
            refine ⟨⟨i + 1, rfl, by omega⟩, ?_⟩
            simp only [intOf]; omega
          · go_wp2_with fail
            go_ret2
            exact red_end HS0.out (by omega) HS.out
end
end Go.Proofs.Ytcjpjnneimjfiaa
