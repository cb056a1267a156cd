/-
  torsionref07.Reduce: the walk.
-/
import Derived.Test.YtcjpjnneimjfiaaRfL
import Derived.Test.YtcjpjnneimjfiaaMmI
import Derived.Test.YtcjpjnneimjfiaaDivA
import Derived.Test.YtcjpjnneimjfiaaApI
namespace Go.Proofs.Ytcjpjnneimjfiaa
open Go.RowKit
section
variable {p : Nat} [NeZero p]
set_option maxRecDepth 100000 in
theorem zf_num (z : Int) : (((zf z : Fin p) : Nat) : Int) = ((redN p z : Nat) : Int) := rfl
set_option maxHeartbeats 2000000 in
set_option maxRecDepth 100000 in
theorem reduce7_any (hp : Fp p) (v : Value) (n W : Nat) (Z : Nat → Nat → Int) (w : World) (h : MatV w v n W Z) (hn : n ≤ 1024) (hW : W ≤ 1024) (hf : ∀ i k, i < n → k < W → Fits 2 (Z i k)) :
    Calls Try.prog 45 #[.int .u64 p, v] w (ModQ w n W (fun i k => (zf (Z i k) : Fin p))) := by
  obtain ⟨i0, hi, hz0, hz1, hz2⟩ := info_parts info_row
  obtain ⟨j0, hj, hy0, hy1, hy2⟩ := info_parts info_u64
  obtain ⟨A, c, rfl, hR⟩ := h
  obtain ⟨w1, hw1⟩ : ∃ w1, (w.alloc (.cells #[.int .i64 n, .int .i64 W, .slice A n c] 68)).alloc (.cells #[.int .u64 0, .int .i64 0, .slice none 0 0] 29) = w1 := ⟨_, rfl⟩
  have hq1 : Q w w1 := hw1 ▸ ((Q.refl w).alloc _).alloc _
  have hB : Blk w1 w.heap.size 68 #[.int .i64 n, .int .i64 W, .slice A n c] := hw1 ▸ (Blk.new w _ _).alloc _
  have hBr : Blk w1 (w.heap.size + 1) 29 #[.int .u64 0, .int .i64 0, .slice none 0 0] := hw1 ▸ Blk.new' _ _ _ (by simp)
  obtain ⟨b0, b1, b2⟩ := hB.three'
  obtain ⟨M, hM⟩ : ∃ M : Mt p, (fun i k => zf (Z i k)) = M := ⟨_, rfl⟩
  have HMM := Lib.hid hM
  have HP := Lib.hid hp
  have HFT := @Lib.hid _ hf
  have HR := Lib.hid (hR.q hq1)
  have HB := Lib.hid hB
  have HBR := Lib.hid hBr
  have HQ1 := Lib.hid hq1
  clear hR hB hBr hq1 hM hp hf
  rw [HMM.out]
  go_enter Try.func45, Try.ntmps45
  go_wp2_with fail
  try rw [hw1]
  clear hw1 b0 b1 b2
  go_loopw [6] (fun iv' wx => ∃ (i : Nat) (A2 : Option Addr) (c2 : Nat) (ρ : Nat → Value), iv' = .int .i64 i ∧ i ≤ n ∧ Bld w1 wx w1.heap.size p W i A2 c2 W ρ M) (fun iv' _ => n - (intOf iv').toNat)
  case atStart => exact ⟨0, none, 0, fun _ => .slice none 0 0, rfl, Nat.zero_le _, Bld.start (Blk.new _ _ _) ((Q.refl _).alloc _) (Nat.le_refl _)⟩
  case round =>
    obtain ⟨i, A2, c2, ρ, rfl, hin, hB⟩ := hrel
    obtain ⟨W5, rfl⟩ : ∃ W5 : World, W5 = wr := ⟨_, rfl⟩
    obtain ⟨b0, b1, b2⟩ := (HB.out.q hB.q).three'
    have HBL := Lib.hid hB
    clear hB
    by_cases hil : i < n
    · have hi5 : (i : Int) < (n : Int) := by omega
      go_wp2_with fail
      clear b0 b1 b2
      go_loopw [7, 8] (fun v7 iv' wx => ∃ (k : Nat), iv' = .int .i64 k ∧ k ≤ W ∧ wx.ownsRow W5.heap.size 26 1 v7 k (tab (u64 (M i)) k) ∧ Q W5 wx) (fun _ iv' _ => W - (intOf iv').toNat)
      case atStart => exact ⟨0, rfl, Nat.zero_le _, own_new _ _ _ _ rfl (Nat.le_refl _), (Q.refl W5).alloc _⟩
      case round =>
        obtain ⟨k, rfl, hkW, hO, hq⟩ := hrel
        obtain ⟨W7, rfl⟩ : ∃ W7 : World, W7 = wr := ⟨_, rfl⟩
        obtain ⟨A8, c8, rfl, _⟩ := own_shape hO
        have HO := Lib.hid hO
        have HQ7 := Lib.hid hq
        clear hO hq
        obtain ⟨b0, b1, b2⟩ := ((HB.out.q HBL.out.q).q HQ7.out).three'
        obtain ⟨b, o, r, rfl, hbc, hc, hS⟩ := ((HR.out.q HBL.out.q).q HQ7.out).at hil
        obtain ⟨Ar, cr, rfl, hS⟩ := hS
        by_cases hkl : k < W
        · have hk5 : (k : Int) < (W : Int) := by omega
          obtain ⟨bb, oo, ng, BI, dI, lI, rfl, _, he0, he1, hIA⟩ := hS.at hkl
          have hcr := hS.1
          have HIV := Lib.hid (show IntV W7 (.agg #[.bool ng, .slice BI lI.length dI]) (Z i k) from ⟨ng, BI, dI, lI, rfl, hIA⟩)
          clear hS hIA
          have hp31 := HP.out.2
          have hp2 := HP.out.two
          have hMe : (((redN p (Z i k) : Nat)) : Int) = (((M i k : Fin p) : Nat) : Int) := by rw [← HMM.out]; rfl
          have HME := Lib.hid hMe
          have hl5 := HQ7.out.size
          clear hMe
          go_wp2_with fail
          refine (rreduce_any p _ (Z i k) 2 _ (by omega) (by omega) HIV.out (by omega) (by omega) (HFT.out i k hil hkl)).mono ?_
          rintro e w8 ⟨rfl, hq8⟩
          rw [HME.out]
          have HQ8 := Lib.hid hq8
          have hl8 := hq8.size
          clear hq8
          go_wp2_with (at_builtin; go_must (refine wpList_app1g rfl _ _ 44 rfl W5.heap.size 26 j0 (.int .u64 0) 8 Try.underlying44 hj hy0 hy1 hy2 rfl _ k (tab (u64 (M i)) k) rfl (ownsRow_q HO.out HQ8.out) (.int .u64 (((M i k : Fin p) : Nat) : Int)) rfl rfl (by omega) (by decide) (by omega) ?_); intro A9 c9 w9 hown9 hg9)
          have hq9 : Q W5 w9 := grown_q ((HQ7.out.trans HQ8.out).alloc _) hg9 (fun g e => (own_lt HO.out g e).1)
          refine ⟨⟨k + 1, rfl, by omega, by rw [← tab_snoc]; exact hown9, hq9⟩, ?_⟩
          simp only [intOf]; omega
        · obtain rfl : k = W := by omega
          clear hS
          obtain ⟨k0, k1, k2⟩ := (HBL.out.box.q HQ7.out).three'
          have ka := fun o => ((Q.refl W7).alloc o).cell k2
          have hlb := HBL.out.lt
          have hl5 := HQ7.out.size
          obtain ⟨_, _, e8, hR8⟩ := own_rowO HO.out rfl (by omega)
          injection e8 with e8 _ e9
          subst e8 e9
          have HR8 := Lib.hid hR8
          clear hR8
          go_wp2_with (at_builtin; go_must (refine wpList_app1g rfl _ _ 27 rfl (w1.heap.size + 1) 44 i0 (.slice none 0 0) 24 Try.underlying27 hi hz0 hz1 hz2 rfl _ i (tab ρ i) rfl (ownsRow_q HBL.out.own HQ7.out) (.slice A8 k c8) rfl rfl (by omega) (by decide) (by omega) ?_); intro A9 c9 w9 hown9 hg9; have hb9 := HBL.out.grown (HQ7.out.alloc _) hg9; have k2c := hb9.cell 2; have f2c := hb9.frozen 2; have hl9 := hb9.lt)
          exact bld_round HBL.out (HQ7.out.alloc _) ((HR8.out.mono (by omega)).q ((Q.refl W7).alloc _)) hown9 hg9 hb9 hil
    · obtain rfl : n = i := by omega
      have hB7 := HBR.out.q HBL.out.q
      obtain ⟨e0, e1, e2⟩ := hB7.three'
      have f0 := hB7.frozen 0
      have f1 := hB7.frozen 1
      have f2 := hB7.frozen 2
      have hl7 := hB7.lt
      obtain ⟨k0, k1, k2⟩ := HBL.out.box.three'
      clear hB7
      go_wp2_with fail
      refine bodyPost_ret (v := .agg #[.int .u64 p, .int .i64 W, .slice A2 n c2]) (by simp [results, Try.results45, go_sem, e0, e1, e2]) rfl ?_
      exact mod_end0 (((Upd.refl _ _).setCell _ _).setCell _ _ |>.setCell _ _) (HBL.out.rowsO (by omega)) HQ1.out HBL.out.q HBR.out.lt (by omega) (by omega)
end
end Go.Proofs.Ytcjpjnneimjfiaa
