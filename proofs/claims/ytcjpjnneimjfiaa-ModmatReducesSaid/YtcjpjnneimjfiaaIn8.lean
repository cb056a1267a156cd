/-
  torsionlaw07.integers: the walk.
-/
import Derived.Test.YtcjpjnneimjfiaaApI
namespace Go.Proofs.Ytcjpjnneimjfiaa
open Go.RowKit
/-- Rows of numbers of eight bits. -/
def i8s (Z : Nat → Int) : Nat → Value := fun k => .int .i8 (Z k)
def Rows8 (w : World) (A : Option Addr) (n c : Nat) (len : Nat → Nat) (Z : Nat → Nat → Int) : Prop := ∃ ρ, Sc w A n c ρ ∧ ∀ i, i < n → ∃ A' c', ρ i = .slice A' (len i) c' ∧ Sc w A' (len i) c' (i8s (Z i)) ∧ ∀ k, k < len i → -128 ≤ Z i k ∧ Z i k ≤ 127
set_option maxRecDepth 100000 in
theorem Rows8.q {w w' : World} {A : Option Addr} {n c : Nat} {len : Nat → Nat} {Z : Nat → Nat → Int} (h : Rows8 w A n c len Z) (hq : Q w w') : Rows8 w' A n c len Z := by
  obtain ⟨ρ, h1, h2⟩ := h
  exact ⟨ρ, h1.q hq, fun i hi => by
    obtain ⟨A', c', e, h3, h4⟩ := h2 i hi
    exact ⟨A', c', e, h3.q hq, h4⟩⟩
def zI (n : Nat) (len : Nat → Nat) (Z : Nat → Nat → Int) (i k : Nat) : Int := if i < n then (if k < len i then (Z i k).tmod 10 else 0) else 0
set_option maxRecDepth 100000 in
theorem tmod10 (z : Int) : -9 ≤ z.tmod 10 ∧ z.tmod 10 ≤ 9 := by
  rcases Int.le_total 0 z with h | h
  · rw [Int.tmod_eq_emod_of_nonneg h]; omega
  · have := Int.neg_tmod (-z) 10
    rw [Int.neg_neg] at this
    rw [this, Int.tmod_eq_emod_of_nonneg (by omega)]; omega
set_option maxRecDepth 100000 in
theorem zI_le (n : Nat) (len : Nat → Nat) (Z : Nat → Nat → Int) (i k : Nat) : -9 ≤ zI n len Z i k ∧ zI n len Z i k ≤ 9 := by
  unfold zI
  split
  · split
    · exact tmod10 _
    · omega
  · omega
set_option maxRecDepth 100000 in
theorem mat_end {w w1 wr : World} {K P C i W c B : Nat} {A : Option Addr} {ρ : Nat → Value} {Z : Nat → Nat → Int} {x0 y0 : Int} {A0 : Option Addr} {n0 c0 : Nat} (h : BldI w1 wr K P C i A c W ρ Z) (hB : Blk wr B 68 #[.int .i64 x0, .int .i64 y0, .slice A0 n0 c0]) (hK : B < K) (hi : i ≤ 4096) (hq : Q w w1) (hw : w.heap.size ≤ B) (hP : P = i) (hC : C = W) :
    MatQ w i W Z (.returned (.agg #[.int .i64 (P : Int), .int .i64 (C : Int), .slice A i c])) (((wr.setCell ⟨B, 0, none⟩ (.int .i64 (P : Int))).setCell ⟨B, 1, none⟩ (.int .i64 (C : Int))).setCell ⟨B, 2, none⟩ (.slice A i c)) := by
  subst hP hC
  have hu := (((Upd.refl B wr).setCell 0 (.int .i64 (P : Int))).setCell 1 (.int .i64 (C : Int))).setCell 2 (.slice A P c)
  refine ⟨_, rfl, ⟨A, c, rfl, ρ, ?_, fun k hk => ?_⟩, Below.trans (hq.trans h.q) (hu.below hw)⟩
  · obtain ⟨A', c', e, hr⟩ := own_rowO h.own rfl (by omega)
    injection e with e1 _ e2
    subst e1 e2
    exact (hr.away hu (by omega)).sc
  · obtain ⟨A', c', e, hr⟩ := h.row k hk
    refine ⟨A', c', e, RowI.sli (base := K + 1) ?_⟩
    exact ((hr.store hB (by decide) (mat_no32 _ _ _ _ _)).store (hB.set 0 (.int .i64 (P : Int))) (by decide) (mat_no32 _ _ _ _ _)).store ((hB.set 0 (.int .i64 (P : Int))).set 1 (.int .i64 (C : Int))) (by decide) (mat_no32 _ _ _ _ _)
set_option maxHeartbeats 2000000 in
set_option maxRecDepth 100000 in
theorem integers_any (A : Option Addr) (n c : Nat) (len : Nat → Nat) (Z : Nat → Nat → Int) (w : World) (h : Rows8 w A n c len Z) :
    Calls Try.prog 38 #[.slice A n c, .int .i64 2] w (MatQ w 2 2 (zI n len Z)) := by
  obtain ⟨w1, hw1⟩ : ∃ w1, w.alloc (.cells #[.int .i64 0, .int .i64 0, .slice none 0 0] 68) = w1 := ⟨_, rfl⟩
  have hq1 : Q w w1 := hw1 ▸ (Q.refl w).alloc _
  have hBr : Blk w1 w.heap.size 68 #[.int .i64 0, .int .i64 0, .slice none 0 0] := hw1 ▸ Blk.new w _ _
  have HR := Lib.hid (h.q hq1)
  have HBR := Lib.hid hBr
  have HQ1 := Lib.hid hq1
  have hlw := hBr.lt
  obtain ⟨Y, hY⟩ : ∃ Y, zI n len Z = Y := ⟨_, rfl⟩
  have HYY := Lib.hid hY
  clear h hBr hq1 hY
  go_enter Try.func38, Try.ntmps38
  go_wp2_with fail
  try rw [hw1]
  clear hw1
  go_loopw [6] (fun iv' wx => ∃ (i : Nat) (A2 : Option Addr) (c2 : Nat) (ρ : Nat → Value), iv' = .int .i64 i ∧ i ≤ 2 ∧ BldI w1 wx w1.heap.size 2 2 i A2 c2 2 ρ Y) (fun iv' _ => 2 - (intOf iv').toNat)
  case atStart => exact ⟨0, none, 0, fun _ => .slice none 0 0, rfl, by omega, BldI.start (Blk.new _ _ _) ((Q.refl _).alloc _) (Nat.le_refl _)⟩
  case round =>
    obtain ⟨i, A2, c2, ρ, rfl, hi2, hB⟩ := hrel
    obtain ⟨W5, rfl⟩ : ∃ W5 : World, W5 = wr := ⟨_, rfl⟩
    have HBL := Lib.hid hB
    clear hB
    by_cases hil : i < 2
    · have hi5 : (i : Int) < 2 := by omega
      go_wp2_with fail
      go_loopw [7, 8] (fun v7 iv' wx => ∃ (k : Nat) (A3 : Option Addr) (c3 : Nat) (E : Nat → Elt), v7 = .slice A3 k c3 ∧ iv' = .int .i64 k ∧ k ≤ 2 ∧ OwnI W5.heap.size wx A3 k c3 E (Y i) ∧ Q W5 wx) (fun _ iv' _ => 2 - (intOf iv').toNat)
      case atStart => exact ⟨0, _, _, fun _ => (false, none, 0, []), rfl, rfl, by omega, OwnI.start W5 _ _, (Q.refl W5).alloc _⟩
      case round =>
        obtain ⟨k, A3, c3, E, rfl, rfl, hk2, hO, hq⟩ := hrel
        obtain ⟨W7, rfl⟩ : ∃ W7 : World, W7 = wr := ⟨_, rfl⟩
        have HO := Lib.hid hO
        have HQ7 := Lib.hid hq
        clear hO hq
        by_cases hkl : k < 2
        · have hk5 : (k : Int) < 2 := by omega
          have HKL := Lib.hid hkl
          have hr8 := HR.out.q (HBL.out.q.trans HQ7.out)
          have hYe : zI n len Z i k = Y i k := by rw [HYY.out]
          have hYb : -9 ≤ Y i k ∧ Y i k ≤ 9 := by rw [← hYe]; exact zI_le n len Z i k
          obtain ⟨cv, hcv⟩ : ∃ cv, Y i k = cv := ⟨_, rfl⟩
          have HCV := Lib.hid hcv
          rw [hcv] at hYe hYb
          have HYB := Lib.hid hYb
          have hl5 := HQ7.out.size
          clear hcv hYb
          rcases Nat.lt_or_ge i n with h1 | h1
          case' inl =>
            have hd1 : (i : Int) < (n : Int) := by omega
            obtain ⟨ρ8, hS8, h8⟩ := hr8
            obtain ⟨A8, c8, e8, hS9, hb9⟩ := h8 i h1
            obtain ⟨b, o, rfl, hbc, hc⟩ := hS8.at h1
            rw [e8] at hc
            have hl9 := hS9.len
            by_cases h2 : k < len i
            case' pos =>
              have hd2 : (k : Int) < (len i : Int) := by omega
              obtain ⟨bb, oo, rfl, _, hel⟩ := hS9.at h2
              have hel2 : W7.cell? ⟨bb, oo + k, none⟩ = some (.int .i8 (Z i k)) := hel
              have hzb := hb9 k h2
              have hz1 : (Z i k).tmod 10 = cv := by rw [← hYe]; unfold zI; rw [if_pos h1, if_pos h2]
              have hz2 : IntKind.i64.wrap (Z i k) = Z i k := IntWalk.i64_in _ (by omega)
              clear hel hzb hS9 hb9 hS8 h8 e8 h1 h2 hYe
            case' neg =>
              have hd2 : decide ((k : Int) < (len i : Int)) = false := by rw [decide_eq_false_iff_not]; omega
              have hd3 : ¬ ((k : Int) < (len i : Int)) := by omega
              obtain rfl : cv = 0 := by rw [← hYe]; unfold zI; rw [if_pos h1, if_neg h2]
              clear hS9 hb9 hS8 h8 e8 h1 h2 hYe
          case' inr =>
            have hd1 : decide ((i : Int) < (n : Int)) = false := by rw [decide_eq_false_iff_not]; omega
            have hd2 : ¬ ((i : Int) < (n : Int)) := by omega
            obtain rfl : cv = 0 := by rw [← hYe]; unfold zI; rw [if_neg (by omega)]
            clear hr8 h1 hYe
          all_goals
            go_wp2_with fail
            refine (rof_any _ _ (by have := HYB.out; omega) (by have := HYB.out; omega)).mono ?_
            rintro e w2 ⟨v2, rfl, ⟨ng, AI, cI, lI, rfl, hI⟩, hq2⟩
            have HI := Lib.hid hI
            have HQ2 := Lib.hid hq2
            clear hI hq2
            go_wp2_with (at_builtin; go_must (refine wpList_appI rfl _ _ rfl rfl HO.out (HQ2.out.alloc _) (y := (ng, AI, cI, lI)) (by rw [HCV.out]; exact HI.out.q ((Q.refl w2).alloc _)) w2.heap.size rfl (Blk.new w2 _ _) (by omega) hl5 ?_); intro A9 c9 w9 E9 hO9 hg9)
            have hq9 : Q W5 w9 := grown_q ((HQ7.out.trans HQ2.out).alloc _) hg9 (fun g e => (own_lt HO.out.own g e).1)
            refine ⟨⟨k + 1, A9, c9, E9, rfl, rfl, by omega, hO9, hq9⟩, ?_⟩
            simp only [intOf]; omega
        · obtain rfl : k = 2 := by omega
          obtain ⟨k0, k1, k2⟩ := (HBL.out.box.q HQ7.out).three'
          have kf := (HBL.out.box.q HQ7.out).frozen 2
          have kl := (HBL.out.box.q HQ7.out).lt
          have hlt := HBL.out.box.lt
          have hrow := ((HO.out.row (by omega)).mono (show w1.heap.size + 1 ≤ W5.heap.size by omega)).q ((Q.refl W7).alloc (.cells #[.slice A3 2 c3] 71))
          have ka := fun o => ((Q.refl W7).alloc o).cell k2
          have HRW := Lib.hid hrow
          clear hrow
          go_wp2_with (at_builtin; go_must (refine wpList_appR rfl _ _ rfl HBL.out rfl (HQ7.out.alloc _) HRW.out W7.heap.size rfl (Blk.new W7 _ _) (by omega) ?_); intro A9 c9 w9 hb9 hB9; have k2c := hb9.cell 2; have f2c := hb9.frozen 2; have hl9 := hb9.lt)
          obtain ⟨ρ', hB9⟩ := hB9
          refine ⟨⟨i + 1, A9, c9, ρ', rfl, by omega, hB9⟩, ?_⟩
          simp only [intOf]; omega
    · obtain rfl : i = 2 := by omega
      have hB7 := HBR.out.q HBL.out.q
      obtain ⟨e0, e1, e2⟩ := hB7.three'
      have f0 := hB7.frozen 0
      have f1 := hB7.frozen 1
      have f2 := hB7.frozen 2
      have hl7 := hB7.lt
      obtain ⟨k0, k1, k2⟩ := HBL.out.box.three'
      have HB7 := Lib.hid hB7
      clear hB7
      go_wp2_with fail
      refine bodyPost_ret (v := .agg #[.int .i64 2, .int .i64 2, .slice A2 2 c2]) (by simp [results, Try.results38, go_sem, e0, e1, e2]) rfl ?_
      rw [HYY.out]
      exact mat_end HBL.out HB7.out hlw (by omega) HQ1.out (Nat.le_refl _) rfl rfl
end Go.Proofs.Ytcjpjnneimjfiaa
