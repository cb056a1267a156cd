/-
  Of and Small of the reference.
-/
import Derived.Test.YtcjpjnneimjfiaaInt2
namespace Go.Proofs.Ytcjpjnneimjfiaa
open Go.RowKit

set_option maxRecDepth 100000 in
theorem lm_two {w : World} {k t x y : Nat} {X Y : Int} (h : Blk w k t #[.int .u32 X, .int .u32 Y]) (hX : X = (x : Int)) (hY : Y = (y : Int)) (hx : x < 4294967296) (hy : y < 4294967296) : Lm w (some ⟨k, 0, none⟩) 2 [x, y] := by
  subst hX hY
  refine ⟨by simp, by simp, by simp [hx, hy], fun _ => ⟨k, 0, rfl, h.lt, fun i hi => ?_⟩⟩
  rw [h.cell]
  match i, hi with
  | 0, _ => rfl
  | 1, _ => rfl
set_option maxRecDepth 100000 in
theorem lm_one {w : World} {k t x : Nat} {X : Int} (h : Blk w k t #[.int .u32 X]) (hX : X = (x : Int)) (hx : x < 4294967296) : Lm w (some ⟨k, 0, none⟩) 1 [x] := by
  subst hX
  refine ⟨by simp, by simp, by simp [hx], fun _ => ⟨k, 0, rfl, h.lt, fun i hi => ?_⟩⟩
  rw [h.cell]
  match i, hi with
  | 0, _ => rfl

set_option maxHeartbeats 400000 in
set_option maxRecDepth 100000 in
theorem rof_any (n : Int) (w : World) (h1 : -2 ^ 63 ≤ n) (h2 : n < 2 ^ 63) : Calls Try.prog 47 #[.int .i64 n] w (RetV w n) := by
  by_cases h0 : n < 0
  · go_enter Try.func47, Try.ntmps47
    go_wp2_with fail
    have e0 : IntKind.u64.wrap (-IntKind.u64.wrap n) = (((-n).toNat : Nat) : Int) := by rw [IntKind.wrap_u64, IntKind.wrap_u64]; omega
    rw [e0]
    refine (made_v (some ⟨w.heap.size + 1, 0, none⟩) 2 [(-n).toNat % 4294967296, (-n).toNat / 4294967296] true _ (lm_two (Blk.new' _ _ _ (by simp)) (by omega) (by omega) (by omega) (by omega)) (by simp)).mono ?_
    rintro e w2 ⟨v2, rfl, ⟨neg2, A2, c2, l2, rfl, hI2⟩, hq2⟩
    obtain ⟨g1, g2, hq⟩ := boxes2 hq2
    obtain ⟨k8, k9, f8, f9⟩ := g1.two
    have hz := g1.lt
    clear e0
    go_wp2_with fail
    refine bodyPost_ret (v := .agg #[.bool neg2, .slice A2 l2.length c2]) (by simp [results, Try.results47, go_sem, k8, k9]) rfl ?_
    have hr := retV_end g1 hq (by omega) hI2 rfl
    rw [show sgn true (val [(-n).toNat % 4294967296, (-n).toNat / 4294967296]) = n from by simp only [val, sgn, if_true]; omega] at hr
    exact hr
  · go_enter Try.func47, Try.ntmps47
    go_wp2_with fail
    refine (made_v (some ⟨w.heap.size + 1, 0, none⟩) 2 [n.toNat % 4294967296, n.toNat / 4294967296] false _ (lm_two (Blk.new' _ _ _ (by simp)) (by omega) (by omega) (by omega) (by omega)) (by simp)).mono ?_
    rintro e w2 ⟨v2, rfl, ⟨neg2, A2, c2, l2, rfl, hI2⟩, hq2⟩
    obtain ⟨g1, g2, hq⟩ := boxes2 hq2
    obtain ⟨k8, k9, f8, f9⟩ := g1.two
    have hz := g1.lt
    go_wp2_with fail
    refine bodyPost_ret (v := .agg #[.bool neg2, .slice A2 l2.length c2]) (by simp [results, Try.results47, go_sem, k8, k9]) rfl ?_
    have hr := retV_end g1 hq (by omega) hI2 rfl
    rw [show sgn false (val [n.toNat % 4294967296, n.toNat / 4294967296]) = n from by simp [val, sgn]; omega] at hr
    exact hr

set_option maxRecDepth 100000 in
theorem fits_one (n : Int) (h1 : -4294967296 < n) (h2 : n < 4294967296) : Fits 1 n := by unfold Fits; omega
set_option maxRecDepth 100000 in
theorem fits_two (n : Int) (h1 : -2 ^ 63 ≤ n) (h2 : n < 2 ^ 63) : Fits 2 n := by unfold Fits; omega

def SmallP (w : World) (z : Int) (e : Ending) (w' : World) : Prop := e = .returned (.tuple #[.int .i64 z, .bool true]) ∧ Q w w'
set_option maxHeartbeats 1000000 in
set_option maxRecDepth 100000 in
/-- Small, of an integer of 64 bits that is not negative. -/
theorem rsmall_any (va : Value) (a : Int) (w : World) (ha : IntV w va a) (h1 : 0 ≤ a) (h2 : a < 2 ^ 63) : Calls Try.prog 69 #[va] w (SmallP w a) := by
  obtain ⟨na, A, c, la, rfl, hA⟩ := ha
  have hl := hA.len (fits_two a (by omega) h2)
  have habs := hA.abs
  have hva : val la = a.toNat := by omega
  have Hva := Lib.hid hva
  clear hva habs
  have hna : na = false := by
    cases na with
    | false => rfl
    | true =>
      have h3 := hA.2.2.1 rfl
      have h4 := hA.val_pos (List.length_pos_iff.2 h3)
      have := hA.2.2.2
      simp only [sgn, if_true] at this
      omega
  subst hna
  have hsz : decide ((2 : Int) < (la.length : Int)) = false := by simp; omega
  go_enter Try.func69, Try.ntmps69
  go_wp2_with fail
  go_loop [4, 5] (fun mv iv => ∃ k m : Nat, k ≤ la.length ∧ iv = .int .i64 ((k : Int) - 1) ∧ mv = .int .u64 m ∧ m = val (la.drop k)) (fun _ iv => (intOf iv + 1).toNat)
  case atStart => exact ⟨la.length, 0, Nat.le_refl _, rfl, rfl, by rw [List.drop_length]; rfl⟩
  case round =>
    obtain ⟨k, m, hk, rfl, rfl, hm⟩ := hrel
    have Hm := Lib.hid hm
    clear hm
    cases k with
    | zero =>
      have hm2 : m = a.toNat := by rw [Hm.out, List.drop_zero, Hva.out]
      have hm3 : m ≤ 9223372036854775807 := by omega
      have hm4 : decide ((m : Int) ≤ 9223372036854775807) = true := by simp; omega
      clear hm2
      go_wp2_with fail
      go_ret2
      have hm2 : m = a.toNat := by rw [Hm.out, List.drop_zero, Hva.out]
      refine ⟨?_, (by repeat (first | exact Q.refl _ | assumption | apply Q.drew | apply Q.drewN | apply Q.alloc))⟩
      have e : (m : Int) = a := by omega
      show Ending.returned (.tuple #[.int .i64 (m : Int), .bool true]) = _
      rw [e]
    | succ k =>
      obtain ⟨b, o, x, rfl, hb, hx, hx2, hc⟩ := (hA.1).at (k := k) (by omega)
      have hd := val_drop_lt hA.1.lt (k + 1)
      rw [← Hm.out] at hd
      have hm2 : m < 4294967296 := Nat.lt_of_lt_of_le hd (Nat.le_trans (Nat.pow_le_pow_right (by decide) (by omega : la.length - (k + 1) ≤ 1)) (by decide))
      have Hx := Lib.hid hx
      clear hx hd
      rw [show ((k + 1 : Nat) : Int) - 1 = (k : Int) from by omega]
      go_wp2_with fail
      go_round
      case rel => exact ⟨k, m * 4294967296 + x, by omega, rfl, rfl, by rw [val_drop Hx.out, ← Hm.out]; omega⟩
      case measure => simp [intOf]
end Go.Proofs.Ytcjpjnneimjfiaa
