/-
  sanity, and Same on values.
-/
import Derived.Test.YtlipdmbdohpblaaDoorRefB
import Derived.Test.YtlipdmbdohpblaaDoorNorm
import Derived.Test.YtlipdmbdohpblaaDoorReduce
namespace Go.Proofs.YtlipdmbdohpblaaDoor
open Go.RowKit

theorem lessB_v {w w2 : World} {na nb : Bool} {A B : Option Addr} {c d : Nat} {la lb : List Nat} {a b : Int} (hA : IntA w na A c la a) (hB : IntA w2 nb B d lb b) : sameB na nb la lb = decide (a = b) := by
  obtain ⟨lA, cA, nA, rfl⟩ := hA
  obtain ⟨lB, cB, nB, rfl⟩ := hB
  unfold sameB
  rw [lessB_canon lA.2.2.1 lB.2.2.1 cA cB, lessB_canon lB.2.2.1 lA.2.2.1 cB cA]
  have zA := val_eq_zero cA
  have zB := val_eq_zero cB
  rw [Bool.eq_iff_iff]
  simp only [Bool.and_eq_true, beq_iff_eq, Bool.not_eq_true', decide_eq_false_iff_not, decide_eq_true_eq]
  constructor
  · rintro ⟨rfl, h1, h2⟩
    rw [show val la = val lb from by omega]
  · intro h
    have habs := congrArg Int.natAbs h
    rw [natAbs_sgn, natAbs_sgn] at habs
    refine ⟨?_, by omega, by omega⟩
    cases na <;> cases nb
    · rfl
    · exfalso
      have h0 : val lb ≠ 0 := fun e => nB rfl (zB e)
      simp [sgn] at h; omega
    · exfalso
      have h0 : val la ≠ 0 := fun e => nA rfl (zA e)
      simp [sgn] at h; omega
    · rfl
def BoolQ (w : World) (b : Bool) (e : Ending) (w' : World) : Prop := e = .returned (.bool b) ∧ Q w w'
theorem same_v (va vb : Value) (a b : Int) (w : World) (ha : IntV w va a) (hb : IntV w vb b) (r : Bool) (hr : decide (a = b) = r) : Calls Tryd.prog 34 #[va, vb] w (BoolQ w r) := by
  obtain ⟨na, A, c, la, rfl, hA⟩ := ha
  obtain ⟨nb, B, d, lb, rfl, hB⟩ := hb
  refine (same_any A B c d na nb la lb w hA.1 hB.1).mono ?_
  rintro e w' ⟨rfl, hq⟩
  exact ⟨by rw [lessB_v hA hB, hr], hq⟩

theorem inv73 (w : World) : Calls Tryd.prog 26 #[.int .u64 7, .int .u64 3] w fun e w' => e = .returned (.tuple #[.int .u64 5, .int .i64 0]) ∧ Q w w' := by
  refine (mod_inv 7 3 w (by decide) (by decide) (by decide) (by decide) (by decide)).mono ?_
  rintro e w' ⟨⟨s, rfl, h1, h2⟩, hq⟩
  obtain rfl : s = 5 := by omega
  exact ⟨rfl, hq⟩
theorem next_c (n r : Nat) (w : World) (hn : n ≤ 4294967296) (hT : Tab w) (h : nextN n = r) : Calls Tryd.prog 11 #[.int .u64 n] w (NumQ w r) := h ▸ next_any n w hn hT
theorem before_c (n r : Nat) (w : World) (hn : n < 2 ^ 64) (hT : Tab w) (h : beforeN n = r) : Calls Tryd.prog 13 #[.int .u64 n] w (NumQ w r) := h ▸ before_any n w hn hT
theorem prime_c (n : Nat) (b : Bool) (w : World) (hn : n < 2 ^ 64) (hT : Tab w) (h : primeB n = b) : Calls Tryd.prog 9 #[.int .u64 n] w (BoolQ w b) := by
  refine (prime_any n w hn hT).mono ?_
  rintro e w' ⟨rfl, m, rfl⟩
  exact ⟨by rw [h], (Q.refl w).drewN m⟩
theorem reduce_c (p r : Nat) (va : Value) (a : Int) (w : World) (hp : 0 < p) (hp2 : p ≤ 4294967296) (ha : IntV w va a) (h : redN p a = r) : Calls Tryd.prog 17 #[.int .u64 p, va] w (RetQ w r) := h ▸ mod_reduce p va a w hp hp2 ha
theorem symm_c (p a : Nat) (z : Int) (w : World) (hp : p ≤ 4294967296) (ha : a < p) (h : symm p a = z) : Calls Tryd.prog 19 #[.int .u64 p, .int .u64 a] w (RetV w z) := h ▸ mod_symmetric p a w hp ha
def SaneP (w : World) (e : Ending) (w' : World) : Prop := e = .returned (.bool true) ∧ Q w w'

set_option maxHeartbeats 1000000 in
theorem sane_any (w : World) (hT : Tab w) : Calls Tryd.prog 8 #[] w (SaneP w) := by
  go_enter Tryd.func8, Tryd.ntmps8
  have q0 : Q w w := Q.refl w
  go_wp2_with fail
  refine (inv73 _).mono ?_
  rintro e w1 ⟨rfl, hq⟩
  have q1 := q0.trans hq
  clear hq
  go_wp2_with fail
  refine (mod_inv0 7 _).mono ?_
  rintro e w' ⟨rfl, rfl⟩
  go_wp2_with fail
  refine (next_c 2147483628 2147483629 _ (by decide) (hT.q q1) sane_next.1).mono ?_
  rintro e w2 ⟨rfl, hq⟩
  have q2 := q1.trans hq
  clear hq
  go_wp2_with fail
  refine (next_c 2147483647 0 _ (by decide) (hT.q q2) sane_next.2.1).mono ?_
  rintro e w3 ⟨rfl, hq⟩
  have q3 := q2.trans hq
  clear hq
  go_wp2_with fail
  refine (next_c 0 2 _ (by decide) (hT.q q3) sane_next.2.2).mono ?_
  rintro e w4 ⟨rfl, hq⟩
  have q4 := q3.trans hq
  clear hq
  go_wp2_with fail
  refine (before_c 2 0 _ (by decide) (hT.q q4) sane_before.1).mono ?_
  rintro e w5 ⟨rfl, hq⟩
  have q5 := q4.trans hq
  clear hq
  go_wp2_with fail
  refine (before_c 3 2 _ (by decide) (hT.q q5) sane_before.2.1).mono ?_
  rintro e w6 ⟨rfl, hq⟩
  have q6 := q5.trans hq
  clear hq
  go_wp2_with fail
  refine (before_c 1099511627776 2147483647 _ (by decide) (hT.q q6) sane_before.2.2).mono ?_
  rintro e w7 ⟨rfl, hq⟩
  have q7 := q6.trans hq
  clear hq
  go_wp2_with fail
  refine (rof_any (-1) _ (by decide) (by decide)).mono ?_
  rintro e w8 ⟨v1, rfl, hv1, hq⟩
  have q8 := q7.trans hq
  clear hq
  go_wp2_with fail
  refine (reduce_c 7 6 v1 (-1) _ (by decide) (by decide) hv1 (by decide)).mono ?_
  rintro e w9 ⟨rfl, hq⟩
  have q9 := q8.trans hq
  clear hq
  go_wp2_with fail
  refine (symm_c 7 6 (-1) _ (by decide) (by decide) (by decide)).mono ?_
  rintro e w10 ⟨v2, rfl, hv2, hq⟩
  have q10 := q9.trans hq
  clear hq
  go_wp2_with fail
  refine (rof_any (-1) _ (by decide) (by decide)).mono ?_
  rintro e w11 ⟨v3, rfl, hv3, hq⟩
  have hq3 := hq
  have q11 := q10.trans hq
  clear hq
  have hv2 := hv2.q hq3
  go_wp2_with fail
  refine (same_v v2 v3 (-1) (-1) _ hv2 hv3 true rfl).mono ?_
  rintro e w12 ⟨rfl, hq⟩
  have q12 := q11.trans hq
  clear hq
  go_wp2_with fail
  refine (symm_c 2 1 1 _ (by decide) (by decide) (by decide)).mono ?_
  rintro e w13 ⟨v4, rfl, hv4, hq⟩
  have q13 := q12.trans hq
  clear hq
  go_wp2_with fail
  refine (rof_any 1 _ (by decide) (by decide)).mono ?_
  rintro e w14 ⟨v5, rfl, hv5, hq⟩
  have hq5 := hq
  have q14 := q13.trans hq
  clear hq
  have hv4 := hv4.q hq5
  go_wp2_with fail
  refine (same_v v4 v5 1 1 _ hv4 hv5 true rfl).mono ?_
  rintro e w15 ⟨rfl, hq⟩
  have q15 := q14.trans hq
  clear hq
  go_wp2_with fail
  refine (prime_c 1 false _ (by decide) (hT.q q15) sane_prime.2.2.2.1).mono ?_
  rintro e w16 ⟨rfl, hq⟩
  have q16 := q15.trans hq
  clear hq
  go_wp2_with fail
  refine (prime_c 2147483659 false _ (by decide) (hT.q q16) sane_prime.2.2.2.2.1).mono ?_
  rintro e w17 ⟨rfl, hq⟩
  have q17 := q16.trans hq
  clear hq
  go_wp2_with fail
  refine (prime_c 2147483647 true _ (by decide) (hT.q q17) sane_prime.1).mono ?_
  rintro e w18 ⟨rfl, hq⟩
  have q18 := q17.trans hq
  clear hq
  go_wp2_with fail
  refine (prime_c 3215031751 false _ (by decide) (hT.q q18) sane_prime.2.2.2.2.2.1).mono ?_
  rintro e w19 ⟨rfl, hq⟩
  have q19 := q18.trans hq
  clear hq
  go_wp2_with fail
  refine (prime_c 2047 false _ (by decide) (hT.q q19) sane_prime.2.2.2.2.2.2.1).mono ?_
  rintro e w20 ⟨rfl, hq⟩
  have q20 := q19.trans hq
  clear hq
  go_wp2_with fail
  refine (mod_pow 5 0 0 _ (by decide) (by decide) (by decide) (by decide)).mono ?_
  rintro e w' ⟨rfl, rfl⟩
  go_wp2_with fail
  go_ret
  exact ⟨rfl, q20⟩
end Go.Proofs.YtlipdmbdohpblaaDoor
