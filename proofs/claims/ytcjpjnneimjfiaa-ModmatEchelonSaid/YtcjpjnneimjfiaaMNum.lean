/-
  Plain arithmetic modulo p.
-/
import Derived.Test.YtcjpjnneimjfiaaRows
namespace Go.Proofs.Ytcjpjnneimjfiaa

/-- A remainder as an equation of integers. -/
theorem mod_wit (p a : Nat) : ∃ k : Int, ((a % p : Nat) : Int) = (a : Int) - p * k := ⟨((a / p : Nat) : Int), by have := Nat.div_add_mod a p; rw [← Int.natCast_mul]; omega⟩
theorem cong_wit {p a b : Nat} (h : a % p = b % p) : ∃ k : Int, (a : Int) = (b : Int) + p * k := by
  obtain ⟨k, hk⟩ := mod_wit p a
  obtain ⟨j, hj⟩ := mod_wit p b
  refine ⟨k - j, ?_⟩
  rw [h] at hk
  grind
theorem wit_cong {p a b : Nat} {k : Int} (h : (a : Int) = (b : Int) + p * k) : a % p = b % p := by
  have h2 : ((a % p : Nat) : Int) = ((b % p : Nat) : Int) := by
    rw [Int.natCast_emod, Int.natCast_emod, h, Int.add_mul_emod_self_left]
  exact Int.ofNat_inj.1 h2

/-- One round of the extended Euclidean algorithm. -/
def InvR (p a x y s t : Nat) : Prop := s < p ∧ t < p ∧ s * a % p = x % p ∧ t * a % p = y % p ∧ Nat.gcd x y = Nat.gcd p a
theorem inv_start {p a : Nat} (hp : 1 < p) : InvR p a p a 0 1 := ⟨by omega, hp, by simp, by simp, rfl⟩
theorem inv_step {p a x y s t : Nat} (h : InvR p a x y s t) : InvR p a y (x % y) t ((s + p - x / y % p * t % p) % p) := by
  obtain ⟨h1, h2, h3, h4, h5⟩ := h
  have hp : 0 < p := by omega
  refine ⟨h2, Nat.mod_lt _ hp, h4, ?_, ?_⟩
  · have hu : x / y % p * t % p < p := Nat.mod_lt _ hp
    obtain ⟨k1, e1⟩ := cong_wit h3
    obtain ⟨k2, e2⟩ := cong_wit h4
    obtain ⟨j, e3⟩ := mod_wit p (x / y % p * t)
    obtain ⟨j2, e4⟩ := mod_wit p (x / y)
    obtain ⟨m, e5⟩ := mod_wit p (s + p - x / y % p * t % p)
    have e6 : ((s + p - x / y % p * t % p : Nat) : Int) = (s : Int) + p - ((x / y % p * t % p : Nat) : Int) := by omega
    have e7 : ((x % y : Nat) : Int) = (x : Int) - (y : Int) * ((x / y : Nat) : Int) := by have := Nat.div_add_mod x y; rw [← Int.natCast_mul]; omega
    have e8 : ((x / y % p * t : Nat) : Int) = ((x / y % p : Nat) : Int) * t := Int.natCast_mul _ _
    have e9 : ((s * a : Nat) : Int) = (s : Int) * a := Int.natCast_mul _ _
    have e10 : ((t * a : Nat) : Int) = (t : Int) * a := Int.natCast_mul _ _
    refine wit_cong (k := k1 + a - ((x / y : Nat) : Int) * k2 + j * a + j2 * t * a - m * a) ?_
    rw [Int.natCast_mul, e5, e6, e3, e8, e4, e7]
    rw [e9] at e1
    rw [e10] at e2
    generalize ((x / y : Nat) : Int) = q at *
    clear e3 e4 e5 e6 e7 e8 e9 e10 hu h3 h4 h5
    grind
  · rw [← h5, Nat.gcd_comm x y, Nat.gcd_rec y x, Nat.gcd_comm]
theorem inv_end {p a x s t : Nat} (hg : Nat.gcd p a = 1) (h : InvR p a x 0 s t) : s < p ∧ s * a % p = 1 % p := by
  obtain ⟨h1, _, h3, _, h5⟩ := h
  rw [Nat.gcd_zero_right] at h5
  exact ⟨h1, by rw [h3, h5, hg]⟩

end Go.Proofs.Ytcjpjnneimjfiaa
