/-
  Prime, below 2^31, is being prime.
-/
import Derived.Test.YtlipdmbdohpblaaDoorNtE1
import Derived.Test.YtlipdmbdohpblaaDoorNtE2
import Derived.Test.YtlipdmbdohpblaaDoorNtE3
import Derived.Test.YtlipdmbdohpblaaDoorNtE4
import Derived.Test.YtlipdmbdohpblaaDoorNtE5
import Derived.Test.YtlipdmbdohpblaaDoorNtE6
import Derived.Test.YtlipdmbdohpblaaDoorNtE7
import Derived.Test.YtlipdmbdohpblaaDoorNtE8
import Derived.Test.YtlipdmbdohpblaaDoorNtE9
import Derived.Test.YtlipdmbdohpblaaDoorNtE10
import Derived.Test.YtlipdmbdohpblaaDoorNtE11
import Derived.Test.YtlipdmbdohpblaaDoorNtE12
namespace Go.Proofs.YtlipdmbdohpblaaDoor

/-- No divisor up to the square root. -/
def trial (n : Nat) : Prop := ∀ d, 2 ≤ d → d * d ≤ n → n % d ≠ 0
theorem pr_of_trial {n : Nat} (h2 : 2 ≤ n) (h : trial n) : Pr n := by
  refine ⟨h2, fun d hd => ?_⟩
  obtain ⟨c, rfl⟩ := hd
  have hc0 : c ≠ 0 := by intro e; subst e; simp at h2
  have hd0 : d ≠ 0 := by intro e; subst e; simp at h2
  rcases Nat.lt_or_ge d 2 with g | g
  · left; omega
  · rcases Nat.lt_or_ge c 2 with k | k
    · right
      obtain rfl : c = 1 := by omega
      rw [Nat.mul_one]
    · exfalso
      rcases Nat.le_total d c with l | l
      · exact h d g (Nat.mul_le_mul_left _ l) (Nat.mul_mod_right _ _)
      · exact h c k (Nat.mul_le_mul_right _ l) (Nat.mul_mod_left _ _)
theorem Pr.trial {n : Nat} (h : Pr n) : trial n := by
  intro d h2 hd hm
  rcases h.2 d (Nat.dvd_of_mod_eq_zero hm) with g | g
  · omega
  · subst g
    have : 2 * d ≤ d * d := Nat.mul_le_mul_right _ h2
    have := h.1
    omega
theorem qB_all : ∀ i, 75 ≤ i → i < 32768 → qB i = true := by
  intro i h1 h2
  have key : ∀ lo N, lin (fun k => qB (Nat.add lo k)) N = true → lo ≤ i → i < lo + N → qB i = true := fun lo N h a b => by
    have := lin_sound h (i - lo) (by omega)
    have e : Nat.add lo (i - lo) = i := show lo + (i - lo) = i by omega
    rwa [e] at this
  rcases Nat.lt_or_ge i 84 with g | g
  · exact key _ _ eQ0 (by omega) (by omega)
  rcases Nat.lt_or_ge i 99 with g | g
  · exact key _ _ eQ1 (by omega) (by omega)
  rcases Nat.lt_or_ge i 120 with g | g
  · exact key _ _ eQ2 (by omega) (by omega)
  rcases Nat.lt_or_ge i 154 with g | g
  · exact key _ _ eQ3 (by omega) (by omega)
  rcases Nat.lt_or_ge i 216 with g | g
  · exact key _ _ eQ4 (by omega) (by omega)
  rcases Nat.lt_or_ge i 367 with g | g
  · exact key _ _ eQ5 (by omega) (by omega)
  rcases Nat.lt_or_ge i 1681 with g | g
  · exact key _ _ eQ6 (by omega) (by omega)
  · exact key _ _ eQ7 (by omega) (by omega)
theorem dfs_all : dfs 64 primes150 1 = true := by
  have e3 : dfs 64 (primes150.drop 3) 1 = true := eD3
  have step : ∀ p r, dfs 63 (p :: r) p = true → p ≤ 150 → dfs 64 r 1 = true → dfs 64 (p :: r) 1 = true := fun p r h1 hp h2 => by
    rw [dfs_cons, Nat.one_mul, h1, h2, Nat.ble_eq_true_of_le hp]
    simp
  have e2 : dfs 64 (primes150.drop 2) 1 = true := step 17 _ eD2 (by decide) e3
  have e1 : dfs 64 (primes150.drop 1) 1 = true := step 13 _ eD1 (by decide) e2
  exact step 11 _ eD0 (by decide) e1
theorem small_all : ∀ n, n < 151 → (n < 2 ∨ n % 2 = 0 ∨ n % 3 = 0 ∨ n % 5 = 0 ∨ n % 7 = 0 ∨ chk n = true ∨ (∀ d, d < 13 → 2 ≤ d → d * d ≤ n → n % d ≠ 0)) := by decide +kernel
theorem mem150 : ∀ p ∈ primes256, p ≤ 150 → (p = 2 ∨ p = 3 ∨ p = 5 ∨ p = 7 ∨ p ∈ primes150) := by decide
theorem sort150 : primes150.Pairwise (· ≤ ·) := by decide
theorem cop210 {n : Nat} (h2 : n % 2 ≠ 0) (h3 : n % 3 ≠ 0) (h5 : n % 5 ≠ 0) (h7 : n % 7 ≠ 0) : Nat.gcd n 210 = 1 := by
  rcases Nat.lt_or_ge (Nat.gcd n 210) 2 with g | g
  · have : Nat.gcd n 210 ≠ 0 := by
      intro e
      rw [Nat.gcd_eq_zero_iff] at e
      omega
    omega
  · exfalso
    obtain ⟨f, hf, hd⟩ := exists_prime _ g
    have d1 := Nat.dvd_trans hd (Nat.gcd_dvd_left n 210)
    have d2 : f ∣ lprod [2, 3, 5, 7] := Nat.dvd_trans hd (Nat.gcd_dvd_right n 210)
    obtain ⟨p, hp, hfp⟩ := hf.dvd_lprod d2
    have hp7 : ∀ p ∈ [2, 3, 5, 7], 0 < p ∧ p ≤ 7 := by decide
    have := hp7 p hp
    have hle := Nat.le_of_dvd this.1 hfp
    have h2' := hf.1
    have hm := Nat.mod_eq_zero_of_dvd d1
    have : f = 2 ∨ f = 3 ∨ f = 4 ∨ f = 5 ∨ f = 6 ∨ f = 7 := by omega
    rcases this with rfl | rfl | rfl | rfl | rfl | rfl <;> omega
/-- The main theorem on the strong test. -/
theorem SP.pr {n : Nat} (c : Cand n) (h7 : n % 7 ≠ 0) (h5 : n % 5 ≠ 0) (h3 : n % 3 ≠ 0) (hs : SP n) : Pr n := by
  have hn := c.lt
  have hodd := c.odd
  have hthree := c.three
  have noten : ¬ ¬ Pr n := fun hno => by
    have hA : ∀ q, Pr q → q ∣ n → q ≤ 65536 := fun q hq hd => by
      rcases Nat.lt_or_ge 65536 q with g | g
      · exfalso
        obtain ⟨m, rfl⟩ := hd
        have hm : 2 ≤ m := by
          match m, hno with
          | 0, _ => omega
          | 1, hno => exact absurd hq (by rw [Nat.mul_one] at hno; exact hno)
          | m + 2, _ => omega
        have hlt : m < 32768 := by
          rcases Nat.lt_or_ge m 32768 with k | k
          · exact k
          · have : 65537 * 32768 ≤ q * m := Nat.mul_le_mul g k
            omega
        exact mA_sound (lin_sound eA m hlt) hm hq g c hs
      · exact g
    have hB : ∀ q, Pr q → q ∣ n → q ≤ 150 := fun q hq hd => by
      rcases Nat.lt_or_ge 150 q with g | g
      · exfalso
        have h1 := hA q hq hd
        have hqo : q % 2 = 1 := by
          rcases Nat.mod_two_eq_zero_or_one q with k | k
          · have := Nat.mod_eq_zero_of_dvd (Nat.dvd_trans (Nat.dvd_of_mod_eq_zero k) hd)
            omega
          · exact k
        refine qB_sound (i := (q - 1) / 2) (by omega) (qB_all _ (by omega) (by omega)) hq g h1 c hd (fun e => hno (e ▸ hq)) hs
      · exact g
    rcases Nat.lt_or_ge 150 n with g | g
    · have e1 : 1 * n = n := Nat.one_mul n
      rcases dfs_sound 64 primes150 1 sort150 dfs_all n (e1.symm ▸ c) (by omega) (fun p hp hd => by
        have hp1 := hB p hp hd
        have hm := Nat.mod_eq_zero_of_dvd hd
        rcases mem150 p (hp.small (by omega)) hp1 with rfl | rfl | rfl | rfl | k
        · omega
        · omega
        · omega
        · omega
        · exact k) with k | k
      · omega
      · rw [e1] at k; exact k hs
    · rcases small_all n (by omega) with k | k | k | k | k | k | k
      · omega
      · omega
      · omega
      · omega
      · omega
      · exact chk_sound k c.three c.lt c.odd hs
      · exact hno (pr_of_trial (by omega) (fun d hd hdd => k d (by
          rcases Nat.lt_or_ge d 13 with l | l
          · exact l
          · have : 13 * 13 ≤ d * d := Nat.mul_le_mul l l
            omega) hd hdd))
  exact Classical.not_not.1 noten
theorem pr_small : Pr 2 ∧ Pr 3 ∧ Pr 5 ∧ Pr 7 := by
  have key : ∀ n, 2 ≤ n → n < 9 → (∀ d, d < 3 → 2 ≤ d → d * d ≤ n → n % d ≠ 0) → Pr n := fun n h2 h9 h => pr_of_trial h2 (fun d hd hdd => h d (by
    rcases Nat.lt_or_ge d 3 with l | l
    · exact l
    · have : 3 * 3 ≤ d * d := Nat.mul_le_mul l l
      omega) hd hdd)
  exact ⟨key 2 (by decide) (by decide) (by decide), key 3 (by decide) (by decide) (by decide), key 5 (by decide) (by decide) (by decide), key 7 (by decide) (by decide) (by decide)⟩
theorem testB_cons (n b : Nat) (r : List Nat) : testB n (b :: r) = (if n = b then true else if n % b = 0 then false else (strongB n b && testB n r)) := rfl
theorem prime_iff {n : Nat} : primeB n = true ↔ n < 2147483648 ∧ Pr n := by
  refine ⟨fun h => ?_, fun h => h.2.passes h.1⟩
  unfold primeB bases at h
  simp only [Bool.and_eq_true, decide_eq_true_eq] at h
  obtain ⟨h2, hn, ht⟩ := h
  refine ⟨hn, ?_⟩
  rw [testB_cons] at ht
  by_cases e2 : n = 2
  · exact e2 ▸ pr_small.1
  rw [if_neg e2] at ht
  by_cases m2 : n % 2 = 0
  · rw [if_pos m2] at ht; cases ht
  rw [if_neg m2, Bool.and_eq_true, testB_cons] at ht
  obtain ⟨s2, ht⟩ := ht
  by_cases e3 : n = 3
  · exact e3 ▸ pr_small.2.1
  rw [if_neg e3] at ht
  by_cases m3 : n % 3 = 0
  · rw [if_pos m3] at ht; cases ht
  rw [if_neg m3, Bool.and_eq_true, testB_cons] at ht
  obtain ⟨s3, ht⟩ := ht
  by_cases e5 : n = 5
  · exact e5 ▸ pr_small.2.2.1
  rw [if_neg e5] at ht
  by_cases m5 : n % 5 = 0
  · rw [if_pos m5] at ht; cases ht
  rw [if_neg m5, Bool.and_eq_true, testB_cons] at ht
  obtain ⟨s5, ht⟩ := ht
  by_cases e7 : n = 7
  · exact e7 ▸ pr_small.2.2.2
  rw [if_neg e7] at ht
  by_cases m7 : n % 7 = 0
  · rw [if_pos m7] at ht; cases ht
  rw [if_neg m7, Bool.and_eq_true] at ht
  exact SP.pr ⟨by omega, hn, by omega, cop210 m2 m3 m5 m7⟩ m7 m5 m3 ⟨s2, s3, s5, ht.1⟩

end Go.Proofs.YtlipdmbdohpblaaDoor
