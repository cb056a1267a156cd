/-
  What modular.Prime computes: definitions alone.
  Plain number theory: primes, Fermat's little theorem.
-/
import Derived.Test.YtcjpjnneimjfiaaRows
import Derived.Lib.TrailingZeros
namespace Go.Proofs.Ytcjpjnneimjfiaa

/-- The squares of the strong test. -/
def sqLoop (n : Nat) : Nat → Nat → Bool
  | 0, _ => false
  | j + 1, x => (x * x % n == n - 1) || sqLoop n j (x * x % n)
/-- What `strong` answers. -/
def strongB (n b : Nat) : Bool :=
  let k := Lib.ctz 64 (n - 1)
  let x := b ^ ((n - 1) / 2 ^ k) % n
  (x == 1) || ((x == n - 1) || sqLoop n (k - 1) x)
theorem sqLoop_succ (n j x : Nat) : sqLoop n (j + 1) x = ((x * x % n == n - 1) || sqLoop n j (x * x % n)) := rfl
def bases : List Nat := [2, 3, 5, 7]
def testB (n : Nat) : List Nat → Bool
  | [] => true
  | b :: r => if n = b then true else if n % b = 0 then false else (strongB n b && testB n r)
/-- What `Prime` answers. -/
def primeB (n : Nat) : Bool := decide (2 ≤ n) && (decide (n < 2147483648) && testB n bases)


end Go.Proofs.Ytcjpjnneimjfiaa
namespace Go.Proofs.Ytcjpjnneimjfiaa

/-- A prime number. -/
def Pr (p : Nat) : Prop := 2 ≤ p ∧ ∀ d, d ∣ p → d = 1 ∨ d = p

theorem exists_prime (n : Nat) (h : 2 ≤ n) : ∃ p, Pr p ∧ p ∣ n := by
  induction n using Nat.strongRecOn with
  | _ n ih =>
    by_cases hp : Pr n
    · exact ⟨n, hp, Nat.dvd_refl n⟩
    · have : ∃ d, d ∣ n ∧ d ≠ 1 ∧ d ≠ n := by
        apply Classical.byContradiction
        intro hn
        refine hp ⟨h, fun d hd => ?_⟩
        by_cases h1 : d = 1
        · exact .inl h1
        · by_cases h2 : d = n
          · exact .inr h2
          · exact absurd ⟨d, hd, h1, h2⟩ hn
      obtain ⟨d, hd, h1, h2⟩ := this
      have hle := Nat.le_of_dvd (by omega) hd
      have h0 : d ≠ 0 := by rintro rfl; have := Nat.eq_zero_of_zero_dvd hd; omega
      obtain ⟨p, hp, hpd⟩ := ih d (by omega) (by omega)
      exact ⟨p, hp, Nat.dvd_trans hpd hd⟩
theorem Pr.two_le {p : Nat} (h : Pr p) : 2 ≤ p := h.1
theorem Pr.coprime {p a : Nat} (h : Pr p) (ha : ¬ p ∣ a) : Nat.gcd p a = 1 := by
  rcases h.2 _ (Nat.gcd_dvd_left p a) with g | g
  · exact g
  · exact absurd (g ▸ Nat.gcd_dvd_right p a) ha
theorem Pr.dvd_mul {p a b : Nat} (h : Pr p) (hd : p ∣ a * b) : p ∣ a ∨ p ∣ b := by
  by_cases ha : p ∣ a
  · exact .inl ha
  · exact .inr (Nat.Coprime.dvd_of_dvd_mul_left (h.coprime ha) hd)
theorem Pr.dvd_pow {p a k : Nat} (h : Pr p) (hd : p ∣ a ^ k) : p ∣ a := by
  induction k with
  | zero =>
    have h1 : p = 1 := by simpa using hd
    have := h.1; omega
  | succ k ih =>
    rw [Nat.pow_succ] at hd
    rcases h.dvd_mul hd with g | g
    · exact ih g
    · exact g

/-- Binomial coefficients. -/
def choose : Nat → Nat → Nat
  | _, 0 => 1
  | 0, _ + 1 => 0
  | n + 1, k + 1 => choose n k + choose n (k + 1)
theorem choose_zero (n : Nat) : choose n 0 = 1 := by cases n <;> rfl
theorem choose_big (n k : Nat) (h : n < k) : choose n k = 0 := by
  induction n generalizing k with
  | zero => cases k with
    | zero => omega
    | succ k => rfl
  | succ n ih => cases k with
    | zero => omega
    | succ k => show choose n k + choose n (k + 1) = 0; rw [ih k (by omega), ih (k + 1) (by omega)]
theorem choose_self (n : Nat) : choose n n = 1 := by
  induction n with
  | zero => rfl
  | succ n ih => show choose n n + choose n (n + 1) = 1; rw [ih, choose_big n (n + 1) (by omega)]
theorem choose_absorb (n k : Nat) : (k + 1) * choose (n + 1) (k + 1) = (n + 1) * choose n k := by
  induction n generalizing k with
  | zero => cases k with
    | zero => rfl
    | succ k => show (k + 2) * (choose 0 (k + 1) + choose 0 (k + 2)) = 1 * 0; simp [choose]
  | succ n ih =>
    show (k + 1) * (choose (n + 1) k + choose (n + 1) (k + 1)) = (n + 2) * choose (n + 1) k
    have h1 := ih k
    cases k with
    | zero => simp [choose_zero] at h1 ⊢; omega
    | succ k =>
      have h2 := ih k
      have h3 : choose (n + 1) (k + 1) = choose n k + choose n (k + 1) := rfl
      rw [Nat.mul_add, h1]
      grind
def sumTo (f : Nat → Nat) : Nat → Nat
  | 0 => 0
  | k + 1 => sumTo f k + f k
theorem sumTo_shift (f : Nat → Nat) (n : Nat) : sumTo f (n + 1) = f 0 + sumTo (fun k => f (k + 1)) n := by
  induction n with
  | zero => simp [sumTo]
  | succ n ih => rw [sumTo, ih, sumTo]; omega
theorem sumTo_add (f g : Nat → Nat) (n : Nat) : sumTo (fun k => f k + g k) n = sumTo f n + sumTo g n := by
  induction n with
  | zero => rfl
  | succ n ih => simp only [sumTo, ih]; omega
theorem sumTo_mul (c : Nat) (f : Nat → Nat) (n : Nat) : sumTo (fun k => c * f k) n = c * sumTo f n := by
  induction n with
  | zero => rfl
  | succ n ih => simp only [sumTo, ih, Nat.mul_add]
theorem sumTo_congr {f g : Nat → Nat} (n : Nat) (h : ∀ k, k < n → f k = g k) : sumTo f n = sumTo g n := by
  induction n with
  | zero => rfl
  | succ n ih => simp only [sumTo, ih (fun k hk => h k (by omega)), h n (by omega)]
theorem binomial (a n : Nat) : sumTo (fun k => choose n k * a ^ k) (n + 1) = (a + 1) ^ n := by
  induction n with
  | zero => rfl
  | succ n ih =>
    rw [sumTo_shift]
    have e1 : sumTo (fun k => choose (n + 1) (k + 1) * a ^ (k + 1)) (n + 1) = sumTo (fun k => a * (choose n k * a ^ k) + choose n (k + 1) * a ^ (k + 1)) (n + 1) := by
      apply sumTo_congr
      intro k _
      show (choose n k + choose n (k + 1)) * a ^ (k + 1) = _
      rw [Nat.pow_succ]; grind
    rw [e1, sumTo_add, sumTo_mul, ih]
    have e2 : choose (n + 1) 0 * a ^ 0 + sumTo (fun k => choose n (k + 1) * a ^ (k + 1)) (n + 1) = (a + 1) ^ n := by
      rw [← ih, sumTo_shift (fun k => choose n k * a ^ k) n, choose_zero, choose_zero]
      rw [sumTo, choose_big n (n + 1) (by omega)]
      omega
    rw [Nat.pow_succ]
    generalize (a + 1) ^ n = z at *
    grind
theorem sumTo_mod (p : Nat) (f : Nat → Nat) (n : Nat) (h : ∀ k, k < n → p ∣ f k) : p ∣ sumTo f n := by
  induction n with
  | zero => exact Nat.dvd_zero p
  | succ n ih => exact Nat.dvd_add (ih fun k hk => h k (by omega)) (h n (by omega))
theorem Pr.choose {p k : Nat} (h : Pr p) (h0 : 0 < k) (hk : k < p) : p ∣ choose p k := by
  obtain ⟨n, rfl⟩ : ∃ n, p = n + 1 := ⟨p - 1, by omega⟩
  obtain ⟨j, rfl⟩ : ∃ j, k = j + 1 := ⟨k - 1, by omega⟩
  have := choose_absorb n j
  rcases h.dvd_mul (a := j + 1) (b := Go.Proofs.Ytcjpjnneimjfiaa.choose (n + 1) (j + 1)) ⟨_, this⟩ with g | g
  · have := Nat.le_of_dvd (by omega) g; omega
  · exact g
/-- The freshman's dream. -/
theorem Pr.dream {p : Nat} (h : Pr p) (a : Nat) : (a + 1) ^ p % p = (a ^ p + 1) % p := by
  rw [← binomial]
  obtain ⟨n, rfl⟩ : ∃ n, p = n + 1 := ⟨p - 1, by have := h.1; omega⟩
  rw [sumTo, sumTo_shift, choose_self, choose_zero, Nat.one_mul, Nat.one_mul, Nat.pow_zero]
  obtain ⟨c, hc⟩ := sumTo_mod (n + 1) (fun k => Go.Proofs.Ytcjpjnneimjfiaa.choose (n + 1) (k + 1) * a ^ (k + 1)) n (fun k hk => Nat.dvd_trans (h.choose (by omega) (by omega)) (Nat.dvd_mul_right _ _))
  rw [hc, show 1 + (n + 1) * c + a ^ (n + 1) = a ^ (n + 1) + 1 + (n + 1) * c from by omega, Nat.add_mul_mod_self_left]
theorem Pr.fermat {p : Nat} (h : Pr p) (a : Nat) : a ^ p % p = a % p := by
  induction a with
  | zero => rw [Nat.zero_pow (by have := h.1; omega)]
  | succ a ih => rw [h.dream, Nat.add_mod, ih, ← Nat.add_mod]
theorem Pr.cancel {p a b c : Nat} (h : Pr p) (ha : ¬ p ∣ a) (he : a * b % p = a * c % p) : b % p = c % p := by
  have key : ∀ {x y : Nat}, x ≤ y → a * x % p = a * y % p → x % p = y % p := by
    intro x y hxy h1
    have h2 : p ∣ a * (y - x) := by
      rw [Nat.mul_sub]
      exact Nat.dvd_of_mod_eq_zero (Nat.sub_mod_eq_zero_of_mod_eq h1.symm)
    rcases h.dvd_mul h2 with g | g
    · exact absurd g ha
    · obtain ⟨c, hc⟩ := g
      rw [show y = x + p * c from by omega, Nat.add_mul_mod_self_left]
  rcases Nat.le_total b c with g | g
  · exact key g he
  · exact (key g he.symm).symm
theorem Pr.fermat_one {p : Nat} (h : Pr p) {a : Nat} (ha : ¬ p ∣ a) : a ^ (p - 1) % p = 1 := by
  have h1 := h.1
  have := h.cancel ha (b := a ^ (p - 1)) (c := 1) (by rw [← Nat.pow_succ', Nat.mul_one, show (p - 1).succ = p from by omega]; exact h.fermat a)
  rw [this, Nat.mod_eq_of_lt (by omega)]

end Go.Proofs.Ytcjpjnneimjfiaa
