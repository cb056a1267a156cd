/-
  Plain number theory: the strong test.
-/
import Derived.Test.YtlipdmbdohpblaaDoorPDef
import Derived.Test.YtlipdmbdohpblaaDoorNtA
namespace Go.Proofs.YtlipdmbdohpblaaDoor

theorem mulmod {p a b c d : Nat} (h1 : a % p = c % p) (h2 : b % p = d % p) : a * b % p = c * d % p := by
  rw [Nat.mul_mod, h1, h2, ← Nat.mul_mod]
theorem powmod {p a c : Nat} (k : Nat) (h : a % p = c % p) : a ^ k % p = c ^ k % p := by
  rw [Nat.pow_mod, h, ← Nat.pow_mod]
/-- n - 1 is a square root of 1. -/
theorem neg_sq {n y : Nat} (hn : 2 ≤ n) (h : y % n = n - 1) : y * y % n = 1 % n := by
  have h1 : y * y % n = (n - 1) * (n - 1) % n := mulmod (by rw [h, Nat.mod_eq_of_lt (by omega)]) (by rw [h, Nat.mod_eq_of_lt (by omega)])
  rw [h1]
  obtain ⟨m, rfl⟩ : ∃ m, n = m + 2 := ⟨n - 2, by omega⟩
  rw [show (m + 2 - 1) * (m + 2 - 1) = 1 + (m + 2) * m from by rw [show m + 2 - 1 = m + 1 from by omega]; grind, Nat.add_mul_mod_self_left]
theorem one_pow_mod {n y : Nat} (k : Nat) (h : y % n = 1 % n) : y ^ k % n = 1 % n := by
  rw [powmod k h, Nat.one_pow]
theorem pow_two_succ (x i : Nat) : x ^ 2 ^ (i + 1) = x ^ 2 ^ i * x ^ 2 ^ i := by
  rw [← Nat.pow_add, Nat.pow_succ, Nat.mul_two]

/-- The loop finds a power that is n - 1. -/
theorem sqLoop_iff {n : Nat} (j x : Nat) : sqLoop n j (x % n) = true ↔ ∃ i, 1 ≤ i ∧ i ≤ j ∧ x ^ 2 ^ i % n = n - 1 := by
  induction j generalizing x with
  | zero => simp only [sqLoop]; constructor
            · intro h; cases h
            · rintro ⟨i, h1, h2, _⟩; omega
  | succ j ih =>
    rw [sqLoop_succ, show x % n * (x % n) % n = x * x % n from (Nat.mul_mod x x n).symm, Bool.or_eq_true, ih (x * x), beq_iff_eq]
    have e : ∀ i, (x * x) ^ 2 ^ i = x ^ 2 ^ (i + 1) := fun i => by rw [pow_two_succ, Nat.mul_pow]
    constructor
    · rintro (h | ⟨i, h1, h2, h3⟩)
      · exact ⟨1, by omega, by omega, by simpa [Nat.pow_two] using h⟩
      · exact ⟨i + 1, by omega, by omega, by rw [← e]; exact h3⟩
    · rintro ⟨i, h1, h2, h3⟩
      rcases Nat.lt_or_ge 1 i with g | g
      · refine .inr ⟨i - 1, by omega, by omega, ?_⟩
        rw [e, show i - 1 + 1 = i from by omega]; exact h3
      · obtain rfl : i = 1 := by omega
        exact .inl (by simpa [Nat.pow_two] using h3)

/-- How n - 1 splits. -/
theorem ctz_split {n : Nat} (hn : 3 ≤ n) (hn2 : n < 2147483648) (hodd : n % 2 = 1) :
    ∃ k d, Lib.ctz 64 (n - 1) = k ∧ 1 ≤ k ∧ (n - 1) / 2 ^ k = d ∧ n - 1 = 2 ^ k * d ∧ d % 2 = 1 := by
  obtain ⟨m, hm, hk⟩ := Lib.ctzFrom_spec 64 (n - 1) (by omega) (by omega)
  have hctz : Lib.ctz 64 (n - 1) = Lib.ctzFrom 64 (n - 1) := by unfold Lib.ctz; rw [if_neg (by omega)]
  rw [← hctz] at hm
  refine ⟨_, 2 * m + 1, rfl, ?_, ?_, hm, by omega⟩
  · rcases Nat.eq_zero_or_pos (Lib.ctz 64 (n - 1)) with h | h
    · rw [h] at hm; omega
    · exact h
  · generalize Lib.ctz 64 (n - 1) = k at *
    rw [hm, Nat.mul_div_cancel_left _ (Nat.pow_pos (by decide))]

theorem strongB_iff {n b : Nat} {k d : Nat} (hk : Lib.ctz 64 (n - 1) = k) (hd : (n - 1) / 2 ^ k = d) :
    strongB n b = true ↔ (b ^ d % n = 1 ∨ ∃ i, i ≤ k - 1 ∧ (b ^ d) ^ 2 ^ i % n = n - 1) := by
  subst hk hd
  unfold strongB
  simp only [Bool.or_eq_true, beq_iff_eq, sqLoop_iff]
  constructor
  · rintro (h | h | ⟨i, h1, h2, h3⟩)
    · exact .inl h
    · exact .inr ⟨0, by omega, by simpa using h⟩
    · exact .inr ⟨i, h2, h3⟩
  · rintro (h | ⟨i, h2, h3⟩)
    · exact .inl h
    · rcases Nat.eq_zero_or_pos i with g | g
      · subst g; exact .inr (.inl (by simpa using h3))
      · exact .inr (.inr ⟨i, g, h2, h3⟩)

/-- Who passes the strong test passes Fermat's. -/
theorem strongB_fermat {n b : Nat} (hn : 3 ≤ n) (hn2 : n < 2147483648) (hodd : n % 2 = 1) (h : strongB n b = true) : b ^ (n - 1) % n = 1 := by
  obtain ⟨k, d, hk, hk1, hd, hs, _⟩ := ctz_split hn hn2 hodd
  have h1 : 1 % n = 1 := Nat.mod_eq_of_lt (by omega)
  have e : b ^ (n - 1) = (b ^ d) ^ 2 ^ k := by rw [← Nat.pow_mul, Nat.mul_comm d, ← hs]
  rw [e]
  rcases (strongB_iff hk hd).1 h with g | ⟨i, hi, g⟩
  · rw [one_pow_mod _ (by rw [g, h1]), h1]
  · have e2 : (b ^ d) ^ 2 ^ k = ((b ^ d) ^ 2 ^ i * (b ^ d) ^ 2 ^ i) ^ 2 ^ (k - 1 - i) := by
      rw [← pow_two_succ, ← Nat.pow_mul (a := b ^ d), ← Nat.pow_add, show i + 1 + (k - 1 - i) = k from by omega]
    rw [e2, one_pow_mod _ (neg_sq (by omega) g), h1]

/-- A square root of 1 modulo a prime. -/
theorem Pr.sqrt_one {p y : Nat} (h : Pr p) (hy : y * y % p = 1 % p) : y % p = 1 % p ∨ y % p = p - 1 := by
  have h2 := h.1
  have hr : (y % p) * (y % p) % p = 1 % p := by rw [← Nat.mul_mod]; exact hy
  have hlt := Nat.mod_lt y (by omega : 0 < p)
  generalize y % p = r at *
  rw [Nat.mod_eq_of_lt (by omega : 1 < p)] at hr ⊢
  have hr0 : r ≠ 0 := by rintro rfl; simp at hr
  have hd : p ∣ (r - 1) * (r + 1) := by
    have e : (r - 1) * (r + 1) = r * r - 1 := by
      obtain ⟨s, rfl⟩ : ∃ s, r = s + 1 := ⟨r - 1, by omega⟩
      rw [show s + 1 - 1 = s from by omega]
      have : (s + 1) * (s + 1) = s * (s + 1 + 1) + 1 := by grind
      omega
    rw [e]
    exact Nat.dvd_of_mod_eq_zero (Nat.sub_mod_eq_zero_of_mod_eq (by rw [hr, Nat.mod_eq_of_lt (by omega)]))
  rcases h.dvd_mul hd with g | g
  · left
    rcases Nat.eq_zero_or_pos (r - 1) with z | z
    · omega
    · have := Nat.le_of_dvd z g; omega
  · right
    have := Nat.le_of_dvd (by omega) g
    omega

/-- A prime passes the strong test. -/
theorem Pr.strong {p b : Nat} (h : Pr p) (hp : 3 ≤ p) (hp2 : p < 2147483648) (hodd : p % 2 = 1) (hb : ¬ p ∣ b) : strongB p b = true := by
  obtain ⟨k, d, hk, hk1, hd, hs, _⟩ := ctz_split hp hp2 hodd
  have h1 : 1 % p = 1 := Nat.mod_eq_of_lt (by omega)
  rw [strongB_iff hk hd]
  have key : ∀ j, j ≤ k → (b ^ d) ^ 2 ^ j % p = 1 → (b ^ d % p = 1 ∨ ∃ i, i + 1 ≤ j ∧ (b ^ d) ^ 2 ^ i % p = p - 1) := by
    intro j
    induction j with
    | zero => intro _ h; exact .inl (by simpa using h)
    | succ j ih =>
      intro hj h2
      rw [pow_two_succ] at h2
      rcases h.sqrt_one (by rw [h2, h1]) with g | g
      · rcases ih (by omega) (by rw [g, h1]) with g2 | ⟨i, hi, g2⟩
        · exact .inl g2
        · exact .inr ⟨i, by omega, g2⟩
      · exact .inr ⟨j, by omega, g⟩
  have hf := h.fermat_one hb
  rw [hs, Nat.mul_comm, Nat.pow_mul] at hf
  rcases key k (Nat.le_refl _) hf with g | ⟨i, hi, g⟩
  · exact .inl g
  · exact .inr ⟨i, by omega, g⟩

theorem Pr.passes {p : Nat} (h : Pr p) (hp2 : p < 2147483648) : primeB p = true := by
  have h2 := h.1
  have hb : ∀ b, 2 ≤ b → p ≠ b → p % b ≠ 0 := fun b hb hne hm => by
    rcases h.2 b (Nat.dvd_of_mod_eq_zero hm) with g | g
    · omega
    · exact hne g.symm
  have hst : ∀ b, 2 ≤ b → b ≤ 7 → p % 2 = 1 → 3 ≤ p → ¬ p ∣ b → strongB p b = true := fun b _ _ ho h3 hnd => h.strong h3 hp2 ho hnd
  unfold primeB bases
  simp only [testB]
  have ht : ∀ b r, 2 ≤ b → b ≤ 7 → (b = 2 ∨ (p % 2 = 1 ∧ 3 ≤ p)) → (p ≠ b → ¬ p ∣ b) → (p ≠ b → p % 2 = 1 ∧ 3 ≤ p → r = true) → (if p = b then true else if p % b = 0 then false else (strongB p b && r)) = true := by
    intro b r h1 h3 ho hnd hr
    by_cases e : p = b
    · rw [if_pos e]
    · rw [if_neg e, if_neg (hb b h1 e)]
      have ho2 : p % 2 = 1 ∧ 3 ≤ p := by
        rcases ho with g | g
        · subst g; have := hb 2 (by omega) e; omega
        · exact g
      rw [hst b h1 h3 ho2.1 ho2.2 (hnd e), hr e ho2]; rfl
  have nd : ∀ b, 2 ≤ b → b ≤ 7 → (b = 2 ∨ b = 3 ∨ b = 5 ∨ b = 7) → p ≠ b → ¬ p ∣ b := by
    intro b _ _ hbb hne hd
    have := Nat.le_of_dvd (by omega) hd
    have hbp : ∀ q, q ∣ b → q = 1 ∨ q = b := by
      intro q hq
      have := Nat.le_of_dvd (by omega) hq
      rcases hbb with rfl | rfl | rfl | rfl
      · match q, this, hq with
        | 0, _, hq => simp at hq
        | 1, _, _ => exact .inl rfl
        | 2, _, _ => exact .inr rfl
      · match q, this, hq with
        | 0, _, hq => simp at hq
        | 1, _, _ => exact .inl rfl
        | 2, _, hq => exact absurd hq (by decide)
        | 3, _, _ => exact .inr rfl
      · match q, this, hq with
        | 0, _, hq => simp at hq
        | 1, _, _ => exact .inl rfl
        | 2, _, hq => exact absurd hq (by decide)
        | 3, _, hq => exact absurd hq (by decide)
        | 4, _, hq => exact absurd hq (by decide)
        | 5, _, _ => exact .inr rfl
      · match q, this, hq with
        | 0, _, hq => simp at hq
        | 1, _, _ => exact .inl rfl
        | 2, _, hq => exact absurd hq (by decide)
        | 3, _, hq => exact absurd hq (by decide)
        | 4, _, hq => exact absurd hq (by decide)
        | 5, _, hq => exact absurd hq (by decide)
        | 6, _, hq => exact absurd hq (by decide)
        | 7, _, _ => exact .inr rfl
    rcases hbp p hd with g | g
    · omega
    · exact hne g
  rw [decide_eq_true h2, decide_eq_true hp2, Bool.true_and, Bool.true_and]
  refine ht 2 _ (by omega) (by omega) (.inl rfl) (nd 2 (by omega) (by omega) (by omega)) fun _ o => ?_
  refine ht 3 _ (by omega) (by omega) (.inr o) (nd 3 (by omega) (by omega) (by omega)) fun _ _ => ?_
  refine ht 5 _ (by omega) (by omega) (.inr o) (nd 5 (by omega) (by omega) (by omega)) fun _ _ => ?_
  exact ht 7 _ (by omega) (by omega) (.inr o) (nd 7 (by omega) (by omega) (by omega)) fun _ _ => rfl

end Go.Proofs.YtlipdmbdohpblaaDoor
