/-
  The checks that no composite number below 2^31 passes the strong test for 2, 3, 5 and 7: definitions that the kernel evaluates, and what they show.
-/
import Derived.Test.YtlipdmbdohpblaaDoorNtB
namespace Go.Proofs.YtlipdmbdohpblaaDoor

/-- n, made a numeral first. -/
def force (n : Nat) (f : Nat → Bool) : Bool := Nat.rec (f 0) (fun k _ => f (Nat.succ k)) n
theorem force_eq (n : Nat) (f : Nat → Bool) : force n f = f n := by cases n <;> rfl
/-- All numbers below N. -/
noncomputable def lin (t : Nat → Bool) (N : Nat) : Bool := Nat.rec true (fun k ih => Bool.rec false ih (t k)) N
theorem lin_sound {t : Nat → Bool} {N : Nat} (h : lin t N = true) : ∀ i, i < N → t i = true := by
  induction N with
  | zero => intro i hi; omega
  | succ N ih =>
    have h2 : (Bool.rec false (lin t N) (t N) : Bool) = true := h
    intro i hi
    rcases hb : t N with _ | _
    · rw [hb] at h2; cases h2
    · rw [hb] at h2
      rcases Nat.lt_or_ge i N with g | g
      · exact ih h2 i g
      · obtain rfl : i = N := by omega
        exact hb

theorem win {W n e X s : Nat} (h : X % n = 2 ^ (e / (W * s)) % n) : X ^ W * 2 ^ (e / s % W) % n = 2 ^ (e / s) % n := by
  rw [mulmod (powmod W h) rfl, ← Nat.pow_mul, ← Nat.pow_add]
  congr 2
  rw [Nat.mul_comm W s, ← Nat.div_div_eq_div_mul, Nat.mul_comm]
  exact Nat.div_add_mod _ _
/-- 2^e modulo n. -/
def ferm2 (n e : Nat) : Nat :=
  Nat.mod (Nat.mul (Nat.pow (Nat.mod (Nat.mul (Nat.pow (Nat.mod (Nat.mul (Nat.pow (Nat.mod (Nat.pow 2 (Nat.div e 16777216)) n) 256) (Nat.pow 2 (Nat.mod (Nat.div e 65536) 256))) n) 256) (Nat.pow 2 (Nat.mod (Nat.div e 256) 256))) n) 256) (Nat.pow 2 (Nat.mod e 256))) n
theorem ferm2_eq (n e : Nat) : ferm2 n e = 2 ^ e % n := by
  have h1 := win (W := 256) (n := n) (e := e) (X := Nat.mod (Nat.pow 2 (Nat.div e 16777216)) n) (s := 65536) (Nat.mod_mod _ _)
  have h2 := win (W := 256) (n := n) (e := e) (X := Nat.mod (Nat.mul (Nat.pow (Nat.mod (Nat.pow 2 (Nat.div e 16777216)) n) 256) (Nat.pow 2 (Nat.mod (Nat.div e 65536) 256))) n) (s := 256) ((Nat.mod_mod _ _).trans h1)
  have h3 := win (W := 256) (n := n) (e := e) (X := Nat.mod (Nat.mul (Nat.pow (Nat.mod (Nat.mul (Nat.pow (Nat.mod (Nat.pow 2 (Nat.div e 16777216)) n) 256) (Nat.pow 2 (Nat.mod (Nat.div e 65536) 256))) n) 256) (Nat.pow 2 (Nat.mod (Nat.div e 256) 256))) n) (s := 1) ((Nat.mod_mod _ _).trans h2)
  rw [Nat.div_one] at h3
  exact h3

/-- b^e modulo n, e below 32^f. -/
def pwr (n b : Nat) : Nat → Nat → Nat
  | 0, _ => Nat.mod 1 n
  | f + 1, e => Nat.mod (Nat.mul (Nat.pow (pwr n b f (Nat.div e 32)) 32) (Nat.pow b (Nat.mod e 32))) n
theorem pwr_eq (n b f e : Nat) (h : e < 32 ^ f) : pwr n b f e = b ^ e % n := by
  induction f generalizing e with
  | zero => obtain rfl : e = 0 := by simpa using h
            rfl
  | succ f ih =>
    show pwr n b f (e / 32) ^ 32 * b ^ (e % 32) % n = _
    rw [ih (e / 32) (by rw [Nat.pow_succ] at h; omega), mulmod (powmod 32 (Nat.mod_mod (b ^ (e / 32)) n)) rfl, ← Nat.pow_mul, ← Nat.pow_add]
    congr 2
    omega
def strongC (n b : Nat) : Bool :=
  force (pwr n b 7 (Nat.div (Nat.pred n) (Nat.pow 2 (Lib.ctz 64 (Nat.pred n))))) fun x => Bool.or (Nat.beq x 1) (Bool.or (Nat.beq x (Nat.pred n)) (sqLoop n (Nat.pred (Lib.ctz 64 (Nat.pred n))) x))
theorem beq_nat (a b : Nat) : Nat.beq a b = (a == b) := by rw [Bool.eq_iff_iff]; simp [Nat.beq_eq]
theorem strongC_eq (n b : Nat) (hn : n < 2147483648) : strongC n b = strongB n b := by
  unfold strongC strongB
  rw [force_eq]
  have e : (n - 1) / 2 ^ Lib.ctz 64 (n - 1) ≤ n - 1 := Nat.div_le_self _ _
  have h := pwr_eq n b 7 ((n - 1) / 2 ^ Lib.ctz 64 (n - 1)) (Nat.lt_of_le_of_lt e (by omega))
  rw [beq_nat, beq_nat]
  show ((pwr n b 7 ((n - 1) / 2 ^ Lib.ctz 64 (n - 1))) == 1 || ((pwr n b 7 ((n - 1) / 2 ^ Lib.ctz 64 (n - 1))) == n - 1 || sqLoop n (Lib.ctz 64 (n - 1) - 1) (pwr n b 7 ((n - 1) / 2 ^ Lib.ctz 64 (n - 1))))) = _
  rw [h]

/-- n passes all four tests. -/
def SP (n : Nat) : Prop := strongB n 2 = true ∧ strongB n 3 = true ∧ strongB n 5 = true ∧ strongB n 7 = true
def slowB (n : Nat) : Bool := Bool.not (Bool.and (strongC n 2) (Bool.and (strongC n 3) (Bool.and (strongC n 5) (strongC n 7))))
/-- n fails one of them. -/
noncomputable def chk (n : Nat) : Bool := Nat.rec false (fun k _ => Bool.rec true (slowB (Nat.succ k)) (Nat.beq (ferm2 (Nat.succ k) k) 1)) n
theorem chk_sound {n : Nat} (h : chk n = true) (hn : 3 ≤ n) (hn2 : n < 2147483648) (hodd : n % 2 = 1) : ¬ SP n := by
  rintro ⟨h2, h3, h5, h7⟩
  have hf := strongB_fermat hn hn2 hodd h2
  obtain ⟨k, rfl⟩ : ∃ k, n = k + 1 := ⟨n - 1, by omega⟩
  have h' : (Bool.rec true (slowB (k + 1)) (Nat.beq (ferm2 (k + 1) k) 1) : Bool) = true := h
  rw [ferm2_eq, show 2 ^ k % (k + 1) = 1 from hf] at h'
  have h6 : slowB (k + 1) = true := h'
  unfold slowB at h6
  rw [strongC_eq _ 2 hn2, strongC_eq _ 3 hn2, strongC_eq _ 5 hn2, strongC_eq _ 7 hn2, h2, h3, h5, h7] at h6
  cases h6

/-! The numbers with a prime factor q from 151 to 65536. -/
def pws (q b x : Nat) : Nat := Nat.mod (Nat.mul (Nat.pow (Nat.mod (Nat.pow b (Nat.div x 256)) q) 256) (Nat.pow b (Nat.mod x 256))) q
theorem pws_eq (q b x : Nat) : pws q b x = b ^ x % q := by
  show (b ^ (x / 256) % q) ^ 256 * b ^ (x % 256) % q = _
  rw [mulmod (powmod 256 (Nat.mod_mod _ _)) rfl, ← Nat.pow_mul, ← Nat.pow_add]
  congr 2
  omega
def inS (q x : Nat) : Bool := Bool.and (Nat.beq (pws q 2 x) 1) (Bool.and (Nat.beq (pws q 3 x) 1) (Bool.and (Nat.beq (pws q 5 x) 1) (Nat.beq (pws q 7 x) 1)))
/-- The exponents with which 2, 3, 5 and 7 are 1 modulo q. -/
def InS (q x : Nat) : Prop := 2 ^ x % q = 1 ∧ 3 ^ x % q = 1 ∧ 5 ^ x % q = 1 ∧ 7 ^ x % q = 1
theorem inS_iff (q x : Nat) : inS q x = true ↔ InS q x := by
  unfold inS InS
  simp only [Bool.and_eq_true, pws_eq, Nat.beq_eq]
theorem one_sub {q b x y : Nat} (hq : 1 < q) (hx : b ^ x % q = 1) (hy : b ^ y % q = 1) (h : y ≤ x) : b ^ (x - y) % q = 1 := by
  have e : b ^ x = b ^ (x - y) * b ^ y := by rw [← Nat.pow_add]; congr 1; omega
  rw [e, mulmod (c := b ^ (x - y)) (d := 1) rfl (by rw [hy, Nat.mod_eq_of_lt hq]), Nat.mul_one] at hx
  exact hx
theorem InS.sub {q x y : Nat} (hq : 1 < q) (hx : InS q x) (hy : InS q y) (h : y ≤ x) : InS q (x - y) :=
  ⟨one_sub hq hx.1 hy.1 h, one_sub hq hx.2.1 hy.2.1 h, one_sub hq hx.2.2.1 hy.2.2.1 h, one_sub hq hx.2.2.2 hy.2.2.2 h⟩
theorem InS.mod {q x y : Nat} (hq : 1 < q) (hx : InS q x) (hy : InS q y) : InS q (x % y) := by
  induction x using Nat.strongRecOn with
  | _ x ih =>
    rcases Nat.eq_zero_or_pos y with h0 | h0
    · subst h0; rwa [Nat.mod_zero]
    · rcases Nat.lt_or_ge x y with h | h
      · rwa [Nat.mod_eq_of_lt h]
      · rw [Nat.mod_eq_sub_mod h]
        exact ih (x - y) (by omega) (hx.sub hq hy h)
theorem InS.gcd {q x y : Nat} (hq : 1 < q) (hx : InS q x) (hy : InS q y) : InS q (Nat.gcd x y) := by
  induction x using Nat.strongRecOn generalizing y with
  | _ x ih =>
    rcases Nat.eq_zero_or_pos x with h0 | h0
    · subst h0; rwa [Nat.gcd_zero_left]
    · rw [Nat.gcd_rec]
      exact ih (y % x) (Nat.mod_lt _ h0) (hy.mod hq hx) hx
theorem one_mul_exp {q b x : Nat} (hq : 1 < q) (k : Nat) (hx : b ^ x % q = 1) : b ^ (x * k) % q = 1 := by
  rw [Nat.pow_mul, powmod k (c := 1) (by rw [hx, Nat.mod_eq_of_lt hq]), Nat.one_pow, Nat.mod_eq_of_lt hq]
theorem InS.mul {q x : Nat} (hq : 1 < q) (hx : InS q x) (k : Nat) : InS q (x * k) :=
  ⟨one_mul_exp hq k hx.1, one_mul_exp hq k hx.2.1, one_mul_exp hq k hx.2.2.1, one_mul_exp hq k hx.2.2.2⟩
theorem InS.of_dvd {q x y : Nat} (hq : 1 < q) (hx : InS q x) (h : x ∣ y) : InS q y := by
  obtain ⟨k, rfl⟩ := h; exact hx.mul hq k

/-- The primes up to 256. -/
def primes256 : List Nat := [2, 3, 5, 7, 11, 13, 17, 19, 23, 29, 31, 37, 41, 43, 47, 53, 59, 61, 67, 71, 73, 79, 83, 89, 97, 101, 103, 107, 109, 113, 127, 131, 137, 139, 149, 151, 157, 163, 167, 173, 179, 181, 191, 193, 197, 199, 211, 223, 227, 229, 233, 239, 241, 251]
def lprod : List Nat → Nat
  | [] => 1
  | p :: r => Nat.mul p (lprod r)
theorem Pr.dvd_lprod {f : Nat} (h : Pr f) {l : List Nat} (hd : f ∣ lprod l) : ∃ p ∈ l, f ∣ p := by
  induction l with
  | nil =>
    have : f ∣ 1 := hd
    have := Nat.le_of_dvd (by decide) this
    have := h.1; omega
  | cons x r ih =>
    rcases h.dvd_mul (a := x) (b := lprod r) hd with g | g
    · exact ⟨x, by simp, g⟩
    · obtain ⟨p, hp, k⟩ := ih g
      exact ⟨p, by simp [hp], k⟩
theorem primes256_le : ∀ p ∈ primes256, 2 ≤ p ∧ p ≤ 251 := by decide
/-- The product of the odd ones. -/
def oddProd : Nat := lprod primes256.tail
def smoothK : Nat := Nat.pow (lprod primes256) 16
theorem smooth_no {f : Nat} (h : Pr f) (hf : 257 ≤ f) (hd : f ∣ smoothK) : False := by
  obtain ⟨p, hp, hfp⟩ := h.dvd_lprod (h.dvd_pow (k := 16) hd)
  have := primes256_le p hp
  have := Nat.le_of_dvd (by omega) hfp
  omega
def allP : List Nat → (Nat → Bool) → Bool
  | [], _ => true
  | p :: r, t => Bool.and (t p) (allP r t)
theorem allP_sound {l : List Nat} {t : Nat → Bool} (h : allP l t = true) : ∀ p ∈ l, t p = true := by
  induction l with
  | nil => intro p hp; cases hp
  | cons x r ih =>
    have h2 : (t x && allP r t) = true := h
    rw [Bool.and_eq_true] at h2
    intro p hp
    rcases List.mem_cons.1 hp with rfl | hp
    · exact h2.1
    · exact ih h2.2 p hp
/-- L generates the exponents of q, and divides q - 1. -/
def ordOK (q L : Nat) : Bool :=
  Bool.and (Nat.beq (Nat.mod (Nat.pred q) L) 0) (Bool.and (inS q L) (Bool.and (force (Nat.gcd L smoothK) fun D => Bool.or (Nat.beq D L) (Bool.not (inS q D)))
    (allP primes256 fun p => Bool.or (Bool.not (Nat.beq (Nat.mod L p) 0)) (Bool.not (inS q (Nat.div L p))))))
theorem small_smooth : ∀ x, x < 256 → x ≠ 0 → smoothK % x = 0 := by decide +kernel
theorem small_prime : ∀ f, f < 257 → (f < 2 ∨ f ∈ primes256 ∨ (f % 2 = 0 ∧ f ≠ 2) ∨ (f % 3 = 0 ∧ f ≠ 3) ∨ (f % 5 = 0 ∧ f ≠ 5) ∨ (f % 7 = 0 ∧ f ≠ 7) ∨ (f % 11 = 0 ∧ f ≠ 11) ∨ (f % 13 = 0 ∧ f ≠ 13)) := by decide +kernel
theorem Pr.small {f : Nat} (h : Pr f) (hf : f < 257) : f ∈ primes256 := by
  have key : ∀ d, 2 ≤ d → f % d = 0 → f = d := fun d hd hm => by
    rcases h.2 d (Nat.dvd_of_mod_eq_zero hm) with g | g
    · omega
    · exact g.symm
  rcases small_prime f hf with g | g | ⟨g, k⟩ | ⟨g, k⟩ | ⟨g, k⟩ | ⟨g, k⟩ | ⟨g, k⟩ | ⟨g, k⟩
  · have := h.1; omega
  · exact g
  all_goals exact absurd (key _ (by decide) g) k
theorem ordOK_sound {q L : Nat} (hq : 1 < q) (hL0 : 0 < L) (hL : L ≤ 65536) (h : ordOK q L = true) : L ∣ q - 1 ∧ ∀ x, InS q x → L ∣ x := by
  unfold ordOK at h
  rw [force_eq] at h
  simp only [Bool.and_eq_true, Bool.or_eq_true, Nat.beq_eq] at h
  obtain ⟨h1, h2, h3, h4⟩ := h
  refine ⟨Nat.dvd_of_mod_eq_zero h1, fun x hx => ?_⟩
  have hS := (inS_iff q L).1 h2
  have hg := hx.gcd hq hS
  have hgd := Nat.gcd_dvd_right x L
  by_cases he : Nat.gcd x L = L
  · exact he ▸ Nat.gcd_dvd_left x L
  · exfalso
    obtain ⟨c, hc⟩ := hgd
    have hc2 : 2 ≤ c := by
      rcases Nat.lt_or_ge c 2 with g | g
      · match c, g with
        | 0, _ => omega
        | 1, _ => exact absurd (by rw [Nat.mul_one] at hc; exact hc.symm) he
      · exact g
    obtain ⟨f, hf, hfc⟩ := exists_prime c hc2
    obtain ⟨c', hc'⟩ := hfc
    have hLf : L / f = Nat.gcd x L * c' := by
      have hf0 : 0 < f := by have := hf.1; omega
      have e : L = f * (Nat.gcd x L * c') := by
        rw [hc'] at hc
        calc L = Nat.gcd x L * (f * c') := hc
          _ = f * (Nat.gcd x L * c') := by rw [← Nat.mul_assoc, Nat.mul_comm _ f, Nat.mul_assoc]
      exact Nat.div_eq_of_eq_mul_right hf0 e
    have hSf : InS q (L / f) := hg.of_dvd hq ⟨c', hLf⟩
    have hfL : f ∣ L := by
      have h9 : f ∣ c := ⟨c', hc'⟩
      exact hc ▸ Nat.dvd_trans h9 (Nat.dvd_mul_left c _)
    rcases Nat.lt_or_ge f 257 with g | g
    · have := allP_sound h4 f (hf.small g)
      simp only [Bool.or_eq_true, Bool.not_eq_true'] at this
      rcases this with k | k
      · have e : L % f = 0 := Nat.mod_eq_zero_of_dvd hfL
        have : Nat.beq (L % f) 0 = true := by rw [e]; rfl
        rw [show Nat.beq (Nat.mod L f) 0 = true from this] at k
        cases k
      · rw [show inS q (Nat.div L f) = true from (inS_iff q (L / f)).2 hSf] at k
        cases k
    · have hlt : L / f < 256 := by
        rw [Nat.div_lt_iff_lt_mul (by omega)]
        have : 256 * 257 ≤ 256 * f := Nat.mul_le_mul_left _ g
        omega
      have hne : L / f ≠ 0 := by
        intro e
        have := Nat.div_mul_cancel hfL
        rw [e] at this
        omega
      have hd : L / f ∣ Nat.gcd L smoothK := Nat.dvd_gcd (Nat.div_dvd_of_dvd hfL) (Nat.dvd_of_mod_eq_zero (small_smooth _ hlt hne))
      rcases h3 with k | k
      · -- the smooth part is all of L: then f divides it, which is over 256
        have hfd : f ∣ smoothK := Nat.dvd_trans hfL (k ▸ Nat.gcd_dvd_right L smoothK)
        exact smooth_no hf g hfd
      · rw [show inS q (Nat.gcd L smoothK) = true from (inS_iff q _).2 (hSf.of_dvd hq hd)] at k
        cases k

end Go.Proofs.YtlipdmbdohpblaaDoor
