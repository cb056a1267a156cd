/-
  The walk of ModularPrimes.
-/
import Derived.Test.YtlipdmbdohpblaaDoorLawA
namespace Go.Proofs.YtlipdmbdohpblaaDoor
open Go.RowKit

theorem upN_spec : ∀ k n, 2147483648 - n = k → upN n = 0 ∨ (n < upN n ∧ primeB (upN n) = true ∧ ∀ j, n < j → j < upN n → primeB j = false) := by
  intro k
  induction k with
  | zero => intro n hk; exact .inl (upN_end (by omega))
  | succ k ih =>
    intro n hk
    rw [upN_step (by omega)]
    rcases hb : primeB (n + 1) with _ | _
    · rcases ih (n + 1) (by omega) with h | ⟨h1, h2, h3⟩
      · exact .inl h
      · right
        refine ⟨by show n < upN (n + 1); omega, h2, fun j hj1 hj2 => ?_⟩
        rcases Nat.lt_or_ge (n + 1) j with g | g
        · exact h3 j g hj2
        · obtain rfl : j = n + 1 := by omega
          exact hb
    · right
      refine ⟨by show n < n + 1; omega, hb, fun j hj1 hj2 => ?_⟩
      have hj3 : j < n + 1 := hj2
      omega
theorem downN_spec (m : Nat) (hm : primeB m = true) : ∀ k r, r - m = k → m < r → (∀ j, m < j → j < r → primeB j = false) → downN r = m := by
  intro k
  induction k with
  | zero => intro r hk hr; omega
  | succ k ih =>
    intro r hk hr h
    rw [downN_step (by omega)]
    rcases Nat.lt_or_ge m (r - 1) with g | g
    · rw [h (r - 1) g (by omega)]
      exact ih (r - 1) (by omega) g (fun j a b => h j a (by omega))
    · rw [show r - 1 = m from by omega, hm]
      rfl
theorem next_before {m r : Nat} (hm : primeB m = true) (hr : nextN m = r) : r = 0 ∨ (m < r ∧ r < 2147483648 ∧ beforeN r = m) := by
  rw [nextN_eq] at hr
  rcases upN_spec _ m rfl with h | ⟨h1, h2, h3⟩
  · exact .inl (by omega)
  · rw [hr] at h1 h2 h3
    have hlt := (prime_iff.1 h2).1
    refine .inr ⟨h1, hlt, ?_⟩
    rw [beforeN_eq, Nat.min_eq_left (by omega)]
    exact downN_spec m hm _ r rfl h1 h3
theorem product_not (a b : Nat) : primeB ((2 + a) * (2 + b)) = false := by
  rcases hb : primeB ((2 + a) * (2 + b)) with _ | _
  · rfl
  · exfalso
    obtain ⟨_, h⟩ := prime_iff.1 hb
    rcases h.2 (2 + a) ⟨2 + b, rfl⟩ with g | g
    · omega
    · have : (2 + a) * 2 ≤ (2 + a) * (2 + b) := Nat.mul_le_mul_left _ (by omega)
      omega

theorem low31 (n : Nat) : ∃ m : Nat, (n : Int) % 2147483648 = (m : Int) ∧ m < 2147483648 := ⟨n % 2147483648, rfl, Nat.mod_lt _ (by decide)⟩
theorem prod_facts (a b : Nat) (ha : a < 65536) (hb : b < 65536) : IntKind.u64.wrap (IntKind.u64.wrap (2 + IntKind.u64.wrap (a : Int)) * IntKind.u64.wrap (2 + IntKind.u64.wrap (b : Int))) = (((2 + a) * (2 + b) : Nat) : Int) ∧ (2 + a) * (2 + b) < 2 ^ 64 := by
  have h1 : (2 + (a : Int)) * (2 + (b : Int)) = (((2 + a) * (2 + b) : Nat) : Int) := by rw [Int.natCast_mul, Int.natCast_add, Int.natCast_add]; rfl
  have h2 : (2 + a) * (2 + b) < 2 ^ 64 := sq_lt (by omega) (by omega)
  have ea : IntKind.u64.wrap (a : Int) = a := by rw [IntKind.wrap_u64]; omega
  have eb : IntKind.u64.wrap (b : Int) = b := by rw [IntKind.wrap_u64]; omega
  have ea2 : IntKind.u64.wrap (2 + (a : Int)) = 2 + a := by rw [IntKind.wrap_u64]; omega
  have eb2 : IntKind.u64.wrap (2 + (b : Int)) = 2 + b := by rw [IntKind.wrap_u64]; omega
  rw [ea, eb, ea2, eb2, h1, IntKind.wrap_u64]
  generalize (2 + a) * (2 + b) = x at h2
  exact ⟨by omega, h2⟩

set_option maxHeartbeats 1000000 in
theorem law_primes (n a b : Nat) (w : World) (hn : n < 4294967296) (ha : a < 65536) (hb : b < 65536) (hT : Tab w) :
    Calls Tryd.prog 4 #[.int .u32 n, .int .u16 a, .int .u16 b] w (SaneP w) := by
  obtain ⟨m, hm1, hm2⟩ := low31 n
  obtain ⟨hab, hab2⟩ := prod_facts a b ha hb
  have hp := product_not a b
  have Hm2 := Lib.hid hm2
  have Hab := Lib.hid hab
  have Hab2 := Lib.hid hab2
  have HP := Lib.hid hp
  have hni : (n : Int) < 4294967296 := by omega
  clear hm2 hab hab2 hp hn ha hb
  obtain ⟨bm, hbm⟩ : ∃ b, primeB m = b := ⟨_, rfl⟩
  have HB := Lib.hid hbm
  clear hbm
  go_enter Tryd.func4, Tryd.ntmps4
  go_wp2_with fail
  refine (sane_any w hT).mono ?_
  rintro e w1 ⟨rfl, q1⟩
  go_wp2_with fail
  refine (prime_ci m bm _ rfl (by have := Hm2.out; omega) (hT.q q1) HB.out).mono ?_
  rintro e w2 ⟨rfl, hq⟩
  have q2 := q1.trans hq
  clear hq
  have Hm1 := Lib.hid hm1
  clear hm1
  cases bm with
  | false =>
    go_wp2_with fail
    refine (prime_ci ((2 + a) * (2 + b)) false _ Hab.out Hab2.out (hT.q q2) HP.out).mono ?_
    rintro e w9 ⟨rfl, hq9⟩
    go_wp2_with fail
    go_ret
    exact ⟨rfl, q2.trans hq9⟩
  | true =>
    have h2 := (prime_iff.1 HB.out).2.1
    have htr := (prime_iff.1 HB.out).2.trial
    have HTr := @Lib.hid _ htr
    clear htr
    obtain ⟨r, hr⟩ : ∃ r, nextN m = r := ⟨_, rfl⟩
    have hnb := next_before HB.out hr
    have HR := Lib.hid hr
    clear hr
    have HNB := Lib.hid hnb
    clear hnb
    go_wp2_with fail
    have ALL := Lib.hid (And.intro Hm2 (And.intro Hab (And.intro Hab2 (And.intro HP (And.intro HR HNB)))))
    clear Hm2 Hab Hab2 HP HB HR HNB Hm1 hni
    go_loop [9] (fun dv => ∃ d : Nat, dv = .int .u64 d ∧ 2 ≤ d ∧ d ≤ 1001) (fun dv => gap 5000 (intOf dv).toNat)
    case atStart => exact ⟨2, rfl, by omega, by omega⟩
    case round =>
      obtain ⟨d, rfl, hd2, hd3⟩ := hrel
      have hdd : d * d < 2 ^ 64 := sq_lt (by omega) (by omega)
      by_cases h5 : d ≤ 1000 ∧ d * d ≤ m
      · obtain ⟨h5, h6⟩ := h5
        have h7 := HTr.out d hd2 h6
        have hbz : ((m : Int) % (d : Int) == 0) = false := by rw [beq_eq_false_iff_ne, cmod' m d]; exact fun h => h7 (Int.ofNat_inj.1 h)
        have H7 := Lib.hid h7
        have h5i : (d : Int) ≤ 1000 := by omega
        have H5 := Lib.hid h5
        have H3 := Lib.hid hd3
        clear h7 h5 hd3
        go_wp2_with fail
        go_round
        case rel => exact ⟨d + 1, rfl, by omega, by have := H5.out; omega⟩
        case measure => simp only [intOf, gap]; have := H5.out; omega
      · have hcase : d = 1001 ∨ (d ≤ 1000 ∧ m < d * d) := by omega
        have H5 := Lib.hid h5
        clear h5
        rcases hcase with rfl | ⟨h5, h6⟩
        · clear hd3 hd2 hdd
          go_wp2_with fail
          refine (next_ci m r _ rfl (by have := ALL.out.1.out; omega) (hT.q q2) ALL.out.2.2.2.2.1.out).mono ?_
          rintro e w3 ⟨rfl, hq⟩
          have q3 := q2.trans hq
          clear hq
          rcases ALL.out.2.2.2.2.2.out with h0 | ⟨g1, g2, g3⟩
          · have hr0 : ((r : Int) == 0) = true := by rw [beq_iff_eq]; omega
            have H0 := Lib.hid h0
            clear h0
            go_wp2_with fail
            refine (prime_ci ((2 + a) * (2 + b)) false _ ALL.out.2.1.out ALL.out.2.2.1.out (hT.q q3) ALL.out.2.2.2.1.out).mono ?_
            rintro e w9 ⟨rfl, hq9⟩
            go_wp2_with fail
            go_ret
            exact ⟨rfl, q3.trans hq9⟩
          · have hr0 : ((r : Int) == 0) = false := by rw [beq_eq_false_iff_ne]; omega
            have hrm : ¬ (r : Int) ≤ (m : Int) := by omega
            have G2 := Lib.hid g2
            have G3 := Lib.hid g3
            clear g1 g2 g3
            go_wp2_with fail
            refine (before_ci r m _ rfl (by have := G2.out; omega) (hT.q q3) G3.out).mono ?_
            rintro e w4 ⟨rfl, hq⟩
            have q4 := q3.trans hq
            clear hq
            go_wp2_with fail
            refine (prime_ci ((2 + a) * (2 + b)) false _ ALL.out.2.1.out ALL.out.2.2.1.out (hT.q q4) ALL.out.2.2.2.1.out).mono ?_
            rintro e w9 ⟨rfl, hq9⟩
            go_wp2_with fail
            go_ret
            exact ⟨rfl, q4.trans hq9⟩
        · have h5i : (d : Int) ≤ 1000 := by omega
          have H5b := Lib.hid h5
          clear h5 hd3
          go_wp2_with fail
          refine (next_ci m r _ rfl (by have := ALL.out.1.out; omega) (hT.q q2) ALL.out.2.2.2.2.1.out).mono ?_
          rintro e w3 ⟨rfl, hq⟩
          have q3 := q2.trans hq
          clear hq
          rcases ALL.out.2.2.2.2.2.out with h0 | ⟨g1, g2, g3⟩
          · have hr0 : ((r : Int) == 0) = true := by rw [beq_iff_eq]; omega
            have H0 := Lib.hid h0
            clear h0
            go_wp2_with fail
            refine (prime_ci ((2 + a) * (2 + b)) false _ ALL.out.2.1.out ALL.out.2.2.1.out (hT.q q3) ALL.out.2.2.2.1.out).mono ?_
            rintro e w9 ⟨rfl, hq9⟩
            go_wp2_with fail
            go_ret
            exact ⟨rfl, q3.trans hq9⟩
          · have hr0 : ((r : Int) == 0) = false := by rw [beq_eq_false_iff_ne]; omega
            have hrm : ¬ (r : Int) ≤ (m : Int) := by omega
            have G2 := Lib.hid g2
            have G3 := Lib.hid g3
            clear g1 g2 g3
            go_wp2_with fail
            refine (before_ci r m _ rfl (by have := G2.out; omega) (hT.q q3) G3.out).mono ?_
            rintro e w4 ⟨rfl, hq⟩
            have q4 := q3.trans hq
            clear hq
            go_wp2_with fail
            refine (prime_ci ((2 + a) * (2 + b)) false _ ALL.out.2.1.out ALL.out.2.2.1.out (hT.q q4) ALL.out.2.2.2.1.out).mono ?_
            rintro e w9 ⟨rfl, hq9⟩
            go_wp2_with fail
            go_ret
            exact ⟨rfl, q4.trans hq9⟩
end Go.Proofs.YtlipdmbdohpblaaDoor
