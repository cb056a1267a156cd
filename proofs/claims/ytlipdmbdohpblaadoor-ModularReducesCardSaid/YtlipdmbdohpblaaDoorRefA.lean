/-
  The reference's Prime, Next and Before.
-/
import Derived.Test.YtlipdmbdohpblaaDoorIter
import Derived.Test.YtlipdmbdohpblaaDoorNtF
namespace Go.Proofs.YtlipdmbdohpblaaDoor
open Go.RowKit

def RetB (w : World) (b : Bool) (e : Ending) (w' : World) : Prop := e = .returned (.bool b) ∧ w = w'
/-- The divisors below d have been tried. -/
def Tried (n d : Nat) : Prop := ∀ k, 2 ≤ k → k < d → n % k ≠ 0
theorem Tried.next {n d : Nat} (h : Tried n d) (hm : n % d ≠ 0) : Tried n (d + 1) := fun k h2 hk => by
  rcases Nat.lt_or_ge k d with g | g
  · exact h k h2 g
  · obtain rfl : k = d := by omega
    exact hm
theorem Tried.pr {n d : Nat} (h : Tried n d) (h2 : 2 ≤ n) (hn : n < d * d) (h3 : n < 2147483648) : primeB n = true :=
  prime_iff.2 ⟨h3, pr_of_trial h2 fun k hk hkk => h k hk (by
    rcases Nat.lt_or_ge k d with g | g
    · exact g
    · have := Nat.mul_le_mul g g
      omega)⟩
theorem not_pr {n d : Nat} (h2 : 2 ≤ d) (hd : d * d ≤ n) (hm : n % d = 0) : primeB n = false := by
  rcases hb : primeB n with _ | _
  · rfl
  · exact absurd hm ((prime_iff.1 hb).2.trial d h2 hd)

theorem ref_prime (n : Nat) (w : World) (hn : n < 2 ^ 64) :
    Calls Tryd.prog 10 #[.int .u64 n] w (RetB w (primeB n)) := by
  by_cases h2 : 2 ≤ n
  · by_cases h3 : n < 2147483648
    · go_enter Tryd.func10, Tryd.ntmps10
      go_wp2
      go_loop [3] (fun dv => ∃ d : Nat, dv = .int .u64 d ∧ 2 ≤ d ∧ d ≤ 46341 ∧ Tried n d) (fun dv => 50000 - (intOf dv).toNat)
      case atStart => exact ⟨2, rfl, by omega, by omega, fun k a b => by omega⟩
      case round =>
        obtain ⟨d, rfl, hd2, hd3, ht⟩ := hrel
        have HT := @Lib.hid _ ht
        clear ht
        have hdd : d * d < 2 ^ 64 := sq_lt (by omega) (by omega)
        by_cases h4 : d * d ≤ n
        · have hd4 : d ≤ 46340 := by
            rcases Nat.lt_or_ge d 46341 with g | g
            · omega
            · have := Nat.mul_le_mul g g
              omega
          by_cases h5 : n % d = 0
          · have hb : ((n : Int) % (d : Int) == 0) = true := by rw [beq_iff_eq, cmod' n d]; exact congrArg _ h5
            have hnp := not_pr hd2 h4 h5
            have HN := Lib.hid hnp
            have H5 := Lib.hid h5
            clear hnp h5
            go_wp2_with fail
            go_ret
            exact ⟨ret_bool HN.out.symm, rfl⟩
          · have hb : ((n : Int) % (d : Int) == 0) = false := by rw [beq_eq_false_iff_ne, cmod' n d]; exact fun h => h5 (Int.ofNat_inj.1 h)
            have ht2 := HT.out.next h5
            have HT2 := @Lib.hid _ ht2
            have H5 := Lib.hid h5
            clear ht2 h5
            go_wp2_with fail
            go_round
            case rel => exact ⟨d + 1, rfl, by omega, by omega, HT2.out⟩
            case measure => simp [intOf]; omega
        · have hp := HT.out.pr h2 (by omega) h3
          have HP := Lib.hid hp
          clear hp
          go_wp2_with fail
          go_ret
          exact ⟨ret_bool HP.out.symm, rfl⟩
    · have hp : primeB n = false := by simp [primeB, h3]
      have HP := Lib.hid hp
      clear hp
      go_enter Tryd.func10, Tryd.ntmps10
      go_wp2
      go_ret
      exact ⟨ret_bool HP.out.symm, rfl⟩
  · have hp : primeB n = false := by simp [primeB, h2]
    have HP := Lib.hid hp
    clear hp
    go_enter Tryd.func10, Tryd.ntmps10
    go_wp2
    go_ret
    exact ⟨ret_bool HP.out.symm, rfl⟩
theorem ref_prime_i (n : Nat) {A : Int} (w : World) (hA : A = (n : Int)) (hn : n < 2 ^ 64) :
    Calls Tryd.prog 10 #[.int .u64 A] w (RetB w (primeB n)) := by
  subst hA; exact ref_prime n w hn

/-- What Next still has to find. -/
def upN (n : Nat) : Nat := optN (srch (· + 1) (fun x => decide (x < 2147483648)) (2147483648 - n) n)
theorem upN_end {n : Nat} (h : ¬ n < 2147483648) : upN n = 0 := by
  unfold upN
  rw [show 2147483648 - n = 0 from by omega]
  rfl
theorem upN_step {n : Nat} (h : n < 2147483648) : upN n = if primeB (n + 1) then n + 1 else upN (n + 1) := by
  unfold upN
  rw [show 2147483648 - n = (2147483648 - (n + 1)) + 1 from by omega]
  show optN (if decide (n < 2147483648) then (if primeB (n + 1) then some (n + 1) else srch _ _ (2147483648 - (n + 1)) (n + 1)) else none) = _
  rw [if_pos (by simpa using h)]
  cases primeB (n + 1) <;> rfl
def downN (n : Nat) : Nat := optN (srch (· - 1) (fun x => decide (2 < x)) n n)
theorem primeB_lt2 {n : Nat} (h : n < 2) : primeB n = false := by
  have : ¬ 2 ≤ n := by omega
  simp [primeB, this]
theorem downN_end {n : Nat} (h : n ≤ 2) : downN n = 0 := by
  unfold downN
  match n, h with
  | 0, _ => rfl
  | 1, _ => rfl
  | 2, _ => rfl
theorem downN_step {n : Nat} (h : 0 < n) : downN n = if primeB (n - 1) then n - 1 else downN (n - 1) := by
  rcases Nat.lt_or_ge 2 n with g | g
  · unfold downN
    obtain ⟨m, rfl⟩ : ∃ m, n = m + 1 := ⟨n - 1, by omega⟩
    show optN (if decide (2 < m + 1) then (if primeB (m + 1 - 1) then some (m + 1 - 1) else srch _ _ m (m + 1 - 1)) else none) = _
    rw [if_pos (by simpa using g), show m + 1 - 1 = m from rfl]
    cases primeB m <;> rfl
  · rw [downN_end g, primeB_lt2 (by omega), downN_end (by omega)]
    rfl
theorem nextN_eq (n : Nat) : nextN n = upN n := rfl
theorem beforeN_eq (n : Nat) : beforeN n = downN (min n 2147483648) := rfl

def gap (b n : Nat) : Nat := b - n
theorem ref_next (n : Nat) (w : World) (hn : n ≤ 4294967296) :
    Calls Tryd.prog 12 #[.int .u64 n] w (RetN w (nextN n)) := by
  obtain ⟨r, hr⟩ : ∃ r, nextN n = r := ⟨_, rfl⟩
  rw [hr]
  have HR := Lib.hid hr
  clear hr
  go_enter Tryd.func12, Tryd.ntmps12
  go_wp2
  go_loop [3] (fun mv => ∃ m : Nat, mv = .int .u64 m ∧ m ≤ 4294967296 ∧ Hid (upN m = r)) (fun mv => gap 2147483648 (intOf mv).toNat)
  case atStart => exact ⟨n, rfl, hn, HR⟩
  case round =>
    obtain ⟨m, rfl, hm, HM⟩ := hrel
    by_cases h : m < 2147483648
    · have hst := upN_step h
      rw [HM.out] at hst
      have HS := Lib.hid hst
      clear hst
      have hi : (m : Int) < 2147483648 := by omega
      have Hm := Lib.hid hm
      have Hh := Lib.hid h
      clear hm h
      go_wp2_with fail
      refine (ref_prime_i (m + 1) _ (by omega) (by omega)).mono ?_
      rintro e w' ⟨he, rfl⟩
      rcases hb : primeB (m + 1) with _ | _
      · rw [hb] at he
        subst he
        have h2 : upN (m + 1) = r := by rw [HS.out, hb]; rfl
        have H2 := Lib.hid h2
        clear h2 hb
        go_wp2_with fail
        go_round
        case rel => exact ⟨m + 1, rfl, by omega, H2⟩
        case measure => simp only [intOf, gap]; omega
      · rw [hb] at he
        subst he
        have h2 : r = m + 1 := by rw [HS.out, hb]; rfl
        have H2 := Lib.hid h2
        clear h2 hb
        go_wp2_with fail
        go_ret
        exact ⟨ret_int (by rw [H2.out]; omega), rfl⟩
    · have h2 : r = 0 := by rw [← HM.out, upN_end h]
      have H2 := Lib.hid h2
      have hi : ¬ (m : Int) < 2147483648 := by omega
      clear h2 hm h
      go_wp2_with fail
      go_ret
      exact ⟨ret_int (by rw [H2.out]; rfl), rfl⟩
theorem ref_before (n : Nat) (w : World) (hn : n < 2 ^ 64) :
    Calls Tryd.prog 14 #[.int .u64 n] w (RetN w (beforeN n)) := by
  obtain ⟨r, hr⟩ : ∃ r, beforeN n = r := ⟨_, rfl⟩
  rw [hr]
  rw [beforeN_eq] at hr
  have HR := Lib.hid hr
  clear hr
  obtain ⟨m0, hm0⟩ : ∃ m0, min n 2147483648 = m0 := ⟨_, rfl⟩
  rw [hm0] at HR
  have key : ∀ m0 : Nat, m0 ≤ 2147483648 → Hid (downN m0 = r) → ∃ m : Nat, (Value.int .u64 (m0 : Nat)) = .int .u64 m ∧ m ≤ 2147483648 ∧ Hid (downN m = r) := fun m0 h H => ⟨m0, rfl, h, H⟩
  by_cases hc : n ≤ 2147483648
  · obtain rfl : m0 = n := by omega
    have HN := HR
    clear HR hm0
    go_enter Tryd.func14, Tryd.ntmps14
    go_wp2
    go_loop [3] (fun mv => ∃ m : Nat, mv = .int .u64 m ∧ m ≤ 2147483648 ∧ Hid (downN m = r)) (fun mv => (intOf mv).toNat)
    case atStart => exact key m0 hc HN
    case round =>
      obtain ⟨m, rfl, hm, HM⟩ := hrel
      by_cases h : 0 < m
      · have hst := downN_step h
        rw [HM.out] at hst
        have HS := Lib.hid hst
        clear hst
        go_wp2_with fail
        refine (ref_prime_i (m - 1) _ (by omega) (by omega)).mono ?_
        rintro e w' ⟨he, rfl⟩
        rcases hb : primeB (m - 1) with _ | _
        · rw [hb] at he
          subst he
          have h2 : downN (m - 1) = r := by rw [HS.out, hb]; rfl
          have H2 := Lib.hid h2
          clear h2 hb
          go_wp2_with fail
          go_round
          case rel => exact ⟨m - 1, by rw [show ((m - 1 : Nat) : Int) = (m : Int) - 1 from by omega], by omega, H2⟩
          case measure => simp [intOf]; omega
        · rw [hb] at he
          subst he
          have h2 : r = m - 1 := by rw [HS.out, hb]; rfl
          have H2 := Lib.hid h2
          clear h2 hb
          go_wp2_with fail
          go_ret
          exact ⟨ret_int (by rw [H2.out]; omega), rfl⟩
      · have h2 : r = 0 := by rw [← HM.out, downN_end (by omega)]
        have H2 := Lib.hid h2
        clear h2
        go_wp2_with fail
        go_ret
        exact ⟨ret_int (by rw [H2.out]; rfl), rfl⟩
  · obtain rfl : m0 = 2147483648 := by omega
    have HN := HR
    clear HR hm0
    go_enter Tryd.func14, Tryd.ntmps14
    go_wp2
    go_loop [3] (fun mv => ∃ m : Nat, mv = .int .u64 m ∧ m ≤ 2147483648 ∧ Hid (downN m = r)) (fun mv => (intOf mv).toNat)
    case atStart => exact key 2147483648 (Nat.le_refl _) HN
    case round =>
      obtain ⟨m, rfl, hm, HM⟩ := hrel
      by_cases h : 0 < m
      · have hst := downN_step h
        rw [HM.out] at hst
        have HS := Lib.hid hst
        clear hst
        go_wp2_with fail
        refine (ref_prime_i (m - 1) _ (by omega) (by omega)).mono ?_
        rintro e w' ⟨he, rfl⟩
        rcases hb : primeB (m - 1) with _ | _
        · rw [hb] at he
          subst he
          have h2 : downN (m - 1) = r := by rw [HS.out, hb]; rfl
          have H2 := Lib.hid h2
          clear h2 hb
          go_wp2_with fail
          go_round
          case rel => exact ⟨m - 1, by rw [show ((m - 1 : Nat) : Int) = (m : Int) - 1 from by omega], by omega, H2⟩
          case measure => simp [intOf]; omega
        · rw [hb] at he
          subst he
          have h2 : r = m - 1 := by rw [HS.out, hb]; rfl
          have H2 := Lib.hid h2
          clear h2 hb
          go_wp2_with fail
          go_ret
          exact ⟨ret_int (by rw [H2.out]; omega), rfl⟩
      · have h2 : r = 0 := by rw [← HM.out, downN_end (by omega)]
        have H2 := Lib.hid h2
        clear h2
        go_wp2_with fail
        go_ret
        exact ⟨ret_int (by rw [H2.out]; rfl), rfl⟩
end Go.Proofs.YtlipdmbdohpblaaDoor
