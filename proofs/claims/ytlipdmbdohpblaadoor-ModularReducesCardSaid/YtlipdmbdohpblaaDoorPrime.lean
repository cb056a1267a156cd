/-
  modular.Prime.
-/
import Derived.Test.YtlipdmbdohpblaaDoorStrong
namespace Go.Proofs.YtlipdmbdohpblaaDoor
open Go.RowKit

theorem cmod' (n b : Nat) : (n : Int) % (b : Int) = ((n % b : Nat) : Int) := rfl

theorem base_index (k : Nat) (hk : k < 4) : ∃ b, 2 ≤ b ∧ b ≤ 7 ∧ (k = 0 → b = 2) ∧ (∀ n, testB n (bases.drop k) = if n = b then true else if n % b = 0 then false else (strongB n b && testB n (bases.drop (k + 1)))) ∧
    ∀ w, (Instr.index 52 (.agg #[.int .u64 2, .int .u64 3, .int .u64 5, .int .u64 7]) (.int .i64 (k : Int))).run Tryd.prog w = .ok (.int .u64 (b : Int)) w := by
  match k, hk with
  | 0, _ => exact ⟨2, by decide, by decide, fun _ => rfl, fun _ => rfl, fun _ => by kernel_rfl⟩
  | 1, _ => exact ⟨3, by decide, by decide, (fun h => by cases h), fun _ => rfl, fun _ => by kernel_rfl⟩
  | 2, _ => exact ⟨5, by decide, by decide, (fun h => by cases h), fun _ => rfl, fun _ => by kernel_rfl⟩
  | 3, _ => exact ⟨7, by decide, by decide, (fun h => by cases h), fun _ => rfl, fun _ => by kernel_rfl⟩

set_option maxHeartbeats 1000000 in
theorem prime_in (n : Nat) (w : World) (h2 : 2 ≤ n) (h3 : n < 2147483648) (hT : Tab w) :
    Calls Tryd.prog 9 #[.int .u64 n] w (BoolD w (testB n bases)) := by
  go_enter Tryd.func9, Tryd.ntmps9
  go_wp2_with fail
  go_step3
  go_wp2_with fail
  go_step3
  go_wp2_with fail
  go_loopw [12] (fun iv wr => ∃ k : Nat, iv = .int .i64 k ∧ k ≤ 4 ∧ (k = 0 ∨ (n % 2 = 1 ∧ 3 ≤ n)) ∧ testB n (bases.drop k) = testB n bases ∧ ∃ m, wr = w.drewN m) (fun iv _ => 4 - (intOf iv).toNat)
  case atStart => exact ⟨0, rfl, by omega, .inl rfl, rfl, 0, rfl⟩
  case round =>
    obtain ⟨k, rfl, hk, hod, ht, m, rfl⟩ := hrel
    have Ht := Lib.hid ht
    clear ht
    by_cases h4 : k < 4
    · obtain ⟨b, hb1, hb2, hb0, hstep, hix⟩ := base_index k h4
      have hst := hstep n
      rw [Ht.out] at hst
      have HS := Lib.hid hst
      clear hst hstep
      by_cases h5 : n = b
      · have hbn : ((n : Int) == (b : Int)) = true := by rw [beq_iff_eq]; omega
        have H5 := Lib.hid h5
        have H0 := Lib.hid hb0
        clear h5 hb0
        go_wp2_with fail
        go_ret
        exact ⟨ret_bool (by rw [HS.out, if_pos H5.out]), _, rfl⟩
      · have hbn : ((n : Int) == (b : Int)) = false := by rw [beq_eq_false_iff_ne]; omega
        by_cases h6 : n % b = 0
        · have hbm : ((n : Int) % (b : Int) == 0) = true := by rw [beq_iff_eq, cmod' n b]; exact congrArg _ h6
          have H5 := Lib.hid h5
          have H6 := Lib.hid h6
          have H0 := Lib.hid hb0
          clear h5 h6 hb0
          go_wp2_with fail
          go_ret
          exact ⟨ret_bool (by rw [HS.out, if_neg H5.out, if_pos H6.out]), _, rfl⟩
        · have hbm : ((n : Int) % (b : Int) == 0) = false := by rw [beq_eq_false_iff_ne, cmod' n b]; exact fun h => h6 (Int.ofNat_inj.1 h)
          have hodd : n % 2 = 1 ∧ 3 ≤ n := by
            rcases hod with h | h
            · have := hb0 h
              subst this
              omega
            · exact h
          obtain ⟨ho, hn3⟩ := hodd
          have H5 := Lib.hid h5
          have H6 := Lib.hid h6
          have H0 := Lib.hid hb0
          have HO := Lib.hid ho
          have HD := Lib.hid hod
          clear h5 h6 hb0 ho hod
          go_wp2_with fail
          refine (strong_any n b _ hn3 h3 HO.out (by omega) (hT.q (by repeat (first | exact Q.refl _ | assumption | apply Q.drew | apply Q.drewN | apply Q.alloc)))).mono ?_
          rintro e w' ⟨he, m2, rfl⟩
          rcases hsb : strongB n b with _ | _
          · rw [hsb] at he
            subst he
            have HB := Lib.hid hsb
            clear hsb
            go_wp2_with fail
            go_ret
            exact ⟨ret_bool (by rw [HS.out, if_neg H5.out, if_neg H6.out, HB.out]; rfl), _, rfl⟩
          · rw [hsb] at he
            subst he
            have HB := Lib.hid hsb
            clear hsb
            go_wp2_with fail
            refine ⟨⟨k + 1, rfl, by omega, .inr ⟨HO.out, hn3⟩, by rw [HS.out, if_neg H5.out, if_neg H6.out, HB.out]; rfl, _, rfl⟩, ?_⟩
            simp only [intOf]; omega
    · obtain rfl : k = 4 := by omega
      have HD := Lib.hid hod
      clear hod
      go_wp2_with fail
      go_ret
      exact ⟨ret_bool (by rw [← Ht.out]; rfl), _, rfl⟩

theorem prime_any (n : Nat) (w : World) (hn : n < 2 ^ 64) (hT : Tab w) :
    Calls Tryd.prog 9 #[.int .u64 n] w (BoolD w (primeB n)) := by
  by_cases h2 : 2 ≤ n
  · by_cases h3 : n < 2147483648
    · rw [show primeB n = testB n bases from by simp [primeB, h2, h3]]
      exact prime_in n w h2 h3 hT
    · have hp : primeB n = false := by simp [primeB, h3]
      have HP := Lib.hid hp
      clear hp
      go_enter Tryd.func9, Tryd.ntmps9
      go_wp2_with fail
      go_step3
      go_wp2_with fail
      go_ret
      exact ⟨ret_bool HP.out.symm, 0, rfl⟩
  · have hp : primeB n = false := by simp [primeB, h2]
    have HP := Lib.hid hp
    clear hp
    go_enter Tryd.func9, Tryd.ntmps9
    go_wp2_with fail
    go_step3
    go_wp2_with fail
    go_ret
    exact ⟨ret_bool HP.out.symm, 0, rfl⟩
end Go.Proofs.YtlipdmbdohpblaaDoor
