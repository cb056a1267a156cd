/-
  math/bits.TrailingZeros64 and modular.strong.
-/
import Derived.Test.YtlipdmbdohpblaaDoorModA
import Derived.Test.YtlipdmbdohpblaaDoorPDef
namespace Go.Proofs.YtlipdmbdohpblaaDoor
open Go.RowKit

/-- The table of package bits in its variable. -/
def Tab (w : World) : Prop := ∀ j, j < 64 → w.cell? ⟨0, j, none⟩ = some (.int .u8 ((Lib.deBruijn64tab.getD j 0 : Nat) : Int))
theorem Tab.q {w w' : World} (h : Tab w) (hq : Q w w') : Tab w' := fun j hj => hq.cell (h j hj)

theorem tz_key (x a : Nat) (hx : x < 18446744073709551616) (hx0 : x ≠ 0) (hlow : x &&& (18446744073709551616 - x) = a) :
    IntKind.u64.wrap (bits BinOp.and IntKind.u64 (x : Int) (IntKind.u64.wrap (-(x : Int))) * 285870213051353865) / 288230376151711744 = ((a * 285870213051353865 % 18446744073709551616 / 288230376151711744 : Nat) : Int) := by
  have e1 : IntKind.u64.wrap (-(x : Int)) = ((18446744073709551616 - x : Nat) : Int) := by rw [IntKind.wrap_u64]; omega
  rw [e1, bits_and_u64_nat x _ hx (by omega), hlow, IntKind.wrap_u64]
  omega

set_option maxHeartbeats 1000000 in
theorem tz_core (x k idx : Nat) (w : World) (hx0 : ((x : Int) == 0) = false)
    (key : IntKind.u64.wrap (bits BinOp.and IntKind.u64 (x : Int) (IntKind.u64.wrap (-(x : Int))) * 285870213051353865) / 288230376151711744 = (idx : Int))
    (hi : idx < 64) (hk : k < 64) (hcell : w.cell? ⟨0, idx, none⟩ = some (.int .u8 k)) :
    Calls Tryd.prog 51 #[.int .u64 x] w fun e w' => e = .returned (.int .i64 k) ∧ w = w' := by
  go_enter Tryd.func51, Tryd.ntmps51
  go_wp2_with (simp only [key])
  go_ret
  exact ⟨rfl, rfl⟩

theorem tz64 (x : Nat) (w : World) (hx : x < 2 ^ 64) (hx0 : x ≠ 0) (hT : Tab w) :
    Calls Tryd.prog 51 #[.int .u64 x] w fun e w' => e = .returned (.int .i64 (Lib.ctz 64 x)) ∧ w = w' := by
  obtain ⟨hlow, hk⟩ := Lib.lowest_bit 64 x hx0 hx
  obtain ⟨hi, htab⟩ := Lib.deBruijn64_at _ hk
  have hcell := hT _ hi
  rw [htab] at hcell
  exact tz_core x _ _ w (by rw [beq_eq_false_iff_ne]; omega) (tz_key x _ hx hx0 hlow) hi hk hcell

def BoolD (w : World) (b : Bool) (e : Ending) (w' : World) : Prop := e = .returned (.bool b) ∧ ∃ m, w' = w.drewN m

theorem strong_pow (n b k x0 : Nat) (W : World) (hn : 3 ≤ n) (hn2 : n < 2147483648) (hx : x0 = b ^ ((n - 1) / 2 ^ k) % n) :
    Calls Tryd.prog 32 #[.int .u64 n, .int .u64 ((b : Int) % (n : Int)), .int .u64 (((n : Int) - 1) / 2 ^ k)] W fun e w' => e = .returned (.int .u64 (x0 : Int)) ∧ w' = W := by
  have e1 : ((n : Int) - 1) / 2 ^ k = (((n - 1) / 2 ^ k : Nat) : Int) := by
    rw [show ((2 : Int) ^ k) = ((2 ^ k : Nat) : Int) from by push_cast; rfl, show (n : Int) - 1 = ((n - 1 : Nat) : Int) from by omega]; rfl
  rw [e1, show (b : Int) % (n : Int) = ((b % n : Nat) : Int) from rfl]
  have hd : (n - 1) / 2 ^ k ≤ n - 1 := Nat.div_le_self _ _
  have hbm : b % n < n := Nat.mod_lt _ (by omega)
  refine (mod_pow n (b % n) ((n - 1) / 2 ^ k) W (by omega) (by omega) (by omega) (by omega)).mono ?_
  rintro e w' ⟨h1, h2⟩
  exact ⟨by rw [h1, hx, ← Nat.pow_mod], h2.symm⟩

set_option maxHeartbeats 1000000 in
theorem strong_any (n b : Nat) (w : World) (hn : 3 ≤ n) (hn2 : n < 2147483648) (hodd : n % 2 = 1) (hb : b < 2147483648) (hT : Tab w) :
    Calls Tryd.prog 36 #[.int .u64 n, .int .u64 b] w (BoolD w (strongB n b)) := by
  obtain ⟨m, hm, hk⟩ := Lib.ctzFrom_spec 64 (n - 1) (by omega) (by omega)
  have hctz : Lib.ctz 64 (n - 1) = Lib.ctzFrom 64 (n - 1) := by unfold Lib.ctz; rw [if_neg (by omega)]
  rw [← hctz] at hm hk
  have hk1 : 0 < Lib.ctz 64 (n - 1) := by
    rcases Nat.eq_zero_or_pos (Lib.ctz 64 (n - 1)) with h | h
    · rw [h] at hm; omega
    · exact h
  have hx0 : b ^ ((n - 1) / 2 ^ Lib.ctz 64 (n - 1)) % n < n := Nat.mod_lt _ (by omega)
  obtain ⟨k, hkk⟩ : ∃ k, k = Lib.ctz 64 (n - 1) := ⟨_, rfl⟩
  obtain ⟨x0, hxx⟩ : ∃ x, x = b ^ ((n - 1) / 2 ^ k) % n := ⟨_, rfl⟩
  have hsb : strongB n b = ((x0 == 1) || ((x0 == n - 1) || sqLoop n (k - 1) x0)) := by rw [hxx, hkk]; rfl
  rw [hsb]
  rw [← hkk] at hk hk1 hx0
  rw [← hxx] at hx0
  have HK := Lib.hid hkk
  have HX := Lib.hid hxx
  have hd : (n - 1) / 2 ^ k ≤ n - 1 := Nat.div_le_self _ _
  have hbm : b % n < n := Nat.mod_lt _ (by omega)
  clear hkk hxx hm hctz hsb
  go_enter Tryd.func36, Tryd.ntmps36
  go_wp2_with fail
  rw [show (n : Int) - 1 = ((n - 1 : Nat) : Int) from by omega]
  refine (tz64 (n - 1) _ (by omega) (by omega) hT).mono ?_
  rintro e w' ⟨rfl, rfl⟩
  rw [← HK.out]
  go_wp2_with fail
  go_quiet ((go_at_call 32; exact Calls.quiet_of_same (strong_pow n b k x0 _ hn hn2 HX.out)))
  by_cases h1 : x0 = 1
  · have HE := Lib.hid h1
    have hb1 : ((x0 : Int) == 1) = true := by rw [beq_iff_eq]; omega
    clear h1
    go_wp2_with fail
    go_ret
    exact ⟨ret_bool (by simp [HE.out]), _, rfl⟩
  · have hb1 : ((x0 : Int) == 1) = false := by rw [beq_eq_false_iff_ne]; omega
    have hbn : (x0 == 1) = false := by rw [beq_eq_false_iff_ne]; omega
    by_cases h2 : x0 = n - 1
    · have HE := Lib.hid h2
      have hb2 : ((x0 : Int) == (n : Int) - 1) = true := by rw [beq_iff_eq]; omega
      clear h2
      go_wp2_with fail
      go_ret
      exact ⟨ret_bool (by rw [show (x0 == n - 1) = true by rw [beq_iff_eq]; exact HE.out]; simp), _, rfl⟩
    · have hb2 : ((x0 : Int) == (n : Int) - 1) = false := by rw [beq_eq_false_iff_ne]; omega
      have hb3 : (x0 == n - 1) = false := by rw [beq_eq_false_iff_ne]; exact h2
      have hpost : ((x0 == 1) || ((x0 == n - 1) || sqLoop n (k - 1) x0)) = sqLoop n (k - 1) x0 := by rw [hbn, hb3]; rfl
      have HP := Lib.hid hpost
      clear hpost hbn hb3
      go_wp2_with fail
      go_loopw [6, 29] (fun xv iv wr => ∃ i x : Nat, iv = .int .i64 i ∧ xv = .int .u64 x ∧ i ≤ k - 1 ∧ x < n ∧ sqLoop n (k - 1 - i) x = sqLoop n (k - 1) x0 ∧ ∃ m, wr = w.drewN m) (fun _ iv _ => (k - (intOf iv).toNat))
      case atStart => exact ⟨0, x0, rfl, rfl, Nat.zero_le _, hx0, rfl, _, rfl⟩
      case round =>
        obtain ⟨i, x, rfl, rfl, hi, hx, hs, m, rfl⟩ := hrel
        have Hs := Lib.hid hs
        clear hs
        by_cases h3 : i < k - 1
        · have hss : sqLoop n (k - 1 - i) x = ((x * x % n == n - 1) || sqLoop n (k - 1 - (i + 1)) (x * x % n)) := by
            rw [show k - 1 - i = (k - 1 - (i + 1)) + 1 from by omega, sqLoop_succ]
          have HSS := Lib.hid hss
          clear hss
          go_wp2_with fail
          refine (mod_mul_i n x x _ rfl rfl (by omega) (sq_lt (by omega) (by omega))).mono ?_
          rintro e w' hr1
          obtain ⟨u, Hu, rfl, rfl⟩ := hr1.named
          have hu1 : u < n := by rw [Hu.out]; exact Nat.mod_lt _ (by omega)
          by_cases h4 : u = n - 1
          · have hb4 : ((u : Int) == (n : Int) - 1) = true := by rw [beq_iff_eq]; omega
            have HE := Lib.hid h4
            clear h4
            go_wp2_with fail
            go_ret
            exact ⟨ret_bool (by rw [HP.out, ← Hs.out, HSS.out, ← Hu.out, HE.out]; simp), _, rfl⟩
          · have hb4 : ((u : Int) == (n : Int) - 1) = false := by rw [beq_eq_false_iff_ne]; omega
            have hb5 : (u == n - 1) = false := by rw [beq_eq_false_iff_ne]; exact h4
            have HE := Lib.hid hb5
            clear hb5
            go_wp2_with fail
            refine ⟨⟨i + 1, u, rfl, rfl, by omega, hu1, by rw [← Hs.out, HSS.out, ← Hu.out, HE.out]; rfl, _, rfl⟩, ?_⟩
            simp only [intOf]; omega
        · go_wp2_with fail
          go_ret
          exact ⟨ret_bool (by rw [HP.out, ← Hs.out, show k - 1 - i = 0 from by omega]; rfl), _, rfl⟩

end Go.Proofs.YtlipdmbdohpblaaDoor
