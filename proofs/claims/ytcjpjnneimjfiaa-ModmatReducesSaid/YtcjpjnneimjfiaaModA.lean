/-
  Contracts of the small functions of package modular and of their reference.
  Plain arithmetic modulo p.
  modular.Inv and the reference's; Symmetric; Of and norm of package integer.
-/
import Derived.Test.YtcjpjnneimjfiaaBase
import Derived.Test.YtcjpjnneimjfiaaRows
import Derived.Test.YtcjpjnneimjfiaaRow
import Derived.Test.YtcjpjnneimjfiaaInt
namespace Go.Proofs.Ytcjpjnneimjfiaa
open Go.RowKit

def RetN (w : World) (n : Nat) (e : Ending) (w' : World) : Prop := e = .returned (.int .u64 (n : Int)) ∧ w = w'

section
variable (p a b : Nat) (w : World)
set_option maxRecDepth 100000 in
theorem mod_mul (hp : 0 < p) (hab : a * b < 2 ^ 64) :
    Calls Try.prog 71 #[.int .u64 p, .int .u64 a, .int .u64 b] w fun e w' => e = .returned (.int .u64 (a * b % p : Nat)) ∧ w = w' := by
  go_enter Try.func71, Try.ntmps71
  go_wp2
  go_ret
  exact ⟨rfl, rfl⟩
set_option maxRecDepth 100000 in
theorem ref_mul (hp : 0 < p) (hab : a * b < 2 ^ 64) :
    Calls Try.prog 37 #[.int .u64 p, .int .u64 a, .int .u64 b] w fun e w' => e = .returned (.int .u64 (a * b % p : Nat)) ∧ w = w' := by
  go_enter Try.func37, Try.ntmps37
  go_wp2
  go_ret
  exact ⟨rfl, rfl⟩
set_option maxRecDepth 100000 in
theorem ref_add (hp : p ≤ 4294967296) (ha : a < p) (hb : b < p) :
    Calls Try.prog 53 #[.int .u64 p, .int .u64 a, .int .u64 b] w fun e w' => e = .returned (.int .u64 ((a + b) % p : Nat)) ∧ w = w' := by
  go_enter Try.func53, Try.ntmps53
  go_wp2
  go_ret
  exact ⟨ret_int rfl, rfl⟩
set_option maxRecDepth 100000 in
theorem mod_sub (hp : p ≤ 4294967296) (ha : a < p) (hb : b < p) :
    Calls Try.prog 59 #[.int .u64 p, .int .u64 a, .int .u64 b] w fun e w' => e = .returned (.int .u64 ((a + p - b) % p : Nat)) ∧ w = w' := by
  have h1 : a < b → (a + p - b) % p = a + p - b := fun h => Nat.mod_eq_of_lt (by omega)
  have h2 : b ≤ a → (a + p - b) % p = a - b := fun h => by rw [Nat.mod_eq_sub_mod (by omega), Nat.mod_eq_of_lt (by omega)]; omega
  have H1 := Lib.hid h1
  have H2 := Lib.hid h2
  clear h1 h2
  by_cases h : a < b
  · go_enter Try.func59, Try.ntmps59
    go_wp2
    go_ret
    exact ⟨ret_int (by have := H1.out h; omega), rfl⟩
  · go_enter Try.func59, Try.ntmps59
    go_wp2
    go_ret
    exact ⟨ret_int (by have := H2.out (by omega); omega), rfl⟩
set_option maxRecDepth 100000 in
theorem ref_sub (hp : p ≤ 4294967296) (ha : a < p) (hb : b < p) :
    Calls Try.prog 35 #[.int .u64 p, .int .u64 a, .int .u64 b] w fun e w' => e = .returned (.int .u64 ((a + p - b) % p : Nat)) ∧ w = w' := by
  go_enter Try.func35, Try.ntmps35
  go_wp2
  go_ret
  exact ⟨ret_int (by rw [show ((a + p - b) % p : Nat) = (((a + p - b : Nat) : Int) % (p : Int)) from rfl, show ((a + p - b : Nat) : Int) = (a : Int) + p - b from by omega]), rfl⟩
end

set_option maxRecDepth 100000 in
/-- The result under a name of its own. -/
theorem RetN.named {w w' : World} {n : Nat} {e : Ending} (h : RetN w n e w') : ∃ u : Nat, Hid (u = n) ∧ e = .returned (.int .u64 (u : Int)) ∧ w = w' := ⟨n, rfl, h.1, h.2⟩
set_option maxRecDepth 100000 in
/-- The same, the arguments as the walk spells them. -/
theorem mod_mul_i (p a b : Nat) {A B : Int} (w : World) (hA : A = (a : Int)) (hB : B = (b : Int)) (hp : 0 < p) (hab : a * b < 2 ^ 64) :
    Calls Try.prog 71 #[.int .u64 p, .int .u64 A, .int .u64 B] w (RetN w (a * b % p)) := by
  subst hA hB; exact mod_mul p a b w hp hab
set_option maxRecDepth 100000 in
theorem mod_sub_i (p a b : Nat) {A B : Int} (w : World) (hA : A = (a : Int)) (hB : B = (b : Int)) (hp : p ≤ 4294967296) (ha : a < p) (hb : b < p) :
    Calls Try.prog 59 #[.int .u64 p, .int .u64 A, .int .u64 B] w (RetN w ((a + p - b) % p)) := by
  subst hA hB; exact mod_sub p a b w hp ha hb

set_option maxRecDepth 100000 in
theorem sq_lt {x y : Nat} (hx : x < 4294967296) (hy : y < 4294967296) : x * y < 2 ^ 64 := by
  have : x * y ≤ 4294967295 * 4294967295 := Nat.mul_le_mul (by omega) (by omega)
  omega
set_option maxRecDepth 100000 in
theorem mul_mods (p a b c d : Nat) (h1 : a % p = c % p) (h2 : b % p = d % p) : a * b % p = c * d % p := by
  rw [Nat.mul_mod, h1, h2, ← Nat.mul_mod]
set_option maxRecDepth 100000 in
theorem pow_mods (p a c k : Nat) (h : a % p = c % p) : a ^ k % p = c ^ k % p := by
  rw [Nat.pow_mod, h, ← Nat.pow_mod]
set_option maxRecDepth 100000 in
theorem pow_odd {p x y k n : Nat} (hk : k % 2 = 1) (h : x * y ^ k % p = n) : (x * y % p) * (y * y % p) ^ (k / 2) % p = n := by
  rw [← h, mul_mods p (x * y % p) ((y * y % p) ^ (k / 2)) (x * y) ((y * y) ^ (k / 2)) (Nat.mod_mod _ _) (pow_mods _ _ _ _ (Nat.mod_mod _ _))]
  congr 1
  have e : k = 2 * (k / 2) + 1 := by omega
  generalize k / 2 = j at e
  subst e
  rw [Nat.pow_succ, Nat.pow_mul, show y ^ 2 = y * y from Nat.pow_two y]
  grind
set_option maxRecDepth 100000 in
theorem pow_even {p x y k n : Nat} (hk : k % 2 = 0) (h : x * y ^ k % p = n) : x * (y * y % p) ^ (k / 2) % p = n := by
  rw [← h, mul_mods p x ((y * y % p) ^ (k / 2)) x ((y * y) ^ (k / 2)) rfl (pow_mods _ _ _ _ (Nat.mod_mod _ _))]
  congr 1
  have e : k = 2 * (k / 2) := by omega
  generalize k / 2 = j at e
  subst e
  rw [Nat.pow_mul, show y ^ 2 = y * y from Nat.pow_two y]

set_option maxRecDepth 100000 in
theorem shr_bit (e b : Nat) : e / 2 ^ b = 2 * (e / 2 ^ (b + 1)) + e / 2 ^ b % 2 := by
  rw [Nat.pow_succ, ← Nat.div_div_eq_div_mul]; omega
set_option maxRecDepth 100000 in
theorem rpow_step {p a e b x : Nat} (h : x = a ^ (e / 2 ^ (b + 1)) % p) : (x * x % p) * a ^ (e / 2 ^ b % 2) % p = a ^ (e / 2 ^ b) % p := by
  rw [mul_mods p (x * x % p) _ ((a ^ (e / 2 ^ (b + 1))) * (a ^ (e / 2 ^ (b + 1)))) (a ^ (e / 2 ^ b % 2)) (by rw [Nat.mod_mod]; exact mul_mods _ _ _ _ _ (by rw [h, Nat.mod_mod]) (by rw [h, Nat.mod_mod])) rfl]
  rw [← Nat.pow_add, ← Nat.pow_add]
  congr 2
  have := shr_bit e b
  omega

set_option maxRecDepth 100000 in
theorem bit_and (e b : Nat) (he : e < 2 ^ 64) : bits BinOp.and IntKind.u64 ((e : Int) / 2 ^ b) 1 = ((e / 2 ^ b % 2 : Nat) : Int) := by
  have h1 : ((e : Int) / 2 ^ b) = ((e / 2 ^ b : Nat) : Int) := by
    rw [show ((2 : Int) ^ b) = ((2 ^ b : Nat) : Int) from by push_cast; rfl]; rfl
  have h2 : e / 2 ^ b ≤ e := Nat.div_le_self _ _
  rw [h1]
  generalize e / 2 ^ b = q at h2 ⊢
  rw [and_one_u64 _ (by omega) (by omega)]
  rfl

set_option maxHeartbeats 400000 in
set_option maxRecDepth 100000 in
theorem ref_pow (p a e : Nat) (w : World) (hp : 0 < p) (hp2 : p ≤ 4294967296) (ha : a < 4294967296) (he : e < 2 ^ 64) :
    Calls Try.prog 76 #[.int .u64 p, .int .u64 a, .int .u64 e] w (RetN w (a ^ e % p)) := by
  go_enter Try.func76, Try.ntmps76
  go_wp2
  go_loop [7, 8] (fun ov bv => ∃ b x : Nat, bv = .int .i64 ((b : Int) - 1) ∧ ov = .int .u64 x ∧ b ≤ 64 ∧ x < p ∧ x = a ^ (e / 2 ^ b) % p) (fun _ bv => (intOf bv + 1).toNat)
  case atStart => exact ⟨64, 1 % p, rfl, rfl, by omega, Nat.mod_lt _ hp, by rw [Nat.div_eq_of_lt he, Nat.pow_zero]⟩
  case round =>
    obtain ⟨b, x, rfl, rfl, hb, hx, hr⟩ := hrel
    have Hr := Lib.hid hr
    clear hr
    have hxx : x * x < 2 ^ 64 := sq_lt (by omega) (by omega)
    have hxm : x * x % p < p := Nat.mod_lt _ hp
    have hxa : x * x % p * a < 2 ^ 64 := sq_lt (by omega) ha
    have hym : x * x % p * a % p < p := Nat.mod_lt _ hp
    cases b with
    | zero =>
      go_wp2_with fail
      go_ret
      exact ⟨ret_int (by have := Hr.out; rw [Nat.pow_zero, Nat.div_one] at this; rw [this]), rfl⟩
    | succ b =>
      have hs := rpow_step Hr.out
      have Hs := Lib.hid hs
      clear hs
      rw [show ((b + 1 : Nat) : Int) - 1 = (b : Int) from by omega]
      by_cases h1 : e / 2 ^ b % 2 = 1
      · have h2 : (bits BinOp.and IntKind.u64 ((e : Int) / 2 ^ b) 1 == 1) = true := by rw [bit_and e b he, beq_iff_eq]; omega
        have H1 := Lib.hid h1
        clear h1
        go_wp2_with fail
        refine (ref_mul p x x _ hp hxx).mono ?_
        rintro e w' ⟨rfl, rfl⟩
        go_wp2_with fail
        refine (ref_mul p (x * x % p) a _ hp hxa).mono ?_
        rintro e w' ⟨rfl, rfl⟩
        go_wp2_with fail
        refine ⟨⟨b, x * x * a % p, rfl, rfl, by omega, Nat.mod_lt _ hp, ?_⟩, ?_⟩
        · have := Hs.out
          rw [H1.out, Nat.pow_one] at this
          rw [← this]
          exact mul_mods _ _ _ _ _ (Nat.mod_mod _ _).symm rfl
        · simp only [intOf]; omega
      · have h2 : (bits BinOp.and IntKind.u64 ((e : Int) / 2 ^ b) 1 == 1) = false := by rw [bit_and e b he, beq_eq_false_iff_ne]; omega
        have h3 : e / 2 ^ b % 2 = 0 := by omega
        have H1 := Lib.hid h3
        clear h1 h3
        go_wp2_with fail
        refine (ref_mul p x x _ hp hxx).mono ?_
        rintro e w' ⟨rfl, rfl⟩
        go_wp2_with fail
        refine ⟨⟨b, x * x % p, rfl, rfl, by omega, hxm, ?_⟩, ?_⟩
        · have := Hs.out; rwa [H1.out, Nat.pow_zero, Nat.mul_one, Nat.mod_mod] at this
        · simp only [intOf]; omega

end Go.Proofs.Ytcjpjnneimjfiaa
namespace Go.Proofs.Ytcjpjnneimjfiaa

set_option maxRecDepth 100000 in
/-- A remainder as an equation of integers. -/
theorem mod_wit (p a : Nat) : ∃ k : Int, ((a % p : Nat) : Int) = (a : Int) - p * k := ⟨((a / p : Nat) : Int), by have := Nat.div_add_mod a p; rw [← Int.natCast_mul]; omega⟩
set_option maxRecDepth 100000 in
theorem cong_wit {p a b : Nat} (h : a % p = b % p) : ∃ k : Int, (a : Int) = (b : Int) + p * k := by
  obtain ⟨k, hk⟩ := mod_wit p a
  obtain ⟨j, hj⟩ := mod_wit p b
  refine ⟨k - j, ?_⟩
  rw [h] at hk
  grind
set_option maxRecDepth 100000 in
theorem wit_cong {p a b : Nat} {k : Int} (h : (a : Int) = (b : Int) + p * k) : a % p = b % p := by
  have h2 : ((a % p : Nat) : Int) = ((b % p : Nat) : Int) := by
    rw [Int.natCast_emod, Int.natCast_emod, h, Int.add_mul_emod_self_left]
  exact Int.ofNat_inj.1 h2

/-- One round of the extended Euclidean algorithm. -/
def InvR (p a x y s t : Nat) : Prop := s < p ∧ t < p ∧ s * a % p = x % p ∧ t * a % p = y % p ∧ Nat.gcd x y = Nat.gcd p a
set_option maxRecDepth 100000 in
theorem inv_start {p a : Nat} (hp : 1 < p) : InvR p a p a 0 1 := ⟨by omega, hp, by simp, by simp, rfl⟩
set_option maxRecDepth 100000 in
theorem inv_step {p a x y s t : Nat} (h : InvR p a x y s t) : InvR p a y (x % y) t ((s + p - x / y % p * t % p) % p) := by
  obtain ⟨h1, h2, h3, h4, h5⟩ := h
  have hp : 0 < p := by omega
  refine ⟨h2, Nat.mod_lt _ hp, h4, ?_, ?_⟩
  · have hu : x / y % p * t % p < p := Nat.mod_lt _ hp
    obtain ⟨k1, e1⟩ := cong_wit h3
    obtain ⟨k2, e2⟩ := cong_wit h4
    obtain ⟨j, e3⟩ := mod_wit p (x / y % p * t)
    obtain ⟨j2, e4⟩ := mod_wit p (x / y)
    obtain ⟨m, e5⟩ := mod_wit p (s + p - x / y % p * t % p)
    have e6 : ((s + p - x / y % p * t % p : Nat) : Int) = (s : Int) + p - ((x / y % p * t % p : Nat) : Int) := by omega
    have e7 : ((x % y : Nat) : Int) = (x : Int) - (y : Int) * ((x / y : Nat) : Int) := by have := Nat.div_add_mod x y; rw [← Int.natCast_mul]; omega
    have e8 : ((x / y % p * t : Nat) : Int) = ((x / y % p : Nat) : Int) * t := Int.natCast_mul _ _
    have e9 : ((s * a : Nat) : Int) = (s : Int) * a := Int.natCast_mul _ _
    have e10 : ((t * a : Nat) : Int) = (t : Int) * a := Int.natCast_mul _ _
    refine wit_cong (k := k1 + a - ((x / y : Nat) : Int) * k2 + j * a + j2 * t * a - m * a) ?_
    rw [Int.natCast_mul, e5, e6, e3, e8, e4, e7]
    rw [e9] at e1
    rw [e10] at e2
    generalize ((x / y : Nat) : Int) = q at *
    clear e3 e4 e5 e6 e7 e8 e9 e10 hu h3 h4 h5
    grind
  · rw [← h5, Nat.gcd_comm x y, Nat.gcd_rec y x, Nat.gcd_comm]
set_option maxRecDepth 100000 in
theorem inv_end {p a x s t : Nat} (hg : Nat.gcd p a = 1) (h : InvR p a x 0 s t) : s < p ∧ s * a % p = 1 % p := by
  obtain ⟨h1, _, h3, _, h5⟩ := h
  rw [Nat.gcd_zero_right] at h5
  exact ⟨h1, by rw [h3, h5, hg]⟩

end Go.Proofs.Ytcjpjnneimjfiaa
namespace Go.Proofs.Ytcjpjnneimjfiaa
open Go.RowKit

def InvP (w : World) (p a : Nat) (e : Ending) (w' : World) : Prop := (∃ s : Nat, e = .returned (.tuple #[.int .u64 s, .int .i64 0]) ∧ s < p ∧ s * a % p = 1 % p) ∧ Q w w'

set_option maxRecDepth 100000 in
theorem mod_inv0 (p : Nat) (w : World) :
    Calls Try.prog 72 #[.int .u64 p, .int .u64 0] w fun e w' => e = .returned (.tuple #[.int .u64 0, .int .i64 30]) ∧ w = w' := by
  go_enter Try.func72, Try.ntmps72
  go_wp2_with fail
  go_ret2
  exact ⟨rfl, rfl⟩

set_option maxHeartbeats 400000 in
set_option maxRecDepth 100000 in
theorem mod_inv (p a : Nat) (w : World) (hp : 1 < p) (hp2 : p ≤ 4294967296) (ha : 0 < a) (ha2 : a < p) (hg : Nat.gcd p a = 1) :
    Calls Try.prog 72 #[.int .u64 p, .int .u64 a] w (InvP w p a) := by
  have Hg := Lib.hid hg
  clear hg
  have hb0 : ((a : Int) == 0) = false := by rw [beq_eq_false_iff_ne]; omega
  go_enter Try.func72, Try.ntmps72
  go_wp2_with fail
  go_loopw [6, 7, 8, 9] (fun xv yv sv tv wr => ∃ x y s t : Nat, xv = .int .u64 x ∧ yv = .int .u64 y ∧ sv = .int .u64 s ∧ tv = .int .u64 t ∧ x ≤ p ∧ y < p ∧ s < p ∧ t < p ∧ InvR p a x y s t ∧ ∃ n, wr = w.drewN n) (fun _ yv _ _ _ => (intOf yv).toNat)
  case atStart => exact ⟨p, a, 0, 1, rfl, rfl, rfl, rfl, Nat.le_refl _, ha2, by omega, hp, inv_start hp, 0, rfl⟩
  case round =>
    obtain ⟨x, y, s, t, rfl, rfl, rfl, rfl, hx, hy, hs, ht, hR, n, rfl⟩ := hrel
    have HR := Lib.hid hR
    clear hR
    by_cases h0 : 0 < y
    · have hq : x / y ≤ x := Nat.div_le_self _ _
      have hq1 : (0 : Int) ≤ (x : Int) / (y : Int) := by rw [cdiv x y _ rfl]; exact Int.natCast_nonneg _
      have hq2 : (x : Int) / (y : Int) ≤ 4294967296 := by rw [cdiv x y _ rfl]; clear hq1; generalize x / y = q at hq ⊢; omega
      have hqp : x / y % p < p := Nat.mod_lt _ (by omega)
      have hr : x % y < y := Nat.mod_lt _ h0
      have hm : x / y % p * t < 2 ^ 64 := sq_lt (by omega) (by omega)
      have hu : x / y % p * t % p < p := Nat.mod_lt _ (by omega)
      go_wp2_with fail
      go_quiet (fail)
      go_wp2_with fail
      refine (mod_mul_i p (x / y % p) t _ rfl rfl (by omega) hm).mono ?_
      rintro e w' hr1
      obtain ⟨u, Hu, rfl, rfl⟩ := hr1.named
      have hu1 : u < p := by rw [Hu.out]; exact hu
      go_wp2_with fail
      refine (mod_sub_i p s u _ rfl rfl hp2 hs hu1).mono ?_
      rintro e w' hr2
      obtain ⟨v, Hv, rfl, rfl⟩ := hr2.named
      go_wp2_with fail
      exact ⟨⟨y, x % y, t, v, rfl, rfl, rfl, rfl, by omega, by omega, ht, by rw [Hv.out]; exact Nat.mod_lt _ (by omega), by rw [Hv.out, Hu.out]; exact inv_step HR.out, _, rfl⟩, by simp only [intOf]; rw [cmod x y _ rfl]; omega⟩
    · go_wp2_with fail
      go_ret2
      obtain rfl : y = 0 := by omega
      exact ⟨⟨s, rfl, inv_end Hg.out HR.out⟩, (by repeat (first | exact Q.refl _ | assumption | apply Q.drew | apply Q.drewN | apply Q.alloc))⟩
end Go.Proofs.Ytcjpjnneimjfiaa
