/-
  modular.Inv and the reference's; Symmetric; Of and norm of package integer.
-/
import Derived.Test.YtcjpjnneimjfiaaModA
import Derived.Test.YtcjpjnneimjfiaaMNum
import Derived.Test.YtcjpjnneimjfiaaShort
import Derived.Test.YtcjpjnneimjfiaaInt3
namespace Go.Proofs.Ytcjpjnneimjfiaa
open Go.RowKit

def InvP (w : World) (p a : Nat) (e : Ending) (w' : World) : Prop := (∃ s : Nat, e = .returned (.tuple #[.int .u64 s, .int .i64 0]) ∧ s < p ∧ s * a % p = 1 % p) ∧ Q w w'

set_option maxRecDepth 100000 in
theorem mod_inv0 (p : Nat) (w : World) :
    Calls Try.prog 72 #[.int .u64 p, .int .u64 0] w fun e w' => e = .returned (.tuple #[.int .u64 0, .int .i64 30]) ∧ w = w' := by
  go_enter Try.func72, Try.ntmps72
  go_wp2_with fail
  go_ret2
  exact ⟨rfl, rfl⟩

set_option maxHeartbeats 400000 in
set_option maxRecDepth 100000 in
theorem mod_inv (p a : Nat) (w : World) (hp : 1 < p) (hp2 : p ≤ 4294967296) (ha : 0 < a) (ha2 : a < p) (hg : Nat.gcd p a = 1) :
    Calls Try.prog 72 #[.int .u64 p, .int .u64 a] w (InvP w p a) := by
  have Hg := Lib.hid hg
  clear hg
  have hb0 : ((a : Int) == 0) = false := by rw [beq_eq_false_iff_ne]; omega
  go_enter Try.func72, Try.ntmps72
  go_wp2_with fail
  go_loopw [6, 7, 8, 9] (fun xv yv sv tv wr => ∃ x y s t : Nat, xv = .int .u64 x ∧ yv = .int .u64 y ∧ sv = .int .u64 s ∧ tv = .int .u64 t ∧ x ≤ p ∧ y < p ∧ s < p ∧ t < p ∧ InvR p a x y s t ∧ ∃ n, wr = w.drewN n) (fun _ yv _ _ _ => (intOf yv).toNat)
  case atStart => exact ⟨p, a, 0, 1, rfl, rfl, rfl, rfl, Nat.le_refl _, ha2, by omega, hp, inv_start hp, 0, rfl⟩
  case round =>
    obtain ⟨x, y, s, t, rfl, rfl, rfl, rfl, hx, hy, hs, ht, hR, n, rfl⟩ := hrel
    have HR := Lib.hid hR
    clear hR
    by_cases h0 : 0 < y
    · have hq : x / y ≤ x := Nat.div_le_self _ _
      have hq1 : (0 : Int) ≤ (x : Int) / (y : Int) := by rw [cdiv x y _ rfl]; exact Int.natCast_nonneg _
      have hq2 : (x : Int) / (y : Int) ≤ 4294967296 := by rw [cdiv x y _ rfl]; clear hq1; generalize x / y = q at hq ⊢; omega
      have hqp : x / y % p < p := Nat.mod_lt _ (by omega)
      have hr : x % y < y := Nat.mod_lt _ h0
      have hm : x / y % p * t < 2 ^ 64 := sq_lt (by omega) (by omega)
      have hu : x / y % p * t % p < p := Nat.mod_lt _ (by omega)
      go_wp2_with fail
      go_quiet (fail)
      go_wp2_with fail
      refine (mod_mul_i p (x / y % p) t _ rfl rfl (by omega) hm).mono ?_
      rintro e w' hr1
      obtain ⟨u, Hu, rfl, rfl⟩ := hr1.named
      have hu1 : u < p := by rw [Hu.out]; exact hu
      go_wp2_with fail
      refine (mod_sub_i p s u _ rfl rfl hp2 hs hu1).mono ?_
      rintro e w' hr2
      obtain ⟨v, Hv, rfl, rfl⟩ := hr2.named
      go_wp2_with fail
      exact ⟨⟨y, x % y, t, v, rfl, rfl, rfl, rfl, by omega, by omega, ht, by rw [Hv.out]; exact Nat.mod_lt _ (by omega), by rw [Hv.out, Hu.out]; exact inv_step HR.out, _, rfl⟩, by simp only [intOf]; rw [cmod x y _ rfl]; omega⟩
    · go_wp2_with fail
      go_ret2
      obtain rfl : y = 0 := by omega
      exact ⟨⟨s, rfl, inv_end Hg.out HR.out⟩, (by repeat (first | exact Q.refl _ | assumption | apply Q.drew | apply Q.drewN | apply Q.alloc))⟩
end Go.Proofs.Ytcjpjnneimjfiaa
