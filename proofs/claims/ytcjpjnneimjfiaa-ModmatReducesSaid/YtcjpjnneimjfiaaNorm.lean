/-
  norm and Of of package integer.
  modular.Reduce.
-/
import Derived.Test.YtcjpjnneimjfiaaInt
import Derived.Test.YtcjpjnneimjfiaaModA
namespace Go.Proofs.Ytcjpjnneimjfiaa
open Go.RowKit

/-- Symmetric: the representative around 0. -/
def symm (p a : Nat) : Int := if p / 2 < a then (a : Int) - p else a
end Go.Proofs.Ytcjpjnneimjfiaa
namespace Go.Proofs.Ytcjpjnneimjfiaa
open Go.RowKit

def RetQ (w : World) (n : Nat) (e : Ending) (w' : World) : Prop := e = .returned (.int .u64 (n : Int)) ∧ Q w w'
def redN (p : Nat) (z : Int) : Nat := (z % (p : Int)).toNat

set_option maxRecDepth 100000 in
theorem or_limb (r x : Nat) (hr : r < 4294967296) (hx : x < 4294967296) : bits BinOp.or IntKind.u64 ((r : Int) * 4294967296) (x : Int) = ((r * 4294967296 + x : Nat) : Int) := by
  have h := bits_or_u64_nat (r * 4294967296) x (by omega) (by omega)
  rw [Int.natCast_mul] at h
  rw [show ((4294967296 : Nat) : Int) = 4294967296 from rfl] at h
  rw [h, Nat.mul_comm r, ← Nat.two_pow_add_eq_or_of_lt (i := 32) hx r]
set_option maxRecDepth 100000 in
theorem redN_pos (p n : Nat) : redN p (n : Int) = n % p := by unfold redN; omega
set_option maxRecDepth 100000 in
theorem redN_neg (p n : Nat) (hp : 0 < p) : redN p (-(n : Int)) = (0 + p - n % p) % p := by
  have h1 := Nat.mod_lt n hp
  have e : (-(n : Int)) % (p : Int) = (((0 + p - n % p) % p : Nat) : Int) := by
    have h2 : (-(n : Int)) = ((0 + p - n % p : Nat) : Int) + (p : Int) * (-((n / p : Nat) : Int) - 1) := by
      have h3 := Nat.div_add_mod n p
      have h4 : ((0 + p - n % p : Nat) : Int) = (p : Int) - ((n % p : Nat) : Int) := by omega
      have h5 : (n : Int) = (p : Int) * ((n / p : Nat) : Int) + ((n % p : Nat) : Int) := by rw [← Int.natCast_mul]; omega
      rw [h4]
      generalize ((n / p : Nat) : Int) = q at *
      generalize ((n % p : Nat) : Int) = m at *
      grind
    rw [h2, Int.add_mul_emod_self_left]; rfl
  unfold redN
  rw [e]; rfl

set_option maxHeartbeats 400000 in
set_option maxRecDepth 100000 in
theorem mod_reduce (p : Nat) (va : Value) (a : Int) (w : World) (hp : 0 < p) (hp2 : p ≤ 4294967296) (ha : IntV w va a) :
    Calls Try.prog 67 #[.int .u64 p, va] w (RetQ w (redN p a)) := by
  obtain ⟨na, A, c, la, rfl, hA⟩ := ha
  have hlen := hA.1.len
  go_enter Try.func67, Try.ntmps67
  go_wp2_with fail
  go_loop [5, 6] (fun rv iv => ∃ k r : Nat, iv = .int .i64 ((k : Int) - 1) ∧ rv = .int .u64 r ∧ k ≤ la.length ∧ r < p ∧ r = val (la.drop k) % p) (fun _ iv => (intOf iv + 1).toNat)
  case atStart => exact ⟨la.length, 0, rfl, rfl, Nat.le_refl _, hp, by rw [List.drop_length]; simp [val]⟩
  case round =>
    obtain ⟨k, r, rfl, rfl, hk, hr, hv⟩ := hrel
    have Hv := Lib.hid hv
    clear hv
    cases k with
    | zero =>
      have hv : val la % p = r := by rw [Hv.out, List.drop_zero]
      have HV := Lib.hid hv
      clear hv
      cases na with
      | false =>
        go_wp2_with fail
        go_ret
        refine ⟨ret_int ?_, (by repeat (first | exact Q.refl _ | assumption | apply Q.drew | apply Q.drewN | apply Q.alloc))⟩
        rw [hA.2.2.2, show sgn false (val la) = (val la : Int) from rfl, redN_pos, HV.out]
      | true =>
        go_wp2_with fail
        refine (mod_sub_i p 0 r _ rfl rfl hp2 hp hr).mono ?_
        rintro e w' hr1
        obtain ⟨u, Hu, rfl, rfl⟩ := hr1.named
        go_wp2_with fail
        go_ret
        refine ⟨ret_int ?_, (by repeat (first | exact Q.refl _ | assumption | apply Q.drew | apply Q.drewN | apply Q.alloc))⟩
        rw [hA.2.2.2, show sgn true (val la) = -(val la : Int) from rfl, redN_neg _ _ hp, HV.out, ← Hu.out]
    | succ k =>
      obtain ⟨b, o, x, rfl, hb, hx, hx2, hcw⟩ := hA.1.at (k := k) (by omega)
      have hc : ∀ ob : Obj, (w.alloc ob).cell? ⟨b, o + k, none⟩ = some (.int .u32 (x : Nat)) := fun ob => ((Q.refl w).alloc ob).cell hcw
      have Hx := Lib.hid hx
      clear hx
      rw [show ((k + 1 : Nat) : Int) - 1 = (k : Int) from by omega]
      go_wp2_with fail
      have e1 : (bits BinOp.or IntKind.u64 ((r : Int) * 4294967296) (x : Int)).tmod (p : Int) = (((r * 4294967296 + x) % p : Nat) : Int) := by
        rw [or_limb r x (by omega) hx2]; rfl
      refine ⟨⟨k, (r * 4294967296 + x) % p, rfl, by rw [e1], by omega, Nat.mod_lt _ hp, ?_⟩, ?_⟩
      · rw [val_drop Hx.out, Hv.out, Nat.add_mod, Nat.mul_mod, Nat.mod_mod, ← Nat.mul_mod, ← Nat.add_mod, Nat.add_comm, Nat.mul_comm]
      · simp only [intOf]; omega
end Go.Proofs.Ytcjpjnneimjfiaa
