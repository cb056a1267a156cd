/-
  The operations modulo a prime as operations on Fin p.
-/
import Derived.Test.YtcjpjnneimjfiaaPr15
import Derived.Test.YtcjpjnneimjfiaaLinA
namespace Go.Proofs.Ytcjpjnneimjfiaa
open Go.RowKit

section
variable {p : Nat}
/-- A result that is a number modulo p; the memory as it was. -/
def RetF (w : World) (x : Fin p) (e : Ending) (w' : World) : Prop := e = .returned (.int .u64 ((x : Nat) : Int)) ∧ w = w'
/-- A prime below 2^31. -/
def Fp (p : Nat) : Prop := Pr p ∧ p < 2147483648
set_option maxRecDepth 100000 in
theorem Fp.two (h : Fp p) : 1 < p := h.1.1
set_option maxRecDepth 100000 in
theorem Fp.le (h : Fp p) : p ≤ 4294967296 := by have := h.2; omega
set_option maxRecDepth 100000 in
theorem Fp.small (h : Fp p) (a : Fin p) : (a : Nat) < 4294967296 := by have := h.2; have := a.isLt; omega
set_option maxRecDepth 100000 in
theorem fmul_val (a b : Fin p) : ((a * b : Fin p) : Nat) = (a : Nat) * (b : Nat) % p := rfl
set_option maxRecDepth 100000 in
theorem fadd_val (a b : Fin p) : ((a + b : Fin p) : Nat) = ((a : Nat) + (b : Nat)) % p := rfl
set_option maxRecDepth 100000 in
theorem fsub_val (a b : Fin p) : ((a - b : Fin p) : Nat) = ((a : Nat) + p - (b : Nat)) % p := by
  have h : ((a - b : Fin p) : Nat) = (p - (b : Nat) + (a : Nat)) % p := rfl
  have := b.isLt
  rw [h]; congr 1; omega
section
variable (w : World)
set_option maxRecDepth 100000 in
theorem f_mul (h : Fp p) (a b : Fin p) : Calls Try.prog 71 #[.int .u64 p, .int .u64 ((a : Nat) : Int), .int .u64 ((b : Nat) : Int)] w (RetF w (a * b)) :=
  mod_mul p a b w (by have := h.two; omega) (sq_lt (h.small a) (h.small b))
set_option maxRecDepth 100000 in
theorem f_sub (h : Fp p) (a b : Fin p) : Calls Try.prog 59 #[.int .u64 p, .int .u64 ((a : Nat) : Int), .int .u64 ((b : Nat) : Int)] w (RetF w (a - b)) := by
  refine (mod_sub p a b w h.le a.isLt b.isLt).mono ?_
  rintro e w' ⟨rfl, rfl⟩
  exact ⟨by rw [fsub_val], rfl⟩
set_option maxRecDepth 100000 in
theorem r_mul (h : Fp p) (a b : Fin p) : Calls Try.prog 37 #[.int .u64 p, .int .u64 ((a : Nat) : Int), .int .u64 ((b : Nat) : Int)] w (RetF w (a * b)) :=
  ref_mul p a b w (by have := h.two; omega) (sq_lt (h.small a) (h.small b))
set_option maxRecDepth 100000 in
theorem r_add (h : Fp p) (a b : Fin p) : Calls Try.prog 53 #[.int .u64 p, .int .u64 ((a : Nat) : Int), .int .u64 ((b : Nat) : Int)] w (RetF w (a + b)) :=
  ref_add p a b w h.le a.isLt b.isLt
set_option maxRecDepth 100000 in
theorem r_sub (h : Fp p) (a b : Fin p) : Calls Try.prog 35 #[.int .u64 p, .int .u64 ((a : Nat) : Int), .int .u64 ((b : Nat) : Int)] w (RetF w (a - b)) := by
  refine (ref_sub p a b w h.le a.isLt b.isLt).mono ?_
  rintro e w' ⟨rfl, rfl⟩
  exact ⟨by rw [fsub_val], rfl⟩
end
variable [NeZero p]
set_option maxRecDepth 100000 in
theorem fone_val (h : Fp p) : ((1 : Fin p) : Nat) = 1 := Nat.mod_eq_of_lt h.two
set_option maxRecDepth 100000 in
theorem fzero_val : ((0 : Fin p) : Nat) = 0 := Nat.zero_mod p
set_option maxRecDepth 100000 in
theorem fneg_val (b : Fin p) : ((0 - b : Fin p) : Nat) = (0 + p - (b : Nat)) % p := by
  rw [fsub_val, fzero_val]
set_option maxRecDepth 100000 in
theorem f_eq0 (a : Fin p) : a = 0 ↔ (a : Nat) = 0 := ⟨fun h => by rw [h]; exact fzero_val, fun h => Fin.ext (by rw [fzero_val]; exact h)⟩
/-- The inverse. -/
def iv (a : Fin p) : Fin p := Fin.ofNat p ((a : Nat) ^ (p - 2))
set_option maxRecDepth 100000 in
theorem iv_spec (h : Fp p) (a : Fin p) (ha : a ≠ 0) : a * iv a = 1 := by
  have h0 : (a : Nat) % p ≠ 0 := by rw [Nat.mod_eq_of_lt a.isLt]; exact fun e => ha ((f_eq0 a).2 e)
  refine Fin.ext ?_
  rw [fmul_val]
  show (a : Nat) * ((a : Nat) ^ (p - 2) % p) % p = 1 % p
  rw [Nat.mul_comm]
  exact h.1.finv h0
set_option maxRecDepth 100000 in
theorem iv_uniq (h : Fp p) {a : Fin p} (ha : a ≠ 0) {s : Nat} (hs : s < p) (e : s * (a : Nat) % p = 1 % p) : s = ((iv a : Fin p) : Nat) := by
  refine h.1.uniq hs (iv a).isLt e ?_
  have := congrArg Fin.val (iv_spec h a ha)
  rw [fmul_val, Nat.mul_comm] at this
  exact this
variable (w : World)
set_option maxRecDepth 100000 in
theorem f_neg (h : Fp p) (b : Fin p) : Calls Try.prog 59 #[.int .u64 p, .int .u64 0, .int .u64 ((b : Nat) : Int)] w (RetF w (0 - b)) := by
  refine (mod_sub p 0 b w h.le (by have := h.two; omega) b.isLt).mono ?_
  rintro e w' ⟨rfl, rfl⟩
  exact ⟨by rw [fneg_val], rfl⟩
set_option maxRecDepth 100000 in
theorem r_neg (h : Fp p) (b : Fin p) : Calls Try.prog 35 #[.int .u64 p, .int .u64 0, .int .u64 ((b : Nat) : Int)] w (RetF w (0 - b)) := by
  refine (ref_sub p 0 b w h.le (by have := h.two; omega) b.isLt).mono ?_
  rintro e w' ⟨rfl, rfl⟩
  exact ⟨by rw [fneg_val], rfl⟩
def InvF (w : World) (x : Fin p) (e : Ending) (w' : World) : Prop := e = .returned (.tuple #[.int .u64 ((x : Nat) : Int), .int .i64 0]) ∧ Q w w'
set_option maxRecDepth 100000 in
theorem f_inv (h : Fp p) {a : Fin p} (ha : a ≠ 0) : Calls Try.prog 72 #[.int .u64 p, .int .u64 ((a : Nat) : Int)] w (InvF w (iv a)) := by
  have h0 : (a : Nat) ≠ 0 := fun e => ha ((f_eq0 a).2 e)
  refine (mod_inv p a w h.two h.le (by omega) a.isLt (h.1.coprime (fun hd => by have := Nat.le_of_dvd (by omega) hd; have := a.isLt; omega))).mono ?_
  rintro e w' ⟨⟨s, rfl, hs, e1⟩, hq⟩
  exact ⟨by rw [iv_uniq h ha hs e1], hq⟩
set_option maxRecDepth 100000 in
theorem r_pow (h : Fp p) (a : Fin p) (e : Nat) {E : Int} (hE : E = (e : Int)) (he : e < 2 ^ 64) : Calls Try.prog 76 #[.int .u64 p, .int .u64 ((a : Nat) : Int), .int .u64 E] w (RetF w (Fin.ofNat p ((a : Nat) ^ e))) := by
  subst hE
  exact ref_pow p a e w (by have := h.two; omega) h.le (h.small a) he
set_option maxRecDepth 100000 in
theorem r_inv (h : Fp p) {a : Fin p} (ha : a ≠ 0) : Calls Try.prog 73 #[.int .u64 p, .int .u64 ((a : Nat) : Int)] w (InvF w (iv a)) := by
  have h0 : (a : Nat) ≠ 0 := fun e => ha ((f_eq0 a).2 e)
  have hb : (((a : Nat) : Int) % (p : Int) == 0) = false := by rw [beq_eq_false_iff_ne, cmodP a p, Nat.mod_eq_of_lt a.isLt]; omega
  have h2 := h.two
  have h3 := h.2
  have ha2 := a.isLt
  have HF := Lib.hid h
  clear h ha h0
  go_enter Try.func73, Try.ntmps73
  go_wp2_with fail
  refine (r_pow _ HF.out a (p - 2) (by omega) (by omega)).mono ?_
  rintro e w' ⟨rfl, rfl⟩
  go_wp2_with fail
  go_ret2
  exact ⟨rfl, (by repeat (first | exact Q.refl _ | assumption | apply Q.drew | apply Q.drewN | apply Q.alloc))⟩
set_option maxRecDepth 100000 in
/-- 1 / b. -/
theorem r_over (h : Fp p) {b : Fin p} (hb : b ≠ 0) : Calls Try.prog 51 #[.int .u64 p, .int .u64 1, .int .u64 ((b : Nat) : Int)] w fun e w' => e = .returned (.int .u64 ((iv b : Fin p) : Nat)) ∧ Q w w' := by
  have HF := Lib.hid h
  have HB := Lib.hid hb
  clear h hb
  go_enter Try.func51, Try.ntmps51
  go_wp2_with fail
  refine (r_inv _ HF.out HB.out).mono ?_
  rintro e w1 ⟨rfl, hq⟩
  go_wp2_with fail
  refine (ref_mul p 1 (iv b : Fin p) _ (by have := HF.out.two; omega) (sq_lt (by omega) (HF.out.small _))).mono ?_
  rintro e w' ⟨rfl, rfl⟩
  go_wp2_with fail
  go_ret
  exact ⟨ret_int (by rw [cmodP, Nat.mod_eq_of_lt (iv b).isLt]), hq⟩
end
end Go.Proofs.Ytcjpjnneimjfiaa
