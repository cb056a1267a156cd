/-
  The walk of ModularField.
-/
import Derived.Test.YtlipdmbdohpblaaDoorLawC
namespace Go.Proofs.YtlipdmbdohpblaaDoor
open Go.RowKit

/-- The results that the law computes. -/
structure FD (p a b c ab s r1 bc r2 ac i j pi pj r3 : Nat) : Prop where
  pr : Pr p
  lt : p < 2147483648
  a_lt : a < p
  b_lt : b < p
  c_lt : c < p
  ab_lt : ab < p
  s_lt : s < p
  bc_lt : bc < p
  ac_lt : ac < p
  pi_lt : pi < p
  pj_lt : pj < p
  e1 : a * b % p = ab
  e1' : b * a % p = ab
  e2 : (a + b) % p = s
  e2' : (b + a) % p = s
  e3 : ab * c % p = r1
  e4 : b * c % p = bc
  e5 : a * bc % p = r1
  e6 : s * c % p = r2
  e7 : a * c % p = ac
  e8 : (ac + bc) % p = r2
  e9 : (s + p - b) % p = a
  e10 : a * 1 % p = a
  e11 : a ^ i % p = pi
  e12 : a ^ j % p = pj
  e13 : pi * pj % p = r3
  e14 : a ^ (i + j) % p = r3
theorem fd_of {p a b c : Nat} (i j : Nat) (hp : Pr p) (hl : p < 2147483648) (ha : a < p) (hb : b < p) (hc : c < p) :
    ∃ ab s r1 bc r2 ac pi pj r3, FD p a b c ab s r1 bc r2 ac i j pi pj r3 := by
  have h0 : 0 < p := by have := hp.1; omega
  have hm : ∀ x, x % p < p := fun x => Nat.mod_lt x h0
  refine ⟨a * b % p, (a + b) % p, a * b % p * c % p, b * c % p, (a + b) % p * c % p, a * c % p, a ^ i % p, a ^ j % p, (a ^ i % p) * (a ^ j % p) % p,
    ⟨hp, hl, ha, hb, hc, hm _, hm _, hm _, hm _, hm _, hm _, rfl, by rw [Nat.mul_comm], rfl, by rw [Nat.add_comm], rfl, rfl, ?_, rfl, rfl, ?_, ?_, by rw [Nat.mul_one, Nat.mod_eq_of_lt ha], rfl, rfl, rfl, ?_⟩⟩
  · rw [Nat.mod_mul_mod, Nat.mul_mod_mod, Nat.mul_assoc]
  · rw [← Nat.add_mod, ← Nat.add_mul, Nat.mod_mul_mod]
  · rcases Nat.lt_or_ge (a + b) p with g | g
    · rw [Nat.mod_eq_of_lt g, show a + b + p - b = a + p from by omega, Nat.add_mod_right, Nat.mod_eq_of_lt ha]
    · have e : (a + b) % p = a + b - p := by rw [Nat.mod_eq_sub_mod g, Nat.mod_eq_of_lt (by omega)]
      rw [e, show a + b - p + p - b = a from by omega, Nat.mod_eq_of_lt ha]
  · rw [← Nat.mul_mod, ← Nat.pow_add]
section
variable {p x y r e : Nat} {w : World} {E : Int}
theorem mul_g (hl : p < 2147483648) (hx : x < p) (hy : y < p) (h : x * y % p = r) : Calls Tryd.prog 31 #[.int .u64 p, .int .u64 x, .int .u64 y] w (RetN w r) := h ▸ mod_mul p x y w (by omega) (sq_lt (by omega) (by omega))
theorem add_g (hl : p < 2147483648) (hx : x < p) (hy : y < p) (h : (x + y) % p = r) : Calls Tryd.prog 28 #[.int .u64 p, .int .u64 x, .int .u64 y] w (RetN w r) := h ▸ mod_add p x y w (by omega) hx hy
theorem sub_g (hl : p < 2147483648) (hx : x < p) (hy : y < p) (h : (x + p - y) % p = r) : Calls Tryd.prog 29 #[.int .u64 p, .int .u64 x, .int .u64 y] w (RetN w r) := h ▸ mod_sub p x y w (by omega) hx hy
theorem pow_g (hl : p < 2147483648) (hx : x < p) (he : e < 2 ^ 64) (hE : E = (e : Int)) (h : x ^ e % p = r) : Calls Tryd.prog 32 #[.int .u64 p, .int .u64 x, .int .u64 E] w (RetN w r) := by
  subst hE; exact h ▸ mod_pow p x e w (by omega) (by omega) (by omega) he
end
/-- Inv of an element other than 0. -/
def InvN (p a d : Nat) : Prop := 0 < d ∧ d < p ∧ a * d % p = 1 ∧ a ^ (p - 1) % p = 1
theorem inv_nz {p a : Nat} {w : World} (hp : Pr p) (hl : p < 2147483648) (ha : a < p) (h0 : a ≠ 0) :
    Calls Tryd.prog 26 #[.int .u64 p, .int .u64 a] w fun e w' => (∃ d : Nat, e = .returned (.tuple #[.int .u64 d, .int .i64 0]) ∧ InvN p a d) ∧ Q w w' := by
  have hnd : ¬ p ∣ a := fun hd => by have := Nat.le_of_dvd (by omega) hd; omega
  refine (mod_inv p a w hp.1 (by omega) (by omega) ha (hp.coprime hnd)).mono ?_
  rintro e w' ⟨⟨s, rfl, h1, h2⟩, hq⟩
  rw [Nat.mod_eq_of_lt hp.1] at h2
  refine ⟨⟨s, rfl, ?_, h1, by rw [Nat.mul_comm]; exact h2, hp.fermat_one hnd⟩, hq⟩
  rcases Nat.eq_zero_or_pos s with g | g
  · subst g; rw [Nat.zero_mul, Nat.zero_mod] at h2; cases h2
  · exact g
theorem inv_zero {p a : Nat} {w : World} (h : a = 0) : Calls Tryd.prog 26 #[.int .u64 p, .int .u64 a] w fun e w' => e = .returned (.tuple #[.int .u64 0, .int .i64 30]) ∧ w = w' := by
  subst h; exact mod_inv0 p w
theorem Blk.pair {w : World} {t : TypeId} {x y : Value} {B : Nat} (h : Blk w B t #[x, y]) : w.cell? ⟨B, 0, none⟩ = some x ∧ w.cell? ⟨B, 1, none⟩ = some y :=
  ⟨by rw [h.cell]; rfl, by rw [h.cell]; rfl⟩

set_option maxRecDepth 100000 in
set_option maxHeartbeats 2000000 in
theorem law_field (k x0 x1 x2 i j : Nat) (w : World) (hk : k < 256) (hi : (i : Int) < 65536) (hj : (j : Int) < 65536) (hT : Tab w) :
    Calls Tryd.prog 7 #[.int .u8 k, .agg #[.int .u64 x0, .int .u64 x1, .int .u64 x2], .agg #[.int .u16 i, .int .u16 j]] w (SaneP w) := by
  obtain ⟨p, hp⟩ : ∃ p, pr15 k = p := ⟨_, rfl⟩
  have hpr : Pr p := hp ▸ pr15_pr k
  have hlt : p < 2147483648 := hp ▸ pr15_lt k
  have h0 : 0 < p := by have := hpr.1; omega
  obtain ⟨a, ha⟩ : ∃ a, a = x0 % p := ⟨_, rfl⟩
  obtain ⟨b, hb⟩ : ∃ b, b = x1 % p := ⟨_, rfl⟩
  obtain ⟨c, hc⟩ : ∃ c, c = x2 % p := ⟨_, rfl⟩
  have ha1 : (x0 : Int) % (p : Int) = (a : Int) := by rw [ha]; rfl
  have hb1 : (x1 : Int) % (p : Int) = (b : Int) := by rw [hb]; rfl
  have hc1 : (x2 : Int) % (p : Int) = (c : Int) := by rw [hc]; rfl
  have hbp : ((p : Int) == 0) = false := by rw [beq_eq_false_iff_ne]; omega
  obtain ⟨ab, s, r1, bc, r2, ac, pi, pj, r3, hF⟩ := fd_of (p := p) (a := a) (b := b) (c := c) i j hpr hlt (by rw [ha]; exact Nat.mod_lt _ h0) (by rw [hb]; exact Nat.mod_lt _ h0) (by rw [hc]; exact Nat.mod_lt _ h0)
  have hab : (ab : Int) < (p : Int) := by have := hF.ab_lt; omega
  have hs : (s : Int) < (p : Int) := by have := hF.s_lt; omega
  have HF := @Lib.hid _ hF
  have HP := Lib.hid hp
  have HK := Lib.hid hk
  have wi : IntKind.u64.wrap (i : Int) = (i : Int) := by rw [IntKind.wrap_u64]; omega
  have wj : IntKind.u64.wrap (j : Int) = (j : Int) := by rw [IntKind.wrap_u64]; omega
  have wij : IntKind.u64.wrap (IntKind.u64.wrap (i : Int) + IntKind.u64.wrap (j : Int)) = ((i + j : Nat) : Int) := by rw [wi, wj, IntKind.wrap_u64]; omega
  have hil : i < 65536 ∧ j < 65536 := by omega
  have WI := Lib.hid wi
  have WJ := Lib.hid wj
  have WIJ := Lib.hid wij
  have HIL := Lib.hid hil
  clear hF hp hk ha hb hc hpr hlt hi hj wi wj wij hil
  go_enter Tryd.func7, Tryd.ntmps7
  go_wp2_with fail
  refine (sane_any _ (hT.q (by repeat (first | exact Q.refl _ | assumption | apply Q.drew | apply Q.drewN | apply Q.alloc)))).mono ?_
  rintro e w1 ⟨rfl, hq⟩
  obtain ⟨B1, D1, q1⟩ := boxes2 hq
  clear hq
  go_wp2_with fail
  refine (made_c k p _ HK.out HP.out).mono ?_
  rintro e w2 ⟨rfl, hq⟩
  obtain ⟨c0, c1, c2⟩ := (B1.q hq).three
  obtain ⟨d0, d1⟩ := (D1.q hq).pair
  have q2 := q1.trans hq
  clear hq B1 D1 q1
  go_wp2_with fail
  refine (mul_g HF.out.lt HF.out.a_lt HF.out.b_lt HF.out.e1).mono ?_
  rintro e w' ⟨rfl, rfl⟩
  go_wp2_with fail
  refine (add_g HF.out.lt HF.out.a_lt HF.out.b_lt HF.out.e2).mono ?_
  rintro e w' ⟨rfl, rfl⟩
  go_wp2_with fail
  refine (mul_g HF.out.lt HF.out.b_lt HF.out.a_lt HF.out.e1').mono ?_
  rintro e w' ⟨rfl, rfl⟩
  go_wp2_with fail
  refine (add_g HF.out.lt HF.out.b_lt HF.out.a_lt HF.out.e2').mono ?_
  rintro e w' ⟨rfl, rfl⟩
  go_wp2_with fail
  refine (mul_g HF.out.lt HF.out.ab_lt HF.out.c_lt HF.out.e3).mono ?_
  rintro e w' ⟨rfl, rfl⟩
  go_wp2_with fail
  refine (mul_g HF.out.lt HF.out.b_lt HF.out.c_lt HF.out.e4).mono ?_
  rintro e w' ⟨rfl, rfl⟩
  go_wp2_with fail
  refine (mul_g HF.out.lt HF.out.a_lt HF.out.bc_lt HF.out.e5).mono ?_
  rintro e w' ⟨rfl, rfl⟩
  go_wp2_with fail
  refine (mul_g HF.out.lt HF.out.s_lt HF.out.c_lt HF.out.e6).mono ?_
  rintro e w' ⟨rfl, rfl⟩
  go_wp2_with fail
  refine (mul_g HF.out.lt HF.out.a_lt HF.out.c_lt HF.out.e7).mono ?_
  rintro e w' ⟨rfl, rfl⟩
  go_wp2_with fail
  refine (mul_g HF.out.lt HF.out.b_lt HF.out.c_lt HF.out.e4).mono ?_
  rintro e w' ⟨rfl, rfl⟩
  go_wp2_with fail
  refine (add_g HF.out.lt HF.out.ac_lt HF.out.bc_lt HF.out.e8).mono ?_
  rintro e w' ⟨rfl, rfl⟩
  go_wp2_with fail
  refine (sub_g HF.out.lt HF.out.s_lt HF.out.b_lt HF.out.e9).mono ?_
  rintro e w' ⟨rfl, rfl⟩
  go_wp2_with fail
  refine (mul_g HF.out.lt HF.out.a_lt (by have := HF.out.pr.1; omega) HF.out.e10).mono ?_
  rintro e w' ⟨rfl, rfl⟩
  go_wp2_with fail
  refine (pow_g HF.out.lt HF.out.a_lt (by have := HIL.out; omega) WI.out HF.out.e11).mono ?_
  rintro e w' ⟨rfl, rfl⟩
  go_wp2_with fail
  refine (pow_g HF.out.lt HF.out.a_lt (by have := HIL.out; omega) WJ.out HF.out.e12).mono ?_
  rintro e w' ⟨rfl, rfl⟩
  go_wp2_with fail
  refine (mul_g HF.out.lt HF.out.pi_lt HF.out.pj_lt HF.out.e13).mono ?_
  rintro e w' ⟨rfl, rfl⟩
  go_wp2_with fail
  refine (pow_g HF.out.lt HF.out.a_lt (by have := HIL.out; omega) WIJ.out HF.out.e14).mono ?_
  rintro e w' ⟨rfl, rfl⟩
  clear hab hs c0 c1 c2 d0 d1
  by_cases h0 : a = 0
  · have hz : ((a : Int) == 0) = true := by rw [beq_iff_eq]; omega
    have H0 := Lib.hid h0
    clear h0
    go_wp2_with fail
    refine (inv_zero H0.out).mono ?_
    rintro e w' ⟨rfl, rfl⟩
    go_wp2_with fail
    go_ret
    exact ⟨rfl, q2⟩
  · have hz : ((a : Int) == 0) = false := by rw [beq_eq_false_iff_ne]; omega
    have H0 := Lib.hid h0
    clear h0
    go_wp2_with fail
    refine (inv_nz HF.out.pr HF.out.lt HF.out.a_lt H0.out).mono ?_
    rintro e w3 ⟨⟨d, rfl, hd⟩, hq⟩
    have q3 := q2.trans hq
    have g1 : (0 : Int) < (d : Int) := by have := hd.1; omega
    have g2 : (d : Int) < (p : Int) := by have := hd.2.1; omega
    have HD := @Lib.hid _ hd
    clear hq q2 hd
    go_wp2_with fail
    refine (mul_g HF.out.lt HF.out.a_lt HD.out.2.1 HD.out.2.2.1).mono ?_
    rintro e w' ⟨rfl, rfl⟩
    go_wp2_with fail
    refine (pow_g (e := p - 1) HF.out.lt HF.out.a_lt (by have := HF.out.lt; omega) (by rw [IntKind.wrap_u64]; have := HF.out.pr.1; have := HF.out.lt; omega) HD.out.2.2.2).mono ?_
    rintro e w' ⟨rfl, rfl⟩
    go_wp2_with fail
    go_ret
    exact ⟨rfl, q3⟩
end Go.Proofs.YtlipdmbdohpblaaDoor
