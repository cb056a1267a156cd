/-
  The walk of ModularMatchesReference; contracts under opaque names.
-/
import Derived.Test.YtlipdmbdohpblaaDoorLawA
namespace Go.Proofs.YtlipdmbdohpblaaDoor
open Go.RowKit

def addN (p a b : Nat) : Nat := (a + b) % p
def subN (p a b : Nat) : Nat := (a + p - b) % p
def mulN (p a b : Nat) : Nat := a * b % p
def powN (p a e : Nat) : Nat := a ^ e % p
/-- What Inv answers. -/
def invN (p a : Nat) : Nat := if a = 0 then 0 else a ^ (p - 2) % p
def errN (a : Nat) : Nat := if a = 0 then 30 else 0
/-- The prime and the two elements. -/
def PF (p a b : Nat) : Prop := Pr p ∧ p < 2147483648 ∧ a < p ∧ b < p
section
variable {p a b e : Nat} {w : World}
theorem PF.pos (h : PF p a b) : 0 < p := by have := h.1.1; omega
theorem PF.le (h : PF p a b) : p ≤ 4294967296 := by have := h.2.1; omega
theorem PF.small (h : PF p a b) : a < 4294967296 := by have := h.2.2.1; have := h.2.1; omega
theorem PF.mul (h : PF p a b) : a * b < 2 ^ 64 := sq_lt h.small (by have := h.2.2.2; have := h.2.1; omega)
theorem mod_add_n (h : PF p a b) : Calls Tryd.prog 28 #[.int .u64 p, .int .u64 a, .int .u64 b] w (RetN w (addN p a b)) := mod_add p a b w h.le h.2.2.1 h.2.2.2
theorem ref_add_n (h : PF p a b) : Calls Tryd.prog 23 #[.int .u64 p, .int .u64 a, .int .u64 b] w (RetN w (addN p a b)) := ref_add p a b w h.le h.2.2.1 h.2.2.2
theorem mod_sub_n (h : PF p a b) : Calls Tryd.prog 29 #[.int .u64 p, .int .u64 a, .int .u64 b] w (RetN w (subN p a b)) := mod_sub p a b w h.le h.2.2.1 h.2.2.2
theorem ref_sub_n (h : PF p a b) : Calls Tryd.prog 30 #[.int .u64 p, .int .u64 a, .int .u64 b] w (RetN w (subN p a b)) := ref_sub p a b w h.le h.2.2.1 h.2.2.2
theorem mod_mul_n (h : PF p a b) : Calls Tryd.prog 31 #[.int .u64 p, .int .u64 a, .int .u64 b] w (RetN w (mulN p a b)) := mod_mul p a b w h.pos h.mul
theorem ref_mul_n (h : PF p a b) : Calls Tryd.prog 25 #[.int .u64 p, .int .u64 a, .int .u64 b] w (RetN w (mulN p a b)) := ref_mul p a b w h.pos h.mul
theorem mod_pow_n (h : PF p a b) (he : e < 2 ^ 64) : Calls Tryd.prog 32 #[.int .u64 p, .int .u64 a, .int .u64 e] w (RetN w (powN p a e)) := mod_pow p a e w h.pos h.le h.small he
theorem ref_pow_n (h : PF p a b) (he : e < 2 ^ 64) : Calls Tryd.prog 33 #[.int .u64 p, .int .u64 a, .int .u64 e] w (RetN w (powN p a e)) := ref_pow p a e w h.pos h.le h.small he
def InvQ (w : World) (p a : Nat) (e : Ending) (w' : World) : Prop := e = .returned (.tuple #[.int .u64 (invN p a : Nat), .int .i64 (errN a : Nat)]) ∧ Q w w'
theorem mod_inv_n (h : PF p a b) : Calls Tryd.prog 26 #[.int .u64 p, .int .u64 a] w (InvQ w p a) := by
  by_cases h0 : a = 0
  · subst h0
    refine (mod_inv0 p w).mono ?_
    rintro e w' ⟨rfl, rfl⟩
    exact ⟨by simp [invN, errN], Q.refl _⟩
  · have hnd : ¬ p ∣ a := fun hd => by have := Nat.le_of_dvd (by omega) hd; have := h.2.2.1; omega
    refine (mod_inv p a w h.1.1 h.le (by omega) h.2.2.1 (h.1.coprime hnd)).mono ?_
    rintro e w' ⟨⟨s, rfl, h1, h2⟩, hq⟩
    have h3 : a % p ≠ 0 := by rw [Nat.mod_eq_of_lt h.2.2.1]; exact h0
    have e1 : s = a ^ (p - 2) % p := inv_unique h.1 h1 (Nat.mod_lt _ h.pos) h2 (fermat_inv h.1 h3)
    exact ⟨by simp [invN, errN, h0, e1], hq⟩
theorem ref_inv_n (h : PF p a b) : Calls Tryd.prog 27 #[.int .u64 p, .int .u64 a] w (InvQ w p a) := by
  by_cases h0 : a = 0
  · subst h0
    refine (ref_inv0 p w h.pos).mono ?_
    rintro e w' ⟨rfl, rfl⟩
    exact ⟨by simp [invN, errN], Q.refl _⟩
  · refine (ref_inv p a w h.1 h.le (by omega) h.2.2.1).mono ?_
    rintro e w' ⟨⟨s, rfl, h1, h2⟩, hq⟩
    have h3 : a % p ≠ 0 := by rw [Nat.mod_eq_of_lt h.2.2.1]; exact h0
    have e1 : s = a ^ (p - 2) % p := inv_unique h.1 h1 (Nat.mod_lt _ h.pos) h2 (fermat_inv h.1 h3)
    exact ⟨by simp [invN, errN, h0, e1], hq⟩
theorem made_c (k p : Nat) (w : World) (hk : k < 256) (h : pr15 k = p) : Calls Tryd.prog 15 #[.int .u8 k] w (NumQ w p) := h ▸ made15 k w hk
end
theorem Blk.three {w : World} {t : TypeId} {x y z : Value} {B : Nat} (h : Blk w B t #[x, y, z]) : w.cell? ⟨B, 0, none⟩ = some x ∧ w.cell? ⟨B, 1, none⟩ = some y ∧ w.cell? ⟨B, 2, none⟩ = some z :=
  ⟨by rw [h.cell]; rfl, by rw [h.cell]; rfl, by rw [h.cell]; rfl⟩

set_option maxHeartbeats 1000000 in
theorem law_matches (k x0 x1 x2 : Nat) (w : World) (hk : k < 256) (h2 : x2 < 2 ^ 64) (hT : Tab w) :
    Calls Tryd.prog 6 #[.int .u8 k, .agg #[.int .u64 x0, .int .u64 x1, .int .u64 x2]] w (SaneP w) := by
  obtain ⟨p, hp⟩ : ∃ p, pr15 k = p := ⟨_, rfl⟩
  have hpr : Pr p := hp ▸ pr15_pr k
  have hlt : p < 2147483648 := hp ▸ pr15_lt k
  have h0 : 0 < p := by have := hpr.1; omega
  obtain ⟨a, ha⟩ : ∃ a, a = x0 % p := ⟨_, rfl⟩
  obtain ⟨b, hb⟩ : ∃ b, b = x1 % p := ⟨_, rfl⟩
  have hF : PF p a b := ⟨hpr, hlt, by rw [ha]; exact Nat.mod_lt _ h0, by rw [hb]; exact Nat.mod_lt _ h0⟩
  have ha1 : (x0 : Int) % (p : Int) = (a : Int) := by rw [ha]; rfl
  have hb1 : (x1 : Int) % (p : Int) = (b : Int) := by rw [hb]; rfl
  have hbp : ((p : Int) == 0) = false := by rw [beq_eq_false_iff_ne]; omega
  have HF := @Lib.hid _ hF
  have HP := Lib.hid hp
  have HK := Lib.hid hk
  have H2 := Lib.hid h2
  clear hF hp hk h2 ha hb hpr hlt
  go_enter Tryd.func6, Tryd.ntmps6
  go_wp2_with fail
  refine (sane_any _ (hT.q (by repeat (first | exact Q.refl _ | assumption | apply Q.drew | apply Q.drewN | apply Q.alloc)))).mono ?_
  rintro e w1 ⟨rfl, hq⟩
  obtain ⟨B1, q1⟩ := boxes1 hq
  clear hq
  go_wp2_with fail
  refine (made_c k p _ HK.out HP.out).mono ?_
  rintro e w2 ⟨rfl, hq⟩
  obtain ⟨c0, c1, c2⟩ := (B1.q hq).three
  have B2 := B1.q hq
  have q2 := q1.trans hq
  clear hq B1 q1
  go_wp2_with fail
  refine (mod_inv_n HF.out).mono ?_
  rintro e w3 ⟨rfl, hq⟩
  have B3 := B2.q hq
  have q3 := q2.trans hq
  clear hq B2 q2 c0 c1 c2
  go_wp2_with fail
  refine (ref_inv_n HF.out).mono ?_
  rintro e w4 ⟨rfl, hq⟩
  obtain ⟨c0, c1, c2⟩ := (B3.q hq).three
  have q4 := q3.trans hq
  clear hq B3 q3
  go_wp2_with fail
  simp only [List.append_eq, List.cons_append, List.nil_append]
  go_region_held3 (fun w' => w'.cell? ⟨w.heap.size, 2, none⟩ = some (.int .u64 (x2 : Int))) (first | exact c2 | exact c5 | exact c6 | exact c7 | go_keep)
    (first | (go_at_call 28; refine (mod_add_n HF.out).mono ?_; rintro e w' ⟨rfl, rfl⟩) | (go_at_call 23; refine (ref_add_n HF.out).mono ?_; rintro e w' ⟨rfl, rfl⟩) | (go_at_call 29; refine (mod_sub_n HF.out).mono ?_; rintro e w' ⟨rfl, rfl⟩) | (go_at_call 30; refine (ref_sub_n HF.out).mono ?_; rintro e w' ⟨rfl, rfl⟩) | (go_at_call 31; refine (mod_mul_n HF.out).mono ?_; rintro e w' ⟨rfl, rfl⟩) | (go_at_call 25; refine (ref_mul_n HF.out).mono ?_; rintro e w' ⟨rfl, rfl⟩) | (go_at_call 32; refine (mod_pow_n HF.out H2.out).mono ?_; rintro e w' ⟨rfl, rfl⟩) | (go_at_call 33; refine (ref_pow_n HF.out H2.out).mono ?_; rintro e w' ⟨rfl, rfl⟩) | (go_at_call 19; refine (mod_symmetric p a _ HF.out.le HF.out.2.2.1).mono ?_; rintro e w5 ⟨v1, rfl, hv1, hq⟩; have q5 := q4.trans hq.of_drew; have c5 := hq.of_drew.cell c2; clear hq) | (go_at_call 35; refine (ref_symmetric p a _ HF.out.le HF.out.2.2.1).mono ?_; rintro e w6 ⟨v2, rfl, hv2, hq⟩; have q6 := q5.trans hq; have c6 := hq.cell c5; have hv1 := hv1.q hq; clear hq) | (go_at_call 34; refine (same_v v1 v2 _ _ _ hv1 hv2 true (decide_eq_true rfl)).mono ?_; rintro e w7 ⟨rfl, hq⟩; have q7 := q6.trans hq; have c7 := hq.cell c6; clear hq))
  go_wp2
  go_ret
  exact ⟨rfl, q7⟩
end Go.Proofs.YtlipdmbdohpblaaDoor
