/-
  The reference's Inv, Primes and Made; primes of the sanity checks.
-/
import Derived.Test.YtlipdmbdohpblaaDoorModB
import Derived.Test.YtlipdmbdohpblaaDoorRefA
namespace Go.Proofs.YtlipdmbdohpblaaDoor
open Go.RowKit

/-! The fifteen primes. -/
def testC (n : Nat) : List Nat → Bool
  | [] => true
  | b :: r => if n = b then true else if n % b = 0 then false else (strongC n b && testC n r)
theorem testC_eq {n : Nat} (h : n < 2147483648) (l : List Nat) : testC n l = testB n l := by
  induction l with
  | nil => rfl
  | cons b r ih =>
    show (if n = b then true else if n % b = 0 then false else (strongC n b && testC n r)) = _
    rw [testB_cons, strongC_eq n b h, ih]
def primes15 : List Nat := [2, 3, 5, 7, 11, 101, 65521, 65537, 1000003, 2147483549, 2147483563, 2147483579, 2147483587, 2147483629, 2147483647]
theorem primes15_run : (primes15.all fun p => Nat.ble 2 p && (Nat.ble p 2147483647 && testC p bases)) = true := by decide +kernel
theorem primes15_ok : ∀ p ∈ primes15, primeB p = true := by
  intro p hp
  have h := List.all_eq_true.1 primes15_run p hp
  simp only [Bool.and_eq_true] at h
  obtain ⟨h1, h2, h3⟩ := h
  have h1 := Nat.le_of_ble_eq_true h1
  have h2 := Nat.le_of_ble_eq_true h2
  rw [testC_eq (by omega)] at h3
  unfold primeB
  rw [h3, decide_eq_true h1, decide_eq_true (show p < 2147483648 by omega)]
  rfl
def pr15 (n : Nat) : Nat := primes15.getD (n % 15) 2
theorem pr15_mem (n : Nat) : pr15 n ∈ primes15 := by
  unfold pr15
  have h : n % 15 < primes15.length := Nat.mod_lt _ (by decide)
  rw [List.getD_eq_getElem?_getD, List.getElem?_eq_getElem h]
  exact List.getElem_mem h
theorem pr15_primeB (n : Nat) : primeB (pr15 n) = true := primes15_ok _ (pr15_mem n)
theorem pr15_pr (n : Nat) : Pr (pr15 n) := (prime_iff.1 (pr15_primeB n)).2
theorem pr15_lt (n : Nat) : pr15 n < 2147483648 := (prime_iff.1 (pr15_primeB n)).1

def primesRow : Array Value := #[.int .u64 2, .int .u64 3, .int .u64 5, .int .u64 7, .int .u64 11, .int .u64 101, .int .u64 65521, .int .u64 65537, .int .u64 1000003, .int .u64 2147483549, .int .u64 2147483563, .int .u64 2147483579, .int .u64 2147483587, .int .u64 2147483629, .int .u64 2147483647]
theorem ref_primes (w : World) :
    Calls Tryd.prog 41 #[] w fun e w' => e = .returned (.slice (some ⟨w.heap.size, 0, none⟩) 15 15) ∧ w' = w.alloc (.cells primesRow 22) := by
  go_enter Tryd.func41, Tryd.ntmps41
  go_wp2_with fail
  go_ret
  exact ⟨rfl, rfl⟩
theorem primesRow_at : ∀ k, k < 15 → primesRow[k]? = some (.int .u64 ((primes15.getD k 2 : Nat) : Int)) := by
  intro k hk
  have : k = 0 ∨ k = 1 ∨ k = 2 ∨ k = 3 ∨ k = 4 ∨ k = 5 ∨ k = 6 ∨ k = 7 ∨ k = 8 ∨ k = 9 ∨ k = 10 ∨ k = 11 ∨ k = 12 ∨ k = 13 ∨ k = 14 := by omega
  rcases this with rfl | rfl | rfl | rfl | rfl | rfl | rfl | rfl | rfl | rfl | rfl | rfl | rfl | rfl | rfl <;> rfl
theorem made15 (n : Nat) (w : World) (hn : n < 256) :
    Calls Tryd.prog 15 #[.int .u8 n] w (NumQ w (pr15 n)) := by
  have hB := Blk.new w 22 primesRow
  have hlt : n % 15 < 15 := Nat.mod_lt _ (by decide)
  have hc : (w.alloc (.cells primesRow 22)).cell? ⟨w.heap.size, n % 15, none⟩ = some (.int .u64 (pr15 n : Nat)) := by
    rw [hB.cell]; exact primesRow_at _ hlt
  go_enter Tryd.func15, Tryd.ntmps15
  go_wp2_with fail
  refine (ref_primes w).mono ?_
  rintro e w' ⟨rfl, rfl⟩
  go_wp2_with fail
  go_ret
  exact ⟨rfl, (by repeat (first | exact Q.refl _ | assumption | apply Q.drew | apply Q.drewN | apply Q.alloc))⟩

theorem inv_unique {p a x y : Nat} (h : Pr p) (hx : x < p) (hy : y < p) (ex : x * a % p = 1 % p) (ey : y * a % p = 1 % p) : x = y := by
  have ha : ¬ p ∣ a := by
    intro hd
    have := Nat.mod_eq_zero_of_dvd (Nat.dvd_trans hd (Nat.dvd_mul_left a x))
    rw [this, Nat.mod_eq_of_lt h.1] at ex
    cases ex
  have := h.cancel ha (b := x) (c := y) (by rw [Nat.mul_comm a x, Nat.mul_comm a y, ex, ey])
  rwa [Nat.mod_eq_of_lt hx, Nat.mod_eq_of_lt hy] at this
theorem fermat_inv {p a : Nat} (h : Pr p) (ha : a % p ≠ 0) : (a ^ (p - 2) % p) * a % p = 1 % p := by
  have h2 := h.1
  have e := h.fermat_one (a := a) (fun hd => ha (Nat.mod_eq_zero_of_dvd hd))
  rw [mul_mods p (a ^ (p - 2) % p) a (a ^ (p - 2)) a (Nat.mod_mod _ _) rfl, ← Nat.pow_succ, show (p - 2).succ = p - 1 from by omega, e, Nat.mod_eq_of_lt h.1]
theorem ref_inv0 (p : Nat) (w : World) (hp : 0 < p) :
    Calls Tryd.prog 27 #[.int .u64 p, .int .u64 0] w fun e w' => e = .returned (.tuple #[.int .u64 0, .int .i64 30]) ∧ w = w' := by
  have hb : ((0 : Int) % (p : Int) == 0) = true := by simp
  go_enter Tryd.func27, Tryd.ntmps27
  go_wp2_with fail
  go_ret2
  exact ⟨rfl, rfl⟩
theorem ref_pow_i (p a e : Nat) {E : Int} (w : World) (hE : E = (e : Int)) (hp : 0 < p) (hp2 : p ≤ 4294967296) (ha : a < 4294967296) (he : e < 2 ^ 64) :
    Calls Tryd.prog 33 #[.int .u64 p, .int .u64 a, .int .u64 E] w (RetN w (a ^ e % p)) := by
  subst hE; exact ref_pow p a e w hp hp2 ha he
theorem ref_inv (p a : Nat) (w : World) (hpr : Pr p) (hp2 : p ≤ 4294967296) (ha : 0 < a) (ha2 : a < p) :
    Calls Tryd.prog 27 #[.int .u64 p, .int .u64 a] w (InvP w p a) := by
  have hm : a % p = a := Nat.mod_eq_of_lt ha2
  have hb : ((a : Int) % (p : Int) == 0) = false := by rw [beq_eq_false_iff_ne, cmod' a p, hm]; omega
  have h2 := hpr.1
  have hf := fermat_inv hpr (a := a) (by omega)
  have HF := Lib.hid hf
  have HP := Lib.hid hpr
  clear hf hpr hm
  go_enter Tryd.func27, Tryd.ntmps27
  go_wp2_with fail
  refine (ref_pow_i p a (p - 2) _ (by omega) (by omega) hp2 (by omega) (by omega)).mono ?_
  rintro e w' hr
  obtain ⟨u, Hu, rfl, rfl⟩ := hr.named
  go_wp2_with fail
  go_ret2
  exact ⟨⟨u, rfl, by rw [Hu.out]; exact Nat.mod_lt _ (by omega), by rw [Hu.out]; exact HF.out⟩, (by repeat (first | exact Q.refl _ | assumption | apply Q.drew | apply Q.drewN | apply Q.alloc))⟩

/-! The primes that the sanity checks name. -/
theorem nextN_hit {n : Nat} (h : n < 2147483648) (hp : primeB (n + 1) = true) : nextN n = n + 1 := by
  rw [nextN_eq, upN_step h, hp]; rfl
theorem sane_prime : primeB 2147483647 = true ∧ primeB 2147483629 = true ∧ primeB 2 = true ∧ primeB 1 = false ∧ primeB 2147483659 = false ∧ primeB 3215031751 = false ∧ primeB 2047 = false ∧ primeB 2147483648 = false :=
  ⟨primes15_ok _ (by simp [primes15]), primes15_ok _ (by simp [primes15]), primes15_ok _ (by simp [primes15]), by simp [primeB], by simp [primeB], by simp [primeB], not_pr (d := 23) (by decide) (by decide) (by decide), by simp [primeB]⟩
theorem sane_next : nextN 2147483628 = 2147483629 ∧ nextN 2147483647 = 0 ∧ nextN 0 = 2 := by
  obtain ⟨h1, h2, h3, h4, h5, h6, h7, h8⟩ := sane_prime
  refine ⟨nextN_hit (by decide) h2, ?_, ?_⟩
  · rw [nextN_eq, upN_step (by decide), h8]; exact upN_end (by decide)
  · rw [nextN_eq, upN_step (by decide), h4]; exact nextN_hit (n := 1) (by decide) h3
theorem sane_before : beforeN 2 = 0 ∧ beforeN 3 = 2 ∧ beforeN 1099511627776 = 2147483647 := by
  obtain ⟨h1, h2, h3, h4, h5, h6, h7, h8⟩ := sane_prime
  refine ⟨?_, ?_, ?_⟩
  · exact downN_end (by decide)
  · show downN 3 = 2
    rw [downN_step (by decide), h3]; rfl
  · show downN 2147483648 = 2147483647
    rw [downN_step (by decide), h1]; rfl
end Go.Proofs.YtlipdmbdohpblaaDoor
