/-
  The fifteen primes of the reference, shown prime by trial division; its Primes, Made and Prime.
-/
import Derived.Test.YtcjpjnneimjfiaaModA
import Derived.Test.YtcjpjnneimjfiaaPDef
namespace Go.Proofs.Ytcjpjnneimjfiaa
open Go.RowKit

/-- No divisor up to the square root. -/
def TrialP (n : Nat) : Prop := ∀ d, 2 ≤ d → d * d ≤ n → n % d ≠ 0
set_option maxRecDepth 100000 in
theorem pr_of_trialP {n : Nat} (h2 : 2 ≤ n) (h : TrialP n) : Pr n := by
  refine ⟨h2, fun d hd => ?_⟩
  obtain ⟨c, rfl⟩ := hd
  have hc0 : c ≠ 0 := by intro e; subst e; simp at h2
  have hd0 : d ≠ 0 := by intro e; subst e; simp at h2
  rcases Nat.lt_or_ge d 2 with g | g
  · left; omega
  · rcases Nat.lt_or_ge c 2 with k | k
    · right
      obtain rfl : c = 1 := by omega
      rw [Nat.mul_one]
    · exfalso
      rcases Nat.le_total d c with l | l
      · exact h d g (Nat.mul_le_mul_left _ l) (Nat.mul_mod_right _ _)
      · exact h c k (Nat.mul_le_mul_right _ l) (Nat.mul_mod_left _ _)
set_option maxRecDepth 100000 in
theorem Pr.trialP {n : Nat} (h : Pr n) : TrialP n := by
  intro d h2 hd hm
  rcases h.2 d (Nat.dvd_of_mod_eq_zero hm) with g | g
  · omega
  · subst g
    have : 2 * d ≤ d * d := Nat.mul_le_mul_right _ h2
    have := h.1
    omega
/-- No divisor among 2 .. f + 1 whose square is at most n. -/
noncomputable def triB (n : Nat) (f : Nat) : Bool :=
  Nat.rec true (fun k b => Bool.rec false b (Bool.rec true (Bool.rec true false (Nat.beq (Nat.mod n (Nat.add k 2)) 0)) (Nat.ble (Nat.mul (Nat.add k 2) (Nat.add k 2)) n))) f
set_option maxRecDepth 100000 in
theorem triB_s (n f : Nat) : triB n (f + 1) = true → (((f + 2) * (f + 2) ≤ n → n % (f + 2) ≠ 0) ∧ triB n f = true) := by
  intro h
  have h : Bool.rec false (triB n f) (Bool.rec true (Bool.rec true false (Nat.beq (n % (f + 2)) 0)) (Nat.ble ((f + 2) * (f + 2)) n)) = true := h
  by_cases g : (f + 2) * (f + 2) ≤ n
  · rw [Nat.ble_eq_true_of_le g] at h
    by_cases k : n % (f + 2) = 0
    · rw [k] at h; cases h
    · rw [show Nat.beq (n % (f + 2)) 0 = false from by
        rcases hb : Nat.beq (n % (f + 2)) 0 with _ | _
        · rfl
        · exact absurd (Nat.eq_of_beq_eq_true hb) k] at h
      exact ⟨fun _ => k, h⟩
  · rw [show Nat.ble ((f + 2) * (f + 2)) n = false from by
      rcases hb : Nat.ble ((f + 2) * (f + 2)) n with _ | _
      · rfl
      · exact absurd (Nat.le_of_ble_eq_true hb) g] at h
    exact ⟨fun k => absurd k g, h⟩
set_option maxRecDepth 100000 in
theorem triB_all {n : Nat} : ∀ f, triB n f = true → ∀ d, 2 ≤ d → d < f + 2 → d * d ≤ n → n % d ≠ 0 := by
  intro f
  induction f with
  | zero => intro _ d h1 h2; omega
  | succ f ih =>
    intro h d h1 h2 h3
    obtain ⟨a, b⟩ := triB_s n f h
    rcases Nat.lt_or_ge d (f + 2) with g | g
    · exact ih b d h1 g h3
    · obtain rfl : d = f + 2 := by omega
      exact a h3
set_option maxRecDepth 100000 in
theorem triB_pr {n f : Nat} (h2 : 2 ≤ n) (hf : n < (f + 2) * (f + 2)) (h : triB n f = true) : Pr n :=
  pr_of_trialP h2 (fun d a b => triB_all f h d a (by
    rcases Nat.lt_or_ge d (f + 2) with g | g
    · exact g
    · have := Nat.mul_le_mul g g; omega) b)
set_option maxRecDepth 100000 in
theorem prw2 : Pr 2 := triB_pr (f := 1) (by decide) (by decide) (by decide +kernel)
set_option maxRecDepth 100000 in
theorem prw3 : Pr 3 := triB_pr (f := 1) (by decide) (by decide) (by decide +kernel)
set_option maxRecDepth 100000 in
theorem prw5 : Pr 5 := triB_pr (f := 1) (by decide) (by decide) (by decide +kernel)
set_option maxRecDepth 100000 in
theorem prw7 : Pr 7 := triB_pr (f := 1) (by decide) (by decide) (by decide +kernel)
set_option maxRecDepth 100000 in
theorem prw11 : Pr 11 := triB_pr (f := 2) (by decide) (by decide) (by decide +kernel)
set_option maxRecDepth 100000 in
theorem prw101 : Pr 101 := triB_pr (f := 9) (by decide) (by decide) (by decide +kernel)
set_option maxRecDepth 10000000 in
theorem prwA : Pr 65521 := triB_pr (f := 255) (by decide) (by decide) (by decide +kernel)
set_option maxRecDepth 10000000 in
theorem prwB : Pr 65537 := triB_pr (f := 255) (by decide) (by decide) (by decide +kernel)
set_option maxRecDepth 10000000 in
theorem prwC : Pr 1000003 := triB_pr (f := 1000) (by decide) (by decide) (by decide +kernel)
set_option maxRecDepth 10000000 in
theorem prwD : Pr 2147483549 := triB_pr (f := 46340) (by decide) (by decide) (by decide +kernel)
set_option maxRecDepth 10000000 in
theorem prwE : Pr 2147483563 := triB_pr (f := 46340) (by decide) (by decide) (by decide +kernel)
set_option maxRecDepth 10000000 in
theorem prwF : Pr 2147483579 := triB_pr (f := 46340) (by decide) (by decide) (by decide +kernel)
set_option maxRecDepth 10000000 in
theorem prwG : Pr 2147483587 := triB_pr (f := 46340) (by decide) (by decide) (by decide +kernel)
set_option maxRecDepth 10000000 in
theorem prwH : Pr 2147483629 := triB_pr (f := 46340) (by decide) (by decide) (by decide +kernel)
set_option maxRecDepth 10000000 in
theorem prwI : Pr 2147483647 := triB_pr (f := 46340) (by decide) (by decide) (by decide +kernel)
def primesL : List Nat := [2, 3, 5, 7, 11, 101, 65521, 65537, 1000003, 2147483549, 2147483563, 2147483579, 2147483587, 2147483629, 2147483647]
/-- The n-th of them. -/
def prN (n : Nat) : Nat := primesL.getD (n % 15) 2
set_option maxRecDepth 100000 in
theorem primesL_ok : ∀ p ∈ primesL, Pr p ∧ p < 2147483648 := by
  intro p hp
  simp only [primesL, List.mem_cons, List.not_mem_nil, or_false] at hp
  rcases hp with rfl | rfl | rfl | rfl | rfl | rfl | rfl | rfl | rfl | rfl | rfl | rfl | rfl | rfl | rfl
  · exact ⟨prw2, by decide⟩
  · exact ⟨prw3, by decide⟩
  · exact ⟨prw5, by decide⟩
  · exact ⟨prw7, by decide⟩
  · exact ⟨prw11, by decide⟩
  · exact ⟨prw101, by decide⟩
  · exact ⟨prwA, by decide⟩
  · exact ⟨prwB, by decide⟩
  · exact ⟨prwC, by decide⟩
  · exact ⟨prwD, by decide⟩
  · exact ⟨prwE, by decide⟩
  · exact ⟨prwF, by decide⟩
  · exact ⟨prwG, by decide⟩
  · exact ⟨prwH, by decide⟩
  · exact ⟨prwI, by decide⟩
set_option maxRecDepth 100000 in
theorem prN_ok (n : Nat) : Pr (prN n) ∧ prN n < 2147483648 := by
  refine primesL_ok _ ?_
  unfold prN
  have h : n % 15 < primesL.length := Nat.mod_lt _ (by decide)
  rw [List.getD_eq_getElem?_getD, List.getElem?_eq_getElem h]
  exact List.getElem_mem h

def NumP (w : World) (n : Nat) (e : Ending) (w' : World) : Prop := e = .returned (.int .u64 (n : Nat)) ∧ Q w w'
def prow : Array Value := #[.int .u64 2, .int .u64 3, .int .u64 5, .int .u64 7, .int .u64 11, .int .u64 101, .int .u64 65521, .int .u64 65537, .int .u64 1000003, .int .u64 2147483549, .int .u64 2147483563, .int .u64 2147483579, .int .u64 2147483587, .int .u64 2147483629, .int .u64 2147483647]
set_option maxRecDepth 100000 in
theorem ref_primesP (w : World) :
    Calls Try.prog 61 #[] w fun e w' => e = .returned (.slice (some ⟨w.heap.size, 0, none⟩) 15 15) ∧ w' = w.alloc (.cells prow 26) := by
  go_enter Try.func61, Try.ntmps61
  go_wp2_with fail
  go_ret
  exact ⟨rfl, rfl⟩
set_option maxRecDepth 100000 in
theorem prow_at : ∀ k, k < 15 → prow[k]? = some (.int .u64 ((primesL.getD k 2 : Nat) : Int)) := by
  intro k hk
  have : k = 0 ∨ k = 1 ∨ k = 2 ∨ k = 3 ∨ k = 4 ∨ k = 5 ∨ k = 6 ∨ k = 7 ∨ k = 8 ∨ k = 9 ∨ k = 10 ∨ k = 11 ∨ k = 12 ∨ k = 13 ∨ k = 14 := by omega
  rcases this with rfl | rfl | rfl | rfl | rfl | rfl | rfl | rfl | rfl | rfl | rfl | rfl | rfl | rfl | rfl <;> rfl
set_option maxRecDepth 100000 in
theorem madeP (n : Nat) (w : World) (hn : n < 256) :
    Calls Try.prog 39 #[.int .u8 n] w (NumP w (prN n)) := by
  have hB := Blk.new w 26 prow
  have hlt : n % 15 < 15 := Nat.mod_lt _ (by decide)
  have hc : (w.alloc (.cells prow 26)).cell? ⟨w.heap.size, n % 15, none⟩ = some (.int .u64 (prN n : Nat)) := by
    rw [hB.cell]; exact prow_at _ hlt
  go_enter Try.func39, Try.ntmps39
  go_wp2_with fail
  refine (ref_primesP w).mono ?_
  rintro e w' ⟨rfl, rfl⟩
  go_wp2_with fail
  go_ret
  exact ⟨rfl, (by repeat (first | exact Q.refl _ | assumption | apply Q.drew | apply Q.drewN | apply Q.alloc))⟩
set_option maxRecDepth 100000 in
theorem cmodP (n b : Nat) : (n : Int) % (b : Int) = ((n % b : Nat) : Int) := rfl
def RetBB (w : World) (b : Bool) (e : Ending) (w' : World) : Prop := e = .returned (.bool b) ∧ w = w'
set_option maxRecDepth 100000 in
/-- Prime, of a prime below 2^31. -/
theorem ref_primeP (n : Nat) (w : World) (h : Pr n) (h3 : n < 2147483648) :
    Calls Try.prog 56 #[.int .u64 n] w (RetBB w true) := by
  have h2 := h.1
  have ht := h.trialP
  have HT := @Lib.hid _ ht
  clear ht h
  go_enter Try.func56, Try.ntmps56
  go_wp2
  go_loop [3] (fun dv => ∃ d : Nat, dv = .int .u64 d ∧ 2 ≤ d ∧ d ≤ 46341) (fun dv => 50000 - (intOf dv).toNat)
  case atStart => exact ⟨2, rfl, by omega, by omega⟩
  case round =>
    obtain ⟨d, rfl, hd2, hd3⟩ := hrel
    have hdd : d * d < 2 ^ 64 := sq_lt (by omega) (by omega)
    by_cases h4 : d * d ≤ n
    · have hd4 : d ≤ 46340 := by
        rcases Nat.lt_or_ge d 46341 with g | g
        · omega
        · have := Nat.mul_le_mul g g
          omega
      have h5 := HT.out d hd2 h4
      have hb : ((n : Int) % (d : Int) == 0) = false := by rw [beq_eq_false_iff_ne, cmodP n d]; exact fun h => h5 (Int.ofNat_inj.1 h)
      have H5 := Lib.hid h5
      clear h5
      go_wp2_with fail
      go_round
      case rel => exact ⟨d + 1, rfl, by omega, by omega⟩
      case measure => simp [intOf]; omega
    · go_wp2_with fail
      go_ret
      exact ⟨rfl, rfl⟩
set_option maxRecDepth 100000 in
theorem Pr.uniq {p a x y : Nat} (h : Pr p) (hx : x < p) (hy : y < p) (ex : x * a % p = 1 % p) (ey : y * a % p = 1 % p) : x = y := by
  have ha : ¬ p ∣ a := by
    intro hd
    have := Nat.mod_eq_zero_of_dvd (Nat.dvd_trans hd (Nat.dvd_mul_left a x))
    rw [this, Nat.mod_eq_of_lt h.1] at ex
    cases ex
  have := h.cancel ha (b := x) (c := y) (by rw [Nat.mul_comm a x, Nat.mul_comm a y, ex, ey])
  rwa [Nat.mod_eq_of_lt hx, Nat.mod_eq_of_lt hy] at this
set_option maxRecDepth 100000 in
theorem Pr.finv {p a : Nat} (h : Pr p) (ha : a % p ≠ 0) : (a ^ (p - 2) % p) * a % p = 1 % p := by
  have h2 := h.1
  have e := h.fermat_one (a := a) (fun hd => ha (Nat.mod_eq_zero_of_dvd hd))
  rw [mul_mods p (a ^ (p - 2) % p) a (a ^ (p - 2)) a (Nat.mod_mod _ _) rfl, ← Nat.pow_succ, show (p - 2).succ = p - 1 from by omega, e, Nat.mod_eq_of_lt h.1]
end Go.Proofs.Ytcjpjnneimjfiaa
