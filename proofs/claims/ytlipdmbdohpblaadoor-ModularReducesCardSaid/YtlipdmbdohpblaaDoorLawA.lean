/-
  The walk of ModularPrimeMatchesReference.
-/
import Derived.Test.YtlipdmbdohpblaaDoorSane
namespace Go.Proofs.YtlipdmbdohpblaaDoor
open Go.RowKit

theorem prime_ci (n : Nat) (b : Bool) {A : Int} (w : World) (hA : A = (n : Int)) (hn : n < 2 ^ 64) (hT : Tab w) (h : primeB n = b) : Calls Tryd.prog 9 #[.int .u64 A] w (BoolQ w b) := hA ▸ prime_c n b w hn hT h
theorem rprime_ci (n : Nat) (b : Bool) {A : Int} (w : World) (hA : A = (n : Int)) (hn : n < 2 ^ 64) (h : primeB n = b) : Calls Tryd.prog 10 #[.int .u64 A] w (RetB w b) := hA ▸ h ▸ ref_prime n w hn
theorem next_ci (n r : Nat) {A : Int} (w : World) (hA : A = (n : Int)) (hn : n ≤ 4294967296) (hT : Tab w) (h : nextN n = r) : Calls Tryd.prog 11 #[.int .u64 A] w (NumQ w r) := hA ▸ next_c n r w hn hT h
theorem before_ci (n r : Nat) {A : Int} (w : World) (hA : A = (n : Int)) (hn : n < 2 ^ 64) (hT : Tab w) (h : beforeN n = r) : Calls Tryd.prog 13 #[.int .u64 A] w (NumQ w r) := hA ▸ before_c n r w hn hT h
theorem rnext_ci (n r : Nat) {A : Int} (w : World) (hA : A = (n : Int)) (hn : n ≤ 4294967296) (h : nextN n = r) : Calls Tryd.prog 12 #[.int .u64 A] w (RetN w r) := hA ▸ h ▸ ref_next n w hn
theorem rbefore_ci (n r : Nat) {A : Int} (w : World) (hA : A = (n : Int)) (hn : n < 2 ^ 64) (h : beforeN n = r) : Calls Tryd.prog 14 #[.int .u64 A] w (RetN w r) := hA ▸ h ▸ ref_before n w hn

set_option maxHeartbeats 1000000 in
theorem law_prime (n m : Nat) (w : World) (hn : n < 2 ^ 64) (hm : m < 4294967296) (hT : Tab w) :
    Calls Tryd.prog 3 #[.int .u64 n, .int .u32 m] w (SaneP w) := by
  obtain ⟨s, hs⟩ : ∃ s : Nat, s = m % 1048576 := ⟨_, rfl⟩
  obtain ⟨l, hl⟩ : ∃ l : Nat, l = 2147483048 + m % 1200 := ⟨_, rfl⟩
  have hs1 : (m : Int) % 1048576 = (s : Int) := by omega
  have hl1 : 2147483048 + (m : Int) % 1200 = (l : Int) := by omega
  have hs2 : s < 1048576 := by omega
  have hl2 : l < 2147484248 := by omega
  obtain ⟨b1, h1⟩ : ∃ b, primeB n = b := ⟨_, rfl⟩
  obtain ⟨b2, h2⟩ : ∃ b, primeB s = b := ⟨_, rfl⟩
  obtain ⟨r1, h3⟩ : ∃ r, nextN s = r := ⟨_, rfl⟩
  obtain ⟨r2, h4⟩ : ∃ r, beforeN s = r := ⟨_, rfl⟩
  have H1 := Lib.hid h1
  have H2 := Lib.hid h2
  have H3 := Lib.hid h3
  have H4 := Lib.hid h4
  have Hs := Lib.hid hs1
  have Hl := Lib.hid hl1
  have Hl2 := Lib.hid hl2
  have Hs2 := Lib.hid hs2
  have Hn := Lib.hid hn
  obtain ⟨r3, h5⟩ : ∃ r, nextN l = r := ⟨_, rfl⟩
  obtain ⟨r4, h6⟩ : ∃ r, beforeN l = r := ⟨_, rfl⟩
  have H5 := Lib.hid h5
  have H6 := Lib.hid h6
  clear hs hl h1 h2 h3 h4 h5 h6 hs1 hl1 hs2 hl2 hn
  go_enter Tryd.func3, Tryd.ntmps3
  go_wp2_with fail
  refine (sane_any w hT).mono ?_
  rintro e w1 ⟨rfl, q1⟩
  go_wp2_with fail
  refine (prime_ci n b1 _ rfl Hn.out (hT.q q1) H1.out).mono ?_
  rintro e w2 ⟨rfl, hq⟩
  have q2 := q1.trans hq
  clear hq
  go_wp2_with fail
  refine (rprime_ci n b1 _ rfl Hn.out H1.out).mono ?_
  rintro e w' ⟨rfl, rfl⟩
  go_wp2_with fail
  refine (prime_ci s b2 _ Hs.out (by have := Hs2.out; omega) (hT.q q2) H2.out).mono ?_
  rintro e w3 ⟨rfl, hq⟩
  have q3 := q2.trans hq
  clear hq
  go_wp2_with fail
  refine (rprime_ci s b2 _ Hs.out (by have := Hs2.out; omega) H2.out).mono ?_
  rintro e w' ⟨rfl, rfl⟩
  go_wp2_with fail
  refine (next_ci s r1 _ Hs.out (by have := Hs2.out; omega) (hT.q q3) H3.out).mono ?_
  rintro e w4 ⟨rfl, hq⟩
  have q4 := q3.trans hq
  clear hq
  go_wp2_with fail
  refine (rnext_ci s r1 _ Hs.out (by have := Hs2.out; omega) H3.out).mono ?_
  rintro e w' ⟨rfl, rfl⟩
  go_wp2_with fail
  refine (before_ci s r2 _ Hs.out (by have := Hs2.out; omega) (hT.q q4) H4.out).mono ?_
  rintro e w5 ⟨rfl, hq⟩
  have q5 := q4.trans hq
  clear hq
  go_wp2_with fail
  refine (rbefore_ci s r2 _ Hs.out (by have := Hs2.out; omega) H4.out).mono ?_
  rintro e w' ⟨rfl, rfl⟩
  go_wp2_with fail
  refine (next_ci l r3 _ Hl.out (by have := Hl2.out; omega) (hT.q q5) H5.out).mono ?_
  rintro e w6 ⟨rfl, hq⟩
  have q6 := q5.trans hq
  clear hq
  go_wp2_with fail
  refine (rnext_ci l r3 _ Hl.out (by have := Hl2.out; omega) H5.out).mono ?_
  rintro e w' ⟨rfl, rfl⟩
  go_wp2_with fail
  refine (before_ci l r4 _ Hl.out (by have := Hl2.out; omega) (hT.q q6) H6.out).mono ?_
  rintro e w7 ⟨rfl, hq⟩
  have q7 := q6.trans hq
  clear hq
  go_wp2_with fail
  refine (rbefore_ci l r4 _ Hl.out (by have := Hl2.out; omega) H6.out).mono ?_
  rintro e w' ⟨rfl, rfl⟩
  go_wp2_with fail
  go_ret
  exact ⟨rfl, q7⟩
end Go.Proofs.YtlipdmbdohpblaaDoor
