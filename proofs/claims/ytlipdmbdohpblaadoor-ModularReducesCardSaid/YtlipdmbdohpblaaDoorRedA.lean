/-
  Plain laws of remainders; the law's own made.
-/
import Derived.Test.YtlipdmbdohpblaaDoorDivC
import Derived.Test.YtlipdmbdohpblaaDoorLawC
namespace Go.Proofs.YtlipdmbdohpblaaDoor
open Go.RowKit

theorem redN_cast (p : Nat) (z : Int) (hp : 0 < p) : ((redN p z : Nat) : Int) = z % (p : Int) := by
  unfold redN
  have := Int.emod_nonneg z (show (p : Int) ≠ 0 by omega)
  omega
theorem redN_lt (p : Nat) (z : Int) (hp : 0 < p) : redN p z < p := by
  have h := redN_cast p z hp
  have := Int.emod_lt_of_pos z (show (0 : Int) < (p : Int) by omega)
  omega
theorem redN_add (p : Nat) (a b : Int) (hp : 0 < p) : redN p (a + b) = (redN p a + redN p b) % p := by
  have h : ((redN p (a + b) : Nat) : Int) = (((redN p a + redN p b) % p : Nat) : Int) := by
    rw [redN_cast p _ hp, Int.natCast_emod, Int.natCast_add, redN_cast p a hp, redN_cast p b hp, ← Int.add_emod]
  exact Int.ofNat_inj.1 h
theorem redN_mul (p : Nat) (a b : Int) (hp : 0 < p) : redN p (a * b) = redN p a * redN p b % p := by
  have h : ((redN p (a * b) : Nat) : Int) = ((redN p a * redN p b % p : Nat) : Int) := by
    rw [redN_cast p _ hp, Int.natCast_emod, Int.natCast_mul, redN_cast p a hp, redN_cast p b hp, ← Int.mul_emod]
  exact Int.ofNat_inj.1 h
theorem redN_symm (p r : Nat) (hr : r < p) : redN p (symm p r) = r := by
  have h : ((redN p (symm p r) : Nat) : Int) = (r : Int) := by
    rw [redN_cast p _ (by omega)]
    unfold symm
    split
    · rw [Int.sub_emod_right]; exact Int.emod_eq_of_lt (by omega) (by omega)
    · exact Int.emod_eq_of_lt (by omega) (by omega)
  exact Int.ofNat_inj.1 h
theorem symm_around (p r : Nat) (hr : r < p) : symm p r + symm p r - (p : Int) ≤ 0 ∧ 0 < symm p r + symm p r - -(p : Int) := by
  unfold symm
  split <;> omega
theorem fits_take (neg : Bool) (l : List Nat) (hl : ∀ x ∈ l, x < 4294967296) : Fits 4 (sgn neg (val (l.take 4))) := by
  unfold Fits
  rw [natAbs_sgn]
  have h := val_lt (l := l.take 4) (fun x hx => hl x (List.mem_of_mem_take hx))
  have h2 : (l.take 4).length ≤ 4 := by rw [List.length_take]; omega
  exact Nat.lt_of_lt_of_le h (Nat.pow_le_pow_right (by decide) h2)

set_option maxHeartbeats 1000000 in
theorem lawmade (A : Option Addr) (c : Nat) (l : List Nat) (neg : Bool) (w : World) (h : Lm w A c l) :
    Calls Tryd.prog 16 #[.agg #[.slice A l.length c, .bool neg]] w (RetV w (sgn neg (val (l.take 4)))) := by
  have hcap := h.cap
  have hlen := h.len
  have ht : Lm w A c (l.take 4) := h.take 4 (by rw [List.length_take]; omega)
  have hml := List.length_take (i := 4) (l := l)
  by_cases h4 : l.length ≤ 4
  · have e : (l.take 4).length = l.length := by omega
    have htk : l.take 4 = l := List.take_of_length_le h4
    rw [htk] at ht ⊢
    have HE := Lib.hid h4
    have h4i : (l.length : Int) ≤ 4 := by omega
    have hci : (l.length : Int) ≤ (c : Int) := by omega
    have h0i : (0 : Int) ≤ (l.length : Int) := by omega
    clear e hml h4 htk
    rcases Nat.eq_zero_or_pos c with rfl | hc0
    · have hl0 : l.length = 0 := by omega
      have hln : l = [] := List.eq_nil_of_length_eq_zero hl0
      subst hln
      clear hl0 h4i hci h0i
      go_enter Tryd.func16, Tryd.ntmps16
      go_wp2_with fail
      go_region_held3 (fun w' => w'.cell? ⟨w.heap.size, 0, none⟩ = some (.slice A 0 0) ∧ w'.cell? ⟨w.heap.size, 1, none⟩ = some (.bool neg)) (first | with_reducible exact ⟨k4, k5⟩ | go_keep)
        (first | (go_at_call 42; refine (made_v A 0 [] neg _ (ht.q (by repeat (first | exact Q.refl _ | assumption | apply Q.drew | apply Q.drewN | apply Q.alloc))) (by simp)).mono ?_; rintro e w2 ⟨v2, rfl, ⟨neg2, A2, c2, l2, rfl, hI2⟩, hq2⟩; obtain ⟨g1, g4, hqw⟩ := boxes2 hq2.of_drew; obtain ⟨k4, k5, _, _⟩ := g1.two; obtain ⟨k8, k9, f8, f9⟩ := g4.two; have hz := g4.lt))
      go_wp2
      refine bodyPost_ret (v := .agg #[.bool neg2, .slice A2 l2.length c2]) (by simp [results, Tryd.results16, go_sem, k8, k9]) rfl ?_
      exact retV_end g4 hqw (by omega) hI2 rfl
    · obtain ⟨N, hN⟩ : ∃ N, l.length = N := ⟨_, rfl⟩
      have key : ∀ w', Lm w' A c l → Calls Tryd.prog 42 #[.slice A N c, .bool neg] w' (RetV w' (sgn neg (val l))) := fun w' hw => by
        have hx := made_v A c l neg w' hw (by have := HE.out; omega)
        rwa [hN] at hx
      rw [hN] at h4i hci h0i HE hcap hlen ⊢
      have hk : N = 0 ∨ N = 1 ∨ N = 2 ∨ N = 3 ∨ N = 4 := by have := HE.out; omega
      clear hN h
      have hc1 : (0 : Int) < (c : Int) := by omega
      rcases hk with hk | hk | hk | hk | hk
      · subst hk
        have hck : (0 : Int) ≤ (c : Int) := by omega
        clear HE h4i hci h0i hcap hlen
        go_enter Tryd.func16, Tryd.ntmps16
        go_wp2_with fail
        go_region_held3 (fun w' => w'.cell? ⟨w.heap.size, 0, none⟩ = some (.slice A 0 c) ∧ w'.cell? ⟨w.heap.size, 1, none⟩ = some (.bool neg)) (first | with_reducible exact ⟨k4, k5⟩ | go_keep)
          (first | (go_at_call 42; refine (key _ (ht.q (by repeat (first | exact Q.refl _ | assumption | apply Q.drew | apply Q.drewN | apply Q.alloc)))).mono ?_; rintro e w2 ⟨v2, rfl, ⟨neg2, A2, c2, l2, rfl, hI2⟩, hq2⟩; obtain ⟨g1, g4, hqw⟩ := boxes2 hq2.of_drew; obtain ⟨k4, k5, _, _⟩ := g1.two; obtain ⟨k8, k9, f8, f9⟩ := g4.two; have hz := g4.lt))
        go_wp2
        refine bodyPost_ret (v := .agg #[.bool neg2, .slice A2 l2.length c2]) (by simp [results, Tryd.results16, go_sem, k8, k9]) rfl ?_
        exact retV_end g4 hqw (by omega) hI2 rfl
      · subst hk
        have hck : (1 : Int) ≤ (c : Int) := by omega
        clear HE h4i hci h0i hcap hlen
        go_enter Tryd.func16, Tryd.ntmps16
        go_wp2_with fail
        go_region_held3 (fun w' => w'.cell? ⟨w.heap.size, 0, none⟩ = some (.slice A 1 c) ∧ w'.cell? ⟨w.heap.size, 1, none⟩ = some (.bool neg)) (first | with_reducible exact ⟨k4, k5⟩ | go_keep)
          (first | (go_at_call 42; refine (key _ (ht.q (by repeat (first | exact Q.refl _ | assumption | apply Q.drew | apply Q.drewN | apply Q.alloc)))).mono ?_; rintro e w2 ⟨v2, rfl, ⟨neg2, A2, c2, l2, rfl, hI2⟩, hq2⟩; obtain ⟨g1, g4, hqw⟩ := boxes2 hq2.of_drew; obtain ⟨k4, k5, _, _⟩ := g1.two; obtain ⟨k8, k9, f8, f9⟩ := g4.two; have hz := g4.lt))
        go_wp2
        refine bodyPost_ret (v := .agg #[.bool neg2, .slice A2 l2.length c2]) (by simp [results, Tryd.results16, go_sem, k8, k9]) rfl ?_
        exact retV_end g4 hqw (by omega) hI2 rfl
      · subst hk
        have hck : (2 : Int) ≤ (c : Int) := by omega
        clear HE h4i hci h0i hcap hlen
        go_enter Tryd.func16, Tryd.ntmps16
        go_wp2_with fail
        go_region_held3 (fun w' => w'.cell? ⟨w.heap.size, 0, none⟩ = some (.slice A 2 c) ∧ w'.cell? ⟨w.heap.size, 1, none⟩ = some (.bool neg)) (first | with_reducible exact ⟨k4, k5⟩ | go_keep)
          (first | (go_at_call 42; refine (key _ (ht.q (by repeat (first | exact Q.refl _ | assumption | apply Q.drew | apply Q.drewN | apply Q.alloc)))).mono ?_; rintro e w2 ⟨v2, rfl, ⟨neg2, A2, c2, l2, rfl, hI2⟩, hq2⟩; obtain ⟨g1, g4, hqw⟩ := boxes2 hq2.of_drew; obtain ⟨k4, k5, _, _⟩ := g1.two; obtain ⟨k8, k9, f8, f9⟩ := g4.two; have hz := g4.lt))
        go_wp2
        refine bodyPost_ret (v := .agg #[.bool neg2, .slice A2 l2.length c2]) (by simp [results, Tryd.results16, go_sem, k8, k9]) rfl ?_
        exact retV_end g4 hqw (by omega) hI2 rfl
      · subst hk
        have hck : (3 : Int) ≤ (c : Int) := by omega
        clear HE h4i hci h0i hcap hlen
        go_enter Tryd.func16, Tryd.ntmps16
        go_wp2_with fail
        go_region_held3 (fun w' => w'.cell? ⟨w.heap.size, 0, none⟩ = some (.slice A 3 c) ∧ w'.cell? ⟨w.heap.size, 1, none⟩ = some (.bool neg)) (first | with_reducible exact ⟨k4, k5⟩ | go_keep)
          (first | (go_at_call 42; refine (key _ (ht.q (by repeat (first | exact Q.refl _ | assumption | apply Q.drew | apply Q.drewN | apply Q.alloc)))).mono ?_; rintro e w2 ⟨v2, rfl, ⟨neg2, A2, c2, l2, rfl, hI2⟩, hq2⟩; obtain ⟨g1, g4, hqw⟩ := boxes2 hq2.of_drew; obtain ⟨k4, k5, _, _⟩ := g1.two; obtain ⟨k8, k9, f8, f9⟩ := g4.two; have hz := g4.lt))
        go_wp2
        refine bodyPost_ret (v := .agg #[.bool neg2, .slice A2 l2.length c2]) (by simp [results, Tryd.results16, go_sem, k8, k9]) rfl ?_
        exact retV_end g4 hqw (by omega) hI2 rfl
      · subst hk
        have hck : (4 : Int) ≤ (c : Int) := by omega
        clear HE h4i hci h0i hcap hlen
        go_enter Tryd.func16, Tryd.ntmps16
        go_wp2_with fail
        go_region_held3 (fun w' => w'.cell? ⟨w.heap.size, 0, none⟩ = some (.slice A 4 c) ∧ w'.cell? ⟨w.heap.size, 1, none⟩ = some (.bool neg)) (first | with_reducible exact ⟨k4, k5⟩ | go_keep)
          (first | (go_at_call 42; refine (key _ (ht.q (by repeat (first | exact Q.refl _ | assumption | apply Q.drew | apply Q.drewN | apply Q.alloc)))).mono ?_; rintro e w2 ⟨v2, rfl, ⟨neg2, A2, c2, l2, rfl, hI2⟩, hq2⟩; obtain ⟨g1, g4, hqw⟩ := boxes2 hq2.of_drew; obtain ⟨k4, k5, _, _⟩ := g1.two; obtain ⟨k8, k9, f8, f9⟩ := g4.two; have hz := g4.lt))
        go_wp2
        refine bodyPost_ret (v := .agg #[.bool neg2, .slice A2 l2.length c2]) (by simp [results, Tryd.results16, go_sem, k8, k9]) rfl ?_
        exact retV_end g4 hqw (by omega) hI2 rfl
  · have e : (l.take 4).length = 4 := by omega
    obtain ⟨m, hm⟩ : ∃ m, l.take 4 = m := ⟨_, rfl⟩
    rw [hm] at ht e ⊢
    have hc4 : (4 : Int) ≤ (c : Int) := by omega
    have h4i : (4 : Int) < (l.length : Int) := by omega
    have h4j : ¬ (l.length : Int) ≤ 4 := by omega
    have key : ∀ w', Lm w' A c m → Calls Tryd.prog 42 #[.slice A 4 c, .bool neg] w' (RetV w' (sgn neg (val m))) := fun w' hw => by
      have := made_v A c m neg w' hw (by omega)
      rwa [e] at this
    clear hm hml h4 e
    go_enter Tryd.func16, Tryd.ntmps16
    go_wp2_with fail
    go_region_held3 (fun w' => w'.cell? ⟨w.heap.size, 0, none⟩ = some (.slice A l.length c) ∧ w'.cell? ⟨w.heap.size, 1, none⟩ = some (.bool neg)) (first | with_reducible exact ⟨k4, k5⟩ | go_keep)
      (first | (go_at_call 42; refine (key _ (ht.q (by repeat (first | exact Q.refl _ | assumption | apply Q.drew | apply Q.drewN | apply Q.alloc)))).mono ?_; rintro e w2 ⟨v2, rfl, ⟨neg2, A2, c2, l2, rfl, hI2⟩, hq2⟩; obtain ⟨g1, g4, hqw⟩ := boxes2 hq2.of_drew; obtain ⟨k4, k5, _, _⟩ := g1.two; obtain ⟨k8, k9, f8, f9⟩ := g4.two; have hz := g4.lt))
    go_wp2
    refine bodyPost_ret (v := .agg #[.bool neg2, .slice A2 l2.length c2]) (by simp [results, Tryd.results16, go_sem, k8, k9]) rfl ?_
    exact retV_end g4 hqw (by omega) hI2 rfl
end Go.Proofs.YtlipdmbdohpblaaDoor
