/-
  Neg, Sub, Sign, Cmp and Of of the reference.
-/
import Derived.Test.YtcjpjnneimjfiaaInt
namespace Go.Proofs.Ytcjpjnneimjfiaa
open Go.RowKit

set_option maxRecDepth 100000 in
theorem sgn_not (na : Bool) (n : Nat) : sgn (!na) n = -sgn na n := by cases na <;> simp [sgn]

set_option maxHeartbeats 400000 in
set_option maxRecDepth 100000 in
theorem rneg_any (va : Value) (a : Int) (w : World) (ha : IntV w va a) (hf : Fits 1073741825 a) : Calls Try.prog 66 #[va] w (RetV w (-a)) := by
  obtain ⟨na, A, c, la, rfl, hA⟩ := ha
  have lna := hA.len hf
  go_enter Try.func66, Try.ntmps66
  go_wp2_with fail
  refine (made_v A c la (!na) _ (hA.1.q (by repeat (first | exact Q.refl _ | assumption | apply Q.drew | apply Q.drewN | apply Q.alloc))) (by omega)).mono ?_
  rintro e w2 ⟨v2, rfl, ⟨neg2, A2, c2, l2, rfl, hI2⟩, hq2⟩
  obtain ⟨g1, g2, hq⟩ := boxes2 hq2
  obtain ⟨k8, k9, f8, f9⟩ := g2.two
  have hz := g2.lt
  go_wp2_with fail
  refine bodyPost_ret (v := .agg #[.bool neg2, .slice A2 l2.length c2]) (by simp [results, Try.results66, go_sem, k8, k9]) rfl ?_
  have hr := retV_end g2 hq (by omega) hI2 rfl
  rw [sgn_not, ← hA.2.2.2] at hr
  exact hr

def SignP (w : World) (z : Int) (e : Ending) (w' : World) : Prop := e = .returned (.int .i64 z.sign) ∧ Q w w'
set_option maxRecDepth 100000 in
theorem IntA.sign0 {w : World} {neg : Bool} {A : Option Addr} {c : Nat} {l : List Nat} {z : Int} (h : IntA w neg A c l z) (hl : l.length = 0) : z = 0 := by
  rw [h.2.2.2, List.eq_nil_of_length_eq_zero hl]; cases neg <;> rfl
set_option maxRecDepth 100000 in
theorem IntA.val_pos {w : World} {neg : Bool} {A : Option Addr} {c : Nat} {l : List Nat} {z : Int} (h : IntA w neg A c l z) (hl : 0 < l.length) : 0 < val l := by
  have := val_pos_of_canon h.2.1 (by rintro rfl; simp at hl)
  have h2 : 0 < 4294967296 ^ (l.length - 1) := Nat.pow_pos (by decide)
  omega

set_option maxHeartbeats 400000 in
set_option maxRecDepth 100000 in
theorem rsign_any (va : Value) (a : Int) (w : World) (ha : IntV w va a) : Calls Try.prog 74 #[va] w (SignP w a) := by
  obtain ⟨na, A, c, la, rfl, hA⟩ := ha
  have hl2 := hA.1.len
  by_cases h0 : la.length = 0
  · have H0 := Lib.hid h0
    have hb : ((la.length : Int) == 0) = true := by simp [h0]
    clear h0
    go_enter Try.func74, Try.ntmps74
    go_wp2_with fail
    go_ret
    exact ⟨ret_int (by rw [hA.sign0 H0.out]; rfl), (by repeat (first | exact Q.refl _ | assumption | apply Q.drew | apply Q.drewN | apply Q.alloc))⟩
  · have hp := hA.val_pos (by omega)
    have hb : ((la.length : Int) == 0) = false := by rw [beq_eq_false_iff_ne]; omega
    cases na with
    | false =>
      go_enter Try.func74, Try.ntmps74
      go_wp2_with fail
      go_ret
      exact ⟨ret_int (by rw [hA.2.2.2]; simp [sgn, Int.sign_eq_one_of_pos (by omega : (0 : Int) < (val la : Int))]), (by repeat (first | exact Q.refl _ | assumption | apply Q.drew | apply Q.drewN | apply Q.alloc))⟩
    | true =>
      go_enter Try.func74, Try.ntmps74
      go_wp2_with fail
      go_ret
      exact ⟨ret_int (by rw [hA.2.2.2]; simp [sgn, Int.sign_eq_one_of_pos (by omega : (0 : Int) < (val la : Int))]), (by repeat (first | exact Q.refl _ | assumption | apply Q.drew | apply Q.drewN | apply Q.alloc))⟩

set_option maxHeartbeats 1000000 in
set_option maxRecDepth 100000 in
theorem rsub_any (va vb : Value) (a b : Int) (w : World) (ha : IntV w va a) (hb : IntV w vb b) (n : Nat) (hn : n ≤ 1073741824) (fa : Fits n a) (fb : Fits n b) :
    Calls Try.prog 42 #[va, vb] w (RetV w (a - b)) := by
  have ha0 := ha
  have hb0 := hb
  obtain ⟨na, A, c, la, rfl, hA⟩ := ha
  obtain ⟨nb, B, d, lb, rfl, hB⟩ := hb
  go_enter Try.func42, Try.ntmps42
  go_wp2_with fail
  go_region_held3 (fun w' => w'.cell? ⟨w.heap.size, 0, none⟩ = some (.bool na) ∧ w'.cell? ⟨w.heap.size, 1, none⟩ = some (.slice A la.length c) ∧ w'.cell? ⟨w.heap.size + 1, 0, none⟩ = some (.bool nb) ∧ w'.cell? ⟨w.heap.size + 1, 1, none⟩ = some (.slice B lb.length d)) (first | with_reducible exact ⟨k4, k5, k6, k7⟩ | with_reducible exact ⟨k0, k1, k2, k3⟩ | with_reducible exact ⟨cell_far2 k4 (by dsimp only; omega), cell_far2 k5 (by dsimp only; omega), cell_far2 k6 (by dsimp only; omega), cell_far2 k7 (by dsimp only; omega)⟩ | go_keep)
    (first | (go_at_call 66; refine (rneg_any _ b _ (hb0.q (by repeat (first | exact Q.refl _ | assumption | apply Q.drew | apply Q.drewN | apply Q.alloc))) (fb.mono (by omega))).mono ?_; rintro e w1 ⟨v1, rfl, ⟨neg1, A1, c1, l1, rfl, hI1⟩, hq1⟩; obtain ⟨g1, g2, g3, hq⟩ := boxes3 hq1.of_drew; obtain ⟨k0, k1, _, _⟩ := g1.two; obtain ⟨k2, k3, _, _⟩ := g2.two) | (go_at_call 40; refine (radd_any _ _ a (-b) _ (ha0.q (by repeat (first | exact Q.refl _ | assumption | apply Q.drew | apply Q.drewN | apply Q.alloc))) ⟨_, _, _, _, rfl, hI1.q (by repeat (first | exact Q.refl _ | assumption | apply Q.drew | apply Q.drewN | apply Q.alloc))⟩ n hn fa (by unfold Fits at fb ⊢; omega)).mono ?_; rintro e w2 ⟨v2, rfl, ⟨neg2, A2, c2, l2, rfl, hI2⟩, hq2⟩; obtain ⟨k4, k5, _, _⟩ := (g1.q hq2).two; obtain ⟨k6, k7, _, _⟩ := (g2.q hq2).two; have g4 := g3.q hq2; obtain ⟨k8, k9, f8, f9⟩ := g4.two; have hz := g4.lt; have hqw := hq.trans hq2))
  go_wp2
  refine bodyPost_ret (v := .agg #[.bool neg2, .slice A2 l2.length c2]) (by simp [results, Try.results42, go_sem, k8, k9]) rfl ?_
  have hr := retV_end g4 hqw (by omega) hI2 rfl
  rw [← Int.sub_eq_add_neg] at hr
  exact hr

end Go.Proofs.Ytcjpjnneimjfiaa
