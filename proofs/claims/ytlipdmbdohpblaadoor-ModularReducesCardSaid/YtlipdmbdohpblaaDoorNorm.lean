/-
  norm and Of of package integer.
-/
import Derived.Test.YtlipdmbdohpblaaDoorInt3
namespace Go.Proofs.YtlipdmbdohpblaaDoor
open Go.RowKit

set_option maxHeartbeats 400000 in
theorem norm_any (A : Option Addr) (c : Nat) (l : List Nat) (neg : Bool) (w : World) (h : Lm w A c l) :
    Calls Tryd.prog 55 #[.slice A l.length c, .bool neg] w (MadeP w neg l) := by
  have hcap := h.cap
  have hlen := h.len
  go_enter Tryd.func55, Tryd.ntmps55
  go_wp2_with fail
  go_step3
  go_wp2_with fail
  go_step3
  go_wp2_with fail
  go_loop [5] (fun nv => ∃ n : Nat, nv = .int .i64 n ∧ n ≤ l.length ∧ trim (l.take n) = trim l) (fun nv => (intOf nv).toNat)
  case atStart => exact ⟨l.length, rfl, Nat.le_refl _, by rw [List.take_length]⟩
  case round =>
    obtain ⟨n, rfl, hn, ht⟩ := hrel
    have Ht := Lib.hid ht
    clear ht
    have hT := h.take n (c' := n) (by rw [List.length_take]; omega)
    have hTl : (l.take n).length = n := by rw [List.length_take]; omega
    have HT := Lib.hid hTl
    clear hTl
    cases n with
    | zero =>
      have e0 : trim l = [] ∧ decide (trim l ≠ []) = false := ⟨Ht.out.symm, by rw [← Ht.out]; rfl⟩
      have E0 := Lib.hid e0
      clear e0
      cases neg with
      | false =>
        go_wp2_with fail
        refine bodyPost_ret (v := .agg #[.bool false, .slice A 0 0]) (by simp [results, Tryd.results55, go_sem]) rfl ?_
        refine ⟨_, rfl, ?_, (Q.refl w).alloc _⟩
        rw [E0.out.2, E0.out.1]
        exact ⟨A, 0, rfl, hT.q ((Q.refl w).alloc _)⟩
      | true =>
        go_wp2_with fail
        refine bodyPost_ret (v := .agg #[.bool false, .slice A 0 0]) (by simp [results, Tryd.results55, go_sem]) rfl ?_
        refine ⟨_, rfl, ?_, (Q.refl w).alloc _⟩
        rw [E0.out.2, E0.out.1]
        exact ⟨A, 0, rfl, hT.q ((Q.refl w).alloc _)⟩
    | succ n =>
      obtain ⟨b, o, x, rfl, hb, hx, hx2, hc⟩ := h.at (k := n) (by omega)
      have Hx := Lib.hid hx
      clear hx
      by_cases h0 : x = 0
      · subst h0
        go_wp2_with fail
        refine ⟨⟨n, rfl, by omega, by rw [← Ht.out, trim_take_of_zero (by omega) Hx.out]⟩, ?_⟩
        simp [intOf]
      · have hx0 : ((x : Int) != 0) = true := by rw [bne_iff_ne]; omega
        have e1 : trim l = l.take (n + 1) := by rw [← Ht.out, trim_take_of_pos (by omega) Hx.out h0]
        have e2 : l.take (n + 1) ≠ [] := by intro e; have := HT.out; rw [e] at this; simp at this
        have e0 : trim l = l.take (n + 1) ∧ decide (trim l ≠ []) = true := ⟨e1, by rw [e1]; simpa using e2⟩
        have E0 := Lib.hid e0
        clear e0 e1 e2
        cases neg with
        | false =>
          go_wp2_with fail
          refine bodyPost_ret (v := .agg #[.bool false, .slice (some ⟨b, o, none⟩) (n + 1) (n + 1)]) (by simp [results, Tryd.results55, go_sem]) rfl ?_
          refine ⟨_, rfl, ?_, (Q.refl w).alloc _⟩
          rw [E0.out.2, E0.out.1]
          exact ⟨(some ⟨b, o, none⟩), (n + 1), by rw [HT.out]; rfl, hT.q ((Q.refl w).alloc _)⟩
        | true =>
          go_wp2_with fail
          refine bodyPost_ret (v := .agg #[.bool true, .slice (some ⟨b, o, none⟩) (n + 1) (n + 1)]) (by simp [results, Tryd.results55, go_sem]) rfl ?_
          refine ⟨_, rfl, ?_, (Q.refl w).alloc _⟩
          rw [E0.out.2, E0.out.1]
          exact ⟨(some ⟨b, o, none⟩), (n + 1), by rw [HT.out]; rfl, hT.q ((Q.refl w).alloc _)⟩

theorem norm_v (A : Option Addr) (c : Nat) (l : List Nat) (neg : Bool) (w : World) (h : Lm w A c l) :
    Calls Tryd.prog 55 #[.slice A l.length c, .bool neg] w (RetV w (sgn neg (val l))) :=
  (norm_any A c l neg w h).mono fun _ _ hp => hp.retV

set_option maxHeartbeats 400000 in
theorem iof_any (n : Int) (w : World) (h1 : -2 ^ 63 ≤ n) (h2 : n < 2 ^ 63) : Calls Tryd.prog 45 #[.int .i64 n] w (RetV w n) := by
  by_cases h0 : n < 0
  · go_enter Tryd.func45, Tryd.ntmps45
    go_wp2_with fail
    have e0 : IntKind.u64.wrap (-IntKind.u64.wrap n) = (((-n).toNat : Nat) : Int) := by rw [IntKind.wrap_u64, IntKind.wrap_u64]; omega
    rw [e0]
    refine (norm_v (some ⟨w.heap.size + 1, 0, none⟩) 2 [(-n).toNat % 4294967296, (-n).toNat / 4294967296] true _ (lm_two (Blk.new' _ _ _ (by simp)) (by omega) (by omega) (by omega) (by omega))).mono ?_
    rintro e w2 ⟨v2, rfl, ⟨neg2, A2, c2, l2, rfl, hI2⟩, hq2⟩
    obtain ⟨g1, g2, hq⟩ := boxes2 hq2
    obtain ⟨k8, k9, f8, f9⟩ := g1.two
    have hz := g1.lt
    clear e0
    go_wp2_with fail
    refine bodyPost_ret (v := .agg #[.bool neg2, .slice A2 l2.length c2]) (by simp [results, Tryd.results45, go_sem, k8, k9]) rfl ?_
    have hr := retV_end g1 hq (by omega) hI2 rfl
    rw [show sgn true (val [(-n).toNat % 4294967296, (-n).toNat / 4294967296]) = n from by simp only [val, sgn, if_true]; omega] at hr
    exact hr
  · go_enter Tryd.func45, Tryd.ntmps45
    go_wp2_with fail
    refine (norm_v (some ⟨w.heap.size + 1, 0, none⟩) 2 [n.toNat % 4294967296, n.toNat / 4294967296] false _ (lm_two (Blk.new' _ _ _ (by simp)) (by omega) (by omega) (by omega) (by omega))).mono ?_
    rintro e w2 ⟨v2, rfl, ⟨neg2, A2, c2, l2, rfl, hI2⟩, hq2⟩
    obtain ⟨g1, g2, hq⟩ := boxes2 hq2
    obtain ⟨k8, k9, f8, f9⟩ := g1.two
    have hz := g1.lt
    go_wp2_with fail
    refine bodyPost_ret (v := .agg #[.bool neg2, .slice A2 l2.length c2]) (by simp [results, Tryd.results45, go_sem, k8, k9]) rfl ?_
    have hr := retV_end g1 hq (by omega) hI2 rfl
    rw [show sgn false (val [n.toNat % 4294967296, n.toNat / 4294967296]) = n from by simp [val, sgn]; omega] at hr
    exact hr

/-- Symmetric: the representative around 0. -/
def symm (p a : Nat) : Int := if p / 2 < a then (a : Int) - p else a
set_option maxHeartbeats 400000 in
theorem mod_symmetric (p a : Nat) (w : World) (hp : p ≤ 4294967296) (ha : a < p) :
    Calls Tryd.prog 19 #[.int .u64 p, .int .u64 a] w (RetV w (symm p a)) := by
  by_cases h0 : p / 2 < a
  · go_enter Tryd.func19, Tryd.ntmps19
    go_wp2_with fail
    refine (iof_any _ _ (by omega) (by omega)).mono ?_
    rintro e w2 ⟨v2, rfl, ⟨neg2, A2, c2, l2, rfl, hI2⟩, hq2⟩
    obtain ⟨g1, hq⟩ := boxes1 hq2
    obtain ⟨k8, k9, f8, f9⟩ := g1.two
    have hz := g1.lt
    go_wp2_with fail
    refine bodyPost_ret (v := .agg #[.bool neg2, .slice A2 l2.length c2]) (by simp [results, Tryd.results19, go_sem, k8, k9]) rfl ?_
    have hr := retV_end g1 hq (by omega) hI2 rfl
    rw [show (a : Int) - p = symm p a from by simp [symm, h0]] at hr
    exact hr
  · go_enter Tryd.func19, Tryd.ntmps19
    go_wp2_with fail
    refine (iof_any _ _ (by omega) (by omega)).mono ?_
    rintro e w2 ⟨v2, rfl, ⟨neg2, A2, c2, l2, rfl, hI2⟩, hq2⟩
    obtain ⟨g1, hq⟩ := boxes1 hq2
    obtain ⟨k8, k9, f8, f9⟩ := g1.two
    have hz := g1.lt
    go_wp2_with fail
    refine bodyPost_ret (v := .agg #[.bool neg2, .slice A2 l2.length c2]) (by simp [results, Tryd.results19, go_sem, k8, k9]) rfl ?_
    have hr := retV_end g1 hq (by omega) hI2 rfl
    rw [show (a : Int) = symm p a from by simp [symm, h0]] at hr
    exact hr
set_option maxHeartbeats 400000 in
theorem ref_symmetric (p a : Nat) (w : World) (hp : p ≤ 4294967296) (ha : a < p) :
    Calls Tryd.prog 35 #[.int .u64 p, .int .u64 a] w (RetV w (symm p a)) := by
  by_cases h0 : p / 2 < a
  · go_enter Tryd.func35, Tryd.ntmps35
    go_wp2_with fail
    refine (rof_any _ _ (by omega) (by omega)).mono ?_
    rintro e w2 ⟨v2, rfl, ⟨neg2, A2, c2, l2, rfl, hI2⟩, hq2⟩
    obtain ⟨g1, hq⟩ := boxes1 hq2
    obtain ⟨k8, k9, f8, f9⟩ := g1.two
    have hz := g1.lt
    go_wp2_with fail
    refine bodyPost_ret (v := .agg #[.bool neg2, .slice A2 l2.length c2]) (by simp [results, Tryd.results35, go_sem, k8, k9]) rfl ?_
    have hr := retV_end g1 hq (by omega) hI2 rfl
    rw [show (a : Int) - p = symm p a from by simp [symm, h0]] at hr
    exact hr
  · go_enter Tryd.func35, Tryd.ntmps35
    go_wp2_with fail
    refine (rof_any _ _ (by omega) (by omega)).mono ?_
    rintro e w2 ⟨v2, rfl, ⟨neg2, A2, c2, l2, rfl, hI2⟩, hq2⟩
    obtain ⟨g1, hq⟩ := boxes1 hq2
    obtain ⟨k8, k9, f8, f9⟩ := g1.two
    have hz := g1.lt
    go_wp2_with fail
    refine bodyPost_ret (v := .agg #[.bool neg2, .slice A2 l2.length c2]) (by simp [results, Tryd.results35, go_sem, k8, k9]) rfl ?_
    have hr := retV_end g1 hq (by omega) hI2 rfl
    rw [show (a : Int) = symm p a from by simp [symm, h0]] at hr
    exact hr
end Go.Proofs.YtlipdmbdohpblaaDoor
