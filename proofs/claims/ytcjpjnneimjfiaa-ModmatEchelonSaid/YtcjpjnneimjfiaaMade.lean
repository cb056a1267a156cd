import Derived.Test.YtcjpjnneimjfiaaBase
import Derived.Test.YtcjpjnneimjfiaaNum
namespace Go.Proofs.Ytcjpjnneimjfiaa
open Go.RowKit

set_option maxRecDepth 100000 in
/-- What an append to a new, empty slice leaves: the slice, and the box that was laid before it. -/
theorem made_app {w w1 : World} {o : Obj} {n t : Nat} {l : List Nat} {cs : Array Value} {v' : Value} (ho : o = .cells cs t) (hl : ∀ x ∈ l, x < 4294967296) (hn : l.length = n) (hn2 : n ≤ 1099511627776)
    (hown : w1.ownsRow w.heap.size 49 1 v' (0 + n) ([] ++ u32s l)) (hg : ((w.alloc o).alloc (.cells #[] 49)).grownBy w1 (some (w.heap.size + 1))) :
    ∃ A c, v' = .slice A n c ∧ Lm w1 A c l ∧ Blk w1 w.heap.size t cs ∧ Q w w1 ∧ w.heap.size < w1.heap.size := by
  subst ho
  rw [Nat.zero_add, List.nil_append] at hown
  obtain ⟨A, c, rfl, _, h2⟩ := own_lm hown hl (by omega)
  have hq : Q w w1 := grown_q (((Q.refl w).alloc _).alloc _) hg (fun k e => by injection e with e; omega)
  have hB : Blk w1 w.heap.size t cs := ((Blk.new w t cs).alloc _).grown hg (by simp)
  exact ⟨A, c, rfl, h2, hB, hq, hB.lt⟩

def MadeP (w : World) (neg : Bool) (l : List Nat) (e : Ending) (w' : World) : Prop := ∃ v, e = .returned v ∧ IntL w' v (neg && decide (trim l ≠ [])) (trim l) ∧ Q w w'

set_option maxHeartbeats 400000 in
set_option maxRecDepth 100000 in
theorem made_any (A : Option Addr) (c : Nat) (l : List Nat) (neg : Bool) (w : World) (h : Lm w A c l) (hl : l.length ≤ 1099511627776) :
    Calls Try.prog 62 #[.slice A l.length c, .bool neg] w (MadeP w neg l) := by
  obtain ⟨i0, hi, hz0, hz1, hz2⟩ := info_parts info_u32
  have hcap := h.cap
  go_enter Try.func62, Try.ntmps62
  go_wp2
  go_loop [5] (fun nv => ∃ n : Nat, nv = .int .i64 n ∧ n ≤ l.length ∧ trim (l.take n) = trim l) (fun nv => (intOf nv).toNat)
  case atStart => exact ⟨l.length, rfl, Nat.le_refl _, by rw [List.take_length]⟩
  case round =>
    obtain ⟨n, rfl, hn, ht⟩ := hrel
    have Ht := Lib.hid ht
    clear ht
    have hT := h.take n (c' := c) (by rw [List.length_take]; omega)
    have hTl : (l.take n).length = n := by rw [List.length_take]; omega
    have HT := Lib.hid hTl
    clear hTl
    cases n with
    | zero =>
      have e0 : trim l = [] ∧ decide (trim l ≠ []) = false := ⟨Ht.out.symm, by rw [← Ht.out]; rfl⟩
      have E0 := Lib.hid e0
      clear e0
      cases neg with
      | false =>
        go_wp2_with (at_builtin; go_must (refine wpList_app rfl _ _ 54 rfl w.heap.size 49 i0 (.int .u32 0) 4 Try.underlying54 hi hz0 hz1 hz2 rfl _ 0 [] rfl (own_new _ _ _ _ (by simp) (by simp)) A 0 c (u32s (l.take (0))) rfl (by have := HT.out; simp [u32s]; try omega) (hT.newsq HT.out (((Q.refl w).alloc _).alloc _)) (oneCell_u32s _) (by unfold maxLen; omega) (by omega) (by simp; omega) ?_); intro v' w1 hown' hgrow hat; go_must (obtain ⟨A1, c1, rfl, hm1, hB1, hq1, hs1⟩ := made_app rfl hT.lt HT.out (by omega) hown' hgrow); clear hown' hgrow hat; have k0 := hB1.cell 0; have k1 := hB1.cell 1; have f0 := hB1.frozen 0; have f1 := hB1.frozen 1)
        refine bodyPost_ret (v := .agg #[.bool false, .slice A1 (0) c1]) (by simp [results, Try.results62, go_sem, k0, k1]) rfl ⟨_, rfl, ?_⟩
        rw [E0.out.2, E0.out.1]
        exact int_end hB1 hq1 (Nat.le_refl _) hm1 rfl false
      | true =>
        go_wp2_with (at_builtin; go_must (refine wpList_app rfl _ _ 54 rfl w.heap.size 49 i0 (.int .u32 0) 4 Try.underlying54 hi hz0 hz1 hz2 rfl _ 0 [] rfl (own_new _ _ _ _ (by simp) (by simp)) A 0 c (u32s (l.take (0))) rfl (by have := HT.out; simp [u32s]; try omega) (hT.newsq HT.out (((Q.refl w).alloc _).alloc _)) (oneCell_u32s _) (by unfold maxLen; omega) (by omega) (by simp; omega) ?_); intro v' w1 hown' hgrow hat; go_must (obtain ⟨A1, c1, rfl, hm1, hB1, hq1, hs1⟩ := made_app rfl hT.lt HT.out (by omega) hown' hgrow); clear hown' hgrow hat; have k0 := hB1.cell 0; have k1 := hB1.cell 1; have f0 := hB1.frozen 0; have f1 := hB1.frozen 1)
        refine bodyPost_ret (v := .agg #[.bool false, .slice A1 (0) c1]) (by simp [results, Try.results62, go_sem, k0, k1]) rfl ⟨_, rfl, ?_⟩
        rw [E0.out.2, E0.out.1]
        exact int_end hB1 hq1 (Nat.le_refl _) hm1 rfl false
    | succ n =>
      obtain ⟨b, o, x, rfl, hb, hx, hx2, hc⟩ := h.at (k := n) (by omega)
      have Hx := Lib.hid hx
      clear hx
      by_cases h0 : x = 0
      · subst h0
        go_wp2_with fail
        go_round
        case rel => exact ⟨n, rfl, by omega, by rw [← Ht.out, trim_take_of_zero (by omega) Hx.out]⟩
        case measure => simp [intOf]
      · have e1 : trim l = l.take (n + 1) := by rw [← Ht.out, trim_take_of_pos (by omega) Hx.out h0]
        have e2 : l.take (n + 1) ≠ [] := by intro e; have := HT.out; rw [e] at this; simp at this
        have e0 : trim l = l.take (n + 1) ∧ decide (trim l ≠ []) = true := ⟨e1, by rw [e1]; simpa using e2⟩
        have E0 := Lib.hid e0
        clear e0 e1 e2
        cases neg with
        | false =>
          go_wp2_with (at_builtin; go_must (refine wpList_app rfl _ _ 54 rfl w.heap.size 49 i0 (.int .u32 0) 4 Try.underlying54 hi hz0 hz1 hz2 rfl _ 0 [] rfl (own_new _ _ _ _ (by simp) (by simp)) (some ⟨b, o, none⟩) (n + 1) c (u32s (l.take (n + 1))) rfl (by have := HT.out; simp [u32s]; try omega) (hT.newsq HT.out (((Q.refl w).alloc _).alloc _)) (oneCell_u32s _) (by unfold maxLen; omega) (by omega) (by simp; omega) ?_); intro v' w1 hown' hgrow hat; go_must (obtain ⟨A1, c1, rfl, hm1, hB1, hq1, hs1⟩ := made_app rfl hT.lt HT.out (by omega) hown' hgrow); clear hown' hgrow hat; have k0 := hB1.cell 0; have k1 := hB1.cell 1; have f0 := hB1.frozen 0; have f1 := hB1.frozen 1)
          refine bodyPost_ret (v := .agg #[.bool false, .slice A1 (n + 1) c1]) (by simp [results, Try.results62, go_sem, k0, k1]) rfl ⟨_, rfl, ?_⟩
          rw [E0.out.2, E0.out.1]
          exact int_end hB1 hq1 (Nat.le_refl _) hm1 HT.out false
        | true =>
          go_wp2_with (at_builtin; go_must (refine wpList_app rfl _ _ 54 rfl w.heap.size 49 i0 (.int .u32 0) 4 Try.underlying54 hi hz0 hz1 hz2 rfl _ 0 [] rfl (own_new _ _ _ _ (by simp) (by simp)) (some ⟨b, o, none⟩) (n + 1) c (u32s (l.take (n + 1))) rfl (by have := HT.out; simp [u32s]; try omega) (hT.newsq HT.out (((Q.refl w).alloc _).alloc _)) (oneCell_u32s _) (by unfold maxLen; omega) (by omega) (by simp; omega) ?_); intro v' w1 hown' hgrow hat; go_must (obtain ⟨A1, c1, rfl, hm1, hB1, hq1, hs1⟩ := made_app rfl hT.lt HT.out (by omega) hown' hgrow); clear hown' hgrow hat; have k0 := hB1.cell 0; have k1 := hB1.cell 1; have f0 := hB1.frozen 0; have f1 := hB1.frozen 1)
          refine bodyPost_ret (v := .agg #[.bool true, .slice A1 (n + 1) c1]) (by simp [results, Try.results62, go_sem, k0, k1]) rfl ⟨_, rfl, ?_⟩
          rw [E0.out.2, E0.out.1]
          exact int_end hB1 hq1 (Nat.le_refl _) hm1 HT.out true
end Go.Proofs.Ytcjpjnneimjfiaa
