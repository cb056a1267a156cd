/-
  slices.Clone of a row, search, subtract.
-/
import Derived.Test.YtcjpjnneimjfiaaSl
import Derived.StillTailTactics
namespace Go.Proofs.Ytcjpjnneimjfiaa
open Go.RowKit

def CloneP (w : World) (n : Nat) (φ : Nat → Value) (e : Ending) (w' : World) : Prop := ∃ A c, e = .returned (.slice A n c) ∧ RowO w.heap.size w' 26 A n c φ ∧ Q w w'
set_option maxRecDepth 100000 in
theorem oneCell_tab {φ : Nat → Value} {n : Nat} (h : ∀ k, k < n → (φ k).oneCell' = true) : ∀ u ∈ tab φ n, u.oneCell' = true := by
  intro u hu
  unfold tab at hu
  obtain ⟨k, hk, rfl⟩ := List.mem_map.1 hu
  exact h k (List.mem_range.1 hk)
set_option maxRecDepth 100000 in
theorem clone_close {w w1 : World} {n : Nat} {φ : Nat → Value} {v : Value} {t : TypeId} (hn : n ≤ 140737488355328) (hown : w1.ownsRow w.heap.size 26 1 v (0 + n) ([] ++ tab φ n)) (hg : (w.alloc (.cells #[] t)).grownBy w1 (some w.heap.size)) :
    CloneP w n φ (.returned v) w1 := by
  rw [Nat.zero_add, List.nil_append] at hown
  obtain ⟨A, c, rfl, h⟩ := own_rowO hown rfl hn
  exact ⟨A, c, rfl, h, grown_q ((Q.refl w).alloc _) hg (fun k e => by injection e with e; omega)⟩
set_option maxHeartbeats 400000 in
set_option maxRecDepth 100000 in
theorem clone1 (A : Option Addr) (n c : Nat) (φ : Nat → Value) (w : World) (h : Sc w A n c φ) (h1 : ∀ k, k < n → (φ k).oneCell' = true) (hn : n ≤ 1099511627776) :
    Calls Try.prog 55 #[.slice A n c] w (CloneP w n φ) := by
  obtain ⟨i0, hi, hz0, hz1, hz2⟩ := info_parts info_u64
  have hcap := h.cap
  have hnil := fun (w : World) (a : Option Addr) (n c : Nat) => Lib.run_eql_slice_nil (P := Try.prog) w 44 26 a n c 0 0 Try.underlying44
  cases A with
  | none =>
    have h0 : n = 0 := by
      rcases Nat.eq_zero_or_pos n with g | g
      · exact g
      · obtain ⟨b, o, e, _⟩ := h.open g
        cases e
    subst h0
    go_enter Try.func55, Try.ntmps55
    go_wp2_with fail
    go_ret
    exact ⟨none, 0, rfl, ⟨Nat.le_refl _, Nat.zero_le _, fun g => by omega⟩, Q.refl _⟩
  | some a =>
    have H := Lib.hid h
    have H1 := @Lib.hid _ h1
    clear h h1
    go_enter Try.func55, Try.ntmps55
    go_wp2_with (at_builtin; go_must (refine wpList_app rfl _ _ 44 rfl w.heap.size 26 i0 (.int .u64 0) 8 Try.underlying44 hi hz0 hz1 hz2 rfl _ 0 [] rfl (own_new _ _ _ _ rfl (Nat.le_refl _)) (some a) n c (tab φ n) rfl (tab_len _ _) ((H.out.q ((Q.refl w).alloc _)).news) (oneCell_tab H1.out) (by unfold maxLen; omega) (by omega) (by simp) ?_); intro v' w1 hown' hgrow hat)
    go_ret
    exact clone_close (by omega) hown' hgrow

section
variable {p : Nat} [NeZero p]
set_option maxRecDepth 100000 in
theorem beq_fin (a : Fin p) : (((a : Nat) : Int) == 0) = decide (a = 0) := by
  rw [Bool.eq_iff_iff, beq_iff_eq, decide_eq_true_iff, f_eq0]; omega
set_option maxRecDepth 100000 in
theorem bne_fin (a : Fin p) : (((a : Nat) : Int) != 0) = !decide (a = 0) := by
  rw [bne, beq_fin]
def NumW (w : World) (z : Int) (e : Ending) (w' : World) : Prop := e = .returned (.int .i64 z) ∧ w = w'
/-- What search answers. -/
def atZ (M : Mt p) (n r c : Nat) : Int := if fnd M c (n - r) r < n then (fnd M c (n - r) r : Int) else -1
set_option maxHeartbeats 400000 in
set_option maxRecDepth 100000 in
theorem search_any (A : Option Addr) (n cp W : Nat) (M : Mt p) (r c : Nat) (w : World) (h : Rows64 w A n cp W M) (hr : r ≤ n) (hc : c < W) (hn : n ≤ 1099511627776) :
    Calls Try.prog 70 #[.slice A n cp, .int .i64 r, .int .i64 c] w (NumW w (atZ M n r c)) := by
  have hcap := h.cap
  have h0 := fnd_spec M c (n - r) r
  obtain ⟨t, ht⟩ : ∃ t, fnd M c (n - r) r = t := ⟨_, rfl⟩
  have e : atZ M n r c = if t < n then (t : Int) else -1 := by unfold atZ; rw [ht]
  rw [ht] at h0
  obtain ⟨h1, h2, h3, h4⟩ := h0
  have E := Lib.hid e
  have H3 := @Lib.hid _ h3
  have H4 := @Lib.hid _ h4
  clear e ht h3 h4
  go_enter Try.func70, Try.ntmps70
  go_wp2_with fail
  go_step3
  go_wp2_with fail
  go_step3
  go_wp2_with fail
  go_loop [7, 8] (fun av iv => ∃ i : Nat, iv = .int .i64 i ∧ av = .int .i64 (-1) ∧ r ≤ i ∧ i ≤ t ∧ i ≤ n) (fun _ iv => n - (intOf iv).toNat)
  case atStart => exact ⟨r, rfl, rfl, Nat.le_refl _, h1, hr⟩
  case round =>
    obtain ⟨i, rfl, rfl, hri, hit, hin⟩ := hrel
    by_cases hlt : i < n
    · obtain ⟨b, o, v, rfl, hb, hc1, hS⟩ := h.at hlt
      obtain ⟨b2, o2, c2, rfl, hcc, hb2, hc2⟩ := hS.at64 hc
      by_cases hz : M i c = 0
      · have hbz : (((M i c : Nat) : Int) != 0) = false := by rw [bne_fin, hz]; simp
        have hit2 : i < t := by
          rcases Nat.lt_or_ge i t with g | g
          · exact g
          · obtain rfl : i = t := by omega
            exact absurd hz (H4.out (by omega))
        have HZ := Lib.hid hz
        clear hz
        go_wp2_with fail
        go_round
        case rel => exact ⟨i + 1, rfl, rfl, by omega, by omega, by omega⟩
        case measure => simp [intOf]; omega
      · have hbz : (((M i c : Nat) : Int) != 0) = true := by rw [bne_fin]; simpa using hz
        have hit2 : t = i := by
          rcases Nat.lt_or_ge i t with g | g
          · exact absurd (H3.out i hri g) hz
          · omega
        subst hit2
        have HZ := Lib.hid hz
        clear hz
        go_wp2_with fail
        go_ret
        exact ⟨ret_int (by rw [E.out, if_pos hlt]), rfl⟩
    · go_wp2_with fail
      go_ret
      exact ⟨ret_int (by rw [E.out, if_neg (by omega)]), rfl⟩
end
end Go.Proofs.Ytcjpjnneimjfiaa
