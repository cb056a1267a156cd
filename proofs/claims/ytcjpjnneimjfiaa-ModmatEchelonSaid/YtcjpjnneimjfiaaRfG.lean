/-
  Zero, which only reads.
-/
import Derived.Test.YtcjpjnneimjfiaaRfA
namespace Go.Proofs.Ytcjpjnneimjfiaa
open Go.RowKit
set_option maxRecDepth 100000 in
/-- The first elements of a slice. -/
theorem sl_pre {w : World} {A : Option Addr} {n c m : Nat} {φ : Nat → Value} (h : Sl w (.slice A n c) n φ) (hm : m ≤ n) : Sl w (.slice A m c) m φ := by
  obtain ⟨A', c', e, h1⟩ := h
  injection e with e _ e2
  subst e e2
  exact ⟨_, _, rfl, Nat.le_trans hm h1.cap, Nat.le_trans hm h1.len, fun hl => by
    obtain ⟨b, o, e, hb, hc⟩ := h1.open (by omega)
    exact ⟨b, o, e, hb, fun k hk => hc k (by omega)⟩⟩
section
variable {p : Nat} [NeZero p]
set_option maxHeartbeats 400000 in
set_option maxRecDepth 100000 in
theorem zero_q (va : Value) (n : Nat) (x : Nat → Fin p) (w : World) (ha : Sl w va n (u64 x)) (e : ∀ k, k < n → x k = 0) :
    Calls Try.prog 24 #[va] w (fun e w' => e = .returned (.bool true) ∧ w' = w) := by
  obtain ⟨A, c, rfl, hA⟩ := ha
  have hc1 := hA.cap
  have hl := hA.len
  have HA := Lib.hid hA
  have HE := @Lib.hid _ e
  clear hA e
  go_enter Try.func24, Try.ntmps24
  go_wp2_with fail
  go_loop [3] (fun iv' => ∃ k : Nat, iv' = .int .i64 k ∧ k ≤ n) (fun iv' => n - (intOf iv').toNat)
  case atStart => exact ⟨0, rfl, Nat.zero_le _⟩
  case round =>
    obtain ⟨k, rfl, hk⟩ := hrel
    by_cases hlt : k < n
    · obtain ⟨b, o, rfl, hb, hc⟩ := HA.out.at64 hlt
      have hz : (((x k : Nat) : Int) != 0) = false := by rw [bne_fin, HE.out k hlt]; simp
      go_wp2_with fail
      refine ⟨⟨k + 1, rfl, by omega⟩, ?_⟩
      simp only [intOf]; omega
    · go_wp2_with fail
      go_ret
      exact ⟨rfl, rfl⟩
end
end Go.Proofs.Ytcjpjnneimjfiaa
