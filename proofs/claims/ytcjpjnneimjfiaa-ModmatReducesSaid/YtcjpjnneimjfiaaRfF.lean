/-
  Valid, Copied and With.
-/
import Derived.Test.YtcjpjnneimjfiaaRfE
namespace Go.Proofs.Ytcjpjnneimjfiaa
open Go.RowKit
section
variable {p : Nat} [NeZero p]

set_option maxHeartbeats 1000000 in
set_option maxRecDepth 100000 in
theorem valid_any {p : Nat} (hp : Fp p) (v : Value) (n W : Nat) (M : Mt p) (w : World) (h : ModV w v n W M) (hn : n ≤ 4096) (hW : W ≤ 4096) :
    Calls Try.prog 20 #[v] w (BoolW w true) := by
  obtain ⟨A, c, w1, rfl, hw1, HM, HB, HQ1, hcap, b0, b1, b2⟩ := modbox h
  have HR := Lib.hid HM.out.rows_of
  have HP := Lib.hid hp
  have hlt2 := hp.2
  clear h hp
  go_enter Try.func20, Try.ntmps20
  go_wp2_with fail
  clear hw1 b0 b1 b2
  go_loopw [3] (fun iv' wr => ∃ i : Nat, iv' = .int .i64 i ∧ i ≤ n ∧ Q w1 wr) (fun iv' _ => n - (intOf iv').toNat)
  case atStart => exact ⟨0, rfl, Nat.zero_le _, Q.refl _⟩
  case round =>
    obtain ⟨i, rfl, hin, hq⟩ := hrel
    obtain ⟨b0, b1, b2⟩ := (HB.out.q hq).three'
    by_cases hlt : i < n
    · obtain ⟨b, o, r, rfl, hb, hc, hS⟩ := (HR.out.q hq).at hlt
      obtain ⟨Ar, cr, rfl, hSr⟩ := hS
      have hi2 : (i : Int) < (n : Int) := by omega
      have HQ := Lib.hid hq
      have HS := Lib.hid hSr
      clear hq hSr
      go_wp2_with fail
      go_quiet (fail)
      go_wp2_with fail
      obtain ⟨wo, hwo⟩ : ∃ wo : World, wo = wr := ⟨_, rfl⟩
      have hqd : ∀ wx, Q wr wx → Q w1 wx := fun wx h => HQ.out.trans h
      have HQD := @Lib.hid _ hqd
      have hbl := (HB.out.q HQ.out).lt
      clear hqd hwo
      go_loopw [4] (fun kv wx => ∃ k : Nat, kv = .int .i64 k ∧ k ≤ W ∧ Q wr wx) (fun kv _ => W - (intOf kv).toNat)
      case atStart => exact ⟨0, rfl, Nat.zero_le _, (Q.refl _).drewN _⟩
      case round =>
        obtain ⟨k, rfl, hkW, hq⟩ := hrel
        have b0 := hq.cell b0
        have b1 := hq.cell b1
        have b2 := hq.cell b2
        have hc := hq.cell hc
        by_cases hk : k < W
        · obtain ⟨b', o', rfl, hb', hc'⟩ := (HS.out.q hq).at64 hk
          have hk2 : (k : Int) < (W : Int) := by omega
          have hge : ((p : Int) ≤ ((M i k : Nat) : Int)) = False := by have := (M i k).isLt; rw [eq_iff_iff, iff_false]; omega
          have hge2 : decide ((p : Int) ≤ ((M i k : Nat) : Int)) = false := by simp only [hge, decide_false]
          have HQ2 := Lib.hid hq
          clear hq hge
          go_wp2_with fail
          go_quiet (fail)
          go_wp2_with fail
          refine ⟨⟨k + 1, rfl, by omega, HQ2.out.drewN _⟩, ?_⟩
          simp only [intOf]; omega
        · go_wp2_with fail
          refine ⟨⟨i + 1, rfl, by omega, HQD.out _ hq⟩, ?_⟩
          simp only [intOf]; omega
    · go_wp2_with fail
      refine (ref_primeP p _ HP.out.1 hlt2).mono ?_
      rintro e w' ⟨rfl, rfl⟩
      go_wp2_with fail
      go_ret
      exact ⟨rfl, HQ1.out.trans hq⟩
end
end Go.Proofs.Ytcjpjnneimjfiaa
