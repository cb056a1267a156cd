/-
  Row, ints, Zero, Same and Valid.
  Zero, which only reads.
-/
import Derived.Test.YtcjpjnneimjfiaaMmH
namespace Go.Proofs.Ytcjpjnneimjfiaa
open Go.RowKit
section
variable {p : Nat}

def BoolW (w : World) (b : Bool) (e : Ending) (w' : World) : Prop := e = .returned (.bool b) ∧ Q w w'
set_option maxRecDepth 100000 in
theorem bne_self' (a : Fin p) : (((a : Nat) : Int) != ((a : Nat) : Int)) = false := by simp
set_option maxHeartbeats 400000 in
set_option maxRecDepth 100000 in
theorem row_true (va vb : Value) (n : Nat) (x y : Nat → Fin p) (w : World) (ha : Sl w va n (u64 x)) (hb : Sl w vb n (u64 y)) (e : ∀ k, k < n → x k = y k) :
    Calls Try.prog 26 #[va, vb] w (BoolW w true) := by
  obtain ⟨A, c, rfl, hA⟩ := ha
  obtain ⟨B, d, rfl, hB⟩ := hb
  have hc1 := hA.cap
  have hc2 := hB.cap
  have hl := hA.len
  have HA := Lib.hid hA
  have HB := Lib.hid hB
  have HE := @Lib.hid _ e
  clear hA hB e
  go_enter Try.func26, Try.ntmps26
  go_wp2_with fail
  go_loopw [5] (fun iv' wr => ∃ k : Nat, iv' = .int .i64 k ∧ k ≤ n ∧ Q w wr) (fun iv' _ => n - (intOf iv').toNat)
  case atStart => exact ⟨0, rfl, Nat.zero_le _, Q.refl _⟩
  case round =>
    obtain ⟨k, rfl, hk, hq⟩ := hrel
    by_cases hlt : k < n
    · obtain ⟨b, o, rfl, hb, hc⟩ := (HA.out.q hq).at64 hlt
      obtain ⟨b2, o2, rfl, hb2, hd⟩ := (HB.out.q hq).at64 hlt
      rw [← HE.out k hlt] at hd
      have hk2 : (k : Int) < (n : Int) := by omega
      go_wp2_with fail
      go_quiet (fail)
      go_wp2_with fail
      refine ⟨⟨k + 1, rfl, by omega, hq.drewN _⟩, ?_⟩
      simp only [intOf]; omega
    · go_wp2_with fail
      go_ret
      exact ⟨rfl, hq⟩
set_option maxHeartbeats 400000 in
set_option maxRecDepth 100000 in
theorem ints_true (va vb : Value) (n : Nat) (x y : Nat → Nat) (w : World) (ha : Sl w va n (i64s x)) (hb : Sl w vb n (i64s y)) (e : ∀ k, k < n → x k = y k) :
    Calls Try.prog 21 #[va, vb] w (BoolW w true) := by
  obtain ⟨A, c, rfl, hA⟩ := ha
  obtain ⟨B, d, rfl, hB⟩ := hb
  have hc1 := hA.cap
  have hc2 := hB.cap
  have hl := hA.len
  have HA := Lib.hid hA
  have HB := Lib.hid hB
  have HE := @Lib.hid _ e
  clear hA hB e
  go_enter Try.func21, Try.ntmps21
  go_wp2_with fail
  go_loopw [5] (fun iv' wr => ∃ k : Nat, iv' = .int .i64 k ∧ k ≤ n ∧ Q w wr) (fun iv' _ => n - (intOf iv').toNat)
  case atStart => exact ⟨0, rfl, Nat.zero_le _, Q.refl _⟩
  case round =>
    obtain ⟨k, rfl, hk, hq⟩ := hrel
    by_cases hlt : k < n
    · obtain ⟨b, o, rfl, hb, hc0⟩ := (HA.out.q hq).at hlt
      obtain ⟨b2, o2, rfl, hb2, hd0⟩ := (HB.out.q hq).at hlt
      have hc : wr.cell? ⟨b, o + k, none⟩ = some (.int .i64 ((x k : Nat) : Int)) := hc0
      have hd : wr.cell? ⟨b2, o2 + k, none⟩ = some (.int .i64 ((x k : Nat) : Int)) := by rw [HE.out k hlt]; exact hd0
      clear hc0 hd0
      have hk2 : (k : Int) < (n : Int) := by omega
      go_wp2_with fail
      go_quiet (fail)
      go_wp2_with fail
      refine ⟨⟨k + 1, rfl, by omega, hq.drewN _⟩, ?_⟩
      simp only [intOf]; omega
    · go_wp2_with fail
      go_ret
      exact ⟨rfl, hq⟩
end
section
variable {p : Nat} [NeZero p]
set_option maxHeartbeats 400000 in
set_option maxRecDepth 100000 in
theorem zero_true (va : Value) (n : Nat) (x : Nat → Fin p) (w : World) (ha : Sl w va n (u64 x)) (e : ∀ k, k < n → x k = 0) :
    Calls Try.prog 24 #[va] w (BoolW w true) := by
  obtain ⟨A, c, rfl, hA⟩ := ha
  have hc1 := hA.cap
  have hl := hA.len
  have HA := Lib.hid hA
  have HE := @Lib.hid _ e
  clear hA e
  go_enter Try.func24, Try.ntmps24
  go_wp2_with fail
  go_loop [3] (fun iv' => ∃ k : Nat, iv' = .int .i64 k ∧ k ≤ n) (fun iv' => n - (intOf iv').toNat)
  case atStart => exact ⟨0, rfl, Nat.zero_le _⟩
  case round =>
    obtain ⟨k, rfl, hk⟩ := hrel
    by_cases hlt : k < n
    · obtain ⟨b, o, rfl, hb, hc⟩ := HA.out.at64 hlt
      have hz : (((x k : Nat) : Int) != 0) = false := by rw [bne_fin, HE.out k hlt]; simp
      go_wp2_with fail
      refine ⟨⟨k + 1, rfl, by omega⟩, ?_⟩
      simp only [intOf]; omega
    · go_wp2_with fail
      go_ret
      exact ⟨rfl, Q.refl _⟩
set_option maxHeartbeats 400000 in
set_option maxRecDepth 100000 in
theorem zero_false (va : Value) (n : Nat) (x : Nat → Fin p) (w : World) (ha : Sl w va n (u64 x)) (e : ¬ ∀ k, k < n → x k = 0) :
    Calls Try.prog 24 #[va] w (BoolW w false) := by
  obtain ⟨A, c, rfl, hA⟩ := ha
  have hc1 := hA.cap
  have hl := hA.len
  have HA := Lib.hid hA
  have HE := @Lib.hid _ e
  clear hA e
  go_enter Try.func24, Try.ntmps24
  go_wp2_with fail
  go_loop [3] (fun iv' => ∃ k : Nat, iv' = .int .i64 k ∧ k ≤ n ∧ ∀ j, j < k → x j = 0) (fun iv' => n - (intOf iv').toNat)
  case atStart => exact ⟨0, rfl, Nat.zero_le _, fun j hj => by omega⟩
  case round =>
    obtain ⟨k, rfl, hk, hz0⟩ := hrel
    have HZ0 := @Lib.hid _ hz0
    clear hz0
    by_cases hlt : k < n
    · obtain ⟨b, o, rfl, hb, hc⟩ := HA.out.at64 hlt
      by_cases hx : x k = 0
      · have hz : (((x k : Nat) : Int) != 0) = false := by rw [bne_fin, hx]; simp
        have HX := Lib.hid hx
        clear hx
        go_wp2_with fail
        refine ⟨⟨k + 1, rfl, by omega, fun j hj => ?_⟩, ?_⟩
        · by_cases e : j = k
          · rw [e]; exact HX.out
          · exact HZ0.out j (by omega)
        · simp only [intOf]; omega
      · have hz : (((x k : Nat) : Int) != 0) = true := by rw [bne_fin]; simpa using hx
        have HX := Lib.hid hx
        clear hx
        go_wp2_with fail
        go_ret
        exact ⟨rfl, Q.refl _⟩
    · exact absurd (fun j hj => HZ0.out j (by omega)) HE.out
set_option maxHeartbeats 1000000 in
set_option maxRecDepth 100000 in
theorem same_mod {p : Nat} (va vb : Value) (n W : Nat) (M N : Mt p) (w : World) (ha : ModV w va n W M) (hb : ModV w vb n W N) (e : ∀ i k, i < n → k < W → M i k = N i k) (hn : n ≤ 4096) :
    Calls Try.prog 19 #[va, vb] w (BoolW w true) := by
  obtain ⟨A, c, rfl, hA⟩ := ha
  obtain ⟨B, d, rfl, hB⟩ := hb
  obtain ⟨w1, hw1⟩ : ∃ w1, (w.alloc (.cells #[.int .u64 p, .int .i64 W, .slice A n c] 29)).alloc (.cells #[.int .u64 p, .int .i64 W, .slice B n d] 29) = w1 := ⟨_, rfl⟩
  have hq1 : Q w w1 := hw1 ▸ ((Q.refl w).alloc _).alloc _
  have hB1 : Blk w1 w.heap.size 29 #[.int .u64 p, .int .i64 W, .slice A n c] := hw1 ▸ (Blk.new w _ _).alloc _
  have hB2 : Blk w1 (w.heap.size + 1) 29 #[.int .u64 p, .int .i64 W, .slice B n d] := hw1 ▸ Blk.new' _ _ _ (by simp)
  obtain ⟨b0, b1, b2⟩ := hB1.three'
  obtain ⟨c0, c1, c2⟩ := hB2.three'
  have hcA := hA.cap
  have hcB := hB.cap
  have HA := Lib.hid (hA.q hq1)
  have HB := Lib.hid (hB.q hq1)
  have HQ1 := Lib.hid hq1
  have HB1 := Lib.hid hB1
  have HB2 := Lib.hid hB2
  have HE := @Lib.hid _ e
  clear hA hB hq1 hB1 hB2 e
  go_enter Try.func19, Try.ntmps19
  go_wp2_with fail
  clear hw1
  go_loopw [5] (fun iv' wr => ∃ i : Nat, iv' = .int .i64 i ∧ i ≤ n ∧ Q w1 wr) (fun iv' _ => n - (intOf iv').toNat)
  case atStart => exact ⟨0, rfl, Nat.zero_le _, Q.refl _⟩
  case round =>
    clear b0 b1 b2 c0 c1 c2
    obtain ⟨i, rfl, hi, hq⟩ := hrel
    obtain ⟨b0, b1, b2⟩ := (HB1.out.q hq).three'
    obtain ⟨c0, c1, c2⟩ := (HB2.out.q hq).three'
    by_cases hlt : i < n
    · obtain ⟨b, o, r, rfl, hb, hc, hS⟩ := (HA.out.q hq).at hlt
      obtain ⟨b3, o3, r3, rfl, hb3, hc3, hS3⟩ := (HB.out.q hq).at hlt
      have hi2 : (i : Int) < (n : Int) := by omega
      have HS := Lib.hid hS
      have HS3 := Lib.hid hS3
      clear hS hS3
      go_wp2_with fail
      go_still_tail 10, (by kernel_rfl)
      change wpList _ _ _ _ _ wr.drew
      go_wp2_with fail
      refine (row_true r r3 W (M i) (N i) _ (HS.out.q (Q.refl wr).drew) (HS3.out.q (Q.refl wr).drew) (fun k hk => HE.out i k hlt hk)).mono ?_
      rintro e w2 ⟨rfl, hq2⟩
      go_wp2_with fail
      refine ⟨⟨i + 1, rfl, by omega, hq.drew.trans hq2⟩, ?_⟩
      simp only [intOf]; omega
    · go_wp2_with fail
      go_ret
      exact ⟨rfl, HQ1.out.trans hq⟩
end
end Go.Proofs.Ytcjpjnneimjfiaa
namespace Go.Proofs.Ytcjpjnneimjfiaa
open Go.RowKit
set_option maxRecDepth 100000 in
/-- The first elements of a slice. -/
theorem sl_pre {w : World} {A : Option Addr} {n c m : Nat} {φ : Nat → Value} (h : Sl w (.slice A n c) n φ) (hm : m ≤ n) : Sl w (.slice A m c) m φ := by
  obtain ⟨A', c', e, h1⟩ := h
  injection e with e _ e2
  subst e e2
  exact ⟨_, _, rfl, Nat.le_trans hm h1.cap, Nat.le_trans hm h1.len, fun hl => by
    obtain ⟨b, o, e, hb, hc⟩ := h1.open (by omega)
    exact ⟨b, o, e, hb, fun k hk => hc k (by omega)⟩⟩
section
variable {p : Nat} [NeZero p]
set_option maxHeartbeats 400000 in
set_option maxRecDepth 100000 in
theorem zero_q (va : Value) (n : Nat) (x : Nat → Fin p) (w : World) (ha : Sl w va n (u64 x)) (e : ∀ k, k < n → x k = 0) :
    Calls Try.prog 24 #[va] w (fun e w' => e = .returned (.bool true) ∧ w' = w) := by
  obtain ⟨A, c, rfl, hA⟩ := ha
  have hc1 := hA.cap
  have hl := hA.len
  have HA := Lib.hid hA
  have HE := @Lib.hid _ e
  clear hA e
  go_enter Try.func24, Try.ntmps24
  go_wp2_with fail
  go_loop [3] (fun iv' => ∃ k : Nat, iv' = .int .i64 k ∧ k ≤ n) (fun iv' => n - (intOf iv').toNat)
  case atStart => exact ⟨0, rfl, Nat.zero_le _⟩
  case round =>
    obtain ⟨k, rfl, hk⟩ := hrel
    by_cases hlt : k < n
    · obtain ⟨b, o, rfl, hb, hc⟩ := HA.out.at64 hlt
      have hz : (((x k : Nat) : Int) != 0) = false := by rw [bne_fin, HE.out k hlt]; simp
      go_wp2_with fail
      refine ⟨⟨k + 1, rfl, by omega⟩, ?_⟩
      simp only [intOf]; omega
    · go_wp2_with fail
      go_ret
      exact ⟨rfl, rfl⟩
end
end Go.Proofs.Ytcjpjnneimjfiaa
