/-
  Times, Plus and Act.
-/
import Derived.Test.YtcjpjnneimjfiaaRfA
import Derived.Test.YtcjpjnneimjfiaaStep
import Derived.Deep.RegionHeld3
namespace Go.Proofs.Ytcjpjnneimjfiaa
open Go.RowKit
section
variable {p : Nat} [NeZero p]

def RowQ (w : World) (n : Nat) (x : Nat → Fin p) (e : Ending) (w' : World) : Prop := ∃ A c, e = .returned (.slice A n c) ∧ RowO w.heap.size w' 26 A n c (u64 x) ∧ Q w w'
set_option maxRecDepth 100000 in
/-- One element more. -/
theorem app_round {p : Nat} {w wr w2 : World} {base k n : Nat} {x : Nat → Fin p} {A2 : Option Addr} {c2 : Nat} {u : Value} (hown : w2.ownsRow base 26 1 (.slice A2 (k + 1) c2) (k + 1) (tab (u64 x) k ++ [u])) (hb : Below base wr w2) (hq : Below base w wr) (hk : k < n) (eu : u = .int .u64 ((x k : Nat) : Int)) :
    (∃ (k1 : Nat) (A : Option Addr) (c : Nat), Value.int .i64 ((k : Int) + 1) = .int .i64 k1 ∧ Value.slice A2 (k + 1) c2 = .slice A k1 c ∧ k1 ≤ n ∧ w2.ownsRow base 26 1 (.slice A k1 c) k1 (tab (u64 x) k1) ∧ Below base w w2) ∧
      n - (intOf (Value.int .i64 ((k : Int) + 1))).toNat < n - (intOf (Value.int .i64 (k : Int))).toNat := by
  subst eu
  have e : tab (u64 x) k ++ [Value.int .u64 ((x k : Nat) : Int)] = tab (u64 x) (k + 1) := tab_snoc (u64 x) k
  rw [e] at hown
  refine ⟨⟨k + 1, A2, c2, rfl, rfl, by omega, hown, hq.trans hb⟩, ?_⟩
  simp only [intOf]; omega
set_option maxHeartbeats 400000 in
set_option maxRecDepth 100000 in
theorem times_any {p : Nat} (hp : Fp p) (va : Value) (n : Nat) (x : Nat → Fin p) (c : Fin p) (w : World) (ha : Sl w va n (u64 x)) (hn : n ≤ 4096) :
    Calls Try.prog 50 #[.int .u64 p, va, .int .u64 ((c : Nat) : Int)] w (RowQ w n (fun k => c * x k)) := by
  obtain ⟨i0, hi, hz0, hz1, hz2⟩ := info_parts info_u64
  obtain ⟨A, cp, rfl, hA⟩ := ha
  have hc1 := hA.cap
  have HA := Lib.hid hA
  have HP := Lib.hid hp
  clear hA hp
  go_enter Try.func50, Try.ntmps50
  go_wp2_with fail
  go_loopw [7, 8] (fun ov iv' wr => ∃ (k : Nat) (A2 : Option Addr) (c2 : Nat), iv' = .int .i64 k ∧ ov = .slice A2 k c2 ∧ k ≤ n ∧ wr.ownsRow w.heap.size 26 1 (.slice A2 k c2) k (tab (u64 fun k => c * x k) k) ∧ Below w.heap.size w wr) (fun _ iv' _ => n - (intOf iv').toNat)
  case atStart => exact ⟨0, _, _, rfl, rfl, Nat.zero_le _, own_new _ _ _ _ rfl (Nat.le_refl _), (Q.refl w).alloc _⟩
  case round =>
    obtain ⟨k, A2, c2, rfl, rfl, hk, hown, hq⟩ := hrel
    by_cases hlt : k < n
    · obtain ⟨b, o, rfl, hb, hc⟩ := (HA.out.q hq).at64 hlt
      have hsz := hq.size
      have HQ := Lib.hid hq
      clear hq
      go_wp2_with fail
      refine (r_mul _ HP.out c (x k)).mono ?_
      rintro e w' ⟨rfl, rfl⟩
      go_wp2_with (at_builtin; go_must (refine wpList_app1 rfl _ _ 44 rfl w.heap.size 26 i0 (.int .u64 0) 8 Try.underlying44 hi hz0 hz1 hz2 rfl _ k (tab (u64 fun k => c * x k) k) rfl hown _ rfl rfl (by omega) (by decide) (by omega) ?_); intro A3 c3 w2 hown2 hb2 hs2)
      exact app_round hown2 hb2 HQ.out hlt rfl
    · obtain rfl : n = k := by omega
      obtain ⟨A3, c3, e3, hR⟩ := own_rowO hown rfl (by omega)
      injection e3 with e3 _ e4
      subst e3 e4
      go_wp2_with fail
      go_ret
      exact ⟨_, _, rfl, hR, hq⟩
set_option maxHeartbeats 1000000 in
set_option maxRecDepth 100000 in
theorem plus_row {p : Nat} (hp : Fp p) (va vb : Value) (n : Nat) (x y : Nat → Fin p) (c : Fin p) (w : World) (ha : Sl w va n (u64 x)) (hb : Sl w vb n (u64 y)) (hn : n ≤ 4096) :
    Calls Try.prog 52 #[.int .u64 p, .agg #[va, vb], .int .u64 ((c : Nat) : Int)] w (RowQ w n (fun k => x k + c * y k)) := by
  obtain ⟨i0, hi, hz0, hz1, hz2⟩ := info_parts info_u64
  obtain ⟨A, ca, rfl, hA⟩ := ha
  obtain ⟨B, cb, rfl, hB⟩ := hb
  have hc1 := hA.cap
  have hc2 := hB.cap
  obtain ⟨w1, hw1⟩ : ∃ w1, w.alloc (.cells #[.slice A n ca, .slice B n cb] 58) = w1 := ⟨_, rfl⟩
  have hq1 : Q w w1 := hw1 ▸ (Q.refl w).alloc _
  have hB1 : Blk w1 w.heap.size 58 #[.slice A n ca, .slice B n cb] := hw1 ▸ Blk.new w _ _
  have HA := Lib.hid (hA.q hq1)
  have HB := Lib.hid (hB.q hq1)
  have HQ1 := Lib.hid hq1
  have HB1 := Lib.hid hB1
  have HP := Lib.hid hp
  have hb0 : w1.cell? ⟨w.heap.size, 0, none⟩ = some (.slice A n ca) := by rw [hB1.cell]; rfl
  have hb1 : w1.cell? ⟨w.heap.size, 1, none⟩ = some (.slice B n cb) := by rw [hB1.cell]; rfl
  clear hA hB hq1 hB1 hp
  go_enter Try.func52, Try.ntmps52
  go_wp2_with fail
  clear hw1
  go_loopw [7, 8] (fun ov iv' wr => ∃ (k : Nat) (A2 : Option Addr) (c2 : Nat), iv' = .int .i64 k ∧ ov = .slice A2 k c2 ∧ k ≤ n ∧ wr.ownsRow w1.heap.size 26 1 (.slice A2 k c2) k (tab (u64 fun k => x k + c * y k) k) ∧ Below w1.heap.size w1 wr) (fun _ iv' _ => n - (intOf iv').toNat)
  case atStart => exact ⟨0, _, _, rfl, rfl, Nat.zero_le _, own_new _ _ _ _ rfl (Nat.le_refl _), (Q.refl w1).alloc _⟩
  case round =>
    clear hb0 hb1
    obtain ⟨k, A2, c2, rfl, rfl, hk, hown, hq⟩ := hrel
    have hb0 : wr.cell? ⟨w.heap.size, 0, none⟩ = some (.slice A n ca) := by rw [(HB1.out.q hq).cell]; rfl
    have hb1 : wr.cell? ⟨w.heap.size, 1, none⟩ = some (.slice B n cb) := by rw [(HB1.out.q hq).cell]; rfl
    by_cases hlt : k < n
    · obtain ⟨b, o, rfl, hb, hc1⟩ := HA.out.at64 hlt
      obtain ⟨b2, o2, rfl, hb2, hd1⟩ := HB.out.at64 hlt
      have hc := Q.cell hq hc1
      have hd := Q.cell hq hd1
      clear hc1 hd1
      have hsz := hq.size
      have hbl := HB1.out.lt
      have hk2 : (k : Int) < (n : Int) := by omega
      have hbl2 : w.heap.size < wr.heap.size := Nat.lt_of_lt_of_le hbl hsz
      have hb3 : b < wr.heap.size := Nat.lt_of_lt_of_le hb hsz
      have hb4 : b2 < wr.heap.size := Nat.lt_of_lt_of_le hb2 hsz
      have HQ := Lib.hid hq
      have HOWN := Lib.hid hown
      clear hq hown
      go_wp2_with fail
      go_region_held3 (fun w' => w'.cell? ⟨w.heap.size, 0, none⟩ = some (.slice (some ⟨b, o, none⟩) n ca) ∧ w'.cell? ⟨w.heap.size, 1, none⟩ = some (.slice (some ⟨b2, o2, none⟩) n cb) ∧ w'.cell? ⟨b, o + k, none⟩ = some (.int .u64 ((x k : Nat) : Int)) ∧ w'.cell? ⟨b2, o2 + k, none⟩ = some (.int .u64 ((y k : Nat) : Int))) (first | exact ⟨(hq9.cell (p := ⟨w.heap.size, 0, none⟩) hbl).trans hb0, (hq9.cell (p := ⟨w.heap.size, 1, none⟩) hbl).trans hb1, (hq9.cell (p := ⟨b, o + k, none⟩) hb).trans hc, (hq9.cell (p := ⟨b2, o2 + k, none⟩) hb2).trans hd⟩ | go_keep)
        (first | (go_at_call 37; refine (r_mul _ HP.out c (y k)).mono ?_; rintro e w' ⟨rfl, rfl⟩) | (go_at_call 53; refine (r_add _ HP.out (x k) (c * y k)).mono ?_; rintro e w' ⟨rfl, rfl⟩) | (refine step_app1 (by rfl) _ _ _ (by rfl) w1.heap.size 26 i0 (.int .u64 0) 8 Try.underlying44 hi hz0 hz1 hz2 rfl _ k (tab (u64 fun k => x k + c * y k) k) (by rfl) (ownsRow_q HOWN.out ((Q.refl wr).drew.alloc _)) _ (by rfl) (.int .u64 ((x k + c * y k : Fin p) : Nat)) (Blk.new _ _ _) rfl (by omega) (by decide) (by simp; omega) ?_; intro A3 c3 w2 hown2 hg2; have hq9 : Below w1.heap.size wr w2 := Below.grown (Below.alloc (Below.drew (Below.refl _ wr)) hsz _) hg2 (by simp; omega) (fun k e => (HOWN.out.lt k e).1)))
      all_goals
        go_wp2_with fail
        exact app_round hown2 hq9 HQ.out hlt rfl
    · obtain rfl : n = k := by omega
      obtain ⟨A3, c3, e3, hR⟩ := own_rowO hown rfl (by omega)
      injection e3 with e3 _ e4
      subst e3 e4
      go_wp2_with fail
      go_ret
      exact ⟨_, _, rfl, hR.mono HQ1.out.size, HQ1.out.trans hq⟩
set_option maxRecDepth 100000 in
theorem ModV.rows_of {p : Nat} {w : World} {n W c : Nat} {A : Option Addr} {M : Mt p} (h : ModV w (.agg #[.int .u64 (p : Int), .int .i64 (W : Int), .slice A n c]) n W M) : Rows64 w A n c W M := by
  obtain ⟨A', c', e, h⟩ := h
  injection e with e
  have e3 := congrArg (fun a => a[2]?) e
  have e4 : Value.slice A n c = .slice A' n c' := by simpa using e3
  injection e4 with e4 _ e5
  subst e4 e5
  exact h
set_option maxRecDepth 100000 in
/-- The combination with the first i coefficients. -/
theorem comb_s (i : Nat) (x : Nat → Fin p) (M : Mt p) (k : Nat) : comb (i + 1) x M k = comb i x M k + x i * M i k := sm_s i _
set_option maxHeartbeats 1000000 in
set_option maxRecDepth 100000 in
theorem act_any (hp : Fp p) (vx vm : Value) (n W : Nat) (x : Nat → Fin p) (M : Mt p) (w : World) (hx : Sl w vx n (u64 x)) (hm : ModV w vm n W M) (hn : n ≤ 4096) (hW : W ≤ 4096) :
    Calls Try.prog 27 #[vx, vm] w (RowQ w W (comb n x M)) := by
  obtain ⟨Ax, cx, rfl, hX⟩ := hx
  obtain ⟨j0, hj, hy0, hy1, hy2⟩ := info_parts info_u64
  have hmk2 := mk_any 44 26 j0 (.int .u64 0) 8 Try.underlying44 hj hy0 hy1 hy2 (by omega) rfl (W : Int) W rfl (by omega)
  obtain ⟨A, c, w1, rfl, hw1, HM, HB, HQ1, hcap, b0, b1, b2⟩ := modbox hm
  have hR : Rows64 w1 A n c W M := by
    obtain ⟨A', c', e, h⟩ := HM.out
    injection e with e
    have e3 := congrArg (fun a => a[2]?) e
    have e4 : Value.slice A n c = .slice A' n c' := by simpa using e3
    injection e4 with e4 _ e5
    subst e4 e5
    exact h
  have hcx := hX.cap
  have HR := Lib.hid hR
  have HX := Lib.hid (hX.q HQ1.out)
  have HP := Lib.hid hp
  clear hm hX hR hp
  go_enter Try.func27, Try.ntmps27
  go_wp2_with fail
  clear hw1 hmk2
  go_loopw [5, 6] (fun ov iv' wr => ∃ (i : Nat), iv' = .int .i64 i ∧ i ≤ n ∧ (∃ A2 c2, ov = .slice A2 W c2 ∧ RowO w1.heap.size wr 26 A2 W c2 (u64 (comb i x M))) ∧ Q w1 wr) (fun _ iv' _ => n - (intOf iv').toNat)
  case atStart => exact ⟨0, rfl, Nat.zero_le _, ⟨_, _, rfl, Nat.le_refl _, by omega, fun _ => ⟨_, _, rfl, Nat.le_refl _, Blk.new _ _ _, fun k hk => by show _ = some (Value.int .u64 (((comb 0 x M k : Fin p) : Nat) : Int)); rw [show comb 0 x M k = 0 from rfl, fzero_val]; simp [hk]⟩⟩, (Q.refl w1).alloc _⟩
  case round =>
    clear b0 b1 b2
    obtain ⟨i, rfl, hi, ⟨A2, c2, rfl, hO⟩, hq⟩ := hrel
    obtain ⟨b0, b1, b2⟩ := (HB.out.q hq).three'
    by_cases hlt : i < n
    · obtain ⟨b, o, r, rfl, hb, hc, hS⟩ := (HR.out.q hq).at hlt
      obtain ⟨bx, ox, rfl, hbx, hcxx⟩ := (HX.out.q hq).at64 hlt
      have hi2 : (i : Int) < (n : Int) := by omega
      obtain ⟨Ar, cr, rfl, hSr⟩ := hS
      have HS := Lib.hid hSr
      have HO := Lib.hid hO
      have HQ := Lib.hid hq
      clear hSr hO hq
      go_wp2_with fail
      go_region_held3 (fun w' => w'.cell? ⟨w.heap.size, 0, none⟩ = some (.int .u64 (p : Int)) ∧ w'.cell? ⟨w.heap.size, 2, none⟩ = some (.slice (some ⟨b, o, none⟩) n c) ∧ w'.cell? ⟨b, o + i, none⟩ = some (.slice Ar W cr) ∧ w'.cell? ⟨bx, ox + i, none⟩ = some (.int .u64 ((x i : Nat) : Int))) (first | exact ⟨hq3.cell b0, hq3.cell b2, hq3.cell hc, hq3.cell hcxx⟩ | go_keep)
        (first | (go_at_call 52; refine (plus_row HP.out _ _ W (comb i x M) (M i) (x i) _ ⟨A2, c2, rfl, HO.out.sc.q (Q.refl wr).drew⟩ ⟨Ar, cr, rfl, HS.out.q (Q.refl wr).drew⟩ hW).mono ?_; rintro e w2 ⟨A3, c3, rfl, hR3, hq3⟩))
      have HR3 := Lib.hid hR3
      have HQ3 := Lib.hid hq3
      clear hR3 hq3
      go_wp2_with fail
      refine ⟨⟨i + 1, rfl, by omega, ⟨A3, c3, rfl, (HR3.out.mono HQ.out.size).congr (fun k _ => ?_)⟩, HQ.out.drew.trans HQ3.out⟩, ?_⟩
      · show Value.int .u64 _ = Value.int .u64 _
        rw [comb_s]
      · simp only [intOf]; omega
    · obtain rfl : n = i := by omega
      have HO := Lib.hid hO
      have HQ := Lib.hid hq
      clear hO hq
      go_wp2_with fail
      go_ret
      exact ⟨_, _, rfl, HO.out.mono HQ1.out.size, HQ1.out.trans HQ.out⟩
end
end Go.Proofs.Ytcjpjnneimjfiaa
