/-
  ModmatRanks: the walk.
-/
import Derived.Test.YtcjpjnneimjfiaaRfE
import Derived.Test.YtcjpjnneimjfiaaSan7
namespace Go.Proofs.Ytcjpjnneimjfiaa
open Go.RowKit
section
variable {p : Nat} [NeZero p]

set_option maxRecDepth 100000 in
theorem rf_wide (n W : Nat) (M : Mt p) : (rf n W (bsd W M)).r = (rf n W M).r := (run_cols iv (fun _ _ hk => bsd_l M hk) W (Nat.le_refl _)).1
set_option maxRecDepth 100000 in
theorem rank_turned (hp : Fp p) (n W : Nat) (M : Mt p) : (rf W n (trp M)).r = (rf n W M).r := rank_trp hp.two (iv_spec hp) (rf_inv hp n W M) (rf_inv hp W n (trp M))
set_option maxRecDepth 100000 in
theorem left_rank (hp : Fp p) (n W : Nat) (M : Mt p) : (rf n W M).r + (lf n W M).r = n := by
  have h := rf_inv hp n W (bsd W M)
  obtain ⟨E', g⟩ := h.wide
  have e := ker_rank hp.two h g (rf_inv hp (n - (rf n W (bsd W M)).r) n (ker W (rf n W (bsd W M)).r (rf n W (bsd W M)).M))
  have := h.rn
  rw [← rf_wide]
  unfold lf
  omega
set_option maxRecDepth 100000 in
theorem rank_i (hp : Fp p) (v : Value) (n W : Nat) (M : Mt p) (w : World) (h : ModV w v n W M) (hn : n ≤ 4096) (hW : W ≤ 4096) {r : Nat} (e : (rf n W M).r = r) : Calls Try.prog 22 #[v] w (IntQ w (r : Int)) := e ▸ rank_any hp v n W M w h hn hW
set_option maxRecDepth 100000 in
/-- The kernel, the number of its rows under a name. -/
theorem left_i (hp : Fp p) (v : Value) (n W : Nat) (M : Mt p) (w : World) (h : ModV w v n W M) (hn : n ≤ 1024) (hW : W ≤ 1024) {q : Nat} (e : (lf n W M).r = q) : Calls Try.prog 18 #[v] w (ModQ w q n (lf n W M).M) := e ▸ left_any hp v n W M w h hn hW

set_option maxRecDepth 100000 in
theorem field_rows (w : World) (x y : Int) (A : Option Addr) (q c : Nat) : (Instr.field 29 (.agg #[.int .u64 x, .int .i64 y, .slice A q c]) 2).run Try.prog w = .ok (.slice A q c) w := by kernel_rfl
set_option maxHeartbeats 2000000 in
set_option maxRecDepth 100000 in
theorem law_ranks (hp : Fp p) (v : Value) (P C : Nat) (L : List (List Nat)) (w : World) (h : RawV w v P C L) (hP : prN P = p) (hP2 : P < 256) (hC : C < 256) :
    Calls Try.prog 6 #[v] w (SaneQ w) := by
  obtain ⟨A, c, rfl, hR⟩ := h
  obtain ⟨n, hn⟩ : ∃ n, min L.length 4 = n := ⟨_, rfl⟩
  obtain ⟨W, hW⟩ : ∃ W, C % 6 = W := ⟨_, rfl⟩
  have hn4 : n ≤ 4 := by omega
  have hW6 : W ≤ 5 := by omega
  obtain ⟨r, hr⟩ : ∃ r, (rf n W (szM L : Mt p)).r = r := ⟨_, rfl⟩
  obtain ⟨q, hq⟩ : ∃ q, (lf n W (szM L : Mt p)).r = q := ⟨_, rfl⟩
  have hrW : r ≤ W := by rw [← hr]; exact (rf_inv hp n W _).rc
  have hsum : r + q = n := by rw [← hr, ← hq]; exact left_rank hp n W _
  have ht : (rf W n (trp (szM L : Mt p))).r = r := by rw [rank_turned hp, hr]
  have HR := Lib.hid hR
  have HP := Lib.hid hp
  have HPP := Lib.hid hP
  have HN := Lib.hid hn
  have HW := Lib.hid hW
  have HRK := Lib.hid hr
  have HQK := Lib.hid hq
  have HT := Lib.hid ht
  have g1 : (r : Int) ≤ (W : Int) := by omega
  have g2 : (0 : Int) ≤ (r : Int) := by omega
  have g3 : IntKind.i64.wrap ((r : Int) + (q : Int)) = (n : Int) := by rw [IntWalk.i64_in _ (by omega)]; omega
  have hfr := field_rows
  clear hp hR hP hn hW hr hq ht
  go_enter Try.func6, Try.ntmps6
  go_wp2_with fail
  refine (sane7 _).mono ?_
  rintro e w1 ⟨rfl, hq1⟩
  have hB1 := (Blk.new w 24 #[.int .u8 P, .int .u8 C, .slice A L.length c]).q hq1
  obtain ⟨b0, b1, b2⟩ := hB1.three'
  have q1 := ((Q.refl w).alloc _).trans hq1
  have HQ1 := Lib.hid q1
  clear hB1 hq1 q1
  go_wp2_with fail
  refine (made_any7 HP.out _ P C L _ ⟨A, c, rfl, HR.out.q HQ1.out⟩ HPP.out hP2 hC n W HN.out HW.out).mono ?_
  rintro e w2 ⟨v2, rfl, ⟨A2, c2, rfl, hR2⟩, hq2⟩
  obtain ⟨W2, hW2⟩ : ∃ W2, w2.alloc (.cells #[.int .u64 p, .int .i64 W, .slice A2 n c2] 29) = W2 := ⟨_, rfl⟩
  have hB2 : Blk W2 w2.heap.size 29 #[.int .u64 p, .int .i64 W, .slice A2 n c2] := hW2 ▸ Blk.new w2 _ _
  have hM2 : ModV W2 (.agg #[.int .u64 (p : Int), .int .i64 (W : Int), .slice A2 n c2]) n W (szM L : Mt p) := ⟨A2, c2, rfl, hR2.rows.q (hW2 ▸ (Q.refl w2).alloc _)⟩
  obtain ⟨b0, b1, b2⟩ := hB2.three'
  have HQ2 := Lib.hid ((HQ1.out.trans hq2).trans (hW2 ▸ (Q.refl w2).alloc _))
  have HB2 := Lib.hid hB2
  have HM2 := Lib.hid hM2
  clear hR2 hq2 hB2 hM2
  go_wp2_with fail
  clear hW2
  refine (rank_i HP.out _ n W _ _ HM2.out (by omega) (by omega) HRK.out).mono ?_
  rintro e w3 ⟨rfl, hq3⟩
  obtain ⟨b0, b1, b2⟩ := (HB2.out.q hq3).three'
  have HQ3 := Lib.hid hq3
  clear hq3
  go_wp2_with fail
  go_region_held3 (fun w' => w'.cell? ⟨w2.heap.size, 0, none⟩ = some (.int .u64 (p : Int)) ∧ w'.cell? ⟨w2.heap.size, 1, none⟩ = some (.int .i64 (W : Int)) ∧ w'.cell? ⟨w2.heap.size, 2, none⟩ = some (.slice A2 n c2)) (first | exact sk | go_keep)
    (first | (go_at_call 29; refine (turned_any _ n W _ _ (HM2.out.q HQ3.out.drew) (by omega) (by omega)).mono ?_; rintro e wA ⟨vA, rfl, hMA, hqA⟩; have qA := HQ3.out.drew.trans hqA; have sk := (HB2.out.q qA).three') | (go_at_call 22; refine (rank_i HP.out vA W n _ _ hMA.modv (by omega) (by omega) HT.out).mono ?_; rintro e wB ⟨rfl, hqB⟩; have qB := qA.trans hqB; have sk := (HB2.out.q qB).three') | (go_at_call 18; refine (left_i HP.out _ n W _ _ (HM2.out.q qB) (by omega) (by omega) HQK.out).mono ?_; rintro e wC ⟨vC, rfl, ⟨AC, cC, rfl, hRC⟩, hqC⟩; have qC := qB.trans hqC; have sk := (HB2.out.q qC).three'))
  all_goals
    go_wp2_with fail
    go_ret
    exact ⟨rfl, HQ2.out.trans qC⟩
end
end Go.Proofs.Ytcjpjnneimjfiaa
