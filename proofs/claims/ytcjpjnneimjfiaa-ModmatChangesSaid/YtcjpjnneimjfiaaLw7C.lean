/-
  ModmatChanges: the walk.
-/
import Derived.Test.YtcjpjnneimjfiaaRfF
import Derived.Test.YtcjpjnneimjfiaaChgE
import Derived.Test.YtcjpjnneimjfiaaSan7
namespace Go.Proofs.Ytcjpjnneimjfiaa
open Go.RowKit
section
variable {p : Nat} [NeZero p]

set_option maxRecDepth 100000 in
theorem comb_add (n : Nat) (x y : Nat → Fin p) (m : Mt p) (a : Fin p) (k : Nat) : comb n (fun i => x i + a * y i) m k = comb n x m k + a * comb n y m k := by
  unfold comb
  rw [← sm_mul, ← sm_add]
  exact sm_congr fun i _ => by grind
set_option maxRecDepth 100000 in
theorem InSp.add {n c : Nat} {m : Mt p} {v w : Nat → Fin p} (a : Fin p) (h : InSp n c m v) (g : InSp n c m w) : InSp n c m (fun k => v k + a * w k) := by
  obtain ⟨x, hx⟩ := h
  obtain ⟨y, hy⟩ := g
  exact ⟨fun i => x i + a * y i, fun k hk => by rw [comb_add, ← hx k hk, ← hy k hk]⟩
set_option maxRecDepth 100000 in
theorem InSp.smul {n c : Nat} {m : Mt p} {v : Nat → Fin p} (a : Fin p) (h : InSp n c m v) : InSp n c m (fun k => a * v k) := by
  obtain ⟨x, hx⟩ := h
  refine ⟨fun i => a * x i, fun k hk => ?_⟩
  show a * v k = _
  rw [hx k hk]
  unfold comb
  rw [← sm_mul]
  exact sm_congr fun i _ => by grind
set_option maxRecDepth 100000 in
theorem InSp.rowe {n c i : Nat} (A : Mt p) (hi : i < n) {v : Nat → Fin p} (e : ∀ k, A i k = v k) : InSp n c A v := (InSp.row A hi).congr (fun k _ => e k)
set_option maxRecDepth 100000 in
/-- The changed rows are combinations of the rows. -/
theorem chg_sp (what I K n c : Nat) (f : Fin p) (M : Mt p) : ∀ j, j < chgN what n → InSp n c M (chgM what I K n f M j) := by
  intro j hj
  by_cases hn0 : n = 0
  · subst hn0; unfold chgN at hj; rw [if_pos rfl] at hj; omega
  · have hn : 0 < n := by omega
    have hi : I % n < n := Nat.mod_lt _ hn
    have hk : K % n < n := Nat.mod_lt _ hn
    have hc : what % 4 = 0 ∨ what % 4 = 1 ∨ what % 4 = 2 ∨ what % 4 = 3 := by omega
    rcases hc with e | e | e | e
    · rw [chgN_0 e] at hj
      rw [chgM_0 hn e]; unfold swp
      by_cases e1 : j = I % n
      · rw [if_pos e1]; exact InSp.row M hk
      · by_cases e2 : j = K % n
        · rw [if_neg e1, if_pos e2]; exact InSp.row M hi
        · rw [if_neg e1, if_neg e2]; exact InSp.row M hj
    · rw [chgN_1 e] at hj
      rw [chgM_1 hn e]
      by_cases e0 : f = 0
      · rw [if_pos e0]; exact InSp.row M hj
      · rw [if_neg e0]
        by_cases e1 : j = I % n
        · rw [if_pos e1]; exact (InSp.row M hi).smul f
        · rw [if_neg e1]; exact InSp.row M hj
    · rw [chgN_2 e] at hj
      rw [chgM_2 hn e]
      by_cases e0 : I % n = K % n
      · rw [if_pos e0]; exact InSp.row M hj
      · rw [if_neg e0]
        by_cases e1 : j = I % n
        · rw [if_pos e1]; exact (InSp.row M hi).add f (InSp.row M hk)
        · rw [if_neg e1]; exact InSp.row M hj
    · rw [chgN_3 hn e] at hj
      rw [chgM_3 hn e]; dsimp only
      by_cases e1 : j = n
      · rw [if_pos e1]; exact (InSp.row M hi).add f (InSp.row M hk)
      · rw [if_neg e1]; exact InSp.row M (by omega)
set_option maxRecDepth 100000 in
/-- The rows are combinations of the changed rows. -/
theorem sp_chg (hp : Fp p) (what I K n c : Nat) (f : Fin p) (M : Mt p) : ∀ j, j < n → InSp (chgN what n) c (chgM what I K n f M) (M j) := by
  intro j hj
  have hn : 0 < n := by omega
  have hi : I % n < n := Nat.mod_lt _ hn
  have hk : K % n < n := Nat.mod_lt _ hn
  have hc : what % 4 = 0 ∨ what % 4 = 1 ∨ what % 4 = 2 ∨ what % 4 = 3 := by omega
  rcases hc with e | e | e | e
  · rw [chgN_0 e, chgM_0 hn e]
    by_cases e1 : j = I % n
    · by_cases e2 : K % n = I % n
      · exact InSp.rowe _ hi (fun k => by unfold swp; rw [if_pos rfl, e2, e1])
      · exact InSp.rowe _ hk (fun k => by unfold swp; rw [if_neg e2, if_pos rfl, e1])
    · by_cases e2 : j = K % n
      · exact InSp.rowe _ hi (fun k => by unfold swp; rw [if_pos rfl, e2])
      · exact InSp.rowe _ hj (fun k => by unfold swp; rw [if_neg e1, if_neg e2])
  · rw [chgN_1 e, chgM_1 hn e]
    by_cases e0 : f = 0
    · rw [if_pos e0]; exact InSp.row M hj
    · rw [if_neg e0]
      by_cases e1 : j = I % n
      · have h := (InSp.row (cols := c) (fun j => if j = I % n then fun k => f * M (I % n) k else M j) hi).smul (iv f)
        refine h.congr (fun k _ => ?_)
        have h1 := iv_spec hp f e0
        rw [e1, if_pos rfl]; grind
      · exact InSp.rowe _ hj (fun k => by rw [if_neg e1])
  · rw [chgN_2 e, chgM_2 hn e]
    by_cases e0 : I % n = K % n
    · rw [if_pos e0]; exact InSp.row M hj
    · rw [if_neg e0]
      by_cases e1 : j = I % n
      · have h := (InSp.row (cols := c) (fun j => if j = I % n then fun k => M (I % n) k + f * M (K % n) k else M j) hi).add (0 - f) (InSp.row _ hk)
        refine h.congr (fun k _ => ?_)
        rw [e1, if_pos rfl, if_neg (fun h => e0 h.symm)]; grind
      · exact InSp.rowe _ hj (fun k => by rw [if_neg e1])
  · rw [chgN_3 hn e, chgM_3 hn e]
    exact InSp.rowe _ (show j < n + 1 by omega) (fun k => by rw [if_neg (by omega)])
set_option maxRecDepth 100000 in
theorem chgN_le (what n : Nat) : chgN what n ≤ n + 1 := by
  unfold chgN
  split
  · omega
  · split <;> omega
/-- The form, its number of rows under a name, its rows and pivots those of another. -/
def FormI (w : World) (r W : Nat) (X : Mt p) (pv : Nat → Nat) (e : Ending) (w' : World) : Prop := ∃ A3 c3 A c, e = .returned (.tuple #[.agg #[.int .u64 (p : Int), .int .i64 (W : Int), .slice A3 r c3], .slice A r c]) ∧ Rows64 w' A3 r c3 W X ∧ Sc w' A r c (i64s pv) ∧ Q w w'
set_option maxRecDepth 100000 in
theorem rref_i (hp : Fp p) (v : Value) (n W : Nat) (M : Mt p) (w : World) (h : ModV w v n W M) (hn : n ≤ 4096) (hW : W ≤ 4096) {r : Nat} {X : Mt p} {pv : Nat → Nat} (e : (rf n W M).r = r) (e1 : ∀ i, i < r → (rf n W M).pv i = pv i) (e2 : ∀ i k, i < r → k < W → (rf n W M).M i k = X i k) :
    Calls Try.prog 14 #[v] w (FormI w r W X pv) := by
  subst e
  refine (rref_any hp v n W M w h hn hW).mono ?_
  rintro e w' ⟨v3, A, c, rfl, ⟨A3, c3, rfl, hR⟩, hpv, hq⟩
  exact ⟨A3, c3, A, c, rfl, hR.rows.congr e2, hpv.sc.congr (fun k hk => by unfold i64s; rw [e1 k hk]), hq⟩
set_option maxRecDepth 100000 in
theorem rank_i' (hp : Fp p) (v : Value) (n W : Nat) (M : Mt p) (w : World) (h : ModV w v n W M) (hn : n ≤ 4096) (hW : W ≤ 4096) {r : Nat} (e : (rf n W M).r = r) : Calls Try.prog 22 #[v] w (IntQ w (r : Int)) := e ▸ rank_any hp v n W M w h hn hW
set_option maxRecDepth 100000 in
theorem changed_i (hp : Fp p) (v : Value) (what I K C n W : Nat) (M : Mt p) (w : World) (h : ModV w v n W M) (hn : n ≤ 1024) (hW : W ≤ 1024) (h1 : what < 256) (h2 : I < 256) (h3 : K < 256) (h4 : C < 4294967296) {N : Nat} {X : Mt p} (e1 : chgN what n = N) (e2 : chgM what I K n (Fin.ofNat p C) M = X) :
    Calls Try.prog 28 #[v, .agg #[.int .u8 what, .int .u8 I, .int .u8 K, .int .u32 C]] w (ModR w N W X) := e1 ▸ e2 ▸ changed_any hp v what I K C n W M w h hn hW h1 h2 h3 h4
set_option maxHeartbeats 2000000 in
set_option maxRecDepth 100000 in
theorem law_changes (hp : Fp p) (v : Value) (P C : Nat) (L : List (List Nat)) (what I K F : Nat) (w : World) (h : RawV w v P C L) (hP : prN P = p) (hP2 : P < 256) (hC : C < 256) (g1 : what < 256) (g2 : I < 256) (g3 : K < 256) (g4 : F < 4294967296) :
    Calls Try.prog 5 #[v, .agg #[.int .u8 what, .int .u8 I, .int .u8 K, .int .u32 F]] w (SaneQ w) := by
  obtain ⟨A, c, rfl, hR⟩ := h
  obtain ⟨n, hn⟩ : ∃ n, min L.length 4 = n := ⟨_, rfl⟩
  obtain ⟨W, hW⟩ : ∃ W, C % 6 = W := ⟨_, rfl⟩
  have hn4 : n ≤ 4 := by omega
  have hW6 : W ≤ 5 := by omega
  obtain ⟨M, hM0⟩ : ∃ M : Mt p, szM L = M := ⟨_, rfl⟩
  obtain ⟨N, hN0⟩ : ∃ N, chgN what n = N := ⟨_, rfl⟩
  obtain ⟨M2, hM2⟩ : ∃ X : Mt p, chgM what I K n (Fin.ofNat p F) M = X := ⟨_, rfl⟩
  have hN5 : N ≤ 5 := by have := chgN_le what n; omega
  obtain ⟨s, hs⟩ : ∃ s, rf n W M = s := ⟨_, rfl⟩
  have hI := rf_inv hp n W M
  rw [hs] at hI
  obtain ⟨f1, f2, f3⟩ := form_same hp.two (rf_inv hp N W M2) hI (fun i hi => by rw [← hM2]; rw [← hN0] at hi; exact chg_sp what I K n W _ M i hi) (fun i hi => by rw [← hM2, ← hN0]; exact sp_chg hp what I K n W _ M i hi)
  obtain ⟨X, r, pv, dt⟩ := s
  obtain ⟨d1, d2, d3⟩ := form_idem hp.two (rf_inv hp r W X) hI.isR
  dsimp only at f1 f2 f3 d1 d2 d3
  rw [f1] at f2 f3
  have hrn : r ≤ n := hI.rn
  have HR := Lib.hid hR
  have HP := Lib.hid hp
  have HPP := Lib.hid hP
  have HN := Lib.hid hn
  have HW := Lib.hid hW
  have HS := Lib.hid hs
  have HF1 := Lib.hid f1
  have HF2 := @Lib.hid _ f2
  have HF3 := @Lib.hid _ f3
  have HD1 := Lib.hid d1
  have HD2 := @Lib.hid _ d2
  have HD3 := @Lib.hid _ d3
  have HCN := Lib.hid hN0
  have HCM := Lib.hid hM2
  clear hp hR hP hn hW hI hs f1 f2 f3 d1 d2 d3 hN0 hM2
  go_enter Try.func5, Try.ntmps5
  go_wp2_with fail
  refine (sane7 _).mono ?_
  rintro e w1 ⟨rfl, hq1⟩
  have hB1 := ((Blk.new w 24 #[.int .u8 P, .int .u8 C, .slice A L.length c]).alloc (.cells #[.int .u8 what, .int .u8 I, .int .u8 K, .int .u32 F] 51)).q hq1
  have hBc := (Blk.new' (w.alloc (.cells #[.int .u8 P, .int .u8 C, .slice A L.length c] 24)) 51 #[.int .u8 what, .int .u8 I, .int .u8 K, .int .u32 F] (k := w.heap.size + 1) (by simp)).q hq1
  obtain ⟨b0, b1, b2⟩ := hB1.three'
  have q1 := (((Q.refl w).alloc _).alloc _).trans hq1
  have HQ1 := Lib.hid q1
  have HBC := Lib.hid hBc
  clear hB1 hq1 q1 hBc
  go_wp2_with fail
  refine (made_any7 HP.out _ P C L _ ⟨A, c, rfl, HR.out.q HQ1.out⟩ HPP.out hP2 hC n W HN.out HW.out).mono ?_
  rintro e w2 ⟨v2, rfl, ⟨A2, c2, rfl, hR2⟩, hq2⟩
  rw [hM0] at hR2
  obtain ⟨W2, hW2⟩ : ∃ W2, w2.alloc (.cells #[.int .u64 p, .int .i64 W, .slice A2 n c2] 29) = W2 := ⟨_, rfl⟩
  have hB2 : Blk W2 w2.heap.size 29 #[.int .u64 p, .int .i64 W, .slice A2 n c2] := hW2 ▸ Blk.new w2 _ _
  have hR2' : Rows64 W2 A2 n c2 W M := hR2.rows.q (hW2 ▸ (Q.refl w2).alloc _)
  have hq12 : Q w1 W2 := hq2.trans (hW2 ▸ (Q.refl w2).alloc _)
  obtain ⟨b0, b1, b2⟩ := hB2.three'
  have HQ2 := Lib.hid (HQ1.out.trans hq12)
  have HB2 := Lib.hid hB2
  have HBC := Lib.hid (HBC.out.q hq12)
  have HR2 := Lib.hid hR2'
  clear hR2 hq2 hB2 hR2' hq12
  go_wp2_with fail
  clear hW2
  refine (rref_i HP.out _ n W M _ ⟨A2, c2, rfl, HR2.out⟩ (by omega) (by omega) (congrArg St.r HS.out) (fun i _ => congrFun (congrArg St.pv HS.out) i) (fun i k _ _ => congrFun (congrFun (congrArg St.M HS.out) i) k)).mono ?_
  dsimp only
  rintro e w3 ⟨A3, c3, A4, c4, rfl, hR3, hpv, hq3⟩
  obtain ⟨W3, hW3⟩ : ∃ W3, w3.alloc (.cells #[.int .u64 p, .int .i64 W, .slice A3 r c3] 29) = W3 := ⟨_, rfl⟩
  have hq3' : Q w3 W3 := hW3 ▸ (Q.refl w3).alloc _
  have hB3 : Blk W3 w3.heap.size 29 #[.int .u64 p, .int .i64 W, .slice A3 r c3] := hW3 ▸ Blk.new w3 _ _
  have HQ3 := Lib.hid (hq3.trans hq3')
  have HB3 := Lib.hid hB3
  have HR3 := Lib.hid (hR3.q hq3')
  have HPV := Lib.hid (hpv.q hq3')
  clear hR3 hpv hq3 hq3' hB3 b0 b1 b2
  obtain ⟨b0, b1, b2⟩ := (HB2.out.q HQ3.out).three'
  have x0 : W3.cell? ⟨w.heap.size + 1, 0, none⟩ = some (.int .u8 what) := by rw [(HBC.out.q HQ3.out).cell]; rfl
  have x1 : W3.cell? ⟨w.heap.size + 1, 1, none⟩ = some (.int .u8 I) := by rw [(HBC.out.q HQ3.out).cell]; rfl
  have x2 : W3.cell? ⟨w.heap.size + 1, 2, none⟩ = some (.int .u8 K) := by rw [(HBC.out.q HQ3.out).cell]; rfl
  have x3 : W3.cell? ⟨w.heap.size + 1, 3, none⟩ = some (.int .u32 F) := by rw [(HBC.out.q HQ3.out).cell]; rfl
  go_wp2_with fail
  clear hW3
  refine (changed_i HP.out _ what I K F n W M _ ⟨A2, c2, rfl, HR2.out.q HQ3.out⟩ (by omega) (by omega) g1 g2 g3 g4 HCN.out HCM.out).mono ?_
  rintro e w4 ⟨v4, rfl, hM4, hq4⟩
  go_wp2_with fail
  refine (rref_i HP.out v4 N W M2 _ hM4 (by omega) (by omega) HF1.out HF2.out HF3.out).mono ?_
  rintro e w5 ⟨A5, c5, A6, c6, rfl, hR5, hpv5, hq5⟩
  obtain ⟨W5, hW5⟩ : ∃ W5, w5.alloc (.cells #[.int .u64 p, .int .i64 W, .slice A5 r c5] 29) = W5 := ⟨_, rfl⟩
  have hq5' : Q w5 W5 := hW5 ▸ (Q.refl w5).alloc _
  have hB5 : Blk W5 w5.heap.size 29 #[.int .u64 p, .int .i64 W, .slice A5 r c5] := hW5 ▸ Blk.new w5 _ _
  have HQ5 := Lib.hid ((hq4.trans hq5).trans hq5')
  have HB5 := Lib.hid hB5
  have HR5 := Lib.hid (hR5.q hq5')
  have HPV5 := Lib.hid (hpv5.q hq5')
  clear hR5 hpv5 hq5 hq5' hB5 hM4 hq4 b0 b1 b2 x0 x1 x2 x3
  obtain ⟨b0, b1, b2⟩ := ((HB2.out.q HQ3.out).q HQ5.out).three'
  obtain ⟨d0, d1, d2⟩ := (HB3.out.q HQ5.out).three'
  go_wp2_with fail
  clear hW5
  refine (valid_any HP.out _ r W X _ ⟨A3, c3, rfl, HR3.out.q HQ5.out⟩ (by omega) (by omega)).mono ?_
  rintro e w6 ⟨rfl, hq6⟩
  have HQ6 := Lib.hid hq6
  clear hq6 b0 b1 b2 d0 d1 d2
  obtain ⟨b0, b1, b2⟩ := (((HB2.out.q HQ3.out).q HQ5.out).q HQ6.out).three'
  obtain ⟨d0, d1, d2⟩ := ((HB3.out.q HQ5.out).q HQ6.out).three'
  go_wp2_with fail
  refine (rref_i HP.out _ r W X _ ⟨A3, c3, rfl, (HR3.out.q HQ5.out).q HQ6.out⟩ (by omega) (by omega) HD1.out HD2.out HD3.out).mono ?_
  rintro e w7 ⟨A7, c7, A8, c8, rfl, hR7, hpv7, hq7⟩
  obtain ⟨W7, hW7⟩ : ∃ W7, w7.alloc (.cells #[.int .u64 p, .int .i64 W, .slice A7 r c7] 29) = W7 := ⟨_, rfl⟩
  have hq7' : Q w7 W7 := hW7 ▸ (Q.refl w7).alloc _
  have hB7 : Blk W7 w7.heap.size 29 #[.int .u64 p, .int .i64 W, .slice A7 r c7] := hW7 ▸ Blk.new w7 _ _
  have HQ7 := Lib.hid ((HQ6.out.trans hq7).trans hq7')
  have HB7 := Lib.hid hB7
  have HR7 := Lib.hid (hR7.q hq7')
  have HPV7 := Lib.hid (hpv7.q hq7')
  clear hR7 hpv7 hq7 hq7' hB7 b0 b1 b2 d0 d1 d2
  have HQ57 := Lib.hid (HQ5.out.trans HQ7.out)
  obtain ⟨b0, b1, b2⟩ := ((HB2.out.q HQ3.out).q HQ57.out).three'
  obtain ⟨d0, d1, d2⟩ := (HB3.out.q HQ57.out).three'
  obtain ⟨f0, f1, f2⟩ := (HB5.out.q HQ7.out).three'
  obtain ⟨h0, h1, h2⟩ := HB7.out.three'
  have HBX := Lib.hid ((HBC.out.q HQ3.out).q HQ57.out)
  have x0 : W7.cell? ⟨w.heap.size + 1, 0, none⟩ = some (.int .u8 what) := by rw [HBX.out.cell]; rfl
  have x1 : W7.cell? ⟨w.heap.size + 1, 1, none⟩ = some (.int .u8 I) := by rw [HBX.out.cell]; rfl
  have x2 : W7.cell? ⟨w.heap.size + 1, 2, none⟩ = some (.int .u8 K) := by rw [HBX.out.cell]; rfl
  have x3 : W7.cell? ⟨w.heap.size + 1, 3, none⟩ = some (.int .u32 F) := by rw [HBX.out.cell]; rfl
  go_wp2_with fail
  clear hW7
  refine (same_mod _ _ r W X X _ ⟨A3, c3, rfl, HR3.out.q HQ57.out⟩ ⟨A5, c5, rfl, HR5.out.q HQ7.out⟩ (fun _ _ _ _ => rfl) (by omega)).mono ?_
  rintro e w8 ⟨rfl, hq8⟩
  have HQ8 := Lib.hid hq8
  have d0 := hq8.cell d0
  have d1 := hq8.cell d1
  have d2 := hq8.cell d2
  have h0 := hq8.cell h0
  have h1 := hq8.cell h1
  have h2 := hq8.cell h2
  clear hq8 b0 b1 b2 f0 f1 f2 x0 x1 x2 x3
  go_wp2_with fail
  refine (ints_true _ _ r pv pv _ ⟨A4, c4, rfl, (HPV.out.q HQ57.out).q HQ8.out⟩ ⟨A6, c6, rfl, (HPV5.out.q HQ7.out).q HQ8.out⟩ (fun _ _ => rfl)).mono ?_
  rintro e w9 ⟨rfl, hq9⟩
  have HQ9 := Lib.hid (HQ8.out.trans hq9)
  have d0 := hq9.cell d0
  have d1 := hq9.cell d1
  have d2 := hq9.cell d2
  have h0 := hq9.cell h0
  have h1 := hq9.cell h1
  have h2 := hq9.cell h2
  clear hq9
  go_wp2_with fail
  refine (same_mod _ _ r W X X _ ⟨A3, c3, rfl, (HR3.out.q HQ57.out).q HQ9.out⟩ ⟨A7, c7, rfl, HR7.out.q HQ9.out⟩ (fun _ _ _ _ => rfl) (by omega)).mono ?_
  rintro e w10 ⟨rfl, hq10⟩
  have HQ10 := Lib.hid (HQ9.out.trans hq10)
  clear hq10 d0 d1 d2 h0 h1 h2
  go_wp2_with fail
  refine (ints_true _ _ r pv pv _ ⟨A4, c4, rfl, (HPV.out.q HQ57.out).q HQ10.out⟩ ⟨A8, c8, rfl, HPV7.out.q HQ10.out⟩ (fun _ _ => rfl)).mono ?_
  rintro e w11 ⟨rfl, hq11⟩
  have HQ11 := Lib.hid ((HQ57.out.trans HQ10.out).trans hq11)
  clear hq11
  have HBX := Lib.hid ((HBC.out.q HQ3.out).q HQ11.out)
  obtain ⟨b0, b1, b2⟩ := ((HB2.out.q HQ3.out).q HQ11.out).three'
  have x0 : w11.cell? ⟨w.heap.size + 1, 0, none⟩ = some (.int .u8 what) := by rw [HBX.out.cell]; rfl
  have x1 : w11.cell? ⟨w.heap.size + 1, 1, none⟩ = some (.int .u8 I) := by rw [HBX.out.cell]; rfl
  have x2 : w11.cell? ⟨w.heap.size + 1, 2, none⟩ = some (.int .u8 K) := by rw [HBX.out.cell]; rfl
  have x3 : w11.cell? ⟨w.heap.size + 1, 3, none⟩ = some (.int .u32 F) := by rw [HBX.out.cell]; rfl
  go_wp2_with fail
  refine (changed_i HP.out _ what I K F n W M _ ⟨A2, c2, rfl, (HR2.out.q HQ3.out).q HQ11.out⟩ (by omega) (by omega) g1 g2 g3 g4 HCN.out HCM.out).mono ?_
  rintro e w12 ⟨v12, rfl, hM12, hq12⟩
  clear b0 b1 b2 x0 x1 x2 x3
  go_wp2_with fail
  refine (rank_i' HP.out _ N W M2 _ hM12 (by omega) (by omega) HF1.out).mono ?_
  rintro e w13 ⟨rfl, hq13⟩
  go_wp2_with fail
  go_ret
  exact ⟨rfl, (((HQ2.out.trans HQ3.out).trans HQ11.out).trans hq12).trans hq13⟩
end
end Go.Proofs.Ytcjpjnneimjfiaa
