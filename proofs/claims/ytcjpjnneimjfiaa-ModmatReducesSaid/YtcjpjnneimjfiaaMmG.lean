/-
  Left of package modmat.
-/
import Derived.Test.YtcjpjnneimjfiaaBld
namespace Go.Proofs.Ytcjpjnneimjfiaa
open Go.RowKit
section
variable {p : Nat} [NeZero p]

/-- The left kernel's form. -/
def lf (n W : Nat) (M : Mt p) : St p := rf (n - (rf n W (bsd W M)).r) n (ker W (rf n W (bsd W M)).r (rf n W (bsd W M)).M)
/-- A Mod that has been made by the call. -/
def ModQ (w : World) (n W : Nat) (M : Mt p) (e : Ending) (w' : World) : Prop := ∃ v, e = .returned v ∧ ModO w.heap.size w' v n W M ∧ Q w w'
set_option maxRecDepth 100000 in
theorem left_sc {p : Nat} {base : Nat} {w : World} {g n W r i c : Nat} {hs : Array Value} {gs : Nat → Nat} {X : Mt p} (h : OwnM base w g hs gs n (W + n) X) (hi : r + i < n) (hn : W + n ≤ 4096) (hc : W + n ≤ c) :
    Sc w (some ⟨gs (r + i), W, none⟩) n (c - W) (u64 (ker W r X i)) := by
  obtain ⟨_, _, cs, hb, hcs⟩ := h.own (by omega) (r + i) hi
  refine ⟨by omega, by omega, fun _ => ⟨_, W, rfl, hb.lt, fun k hk => ?_⟩⟩
  rw [hb.cell, hcs (W + k) (by omega)]
  rfl
set_option maxRecDepth 100000 in
theorem bld_round {p : Nat} {w5 wr w2a w3 : World} {K P C i m : Nat} {A : Option Addr} {c N : Nat} {ρ : Nat → Value} {M : Mt p} {A' : Option Addr} {c' : Nat} {A2 : Option Addr} {c2 : Nat} (h : Bld w5 wr K P C i A c N ρ M) (hq : Q wr w2a) (hR : RowO (K + 1) w2a 26 A' N c' (u64 (M i)))
    (hown : w3.ownsRow (K + 1) 44 1 (.slice A2 (i + 1) c2) (i + 1) (tab ρ i ++ [.slice A' N c'])) (hg : w2a.grownBy w3 (Value.slice A i c).ownBlock) (hb : Blk w3 K 29 #[.int .u64 (P : Int), .int .i64 (C : Int), .slice A i c]) (hi : i < m) :
    (∃ (i1 : Nat) (A5 : Option Addr) (c5 : Nat) (ρ : Nat → Value), Value.int .i64 ((i : Int) + 1) = .int .i64 i1 ∧ i1 ≤ m ∧ Bld w5 (w3.setCell ⟨K, 2, none⟩ (.slice A2 (i + 1) c2)) K P C i1 A5 c5 N ρ M) ∧
      m - (intOf (Value.int .i64 ((i : Int) + 1))).toNat < m - (intOf (Value.int .i64 (i : Int))).toNat := by
  obtain ⟨ρ', h2⟩ := h.push hq hR hown hg ((Upd.refl K w3).setCell 2 (.slice A2 (i + 1) c2)) (hb.set 2 _)
  refine ⟨⟨i + 1, A2, c2, ρ', rfl, by omega, h2⟩, ?_⟩
  simp only [intOf]; omega
set_option maxRecDepth 100000 in
/-- The end: the result lies in its box, a further box has been made. -/
theorem mod_end {p : Nat} {w w1 w6 w7 : World} {B base n W c : Nat} {o : Obj} {A : Option Addr} {M : Mt p} (hu : Upd B w6 w7) (hR : RowsO base w6 A n c W M) (hq : Q w w1) (hq6 : Q w1 w6) (hB : B < w1.heap.size) (hb : w1.heap.size ≤ base) (hBw : w.heap.size ≤ B) :
    ModQ w n W M (.returned (.agg #[.int .u64 (p : Int), .int .i64 (W : Int), .slice A n c])) (w7.alloc o) := by
  refine ⟨_, rfl, ⟨A, c, rfl, ((hR.away hu (by omega)).q ((Q.refl _).alloc _)).mono (Nat.le_trans hq.size hb)⟩, ?_⟩
  exact Below.alloc (Below.trans (hq.trans hq6) (hu.below hBw)) (by have := hq.size; have := hq6.size; have := hu.size; omega) _
set_option maxRecDepth 100000 in
theorem mod_end0 {p : Nat} {w w1 w6 w7 : World} {B base n W c : Nat} {A : Option Addr} {M : Mt p} (hu : Upd B w6 w7) (hR : RowsO base w6 A n c W M) (hq : Q w w1) (hq6 : Q w1 w6) (hB : B < w1.heap.size) (hb : w1.heap.size ≤ base) (hBw : w.heap.size ≤ B) :
    ModQ w n W M (.returned (.agg #[.int .u64 (p : Int), .int .i64 (W : Int), .slice A n c])) w7 :=
  ⟨_, rfl, ⟨A, c, rfl, (hR.away hu (by omega)).mono (Nat.le_trans hq.size hb)⟩, Below.trans (hq.trans hq6) (hu.below hBw)⟩
set_option maxHeartbeats 2000000 in
set_option maxRecDepth 100000 in
theorem left_any (hp : Fp p) (v : Value) (n W : Nat) (M : Mt p) (w : World) (h : ModV w v n W M) (hn : n ≤ 1024) (hW : W ≤ 1024) :
    Calls Try.prog 18 #[v] w (ModQ w (lf n W M).r n (lf n W M).M) := by
  have HP := Lib.hid hp
  obtain ⟨i0, hi, hz0, hz1, hz2⟩ := info_parts info_row
  obtain ⟨A, c, w1, rfl, hw1, HM, HB, HB2, HQ, hcap, b0, b1, b2⟩ := modbox2 h
  have hrn := (rf_inv hp n W (bsd W M)).rn
  obtain ⟨s, hs⟩ : ∃ s, rf n W (bsd W M) = s := ⟨_, rfl⟩
  have hlf : lf n W M = rf (n - s.r) n (ker W s.r s.M) := by unfold lf; rw [hs]
  rw [hs] at hrn
  obtain ⟨X, r, pv, dt⟩ := s
  dsimp only at hrn hlf
  have HS := Lib.hid hs
  have HLF := Lib.hid hlf
  clear h hp hs hlf
  go_enter Try.func18, Try.ntmps18
  go_wp2_with fail
  clear hw1
  refine (beside_any HP.out _ n W M _ HM.out (by omega) (by omega)).mono ?_
  rintro e w2 ⟨g, hs, gs, rfl, hO, hq2⟩
  obtain ⟨c0, c1, c2⟩ := (HB.out.q hq2).three'
  have HO := Lib.hid hO
  have HQ2 := Lib.hid hq2
  clear hO hq2 b0 b1 b2
  go_wp2_with fail
  refine (reduce_any HP.out _ g n n (W + n) W hs gs (bsd W M) _ HO.out (Nat.le_refl _) (by omega) (by omega) (by omega) HQ2.out.size).mono ?_
  rintro e w3 hr
  rw [show run iv n W (ini (bsd W M)) = ⟨X, r, pv, dt⟩ from HS.out] at hr
  obtain ⟨Ap, cp, hs3, gs3, rfl, hS, hO3, hq3⟩ := redq HQ2.out rfl hr
  dsimp only at hS hO3
  have hB3 := HB.out.q hq3
  obtain ⟨d0, d1, d2⟩ := hB3.three'
  have hl3 := hB3.lt
  have HSP := Lib.hid hS
  have HO3 := Lib.hid hO3
  have HQ3 := Lib.hid hq3
  have HB3 := Lib.hid hB3
  clear hr hS hO3 hq3 hB3 c0 c1 c2
  go_upto_region 4 with (fail)
  go_cut [31, 32, 33] (fun s31 s32 s33 wx => s33 = .int .i64 0 ∧ ∃ o c31, s31 = .slice (some ⟨g, o, none⟩) (n - r) c31 ∧ s32 = .int .i64 (n - r : Nat) ∧ (r < n → o = r) ∧ n - r ≤ c31 ∧ wx = w3.alloc (.cells #[.int .u64 p, .int .i64 n, .slice none 0 0] 29))
  case first =>
    go_wp2_with fail
    · obtain rfl : n = r := by omega
      go_meet
      exact ⟨rfl, 0, 0, by simp, by simp, fun h => by omega, by omega, rfl⟩
    · go_meet
      exact ⟨rfl, r, n - r, rfl, rfl, fun _ => rfl, Nat.le_refl _, rfl⟩
  case rest =>
    obtain ⟨rfl, o, c31, rfl, rfl, ho, hc31, rfl⟩ := hcut
    obtain ⟨w5, hw5⟩ : ∃ w5, w3.alloc (.cells #[.int .u64 p, .int .i64 n, .slice none 0 0] 29) = w5 := ⟨_, rfl⟩
    have hq5 : Q w3 w5 := hw5 ▸ (Q.refl w3).alloc _
    have hB5 : Blk w5 w3.heap.size 29 #[.int .u64 p, .int .i64 n, .slice none 0 0] := hw5 ▸ Blk.new w3 _ _
    rw [hw5]
    have HQ5 := Lib.hid hq5
    have HB5 := Lib.hid hB5
    clear hw5 hq5 hB5 d0 d1 d2
    go_wp2_with fail
    go_loopw [33] (fun iv' wx => ∃ (i : Nat) (A5 : Option Addr) (c5 : Nat) (ρ : Nat → Value), iv' = .int .i64 i ∧ i ≤ n - r ∧ Bld w3 wx w3.heap.size p n i A5 c5 n ρ (ker W r X)) (fun iv' _ => (n - r) - (intOf iv').toNat)
    case atStart => exact ⟨0, none, 0, fun _ => .slice none 0 0, rfl, Nat.zero_le _, Bld.start HB5.out HQ5.out (Nat.le_refl _)⟩
    case round =>
      obtain ⟨i, A5, c5, ρ, rfl, hin, hS5⟩ := hrel
      obtain ⟨b0, b1, b2⟩ := (HB3.out.q hS5.q).three'
      obtain ⟨k0, k1, k2⟩ := hS5.box.three'
      have hlt5 := hS5.lt
      have f2 := hS5.box.frozen 2
      by_cases hlt : i < n - r
      · obtain ⟨A6, c6, e6, hc6, hA6⟩ := HO3.out.row (r + i) (by omega)
        have hr2 : r < n := by omega
        have ho' := ho hr2
        have hk6 : w3.cell? ⟨g, r + i, none⟩ = some (.slice A6 (W + n) c6) := (HO3.out.head.cell _).trans e6
        have hk6 := hS5.q.cell hk6
        subst ho'
        obtain rfl := hA6 (by omega)
        have hwn : (W : Int) ≤ (W : Int) + (n : Int) := by omega
        have hwne : ¬ c6 = W := by omega
        have hsc : Sc wr (some ⟨gs3 (o + i), W, none⟩) n (c6 - W) (u64 (ker W o X i)) := (left_sc HO3.out (show o + i < n by omega) (by omega) hc6).q hS5.q
        have HS5 := Lib.hid hS5
        have HSC := Lib.hid hsc
        clear hS5 hsc
        go_wp2_with fail
        go_region_law (first | (go_simp; go_at_call 55; refine (clone1 _ n _ (u64 (ker W o X i)) _ (HSC.out.q (Q.refl wr).drew) (fun _ _ => rfl) (by omega)).mono ?_; rintro e w2' ⟨A7, c7, rfl, hR7, hq7⟩; have hq8 := (Q.refl wr).drew.trans hq7; have k2b := hq8.cell k2; have hl2 := Nat.lt_of_lt_of_le hlt5 hq8.size; clear hq7) | (refine step_app1 (by rfl) _ _ _ (by rfl) (w3.heap.size + 1) 44 i0 (.slice none 0 0) 24 Try.underlying27 hi hz0 hz1 hz2 rfl _ i (tab ρ i) (by rfl) (ownsRow_q HS5.out.own (hq8.alloc _)) _ (by rfl) (.slice A7 n c7) (Blk.new _ _ _) rfl (by omega) (by decide) (by simp; omega) ?_; intro A8 c8 w4 hown8 hg8; have hb8 := HS5.out.grown (hq8.alloc _) hg8; have k2c := hb8.cell 2; have f2c := hb8.frozen 2; have hl4 := hb8.lt))
        all_goals
          go_wp2_with fail
          exact bld_round HS5.out (hq8.alloc _) ((hR7.mono (by exact hlt5)).q ((Q.refl _).alloc _)) hown8 hg8 hb8 hlt
      · obtain rfl : i = n - r := by omega
        have HS5 := Lib.hid hS5
        clear hS5
        go_wp2_with fail
        refine (rref_any HP.out _ (n - r) n (ker W r X) _ ⟨A5, c5, rfl, HS5.out.rows (by omega)⟩ (by omega) (by omega)).mono ?_
        rintro e w6 ⟨v6, A6, c6, rfl, ⟨A7, c7, rfl, hR7⟩, _, hq6⟩
        have hq7 := (HQ3.out.trans HS5.out.q).trans hq6
        have hB7 := HB2.out.q hq7
        obtain ⟨e0, e1, e2⟩ := hB7.three'
        have f0 := hB7.frozen 0
        have f1 := hB7.frozen 1
        have f2 := hB7.frozen 2
        have hl7 := hB7.lt
        have HQ7 := Lib.hid hq7
        have HR7 := Lib.hid hR7
        have HQ6 := Lib.hid hq6
        clear hq7 hB7 hR7 hq6
        go_wp2_with fail
        refine bodyPost_ret (v := .agg #[.int .u64 p, .int .i64 n, .slice A7 (rf (n - r) n (ker W r X)).r c7]) (by simp [results, Try.results18, go_sem, e0, e1, e2, hl7]) rfl ?_
        rw [HLF.out]
        exact mod_end ((((Upd.refl _ _).setCell _ _).setCell _ _).setCell _ _) HR7.out HQ.out HQ7.out HB2.out.lt ((HQ3.out.trans HS5.out.q).size) (by omega)
end
end Go.Proofs.Ytcjpjnneimjfiaa
