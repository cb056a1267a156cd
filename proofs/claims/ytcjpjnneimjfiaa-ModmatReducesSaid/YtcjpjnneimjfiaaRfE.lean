/-
  Made, Square and Turned.
-/
import Derived.Test.YtcjpjnneimjfiaaRfD
import Derived.WalkLawsBesides
namespace Go.Proofs.Ytcjpjnneimjfiaa
open Go.RowKit
section
variable {p : Nat} [NeZero p]

set_option maxRecDepth 100000 in
theorem sized_i (hp : Fp p) (v : Value) (P C : Nat) (L : List (List Nat)) (rows cols : Nat) (w : World) {R S : Int} (eR : R = (rows : Int)) (eS : S = (cols : Int)) (h : RawV w v P C L) (hP : prN P = p) (hP2 : P < 256) (hr : rows ≤ 1024) (hc : cols ≤ 1024) :
    Calls Try.prog 33 #[v, .int .i64 R, .int .i64 S] w (ModQ w rows cols (szM L : Mt p)) := by
  subst eR eS
  exact sized_any hp v P C L rows cols w h hP hP2 hr hc
set_option maxRecDepth 100000 in
/-- A Mod laid into the result's box. -/
theorem mod_into {p : Nat} {w w1 w2 w7 : World} {n W : Nat} {A : Option Addr} {c : Nat} {M : Mt p} (hu : Upd (w.heap.size + 1) w2 w7) (hR : RowsO w1.heap.size w2 A n c W M) (hq : Q w w1) (hq2 : Q w1 w2) (hB : w.heap.size + 1 < w1.heap.size) :
    ModQ w n W M (.returned (.agg #[.int .u64 (p : Int), .int .i64 (W : Int), .slice A n c])) w7 :=
  mod_end0 hu hR hq hq2 hB (Nat.le_refl _) (by omega)
set_option maxHeartbeats 1000000 in
set_option maxRecDepth 100000 in
theorem made_any7 (hp : Fp p) (v : Value) (P C : Nat) (L : List (List Nat)) (w : World) (h : RawV w v P C L) (hP : prN P = p) (hP2 : P < 256) (hC : C < 256) (n W : Nat) (hn : min L.length 4 = n) (hW : C % 6 = W) :
    Calls Try.prog 12 #[v] w (ModQ w n W (szM L : Mt p)) := by
  obtain ⟨A, c, rfl, hR⟩ := h
  have hlen := hR.len
  have hn4 : n ≤ 4 := by omega
  have hW6 : W ≤ 5 := by omega
  have hWc : (C : Int) % 6 = (W : Int) := by omega
  have hmin : min (L.length : Int) 4 = (n : Int) := by omega
  obtain ⟨w1, hw1⟩ : ∃ w1, (w.alloc (.cells #[.int .u8 P, .int .u8 C, .slice A L.length c] 24)).alloc (.cells #[.int .u64 0, .int .i64 0, .slice none 0 0] 29) = w1 := ⟨_, rfl⟩
  have hq1 : Q w w1 := hw1 ▸ ((Q.refl w).alloc _).alloc _
  have hB1 : Blk w1 w.heap.size 24 #[.int .u8 P, .int .u8 C, .slice A L.length c] := hw1 ▸ (Blk.new w _ _).alloc _
  have hB2 : Blk w1 (w.heap.size + 1) 29 #[.int .u64 0, .int .i64 0, .slice none 0 0] := hw1 ▸ Blk.new' _ _ _ (by simp)
  obtain ⟨b0, b1, b2⟩ := hB1.three'
  have hV : RawV w1 (.agg #[.int .u8 P, .int .u8 C, .slice A L.length c]) P C L := ⟨A, c, rfl, hR.q hq1⟩
  have HV := Lib.hid hV
  have HQ1 := Lib.hid hq1
  have HB2 := Lib.hid hB2
  have HP := Lib.hid hp
  have HPP := Lib.hid hP
  have HMN := Lib.hid hn
  have HMW := Lib.hid hW
  clear hp hR hq1 hB1 hB2 hP hV hn hW
  go_enter Try.func12, Try.ntmps12
  go_wp2_with fail
  all_goals
    clear hw1
    refine (sized_i HP.out _ P C L n W _ (by omega) rfl HV.out HPP.out hP2 (by omega) (by omega)).mono ?_
    rintro e w2 ⟨v2, rfl, ⟨A2, c2, rfl, hR2⟩, hq2⟩
    have hB7 := HB2.out.q hq2
    obtain ⟨e0, e1, e2⟩ := hB7.three'
    have f0 := hB7.frozen 0
    have f1 := hB7.frozen 1
    have f2 := hB7.frozen 2
    have HR2 := Lib.hid hR2
    have HQ2 := Lib.hid hq2
    clear hR2 hq2 hB7 b0 b1 b2
    go_wp2_with fail
    refine bodyPost_ret (v := .agg #[.int .u64 p, .int .i64 W, .slice A2 n c2]) (by simp [results, Try.results12, go_sem, e0, e1, e2]) rfl ?_
    exact mod_into (((Upd.refl _ _).setCell _ _).setCell _ _ |>.setCell _ _) HR2.out HQ1.out HQ2.out HB2.out.lt

set_option maxHeartbeats 2000000 in
set_option maxRecDepth 100000 in
theorem turned_any {p : Nat} (v : Value) (n W : Nat) (M : Mt p) (w : World) (h : ModV w v n W M) (hn : n ≤ 1024) (hW : W ≤ 1024) :
    Calls Try.prog 29 #[v] w (ModQ w W n (trp M)) := by
  obtain ⟨i0, hi, hz0, hz1, hz2⟩ := info_parts info_row
  obtain ⟨j0, hj, hy0, hy1, hy2⟩ := info_parts info_u64
  obtain ⟨A, c, w1, rfl, hw1, HM, HB, HB2, HQ1, hcap, b0, b1, b2⟩ := modbox2 h
  have hR := HM.out.rows_of
  have HR := Lib.hid hR
  clear h hR
  go_enter Try.func29, Try.ntmps29
  go_wp2_with fail
  clear hw1 b0 b1 b2
  go_loopw [4] (fun iv' wr => ∃ (k : Nat) (A2 : Option Addr) (c2 : Nat) (ρ : Nat → Value), iv' = .int .i64 k ∧ k ≤ W ∧ Bld w1 wr w1.heap.size p n k A2 c2 n ρ (trp M)) (fun iv' _ => W - (intOf iv').toNat)
  case atStart => exact ⟨0, none, 0, fun _ => .slice none 0 0, rfl, Nat.zero_le _, Bld.start (Blk.new _ _ _) ((Q.refl _).alloc _) (Nat.le_refl _)⟩
  case round =>
    obtain ⟨k, A2, c2, ρ, rfl, hkW, hB⟩ := hrel
    obtain ⟨b0, b1, b2⟩ := (HB.out.q hB.q).three'
    have HBL := Lib.hid hB
    clear hB
    by_cases hlt : k < W
    · obtain ⟨G, hG⟩ : ∃ G, wr.heap.size = G := ⟨_, rfl⟩
      have HG := Lib.hid hG
      have hqw : ∀ wx, Below G wr wx → Q wr wx := fun wx h => by rw [← hG] at h; exact h
      have HQW := @Lib.hid _ hqw
      have hKG : w1.heap.size < G := by rw [← hG]; exact HBL.out.lt
      clear hG hqw
      go_wp2_with fail
      rw [HG.out]
      go_loopw [5, 6] (fun ov iv' wx => ∃ (i : Nat) (A5 : Option Addr) (c5 : Nat), iv' = .int .i64 i ∧ ov = .slice A5 i c5 ∧ i ≤ n ∧ wx.ownsRow G 26 1 (.slice A5 i c5) i (tab (u64 (trp M k)) i) ∧ Below G wr wx) (fun _ iv' _ => n - (intOf iv').toNat)
      case atStart => exact ⟨0, _, _, rfl, rfl, Nat.zero_le _, own_new _ _ _ _ HG.out (Nat.le_refl _), HG.out ▸ (Q.refl wr).alloc _⟩
      case round =>
        clear b0 b1 b2
        obtain ⟨i, A5, c5, rfl, rfl, hin, hown, hq⟩ := hrel
        obtain ⟨b0, b1, b2⟩ := (HB.out.q (HBL.out.q.trans (HQW.out _ hq))).three'
        have hGs : G ≤ wr.heap.size := by have := hq.size; rw [HG.out] at this; exact this
        by_cases hi1 : i < n
        · obtain ⟨b, o, r, rfl, hb, hc, hS⟩ := (HR.out.q (HBL.out.q.trans (HQW.out _ hq))).at hi1
          obtain ⟨b', o', c', rfl, hcc, hb', hc'⟩ := hS.at64 hlt
          have HQ := Lib.hid hq
          have HOWN := Lib.hid hown
          clear hq hown hS
          go_wp2_with (at_builtin; go_must (refine wpList_app1 rfl _ _ 44 rfl G 26 j0 (.int .u64 0) 8 Try.underlying44 hj hy0 hy1 hy2 rfl _ i (tab (u64 (trp M k)) i) rfl HOWN.out _ rfl rfl (by omega) (by decide) hGs ?_); intro A3 c3 w2 hown2 hb2 hs2)
          exact app_round hown2 hb2 HQ.out hi1 rfl
        · obtain rfl : n = i := by omega
          obtain ⟨A3, c3, e3, hR3⟩ := own_rowO hown rfl (by omega)
          injection e3 with e3 _ e4
          subst e3 e4
          have HQ := Lib.hid hq
          have HR3 := Lib.hid hR3
          clear hq hown hR3
          obtain ⟨k0, k1, k2⟩ := (HBL.out.move (HQW.out _ HQ.out)).box.three'
          have f2 := (HBL.out.move (HQW.out _ HQ.out)).box.frozen 2
          have hKl := (HBL.out.move (HQW.out _ HQ.out)).lt
          go_wp2_with (at_builtin; go_must (refine wpList_app1g rfl _ _ 27 rfl (w1.heap.size + 1) 44 i0 (.slice none 0 0) 24 Try.underlying27 hi hz0 hz1 hz2 rfl _ k (tab ρ k) rfl (HBL.out.move (HQW.out _ HQ.out)).own _ rfl rfl (by omega) (by decide) (by omega) ?_); intro A8 c8 w4 hown8 hg8; have hb8 := HBL.out.grown ((HQW.out _ HQ.out).alloc _) hg8; have k2c := hb8.cell 2; have f2c := hb8.frozen 2; have hl4 := hb8.lt)
          exact bld_round HBL.out ((HQW.out _ HQ.out).alloc _) ((HR3.out.mono (by omega)).q ((Q.refl _).alloc _)) hown8 hg8 hb8 hlt
    · obtain rfl : W = k := by omega
      have hq7 := HBL.out.q
      have hB7 := HB2.out.q hq7
      obtain ⟨e0, e1, e2⟩ := hB7.three'
      obtain ⟨k0, k1, k2⟩ := HBL.out.box.three'
      have f0 := hB7.frozen 0
      have f1 := hB7.frozen 1
      have f2 := hB7.frozen 2
      have hl7 := hB7.lt
      have HQ7 := Lib.hid hq7
      clear hq7 hB7
      go_wp2_with fail
      refine bodyPost_ret (v := .agg #[.int .u64 p, .int .i64 n, .slice A2 W c2]) (by simp [results, Try.results29, go_sem, e0, e1, e2]) rfl ?_
      exact mod_end0 (((Upd.refl _ _).setCell _ _).setCell _ _ |>.setCell _ _) (HBL.out.rowsO (by omega)) HQ1.out HQ7.out HB2.out.lt (by omega) (by omega)
end
end Go.Proofs.Ytcjpjnneimjfiaa
