/-
  torsionref07: Square, Mul.
-/
import Derived.Test.YtcjpjnneimjfiaaRfK
import Derived.Test.YtcjpjnneimjfiaaRfE
namespace Go.Proofs.Ytcjpjnneimjfiaa
open Go.RowKit
section
variable {p : Nat} [NeZero p]
attribute [local go_sem] opGrow growUpon

set_option maxHeartbeats 1000000 in
set_option maxRecDepth 100000 in
theorem square_any (hp : Fp p) (v : Value) (P C : Nat) (L : List (List Nat)) (w : World) (h : RawV w v P C L) (hP : prN P = p) (hP2 : P < 256) (n : Nat) (hn : min L.length 4 = n) :
    Calls Try.prog 32 #[v] w (ModQ w n n (szM L : Mt p)) := by
  obtain ⟨A, c, rfl, hR⟩ := h
  have hlen := hR.len
  have hn4 : n ≤ 4 := by omega
  have hmin : min (L.length : Int) 4 = (n : Int) := by omega
  obtain ⟨w1, hw1⟩ : ∃ w1, (w.alloc (.cells #[.int .u8 P, .int .u8 C, .slice A L.length c] 24)).alloc (.cells #[.int .u64 0, .int .i64 0, .slice none 0 0] 29) = w1 := ⟨_, rfl⟩
  have hq1 : Q w w1 := hw1 ▸ ((Q.refl w).alloc _).alloc _
  have hB1 : Blk w1 w.heap.size 24 #[.int .u8 P, .int .u8 C, .slice A L.length c] := hw1 ▸ (Blk.new w _ _).alloc _
  have hB2 : Blk w1 (w.heap.size + 1) 29 #[.int .u64 0, .int .i64 0, .slice none 0 0] := hw1 ▸ Blk.new' _ _ _ (by simp)
  obtain ⟨b0, b1, b2⟩ := hB1.three'
  have hV : RawV w1 (.agg #[.int .u8 P, .int .u8 C, .slice A L.length c]) P C L := ⟨A, c, rfl, hR.q hq1⟩
  have HV := Lib.hid hV
  have HQ1 := Lib.hid hq1
  have HB2 := Lib.hid hB2
  have HP := Lib.hid hp
  have HPP := Lib.hid hP
  have HMN := Lib.hid hn
  clear hp hR hq1 hB1 hB2 hP hV hn
  go_enter Try.func32, Try.ntmps32
  go_wp2_with fail
  all_goals
    clear hw1
    refine (sized_i HP.out _ P C L n n _ (by omega) (by omega) HV.out HPP.out hP2 (by omega) (by omega)).mono ?_
    rintro e w2 ⟨v2, rfl, ⟨A2, c2, rfl, hR2⟩, hq2⟩
    have hB7 := HB2.out.q hq2
    obtain ⟨e0, e1, e2⟩ := hB7.three'
    have f0 := hB7.frozen 0
    have f1 := hB7.frozen 1
    have f2 := hB7.frozen 2
    have HR2 := Lib.hid hR2
    have HQ2 := Lib.hid hq2
    clear hR2 hq2 hB7 b0 b1 b2
    go_wp2_with fail
    refine bodyPost_ret (v := .agg #[.int .u64 p, .int .i64 n, .slice A2 n c2]) (by simp [results, Try.results32, go_sem, e0, e1, e2]) rfl ?_
    exact mod_into (((Upd.refl _ _).setCell _ _).setCell _ _ |>.setCell _ _) HR2.out HQ1.out HQ2.out HB2.out.lt
set_option maxHeartbeats 4000000 in
set_option maxRecDepth 100000 in
theorem mul_any (hp : Fp p) (va vb : Value) (n m W : Nat) (X Y : Mt p) (w : World) (ha : ModV w va n m X) (hb : ModV w vb m W Y) (hn : n ≤ 1024) (hm : m ≤ 1024) (hW : W ≤ 1024) :
    Calls Try.prog 34 #[va, vb] w (ModQ w n W (mm m X Y)) := by
  obtain ⟨i0, hi, hz0, hz1, hz2⟩ := info_parts info_row
  obtain ⟨A, c, rfl, hA⟩ := ha
  obtain ⟨B, d, rfl, hB⟩ := hb
  obtain ⟨w1, hw1⟩ : ∃ w1, ((w.alloc (.cells #[.int .u64 p, .int .i64 m, .slice A n c] 29)).alloc (.cells #[.int .u64 p, .int .i64 W, .slice B m d] 29)).alloc (.cells #[.int .u64 0, .int .i64 0, .slice none 0 0] 29) = w1 := ⟨_, rfl⟩
  have hq1 : Q w w1 := hw1 ▸ (((Q.refl w).alloc _).alloc _).alloc _
  have hBa : Blk w1 w.heap.size 29 #[.int .u64 p, .int .i64 m, .slice A n c] := hw1 ▸ ((Blk.new w _ _).alloc _).alloc _
  have hBb : Blk w1 (w.heap.size + 1) 29 #[.int .u64 p, .int .i64 W, .slice B m d] := hw1 ▸ (Blk.new' _ _ _ (by simp)).alloc _
  have hBr : Blk w1 (w.heap.size + 1 + 1) 29 #[.int .u64 0, .int .i64 0, .slice none 0 0] := hw1 ▸ Blk.new' _ _ _ (by simp)
  obtain ⟨b0, b1, b2⟩ := hBa.three'
  obtain ⟨d0, d1, d2⟩ := hBb.three'
  have HP := Lib.hid hp
  have HA := Lib.hid (hA.q hq1)
  have HB := Lib.hid (hB.q hq1)
  have HBA := Lib.hid hBa
  have HBB := Lib.hid hBb
  have HBR := Lib.hid hBr
  have HQ1 := Lib.hid hq1
  clear hp hA hB hBa hBb hBr hq1
  go_enter Try.func34, Try.ntmps34
  go_wp2_with fail
  try rw [hw1]
  clear hw1 b0 b1 b2 d0 d1 d2
  go_loopw [6] (fun iv' wr => ∃ (k : Nat) (A2 : Option Addr) (c2 : Nat) (ρ : Nat → Value), iv' = .int .i64 k ∧ k ≤ n ∧ Bld w1 wr w1.heap.size p W k A2 c2 W ρ (mm m X Y)) (fun iv' _ => n - (intOf iv').toNat)
  case atStart => exact ⟨0, none, 0, fun _ => .slice none 0 0, rfl, Nat.zero_le _, Bld.start (Blk.new _ _ _) ((Q.refl _).alloc _) (Nat.le_refl _)⟩
  case round =>
    obtain ⟨k, A2, c2, ρ, rfl, hkn, hB⟩ := hrel
    obtain ⟨W5, rfl⟩ : ∃ W5 : World, W5 = wr := ⟨_, rfl⟩
    obtain ⟨b0, b1, b2⟩ := (HBA.out.q hB.q).three'
    obtain ⟨d0, d1, d2⟩ := (HBB.out.q hB.q).three'
    obtain ⟨k0, k1, k2⟩ := hB.box.three'
    have HBL := Lib.hid hB
    clear hB
    by_cases hlt : k < n
    · obtain ⟨b, o, r, rfl, hb, hc, hS⟩ := (HA.out.q HBL.out.q).at hlt
      obtain ⟨Ar, cr, rfl, hS⟩ := hS
      have hi2 : (k : Int) < (n : Int) := by omega
      have HS := Lib.hid hS
      clear hS
      go_wp2_with fail
      have hqn : ∀ W6, Q W5.drew W6 → Q W5 W6 := fun W6 q => (Q.refl W5).drew.trans q
      have qF := fun W6 q => And.intro ((hqn W6 q).cell k2) (And.intro ((hqn W6 q).cell b2) (And.intro ((hqn W6 q).cell hc) (And.intro ((hqn W6 q).cell d0) (And.intro ((hqn W6 q).cell d1) ((hqn W6 q).cell d2)))))
      refine wp_region_fix [true, true, true, true, true, true, true, true, false, false] (by kernel_rfl) (by kernel_rfl) ?_
      intro KF hKF
      simp only [List.length_cons, List.length_nil, Nat.reduceAdd, sel_nil, sel_tt, sel_tf, sel_ft, sel_ff, List.drop_succ_cons, List.drop_zero] at hKF ⊢
      iterate 8 ((apply wpFix_read; (case hgd => rfl); (case h => (intro wq hq K' hK; have qr := qF wq hq; go_simp; exact hK))))
      refine hKF _ (wpMks_makeU (RowY W5.drew.heap.size W (mm m X Y k)) RowY.keep rfl ?_ ?_)
      · intro wq hq _ V' hV'
        go_simp
        go_at_call 27
        exact (act_any HP.out _ _ m W (X k) Y _ ⟨Ar, cr, rfl, HS.out.q (hqn _ hq)⟩ ⟨B, d, rfl, (HB.out.q HBL.out.q).q (hqn _ hq)⟩ (by omega) (by omega)).mono fun e w' h => rowq_y hq hV' h
      rintro v ⟨_, _, A6, c6, rfl, _⟩
      refine wpMks_makeU (BoxY 44 (.slice A6 W c6)) BoxY.keep rfl ?_ ?_
      · intro wq hq hs V' hV'
        go_simp
        exact ⟨(Q.refl wq).alloc _, hV' _ _ ((Q.refl wq).alloc _) (BoxY.new _ _ wq)⟩
      rintro v ⟨_, _, B7, rfl, _⟩
      refine wpMks_nil ?_
      rintro w6 hq6 ⟨⟨_, A7, c7, e7, hR6⟩, B8, e9, hB6⟩
      injection e7 with e7 _ e8
      subst e7 e8
      injection e9 with e9
      injection e9 with e9
      injection e9 with e9
      subst e9
      have hq7 := hqn _ hq6
      refine wpList_app1b (by rfl) _ _ _ (by rfl) (w1.heap.size + 1) 44 i0 (.slice none 0 0) 24 Try.underlying27 hi hz0 hz1 hz2 rfl _ k (tab ρ k) (by rfl) (ownsRow_q HBL.out.own hq7) B7 (by rfl) (.slice A6 W c6) hB6 rfl (by omega) (by decide) (by have := HBL.out.lt; have := hq7.size; omega) ?_
      intro A8 c8 w8 hown8 hg8
      have hb8 := HBL.out.grown hq7 hg8
      have k2c := hb8.cell 2
      have f2c := hb8.frozen 2
      have hl4 := hb8.lt
      have hl := HBL.out.lt
      clear qF hKF
      go_wp2_with fail
      exact bld_round HBL.out hq7 (hR6.mono (by show _ ≤ W5.heap.size; omega)) hown8 hg8 hb8 hlt
    · obtain rfl : n = k := by omega
      have hq7 := HBL.out.q
      have hB7 := HBR.out.q hq7
      obtain ⟨e0, e1, e2⟩ := hB7.three'
      have f0 := hB7.frozen 0
      have f1 := hB7.frozen 1
      have f2 := hB7.frozen 2
      have hl7 := hB7.lt
      have HQ7 := Lib.hid hq7
      clear hq7 hB7
      go_wp2_with fail
      refine bodyPost_ret (v := .agg #[.int .u64 p, .int .i64 W, .slice A2 n c2]) (by simp [results, Try.results34, go_sem, e0, e1, e2]) rfl ?_
      exact mod_end0 (((Upd.refl _ _).setCell _ _).setCell _ _ |>.setCell _ _) (HBL.out.rowsO (by omega)) HQ1.out HQ7.out HBR.out.lt (by omega) (by omega)
end
end Go.Proofs.Ytcjpjnneimjfiaa
