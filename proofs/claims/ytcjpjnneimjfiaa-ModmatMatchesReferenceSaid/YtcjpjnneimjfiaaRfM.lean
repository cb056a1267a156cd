/-
  torsionref07.Det: the walk.
-/
import Derived.Test.YtcjpjnneimjfiaaRfK
import Derived.Deep.RegionHeld3
namespace Go.Proofs.Ytcjpjnneimjfiaa
open Go.RowKit
section
variable {p : Nat} [NeZero p]
attribute [local go_sem] opGrow growUpon

/-- The k-th term of the expansion along the first row. -/
def lapT (n : Nat) (M : Mt p) (k : Nat) : Fin p := if k % 2 = 1 then 0 - lap n (mnr k M) * M 0 k else lap n (mnr k M) * M 0 k
set_option maxRecDepth 100000 in
theorem det7_shape (v : Value) (n W : Nat) (M : Mt p) (w : World) (h : ModV w v n W M) (hne : n ≠ W) :
    Calls Try.prog 17 #[v] w (DetP w (0 : Fin p) 50) := by
  obtain ⟨A, c, w1, rfl, hw1, HM, HB, HQ1, hcap, b0, b1, b2⟩ := modbox h
  have hb : ((n : Int) != (W : Int)) = true := by rw [bne_iff_ne]; omega
  clear h
  go_enter Try.func17, Try.ntmps17
  go_wp2_with fail
  go_ret2
  exact ⟨by rw [fzero_val]; rfl, HQ1.out⟩
set_option maxRecDepth 100000 in
theorem det7_zero (v : Value) (M : Mt p) (hp : Fp p) (w : World) (h : ModV w v 0 0 M) :
    Calls Try.prog 17 #[v] w (DetP w (lap 0 M) 0) := by
  obtain ⟨A, c, w1, rfl, hw1, HM, HB, HQ1, hcap, b0, b1, b2⟩ := modbox h
  have h1p := fone_val hp
  have HQW0 := HQ1.out
  rw [← hw1] at HQW0
  clear h hp
  go_enter Try.func17, Try.ntmps17
  go_wp2_with fail
  go_ret2
  exact ⟨by rw [lap_0, h1p]; rfl, HQW0⟩
set_option maxRecDepth 100000 in
theorem det_grown {W7 w8 w9 : World} {A8 : Option Addr} {k c8 : Nat} {xs : List Value} (hq : Q W7 w8) (ho : w8.ownsRow W7.heap.size 26 1 (.slice A8 k c8) k xs) (hg : w8.drew.grownBy w9 (Value.slice A8 k c8).ownBlock) : Q W7 w9 :=
  grown_q (w := w8.drew) hq.drew hg (fun x e => (ho.lt x e).1)
set_option maxRecDepth 100000 in
theorem tab_add (φ : Nat → Value) (a b : Nat) : tab φ (a + b) = tab φ a ++ tab (fun t => φ (a + t)) b := by
  induction b with
  | zero => simp [tab]
  | succ b ih => rw [← Nat.add_assoc, ← tab_snoc, ih, ← tab_snoc, List.append_assoc]
set_option maxRecDepth 100000 in
theorem mnr_tab {p : Nat} (k q j n : Nat) (M : Mt p) (e : k + q = n) : tab (Go.Proofs.Ytcjpjnneimjfiaa.u64 (M (j + 1))) k ++ tab (Go.Proofs.Ytcjpjnneimjfiaa.u64 (fun t => M (j + 1) (k + 1 + t))) q = tab (Go.Proofs.Ytcjpjnneimjfiaa.u64 (mnr k M j)) n := by
  rw [← e, tab_add]
  congr 1
  · exact tab_congr (fun l hl => by unfold Go.Proofs.Ytcjpjnneimjfiaa.u64 mnr; rw [if_pos hl])
  · exact tab_congr (fun l hl => by unfold Go.Proofs.Ytcjpjnneimjfiaa.u64 mnr; dsimp only; rw [if_neg (by omega), show k + 1 + l = k + l + 1 by omega])
set_option maxRecDepth 100000 in
theorem det_round {p : Nat} {W5 W7 w9 w10 : World} {n j k q m i c2 c9 c10 : Nat} {A2 A9 A10 : Option Addr} {ρ : Nat → Value} {M : Mt p} {o : Obj} (h : Bld W5 W7 W5.heap.size p n j A2 c2 n ρ (mnr k M)) (hq : Q W7 w9) (e : k + q = n) (em : m = n) (ei : i = j + 1) (hn : n ≤ 140737488355328)
    (hown9 : w9.ownsRow W7.heap.size 26 1 (.slice A9 m c9) m (tab (Go.Proofs.Ytcjpjnneimjfiaa.u64 (M i)) k ++ tab (Go.Proofs.Ytcjpjnneimjfiaa.u64 (fun t => M i (k + 1 + t))) q))
    (hown10 : w10.ownsRow (W5.heap.size + 1) 44 1 (.slice A10 (j + 1) c10) (j + 1) (tab ρ j ++ [.slice A9 m c9])) (hg10 : (w9.alloc o).grownBy w10 (Value.slice A2 j c2).ownBlock)
    (hb : Blk w10 W5.heap.size 29 #[.int .u64 (p : Int), .int .i64 (n : Int), .slice A2 j c2]) :
    ∃ ρ', Bld W5 (w10.setCell ⟨W5.heap.size, 2, none⟩ (.slice A10 (j + 1) c10)) W5.heap.size p n (j + 1) A10 c10 n ρ' (mnr k M) := by
  subst em ei
  rw [mnr_tab k q j m M e] at hown9
  obtain ⟨A, c, e9, hR⟩ := own_rowO hown9 rfl hn
  injection e9 with e1 _ e2
  subst e1 e2
  exact h.push (hq.alloc o) ((hR.mono (by have := h.lt; omega)).q ((Q.refl w9).alloc o)) hown10 hg10 ((Upd.refl _ w10).setCell 2 _) (hb.set 2 _)
set_option maxHeartbeats 4000000 in
set_option maxRecDepth 100000 in
theorem det7_step (hp : Fp p) (n N : Nat) (hN : N = n + 1) (hn : n ≤ 1000) (IH : ∀ (v : Value) (M : Mt p) (w : World), ModV w v n n M → Calls Try.prog 17 #[v] w (DetP w (lap n M) 0)) (v : Value) (M : Mt p) (w : World) (h : ModV w v N N M) :
    Calls Try.prog 17 #[v] w (DetP w (sm N (lapT n M)) 0) := by
  obtain ⟨i0, hi, hz0, hz1, hz2⟩ := info_parts info_row
  obtain ⟨j0, hj, hy0, hy1, hy2⟩ := info_parts info_u64
  have HP := Lib.hid hp
  have HIH := @Lib.hid _ IH
  obtain ⟨A, c, w1, rfl, hw1, HM, HB, HQ1, hcap, b0, b1, b2⟩ := modbox h
  have hR := HM.out.rows_of
  have HR := Lib.hid hR
  have hne : ((N : Int) != (N : Int)) = false := by simp
  have hz : ((N : Int) == 0) = false := by rw [beq_eq_false_iff_ne]; omega
  have hz9 : ¬ (N = 0) := by omega
  have hw2 : (N : Int) - 1 = (n : Int) := by omega
  have hw3 : IntKind.i64.wrap ((N : Int) - 1) = (n : Int) := by rw [IntWalk.i64_in _ (by omega)]; omega
  have HNN := Lib.hid hN
  clear h hp IH hR hN
  go_enter Try.func17, Try.ntmps17
  go_wp2_with fail
  clear hw1 b0 b1 b2
  go_loopw [4, 5] (fun o iv' wr => ∃ k : Nat, o = .int .u64 (((sm k (lapT n M) : Fin p) : Nat) : Int) ∧ iv' = .int .i64 k ∧ k ≤ N ∧ Q w1 wr) (fun _ iv' _ => N - (intOf iv').toNat)
  case atStart => exact ⟨0, by rw [sm_0, fzero_val]; rfl, rfl, Nat.zero_le _, Q.refl _⟩
  case round =>
    obtain ⟨k, rfl, rfl, hkN, hq⟩ := hrel
    obtain ⟨W5, rfl⟩ : ∃ W5 : World, W5 = wr := ⟨_, rfl⟩
    obtain ⟨b0, b1, b2⟩ := (HB.out.q hq).three'
    have HQW := Lib.hid hq
    clear hq
    by_cases hlt : k < N
    · have hk5 : (k : Int) < (N : Int) := by omega
      go_wp2_with fail
      clear b0 b1 b2
      go_loopw [7] (fun iv' wx => ∃ (i j : Nat) (A2 : Option Addr) (c2 : Nat) (ρ : Nat → Value), iv' = .int .i64 i ∧ i = j + 1 ∧ j ≤ n ∧ Bld W5 wx W5.heap.size p n j A2 c2 n ρ (mnr k M)) (fun iv' _ => N - (intOf iv').toNat)
      case atStart => exact ⟨1, 0, none, 0, fun _ => .slice none 0 0, rfl, rfl, Nat.zero_le _, Bld.start (Blk.new _ _ _) ((Q.refl _).alloc _) (Nat.le_refl _)⟩
      case round =>
        obtain ⟨i, j, A2, c2, ρ, rfl, hij, hjn, hB⟩ := hrel
        obtain ⟨W7, rfl⟩ : ∃ W7 : World, W7 = wr := ⟨_, rfl⟩
        obtain ⟨b0, b1, b2⟩ := ((HB.out.q HQW.out).q hB.q).three'
        obtain ⟨k0, k1, k2⟩ := hB.box.three'
        have HBL := Lib.hid hB
        have HIJ := Lib.hid hij
        clear hB hij
        by_cases hil : i < N
        · have hi5 : (i : Int) < (N : Int) := by omega
          obtain ⟨b, o, r, rfl, hbc, hc, hS⟩ := ((HR.out.q HQW.out).q HBL.out.q).at hil
          obtain ⟨bb, oo, cr, rfl, hcr, _, _⟩ := hS.at64 hlt
          obtain ⟨_, _, ee, hSC⟩ := hS
          injection ee with ee1 _ ee2
          subst ee1 ee2
          have hpre := sl_pre ⟨_, _, rfl, hSC⟩ (m := k) (by omega)
          obtain ⟨_, _, ee, hSP⟩ := hpre
          injection ee with ee1 _ ee2
          subst ee1 ee2
          have hkc : (k : Int) ≤ (cr : Int) := by omega
          have HSC := Lib.hid hSC
          have HSP := Lib.hid hSP
          have ka := fun o => ((Q.refl W7).alloc o).cell b2
          have kb := fun o => ((Q.refl W7).alloc o).cell hc
          clear hSC hSP
          go_wp2_with (at_builtin; go_must (refine wpList_app rfl _ _ 44 rfl W7.heap.size 26 j0 (.int .u64 0) 8 Try.underlying44 hj hy0 hy1 hy2 rfl _ 0 [] rfl (own_new _ _ _ _ rfl (Nat.le_refl _)) (some ⟨bb, oo, none⟩) k cr (tab (Go.Proofs.Ytcjpjnneimjfiaa.u64 (M i)) k) rfl (tab_len _ _) ((HSP.out.q ((Q.refl W7).alloc _)).news) (oneCell_tab (fun _ _ => rfl)) (by unfold maxLen; omega) (by omega) (by simp) ?_); intro v8 w8 hown8 hg8 hat8)
          rw [Nat.zero_add, List.nil_append] at hown8
          obtain ⟨A8, c8, rfl, _⟩ := own_shape hown8
          have hq8 : Q W7 w8 := grown_q ((Q.refl W7).alloc _) hg8 (fun x e => by have e' : some W7.heap.size = some x := e; injection e' with e'; omega)
          have HQ8 := Lib.hid hq8
          have HO8 := Lib.hid hown8
          have kW2 := k2
          have bW2 := b2
          have hcW := hc
          have k2 := hq8.cell k2
          have b2 := hq8.cell b2
          have hc := hq8.cell hc
          obtain ⟨AD, hAD⟩ : ∃ AD : Option Addr, (if cr = k + 1 then some ⟨bb, oo, none⟩ else some ⟨bb, oo + (k + 1), none⟩) = AD := ⟨_, rfl⟩
          have hnews : 0 < N - (k + 1) → ∃ b' o', AD = some ⟨b', o', none⟩ ∧ ∀ t u, (tab (Go.Proofs.Ytcjpjnneimjfiaa.u64 (fun t => M i (k + 1 + t))) (N - (k + 1)))[t]? = some u → w8.drew.cell? ⟨b', o' + t, none⟩ = some u := fun hl => ⟨bb, oo + (k + 1), by rw [← hAD, if_neg (by omega)], fun t u hu => by
            obtain ⟨ht, rfl⟩ := tab_some hu
            obtain ⟨b', o', e, _, hcc⟩ := (HSC.out.q hq8).open (by omega)
            injection e with e
            injection e with e1 e2
            subst e1 e2
            have := hcc (k + 1 + t) (by omega)
            rw [← Nat.add_assoc] at this
            exact this⟩
          have HNEWS := @Lib.hid _ hnews
          have H1C := Lib.hid (oneCell_tab (φ := Go.Proofs.Ytcjpjnneimjfiaa.u64 (fun t => M i (k + 1 + t))) (n := N - (k + 1)) (fun _ _ => rfl))
          have H63 := Lib.hid (show k + (N - (k + 1)) ≤ maxLen by unfold maxLen; omega)
          have HBY := Lib.hid (show (k + (N - (k + 1))) * 8 ≤ 140737488355328 by omega)
          have hks : (k : Int) + 1 ≤ (N : Int) := by omega
          have hks2 : k + 1 ≤ N := by omega
          have hks3 : k + 1 ≤ cr := by omega
          have hks4 : (k : Int) + 1 ≤ (cr : Int) := by omega
          have hkt : ((k : Int) + 1).toNat = k + 1 := by omega
          have hNc : (N : Int) ≤ (cr : Int) := by omega
          have hk0 : (0 : Int) ≤ (k : Int) + 1 := by omega
          have hk00 : ¬ ((k : Int) + 1 < 0) := by omega
          have hkw : IntKind.i64.wrap ((k : Int) + 1) = (k : Int) + 1 := IntWalk.i64_in _ (by omega)
          clear hown8 hg8 hat8 hq8 ka kb b0 b1 k0 k1 hnews
          go_region_law (first | (refine step_app (by rfl) _ _ _ (by rfl) W7.heap.size 26 j0 (.int .u64 0) 8 Try.underlying44 hj hy0 hy1 hy2 rfl (.slice A8 k c8) k (tab (Go.Proofs.Ytcjpjnneimjfiaa.u64 (M i)) k) (by rfl) (ownsRow_q HO8.out (Q.refl w8).drew) AD (N - (k + 1)) (cr - (k + 1)) (tab (Go.Proofs.Ytcjpjnneimjfiaa.u64 (fun t => M i (k + 1 + t))) (N - (k + 1))) (by rfl) (tab_len _ _) HNEWS.out H1C.out H63.out HBY.out HQ8.out.size ?_; intro A9 c9 w9 hown9 hg9; have hq9 := det_grown HQ8.out HO8.out hg9; have k2b := hq9.cell kW2; have k2d := fun o => (hq9.alloc o).cell kW2) | (refine step_app1 (by rfl) _ _ _ (by rfl) (W5.heap.size + 1) 44 i0 (.slice none 0 0) 24 Try.underlying27 hi hz0 hz1 hz2 rfl _ j (tab ρ j) (by rfl) (ownsRow_q HBL.out.own (hq9.alloc _)) _ (by rfl) (.slice A9 (k + (N - (k + 1))) c9) (Blk.new _ _ _) rfl (by omega) (by decide) (by have := HBL.out.lt; have := (hq9.alloc (.cells #[] 0)).size; simp at *; omega) ?_; intro A10 c10 w10 hown10 hg10; have hb10 := HBL.out.grown (hq9.alloc _) hg10; have k2c := hb10.cell 2; have f2c := hb10.frozen 2; have hl10 := hb10.lt))
          all_goals
            go_wp2_with fail
            obtain ⟨ρ', hB'⟩ := det_round (q := N - (k + 1)) HBL.out hq9 (by have := HNN.out; omega) (by have := HNN.out; omega) HIJ.out (by omega) hown9 hown10 hg10 hb10
            refine ⟨⟨i + 1, j + 1, _, _, ρ', rfl, by have := HIJ.out; omega, by have := HIJ.out; have := HNN.out; omega, hB'⟩, ?_⟩
            simp only [intOf]; omega
        · have hjn2 : j = n := by have := HIJ.out; have := HNN.out; omega
          subst hjn2
          have hMM : ModV W7 (.agg #[.int .u64 (p : Int), .int .i64 (j : Int), .slice A2 j c2]) j j (mnr k M) := ⟨A2, c2, rfl, HBL.out.rows (by omega)⟩
          have HMM := Lib.hid hMM
          obtain ⟨d, hd⟩ : ∃ d : Fin p, lap j (mnr k M) = d := ⟨_, rfl⟩
          have HD := Lib.hid hd
          clear hMM hd
          go_wp2_with fail
          refine (HIH.out _ _ _ HMM.out).mono ?_
          rw [HD.out]
          rintro e w10 ⟨rfl, hq10⟩
          have HQ10 := Lib.hid (HBL.out.q.trans hq10)
          clear b0 b1 b2 k0 k1 k2 hq10
          obtain ⟨b0, b1, b2⟩ := ((HB.out.q HQW.out).q HQ10.out).three'
          obtain ⟨b, o, r, rfl, hbc, hc, hS⟩ := ((HR.out.q HQW.out).q HQ10.out).at (show 0 < N by omega)
          obtain ⟨bb, oo, cr, rfl, hcr, _, hel⟩ := hS.at64 hlt
          have hc0 : w10.cell? ⟨b, o, none⟩ = some (.slice (some ⟨bb, oo, none⟩) N cr) := by rw [Nat.add_zero] at hc; exact hc
          have hN0 : (0 : Int) < (N : Int) := by omega
          have hN1 : 0 < N := by omega
          clear hS
          go_wp2_with fail
          have hqn : ∀ W6, Q w10.drew W6 → Q w10 W6 := fun W6 q => (Q.refl w10).drew.trans q
          have qF := fun W6 q => And.intro ((hqn W6 q).cell b0) (And.intro ((hqn W6 q).cell b2) (And.intro ((hqn W6 q).cell hc) (And.intro ((hqn W6 q).cell hc0) ((hqn W6 q).cell hel))))
          refine wp_region_fix [true, true, true, true, true, true, true, true, true, true, true] (by kernel_rfl) (by kernel_rfl) ?_
          intro KF hKF
          simp only [List.length_cons, List.length_nil, Nat.reduceAdd, sel_nil, sel_tt, sel_ft, List.drop_succ_cons, List.drop_zero] at hKF ⊢
          iterate 10 ((apply wpFix_read; (case hgd => rfl); (case h => (intro wq hq K' hK; have qr := qF wq hq; go_simp; exact hK))))
          refine wpFix_call (.int .u64 (((d * M 0 k : Fin p) : Nat) : Int)) rfl ?_ ?_
          · intro wq hq V hV
            go_simp
            go_at_call 37
            exact (r_mul _ HP.out d (M 0 k)).mono fun e w' h => ⟨_, h.1, h.2 ▸ Q.refl _, hV _ (h.2 ▸ Q.refl _)⟩
          refine hKF _ (wpMks_nil ?_)
          rintro w11 hq11 _
          have HQ11 := Lib.hid (HQ10.out.trans (hqn _ hq11))
          clear qF hKF hqn b0 b1 b2 hc hc0 hel
          obtain ⟨b0, b1, b2⟩ := ((HB.out.q HQW.out).q HQ11.out).three'
          by_cases hk2 : k % 2 = 1
          · have hz1 : (k : Int) % 2 = 1 := by omega
            have hz2 : (k : Int).tmod 2 = 1 := by rw [Int.tmod_eq_emod_of_nonneg (by omega)]; exact hz1
            have hsm : sm k (lapT j M) + (0 - d * M 0 k) = sm (k + 1) (lapT j M) := by rw [sm_s]; congr 1; unfold lapT; rw [if_pos hk2, HD.out]
            have HSM := Lib.hid hsm
            clear hk2 hsm
            go_wp2_with fail
            refine (r_neg _ HP.out (d * M 0 k)).mono ?_
            rintro e w' ⟨rfl, rfl⟩
            go_wp2_with fail
            refine (r_add _ HP.out (sm k (lapT j M)) (0 - d * M 0 k)).mono ?_
            rintro e w' ⟨rfl, rfl⟩
            go_wp2_with fail
            refine ⟨⟨k + 1, by rw [HSM.out], rfl, by omega, HQW.out.trans HQ11.out⟩, ?_⟩
            simp only [intOf]; omega
          · have hz1 : (k : Int) % 2 = 0 := by omega
            have hz2 : (k : Int).tmod 2 = 0 := by rw [Int.tmod_eq_emod_of_nonneg (by omega)]; exact hz1
            have hsm : sm k (lapT j M) + d * M 0 k = sm (k + 1) (lapT j M) := by rw [sm_s]; congr 1; unfold lapT; rw [if_neg hk2, HD.out]
            have HSM := Lib.hid hsm
            clear hk2 hsm
            go_wp2_with fail
            refine (r_add _ HP.out (sm k (lapT j M)) (d * M 0 k)).mono ?_
            rintro e w' ⟨rfl, rfl⟩
            go_wp2_with fail
            refine ⟨⟨k + 1, by rw [HSM.out], rfl, by omega, HQW.out.trans HQ11.out⟩, ?_⟩
            simp only [intOf]; omega
    · obtain rfl : k = N := by omega
      go_wp2_with fail
      go_ret2
      exact ⟨rfl, HQ1.out.trans HQW.out⟩
set_option maxRecDepth 100000 in
/-- The determinant by expansion. -/
theorem det7_any (hp : Fp p) : ∀ (n : Nat), n ≤ 1000 → ∀ (v : Value) (M : Mt p) (w : World), ModV w v n n M → Calls Try.prog 17 #[v] w (DetP w (lap n M) 0)
  | 0, _, v, M, w, h => det7_zero v M hp w h
  | n + 1, hn, v, M, w, h => det7_step hp n (n + 1) rfl (by omega) (fun v M w h => det7_any hp n (by omega) v M w h) v M w h
end
end Go.Proofs.Ytcjpjnneimjfiaa
