/-
  torsionlaw07.changed, whole.
-/
import Derived.Test.YtcjpjnneimjfiaaChgA
import Derived.Test.YtcjpjnneimjfiaaChgB
import Derived.Test.YtcjpjnneimjfiaaChgC
import Derived.Test.YtcjpjnneimjfiaaChgD
namespace Go.Proofs.Ytcjpjnneimjfiaa
open Go.RowKit
section
variable {p : Nat} [NeZero p]
set_option maxHeartbeats 8000000 in
set_option maxRecDepth 100000 in
theorem changed_n (hp : Fp p) (v : Value) (what I K C n W : Nat) (M : Mt p) (w : World) (h : ModV w v n W M) (hn : n ≤ 1024) (hW : W ≤ 1024) (_ : what < 256) (_ : I < 256) (_ : K < 256) (h4 : C < 4294967296) (hn0 : n = 0) :
    Calls Try.prog 28 #[v, .agg #[.int .u8 what, .int .u8 I, .int .u8 K, .int .u32 C]] w (ModR w (chgN what n) W (chgM what I K n (Fin.ofNat p C) M)) := by
  have HN0 := Lib.hid hn0
  clear hn0
  obtain ⟨A, c, rfl, hR⟩ := h
  obtain ⟨w1, hw1⟩ : ∃ w1, ((w.alloc (.cells #[.int .u64 p, .int .i64 W, .slice A n c] 29)).alloc (.cells #[.int .u8 what, .int .u8 I, .int .u8 K, .int .u32 C] 51)).alloc (.cells #[.int .u64 0, .int .i64 0, .slice none 0 0] 29) = w1 := ⟨_, rfl⟩
  have hq1 : Q w w1 := hw1 ▸ (((Q.refl w).alloc _).alloc _).alloc _
  have hB : Blk w1 w.heap.size 29 #[.int .u64 p, .int .i64 W, .slice A n c] := hw1 ▸ ((Blk.new w _ _).alloc _).alloc _
  have hB2 : Blk w1 (w.heap.size + 1) 51 #[.int .u8 what, .int .u8 I, .int .u8 K, .int .u32 C] := hw1 ▸ (Blk.new' _ _ _ (by simp)).alloc _
  have hB3 : Blk w1 (w.heap.size + 1 + 1) 29 #[.int .u64 0, .int .i64 0, .slice none 0 0] := hw1 ▸ Blk.new' _ _ _ (by simp)
  have hM : ModV w1 (.agg #[.int .u64 (p : Int), .int .i64 (W : Int), .slice A n c]) n W M := ⟨A, c, rfl, hR.q hq1⟩
  obtain ⟨b0, b1, b2⟩ := hB.three'
  have d0 : w1.cell? ⟨w.heap.size + 1, 0, none⟩ = some (.int .u8 what) := by rw [hB2.cell]; rfl
  have d1 : w1.cell? ⟨w.heap.size + 1, 1, none⟩ = some (.int .u8 I) := by rw [hB2.cell]; rfl
  have d2 : w1.cell? ⟨w.heap.size + 1, 2, none⟩ = some (.int .u8 K) := by rw [hB2.cell]; rfl
  have d3 : w1.cell? ⟨w.heap.size + 1, 3, none⟩ = some (.int .u32 C) := by rw [hB2.cell]; rfl
  have hp0 : 0 < p := by have := hp.two; omega
  have hpb : ((p : Int) == 0) = false := by rw [beq_eq_false_iff_ne]; omega
  have hpn : ¬ ((p : Int) = 0) := by omega
  have hpn2 : ¬ (p = 0) := by omega
  have hCp : C % p < p := Nat.mod_lt _ hp0
  have hp31 := hp.2
  have g1 : IntKind.u64.wrap (C : Int) = (C : Int) := by unfold IntKind.wrap; simp [IntKind.bits, IntKind.signed]; omega
  have g2 : (C : Int).tmod (p : Int) = ((C % p : Nat) : Int) := by rw [Int.tmod_eq_emod_of_nonneg (by omega)]; rfl
  have g3 : IntKind.u64.wrap ((C % p : Nat) : Int) = ((C % p : Nat) : Int) := by unfold IntKind.wrap; simp [IntKind.bits, IntKind.signed]; omega
  have g4 : IntKind.u64.wrap ((C : Int) % (p : Int)) = (C : Int) % (p : Int) := g3
  have HP := Lib.hid hp
  have HM := Lib.hid hM
  have HQ1 := Lib.hid hq1
  have HB := Lib.hid hB
  have HB2 := Lib.hid hB2
  have HB3 := Lib.hid hB3
  clear hR hM hq1 hB hB2 hB3 hp
  go_enter Try.func28, Try.ntmps28
  go_wp2_with fail
  try rw [hw1]
  clear hw1
  have hl0 := HB.out.lt
  have hl1 := HB2.out.lt
  have t0 := fun o => ((Q.refl w1).alloc o).cell b0
  have t1 := fun o => ((Q.refl w1).alloc o).cell b1
  have t2 := fun o => ((Q.refl w1).alloc o).cell b2
  have t3 := fun o => ((Q.refl w1).alloc o).cell d3
  go_region_held3 (fun w' => w'.cell? ⟨w.heap.size, 0, none⟩ = some (.int .u64 p) ∧ w'.cell? ⟨w.heap.size, 1, none⟩ = some (.int .i64 W) ∧ w'.cell? ⟨w.heap.size, 2, none⟩ = some (.slice A n c) ∧ w'.cell? ⟨w.heap.size + 1, 3, none⟩ = some (.int .u32 C)) (first | exact sk | go_keep | exact And.intro ((box3_q qq _ _ _).cell b0) (And.intro ((box3_q qq _ _ _).cell b1) (And.intro ((box3_q qq _ _ _).cell b2) ((box3_q qq _ _ _).cell d3))))
    (first | (go_at_call 13; refine (copied_own _ n W M _ (HM.out.q (by first | exact (Q.refl w1).drew | exact ((Q.refl w1).alloc _).drew)) (by omega) (by omega)).mono ?_; rintro e w2 ⟨A2, c2, ρ2, rfl, hO2, hq2⟩; have hR2 := hO2.rowsO (by omega); have qq : Q w1 w2 := (by first | exact (Q.refl w1).drew.trans hq2 | exact ((Q.refl w1).alloc _).drew.trans hq2); have sk := And.intro (qq.cell b0) (And.intro (qq.cell b1) (And.intro (qq.cell b2) (qq.cell d3))); have u0 := fun o => (qq.alloc o).cell b0; have u1 := fun o => (qq.alloc o).cell b1; have u2 := fun o => (qq.alloc o).cell b2; have u3 := fun o => (qq.alloc o).cell d3; try (have hbx := (Blk.new w1 29 #[.int .u64 0, .int .i64 0, .slice none 0 0]).q ((Q.refl _).drew.trans hq2); obtain ⟨x0, x1, x2⟩ := hbx.three'; have y0 := hbx.frozen 0; have y1 := hbx.frozen 1; have y2 := hbx.frozen 2; have yl := hbx.lt)))
  rotate_left
  case' _ =>
    have st := chs_soon hR2 hbx qq
    have sO := own_soon (p := p) (W' := W) (A2 := A2) (c2 := c2) hO2
    have HST := Lib.hid st
    obtain ⟨W5, hW5⟩ : ∃ W5, (((w2.setCell ⟨w1.heap.size, 0, none⟩ (.int .u64 (p : Int))).setCell ⟨w1.heap.size, 1, none⟩ (.int .i64 (W : Int))).setCell ⟨w1.heap.size, 2, none⟩ (.slice A2 n c2)) = W5 := ⟨_, rfl⟩
    rw [hW5] at st sO HST ⊢
    obtain ⟨B, hBe⟩ : ∃ B, w1.heap.size = B := ⟨_, rfl⟩
    rw [hBe]
    have HBE := Lib.hid hBe
    have hBB : ChS w1 W5 B n W A2 c2 M := hBe ▸ st
    clear hW5 hBe x0 x1 x2 y0 y1 y2 yl hbx
  rotate_left
  case' _ =>
    have st := chs_late hR2 qq
    have sO := own_late (p := p) (W' := W) (A2 := A2) (c2 := c2) hO2
    obtain ⟨W5, hW5⟩ : ∃ W5, w2.alloc (.cells #[.int .u64 (p : Int), .int .i64 (W : Int), .slice A2 n c2] 29) = W5 := ⟨_, rfl⟩
    rw [hW5] at st sO ⊢
    obtain ⟨B, hBe⟩ : ∃ B, w2.heap.size = B := ⟨_, rfl⟩
    rw [hBe]
    have hBB : ChS w1 W5 B n W A2 c2 M := hBe ▸ st
    clear hW5 hBe
  all_goals
    have HBB := Lib.hid hBB
    have HOW := Lib.hid sO
    obtain ⟨b0, b1, b2⟩ := (HB.out.q hBB.q).three'
    obtain ⟨k0, k1, k2⟩ := hBB.box.three'
    have d0 := hBB.q.cell d0
    have d1 := hBB.q.cell d1
    have d2 := hBB.q.cell d2
    have hB3 := HB3.out.q hBB.q
    obtain ⟨e0, e1, e2⟩ := hB3.three'
    have f0 := hB3.frozen 0
    have f1 := hB3.frozen 1
    have f2 := hB3.frozen 2
    have hl7 := hB3.lt
    clear st hBB sO hO2 hB3 hR2 hq2 qq sk u0 u1 u2 u3 t0 t1 t2 t3
    have hnb : ((n : Int) == 0) = true := by rw [beq_iff_eq]; have := HN0.out; omega
    go_wp2_with fail
    refine bodyPost_ret (v := .agg #[.int .u64 p, .int .i64 W, .slice A2 n c2]) (by simp [results, Try.results28, go_sem, e0, e1, e2]) rfl ?_
    rw [show chgN what n = n from if_pos HN0.out, show chgM what I K n (Fin.ofNat p C) M = M from if_pos HN0.out]
    exact chg_end (((Upd.refl _ _).setCell _ _).setCell _ _ |>.setCell _ _) HBB.out.rows HQ1.out HBB.out.q HB3.out.lt (by omega)
set_option maxRecDepth 100000 in
theorem changed_any (hp : Fp p) (v : Value) (what I K C n W : Nat) (M : Mt p) (w : World) (h : ModV w v n W M) (hn : n ≤ 1024) (hW : W ≤ 1024) (h1 : what < 256) (h2 : I < 256) (h3 : K < 256) (h4 : C < 4294967296) :
    Calls Try.prog 28 #[v, .agg #[.int .u8 what, .int .u8 I, .int .u8 K, .int .u32 C]] w (ModR w (chgN what n) W (chgM what I K n (Fin.ofNat p C) M)) := by
  by_cases hn0 : n = 0
  · exact changed_n hp v what I K C n W M w h hn hW h1 h2 h3 h4 hn0
  · have hc : what % 4 = 0 ∨ what % 4 = 1 ∨ what % 4 = 2 ∨ what % 4 = 3 := by omega
    rcases hc with e | e | e | e
    · exact changed_0 hp v what I K C n W M w h hn hW h1 h2 h3 h4 hn0 e
    · exact changed_1 hp v what I K C n W M w h hn hW h1 h2 h3 h4 hn0 e
    · exact changed_2 hp v what I K C n W M w h hn hW h1 h2 h3 h4 hn0 e
    · exact changed_3 hp v what I K C n W M w h hn hW h1 h2 h3 h4 hn0 e
end
end Go.Proofs.Ytcjpjnneimjfiaa
