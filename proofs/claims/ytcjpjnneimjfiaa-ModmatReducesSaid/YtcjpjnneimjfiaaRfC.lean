/-
  five.
-/
import Derived.Test.YtcjpjnneimjfiaaRfB
import Derived.IntWalk
namespace Go.Proofs.Ytcjpjnneimjfiaa
open Go.RowKit
section

instance nz5 : NeZero 5 := ⟨by decide⟩
/-- The rows of two numbers. -/
def fiveM (x : Nat → Fin 5) : Mt 5 := fun i k => x (i * 2 + k)
set_option maxRecDepth 100000 in
theorem two_rowO {w : World} {base g : Nat} {u v : Value} {φ : Nat → Value} (h : Blk w g 26 #[u, v]) (hb : base ≤ g) (e0 : φ 0 = u) (e1 : φ 1 = v) : RowO base w 26 (some ⟨g, 0, none⟩) 2 2 φ :=
  ⟨Nat.le_refl _, by omega, fun _ => ⟨g, _, rfl, hb, h, fun k hk => by
    match k, hk with
    | 0, _ => rw [e0]; rfl
    | 1, _ => rw [e1]; rfl⟩⟩
set_option maxHeartbeats 1000000 in
set_option maxRecDepth 100000 in
theorem five_any (va : Value) (m q : Nat) (x : Nat → Fin 5) (w : World) (ha : Sl w va m (u64 x)) (hm : m = 2 * q) (hq : q ≤ 100) :
    Calls Try.prog 46 #[va] w (ModQ w q 2 (fiveM x)) := by
  subst hm
  obtain ⟨i0, hi, hz0, hz1, hz2⟩ := info_parts info_row
  obtain ⟨Ax, cx, rfl, hX⟩ := ha
  have hcx := hX.cap
  obtain ⟨w1, hw1⟩ : ∃ w1, w.alloc (.cells #[.int .u64 0, .int .i64 0, .slice none 0 0] 29) = w1 := ⟨_, rfl⟩
  have hq1 : Q w w1 := hw1 ▸ (Q.refl w).alloc _
  have hB2 : Blk w1 w.heap.size 29 #[.int .u64 0, .int .i64 0, .slice none 0 0] := hw1 ▸ Blk.new w _ _
  have hz1' : w1.heap.size = w.heap.size + 1 := by rw [← hw1]; simp
  have HX := Lib.hid (hX.q hq1)
  have HQ1 := Lib.hid hq1
  have HB2 := Lib.hid hB2
  have HZ1 := Lib.hid hz1'
  have HW1 := Lib.hid hw1
  clear hX hq1 hB2 hw1 hz1'
  go_enter Try.func46, Try.ntmps46
  go_wp2_with fail
  rw [HW1.out]
  clear HW1
  go_loopw [4] (fun iv' wr => ∃ (i : Nat) (A2 : Option Addr) (c2 : Nat) (ρ : Nat → Value), iv' = .int .i64 ((i * 2 : Nat) : Int) ∧ i ≤ q ∧ Bld w1 wr (w.heap.size + 1) 5 2 i A2 c2 2 ρ (fiveM x)) (fun iv' _ => 2 * q - (intOf iv').toNat)
  case atStart => exact ⟨0, none, 0, fun _ => .slice none 0 0, rfl, Nat.zero_le _, Bld.start (P := 5) (C := 2) (Blk.new' _ _ _ HZ1.out) ((Q.refl _).alloc _) (by rw [HZ1.out]; exact Nat.le_refl _)⟩
  case round =>
    obtain ⟨i, A2, c2, ρ, rfl, hiq, hB⟩ := hrel
    obtain ⟨k0, k1, k2⟩ := hB.box.three'
    have f2 := hB.box.frozen 2
    have hl := hB.lt
    by_cases hlt : i < q
    · obtain ⟨b, o, rfl, hb, hc⟩ := (HX.out.q hB.q).at64 (show i * 2 < 2 * q by omega)
      obtain ⟨b', o', e', hb', hc'⟩ := (HX.out.q hB.q).at64 (show i * 2 + 1 < 2 * q by omega)
      injection e' with e'
      injection e' with e1 e2
      subst e1 e2
      have HBL := Lib.hid hB
      clear hB
      go_wp2_with fail
      have ka := fun o => ((Q.refl wr).alloc o).cell k2
      have kb := fun o o' => (((Q.refl wr).alloc o).alloc o').cell k2
      have i1 : (0 : Int) ≤ (i : Int) * 2 := by omega
      have i2 : (i : Int) * 2 < 2 * (q : Int) := by omega
      have i3 : ((i : Int) * 2).toNat = i * 2 := by omega
      have i4 : (0 : Int) ≤ (i : Int) * 2 + 1 := by omega
      have i5 : (i : Int) * 2 + 1 < 2 * (q : Int) := by omega
      have i6 : ((i : Int) * 2 + 1).toNat = i * 2 + 1 := by omega
      have i7 : IntKind.i64.wrap ((i : Int) * 2 + 1) = (i : Int) * 2 + 1 := IntWalk.i64_in _ (by omega)
      go_region_law (refine step_app1 (by rfl) _ _ _ (by rfl) (w.heap.size + 1 + 1) 44 i0 (.slice none 0 0) 24 Try.underlying27 hi hz0 hz1 hz2 rfl _ i (tab ρ i) (by rfl) (ownsRow_q HBL.out.own (((Q.refl wr).drew.alloc _).alloc _)) _ (by rfl) (.slice (some ⟨wr.heap.size, 0, none⟩) 2 2) (Blk.new' _ _ _ (by simp)) rfl (by omega) (by decide) (by simp; omega) ?_; intro A8 c8 w4 hown8 hg8; have hb8 := HBL.out.grown (((Q.refl wr).drew.alloc _).alloc _) hg8; have k2c := hb8.cell 2; have f2c := hb8.frozen 2; have hl4 := hb8.lt)
      all_goals
        go_wp2_with fail
        obtain ⟨ρ', h2⟩ := HBL.out.push (((Q.refl wr).drew.alloc _).alloc _) (two_rowO (φ := u64 (fiveM x i)) ((Blk.new' wr.drew 26 _ rfl).alloc _) (by simp; omega) rfl rfl) hown8 hg8 ((Upd.refl (w.heap.size + 1) w4).setCell 2 (.slice A8 (i + 1) c8)) (hb8.set 2 _)
        refine ⟨⟨i + 1, A8, c8, ρ', by simp only [Value.int.injEq, true_and]; omega, by omega, h2⟩, ?_⟩
        simp only [intOf]; omega
    · obtain rfl : q = i := by omega
      have hq7 := hB.q
      have hB7 := HB2.out.q hq7
      obtain ⟨e0, e1, e2⟩ := hB7.three'
      have f0 := hB7.frozen 0
      have f1 := hB7.frozen 1
      have f2' := hB7.frozen 2
      have hl7 := hB7.lt
      have HBL := Lib.hid hB
      have HQ7 := Lib.hid hq7
      clear hB hq7 hB7
      go_wp2_with fail
      refine bodyPost_ret (v := .agg #[.int .u64 (5 : Nat), .int .i64 (2 : Nat), .slice A2 q c2]) (by simp [results, Try.results46, go_sem, e0, e1, e2]) rfl ?_
      exact mod_end0 (((Upd.refl _ _).setCell _ _).setCell _ _ |>.setCell _ _) (HBL.out.rowsO (by omega)) HQ1.out HQ7.out HB2.out.lt (by rw [HZ1.out]; omega) (Nat.le_refl _)
end
end Go.Proofs.Ytcjpjnneimjfiaa
