/-
  Rank, Det and Rref of package modmat.
-/
import Derived.Test.YtcjpjnneimjfiaaMmE
import Derived.Deep.RegionHeld3
namespace Go.Proofs.Ytcjpjnneimjfiaa
open Go.RowKit
section
variable {p : Nat} [NeZero p]

/-- The form of a matrix of n rows by W columns. -/
def rf (n W : Nat) (M : Mt p) : St p := run iv n W (ini M)
set_option maxRecDepth 100000 in
theorem rf_inv (hp : Fp p) (n W : Nat) (M : Mt p) : Inv n W M (rf n W M) := run_inv (iv_spec hp) n W M
def IntQ (w : World) (z : Int) (e : Ending) (w' : World) : Prop := e = .returned (.int .i64 z) ∧ Q w w'
set_option maxRecDepth 100000 in
theorem Blk.three' {w : World} {t : TypeId} {x y z : Value} {B : Nat} (h : Blk w B t #[x, y, z]) : w.cell? ⟨B, 0, none⟩ = some x ∧ w.cell? ⟨B, 1, none⟩ = some y ∧ w.cell? ⟨B, 2, none⟩ = some z :=
  ⟨by rw [h.cell]; rfl, by rw [h.cell]; rfl, by rw [h.cell]; rfl⟩
set_option maxRecDepth 100000 in
/-- The reduction of a clone. -/
theorem redq {p : Nat} {base : Nat} {w w2 w3 : World} {g n W : Nat} {s : St p} {e : Ending} (hq : Q w w2) (hb : base = w.heap.size) (h : RedP base w2 g n W s e w3) :
    ∃ A c hs gs, e = .returned (.tuple #[.slice A s.r c, .int .u64 ((s.dt : Nat) : Int)]) ∧ RowO w.heap.size w3 3 A s.r c (i64s s.pv) ∧ OwnM w.heap.size w3 g hs gs n W s.M ∧ Q w w3 := by
  subst hb
  obtain ⟨A, c, hs, gs, rfl, h1, h2, h3⟩ := h
  exact ⟨A, c, hs, gs, rfl, h1.mono hq.size, h2, Below.trans hq h3⟩
set_option maxHeartbeats 1000000 in
set_option maxRecDepth 100000 in
theorem rank_any (hp : Fp p) (v : Value) (n W : Nat) (M : Mt p) (w : World) (h : ModV w v n W M) (hn : n ≤ 4096) (hW : W ≤ 4096) :
    Calls Try.prog 22 #[v] w (IntQ w ((rf n W M).r : Int)) := by
  have HP := Lib.hid hp
  clear hp
  obtain ⟨A, c, rfl, hR⟩ := h
  obtain ⟨w1, hw1⟩ : ∃ w1, w.alloc (.cells #[.int .u64 p, .int .i64 W, .slice A n c] 29) = w1 := ⟨_, rfl⟩
  have hq1 : Q w w1 := hw1 ▸ (Q.refl w).alloc _
  have hM : ModV w1 (.agg #[.int .u64 p, .int .i64 W, .slice A n c]) n W M := ⟨A, c, rfl, hR.q hq1⟩
  have hB : Blk w1 w.heap.size 29 #[.int .u64 p, .int .i64 W, .slice A n c] := hw1 ▸ Blk.new w _ _
  obtain ⟨b0, b1, b2⟩ := hB.three'
  have HM := Lib.hid hM
  have HB := Lib.hid hB
  have HQ := Lib.hid hq1
  clear hR hM hB hq1
  go_enter Try.func22, Try.ntmps22
  go_wp2_with fail
  try rw [hw1]
  clear hw1
  go_region_held3 (fun w' => w'.cell? ⟨w.heap.size, 0, none⟩ = some (.int .u64 p) ∧ w'.cell? ⟨w.heap.size, 1, none⟩ = some (.int .i64 W) ∧ w'.cell? ⟨w.heap.size, 2, none⟩ = some (.slice A n c)) (first | exact ⟨d0, d1, d2⟩ | exact ⟨c0, c1, c2⟩ | go_keep)
    (first | (go_at_call 48; refine (clone_any _ n W M _ (HM.out.q (Q.refl w1).drew) hn hW).mono ?_; rintro e w2 ⟨g, hs, gs, rfl, hO, hq2⟩; obtain ⟨c0, c1, c2⟩ := (HB.out.q ((Q.refl w1).drew.trans hq2)).three') | (go_at_call 49; refine (reduce_any HP.out _ g n n W W hs gs M _ hO (Nat.le_refl _) (Nat.le_refl _) hn hW hq2.size).mono ?_; rintro e w3 hr; obtain ⟨Ap, cp, hs3, gs3, rfl, hS, _, hq3⟩ := redq hq2 rfl hr; obtain ⟨d0, d1, d2⟩ := (HB.out.q ((Q.refl w1).drew.trans hq3)).three'))
  all_goals
    go_wp2_with fail
    go_ret
    exact ⟨rfl, HQ.out.trans ((Q.refl w1).drew.trans hq3)⟩

set_option maxRecDepth 100000 in
/-- Where a Mod is handed over: its box. -/
theorem modbox {p : Nat} {w : World} {v : Value} {n W : Nat} {M : Mt p} (h : ModV w v n W M) : ∃ A c w1, v = .agg #[.int .u64 (p : Int), .int .i64 (W : Int), .slice A n c] ∧ w.alloc (.cells #[.int .u64 p, .int .i64 W, .slice A n c] 29) = w1 ∧
    Hid (ModV w1 (.agg #[.int .u64 (p : Int), .int .i64 (W : Int), .slice A n c]) n W M) ∧ Hid (Blk w1 w.heap.size 29 #[.int .u64 p, .int .i64 W, .slice A n c]) ∧ Hid (Q w w1) ∧ n ≤ c ∧
    w1.cell? ⟨w.heap.size, 0, none⟩ = some (.int .u64 (p : Int)) ∧ w1.cell? ⟨w.heap.size, 1, none⟩ = some (.int .i64 (W : Int)) ∧ w1.cell? ⟨w.heap.size, 2, none⟩ = some (.slice A n c) := by
  obtain ⟨A, c, rfl, hR⟩ := h
  have hq : Q w (w.alloc (.cells #[.int .u64 p, .int .i64 W, .slice A n c] 29)) := (Q.refl w).alloc _
  have hb := Blk.new w 29 #[.int .u64 (p : Int), .int .i64 (W : Int), .slice A n c]
  obtain ⟨b0, b1, b2⟩ := hb.three'
  exact ⟨A, c, _, rfl, rfl, ⟨A, c, rfl, hR.q hq⟩, hb, hq, hR.cap, b0, b1, b2⟩
set_option maxRecDepth 100000 in
/-- The same with the result's box behind it. -/
theorem modbox2 {p : Nat} {w : World} {v : Value} {n W : Nat} {M : Mt p} (h : ModV w v n W M) : ∃ A c w1, v = .agg #[.int .u64 (p : Int), .int .i64 (W : Int), .slice A n c] ∧
    (w.alloc (.cells #[.int .u64 p, .int .i64 W, .slice A n c] 29)).alloc (.cells #[.int .u64 0, .int .i64 0, .slice none 0 0] 29) = w1 ∧
    Hid (ModV w1 (.agg #[.int .u64 (p : Int), .int .i64 (W : Int), .slice A n c]) n W M) ∧ Hid (Blk w1 w.heap.size 29 #[.int .u64 p, .int .i64 W, .slice A n c]) ∧
    Hid (Blk w1 (w.heap.size + 1) 29 #[.int .u64 0, .int .i64 0, .slice none 0 0]) ∧ Hid (Q w w1) ∧ n ≤ c ∧
    w1.cell? ⟨w.heap.size, 0, none⟩ = some (.int .u64 (p : Int)) ∧ w1.cell? ⟨w.heap.size, 1, none⟩ = some (.int .i64 (W : Int)) ∧ w1.cell? ⟨w.heap.size, 2, none⟩ = some (.slice A n c) := by
  obtain ⟨A, c, rfl, hR⟩ := h
  have hq : Q w ((w.alloc (.cells #[.int .u64 p, .int .i64 W, .slice A n c] 29)).alloc (.cells #[.int .u64 0, .int .i64 0, .slice none 0 0] 29)) := ((Q.refl w).alloc _).alloc _
  have hb := (Blk.new w 29 #[.int .u64 (p : Int), .int .i64 (W : Int), .slice A n c]).alloc (.cells #[.int .u64 0, .int .i64 0, .slice none 0 0] 29)
  have hb2 := Blk.new' (w.alloc (.cells #[.int .u64 p, .int .i64 W, .slice A n c] 29)) 29 #[.int .u64 0, .int .i64 0, .slice none 0 0] (k := w.heap.size + 1) (by simp)
  obtain ⟨b0, b1, b2⟩ := hb.three'
  exact ⟨A, c, _, rfl, rfl, ⟨A, c, rfl, hR.q hq⟩, hb, hb2, hq, hR.cap, b0, b1, b2⟩
def DetP (w : World) (d : Fin p) (er : Nat) (e : Ending) (w' : World) : Prop := e = .returned (.tuple #[.int .u64 ((d : Nat) : Int), .int .i64 (er : Nat)]) ∧ Q w w'
set_option maxHeartbeats 1000000 in
set_option maxRecDepth 100000 in
theorem det_any (hp : Fp p) (v : Value) (n : Nat) (M : Mt p) (w : World) (h : ModV w v n n M) (hn : n ≤ 4096) :
    Calls Try.prog 16 #[v] w (DetP w (detOf n (rf n n M)) 0) := by
  have HP := Lib.hid hp
  obtain ⟨A, c, w1, rfl, hw1, HM, HB, HQ, hcap, b0, b1, b2⟩ := modbox h
  have hrn := (rf_inv hp n n M).rn
  obtain ⟨s, hs⟩ : ∃ s, rf n n M = s := ⟨_, rfl⟩
  rw [hs] at hrn ⊢
  obtain ⟨X, r, pv, dt⟩ := s
  dsimp only at hrn
  have HS := Lib.hid hs
  clear h hp hs
  by_cases hlt : r < n
  · have hd : Hid (detOf n (⟨X, r, pv, dt⟩ : St p) = 0) := by show _ = _; unfold detOf; rw [if_pos hlt]
    go_enter Try.func16, Try.ntmps16
    go_wp2_with fail
    clear hw1
    go_region_held3 (fun w' => w'.cell? ⟨w.heap.size, 0, none⟩ = some (.int .u64 p) ∧ w'.cell? ⟨w.heap.size, 1, none⟩ = some (.int .i64 n) ∧ w'.cell? ⟨w.heap.size, 2, none⟩ = some (.slice A n c)) (first | exact ⟨d0, d1, d2⟩ | exact ⟨c0, c1, c2⟩ | go_keep)
      (first | (go_at_call 48; refine (clone_any _ n n M _ (HM.out.q (Q.refl w1).drew) hn hn).mono ?_; rintro e w2 ⟨g, hs, gs, rfl, hO, hq2⟩; obtain ⟨c0, c1, c2⟩ := (HB.out.q ((Q.refl w1).drew.trans hq2)).three') | (go_at_call 49; refine (reduce_any HP.out _ g n n n n hs gs M _ hO (Nat.le_refl _) (Nat.le_refl _) hn hn hq2.size).mono ?_; rintro e w3 hr; rw [show run iv n n (ini M) = ⟨X, r, pv, dt⟩ from HS.out] at hr; obtain ⟨Ap, cp, hs3, gs3, rfl, hS, _, hq3⟩ := redq hq2 rfl hr; obtain ⟨d0, d1, d2⟩ := (HB.out.q ((Q.refl w1).drew.trans hq3)).three'))
    all_goals
      go_wp2_with fail
      go_ret2
      exact ⟨by rw [hd.out, fzero_val]; rfl, HQ.out.trans ((Q.refl w1).drew.trans hq3)⟩
  · have hd : Hid (detOf n (⟨X, r, pv, dt⟩ : St p) = dt) := by show _ = _; unfold detOf; rw [if_neg hlt]
    go_enter Try.func16, Try.ntmps16
    go_wp2_with fail
    clear hw1
    go_region_held3 (fun w' => w'.cell? ⟨w.heap.size, 0, none⟩ = some (.int .u64 p) ∧ w'.cell? ⟨w.heap.size, 1, none⟩ = some (.int .i64 n) ∧ w'.cell? ⟨w.heap.size, 2, none⟩ = some (.slice A n c)) (first | exact ⟨d0, d1, d2⟩ | exact ⟨c0, c1, c2⟩ | go_keep)
      (first | (go_at_call 48; refine (clone_any _ n n M _ (HM.out.q (Q.refl w1).drew) hn hn).mono ?_; rintro e w2 ⟨g, hs, gs, rfl, hO, hq2⟩; obtain ⟨c0, c1, c2⟩ := (HB.out.q ((Q.refl w1).drew.trans hq2)).three') | (go_at_call 49; refine (reduce_any HP.out _ g n n n n hs gs M _ hO (Nat.le_refl _) (Nat.le_refl _) hn hn hq2.size).mono ?_; rintro e w3 hr; rw [show run iv n n (ini M) = ⟨X, r, pv, dt⟩ from HS.out] at hr; obtain ⟨Ap, cp, hs3, gs3, rfl, hS, _, hq3⟩ := redq hq2 rfl hr; obtain ⟨d0, d1, d2⟩ := (HB.out.q ((Q.refl w1).drew.trans hq3)).three'))
    all_goals
      go_wp2_with fail
      go_ret2
      exact ⟨by rw [hd.out]; rfl, HQ.out.trans ((Q.refl w1).drew.trans hq3)⟩
set_option maxRecDepth 100000 in
theorem det_shape (v : Value) (n W : Nat) (M : Mt p) (w : World) (h : ModV w v n W M) (_ : n ≤ 4096) (_ : W ≤ 4096) (hne : n ≠ W) :
    Calls Try.prog 16 #[v] w (DetP w (0 : Fin p) 50) := by
  obtain ⟨A, c, w1, rfl, hw1, HM, HB, HQ, hcap, b0, b1, b2⟩ := modbox h
  have hb : ((n : Int) != (W : Int)) = true := by rw [bne_iff_ne]; omega
  clear h
  go_enter Try.func16, Try.ntmps16
  go_wp2_with fail
  go_ret2
  exact ⟨by rw [fzero_val]; rfl, HQ.out⟩
def FormP (w : World) (W : Nat) (s : St p) (e : Ending) (w' : World) : Prop := ∃ v A c, e = .returned (.tuple #[v, .slice A s.r c]) ∧ ModO w.heap.size w' v s.r W s.M ∧ RowO w.heap.size w' 3 A s.r c (i64s s.pv) ∧ Q w w'
set_option maxRecDepth 100000 in
theorem form_end {p : Nat} {w w1 w3 w4 : World} {g n W r cp : Nat} {hs : Array Value} {gs : Nat → Nat} {X : Mt p} {pv : Nat → Nat} {dt : Fin p} {Ap : Option Addr} (hu : Upd (w.heap.size + 1) w3 w4) (hO : OwnM w1.heap.size w3 g hs gs n W X) (hR : RowO w1.heap.size w3 3 Ap r cp (i64s pv))
    (hq : Q w w1) (hq3 : Q w1 w3) (hz : w.heap.size + 1 < w1.heap.size) (hr : r ≤ n) (hn : n ≤ 4096) (hW : W ≤ 4096) :
    FormP w W ⟨X, r, pv, dt⟩ (.returned (.tuple #[.agg #[.int .u64 (p : Int), .int .i64 (W : Int), .slice (some ⟨g, 0, none⟩) r n], .slice Ap r cp])) w4 := by
  refine ⟨_, Ap, cp, rfl, ⟨some ⟨g, 0, none⟩, n, rfl, (((hO.away hu hz).take hr).rowsO (by omega) (by omega) hr).mono hq.size⟩, (hR.away hu hz).mono hq.size, ?_⟩
  exact Below.trans (hq.trans hq3) (hu.below (by omega))
set_option maxHeartbeats 1000000 in
set_option maxRecDepth 100000 in
theorem rref_any (hp : Fp p) (v : Value) (n W : Nat) (M : Mt p) (w : World) (h : ModV w v n W M) (hn : n ≤ 4096) (hW : W ≤ 4096) :
    Calls Try.prog 14 #[v] w (FormP w W (rf n W M)) := by
  have HP := Lib.hid hp
  obtain ⟨A, c, w1, rfl, hw1, HM, HB, HB2, HQ, hcap, b0, b1, b2⟩ := modbox2 h
  have hrn := (rf_inv hp n W M).rn
  obtain ⟨s, hs⟩ : ∃ s, rf n W M = s := ⟨_, rfl⟩
  rw [hs] at hrn ⊢
  obtain ⟨X, r, pv, dt⟩ := s
  dsimp only at hrn
  have HS := Lib.hid hs
  clear h hp hs
  go_enter Try.func14, Try.ntmps14
  go_wp2_with fail
  clear hw1
  refine (clone_any _ n W M _ HM.out hn hW).mono ?_
  rintro e w2 ⟨g, hs, gs, rfl, hO, hq2⟩
  obtain ⟨c0, c1, c2⟩ := (HB.out.q hq2).three'
  have HO := Lib.hid hO
  have HQ2 := Lib.hid hq2
  clear hO hq2 b0 b1 b2
  go_wp2_with fail
  refine (reduce_any HP.out _ g n n W W hs gs M _ HO.out (Nat.le_refl _) (Nat.le_refl _) hn hW HQ2.out.size).mono ?_
  rintro e w3 hr
  rw [show run iv n W (ini M) = ⟨X, r, pv, dt⟩ from HS.out] at hr
  obtain ⟨Ap, cp, hs3, gs3, rfl, hS, hO3, hq3⟩ := redq HQ2.out rfl hr
  dsimp only at hS hO3
  obtain ⟨d0, d1, d2⟩ := (HB.out.q hq3).three'
  have hB3 := HB2.out.q hq3
  obtain ⟨e0, e1, e2⟩ := hB3.three'
  have f0 := hB3.frozen 0
  have f1 := hB3.frozen 1
  have f2 := hB3.frozen 2
  have hcn : (r : Int) ≤ (n : Int) := by omega
  have HSP := Lib.hid hS
  have HO3 := Lib.hid hO3
  have HQ3 := Lib.hid hq3
  have HB3 := Lib.hid hB3
  clear hr hS hO3 hq3 c0 c1 c2 hB3
  go_wp2_with fail
  go_region
  all_goals
    go_wp2_with fail
    refine bodyPost_ret (v := .tuple #[.agg #[.int .u64 p, .int .i64 W, .slice (some ⟨g, 0, none⟩) r n], .slice Ap r cp]) (by simp [results, Try.results14, go_sem, e0, e1, e2]) rfl ?_
    exact form_end ((((Upd.refl _ _).setCell _ _).setCell _ _).setCell _ _).drew HO3.out HSP.out HQ.out HQ3.out HB2.out.lt hrn hn hW
end
end Go.Proofs.Ytcjpjnneimjfiaa
