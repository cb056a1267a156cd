/-
  clone and beside.
-/
import Derived.Test.YtcjpjnneimjfiaaMmD
import Derived.Test.YtcjpjnneimjfiaaCopy
import Derived.IntWalk
namespace Go.Proofs.Ytcjpjnneimjfiaa
open Go.RowKit
section
variable {p : Nat} [NeZero p]

set_option maxRecDepth 100000 in
theorem own_start {p : Nat} {w1 : World} {g base n W : Nat} (M : Mt p) (h : Blk w1 g 44 (Array.replicate n (.slice none 0 0))) (hb : base ≤ g) :
    OwnM base w1 g (Array.replicate n (.slice none 0 0)) (fun _ => 0) 0 W M :=
  ⟨h, hb, fun i hi => by omega, fun _ i hi => by omega, fun _ i j hi => by omega⟩
def OwnP (w : World) (n W : Nat) (M : Mt p) (e : Ending) (w' : World) : Prop := ∃ g hs gs, e = .returned (.slice (some ⟨g, 0, none⟩) n n) ∧ OwnM w.heap.size w' g hs gs n W M ∧ Q w w'
set_option maxRecDepth 100000 in
/-- One row more. -/
theorem clone_round {p : Nat} {w wr w2 : World} {g : Nat} {hs : Array Value} {gs : Nat → Nat} {n W i c : Nat} {M : Mt p} {A : Option Addr} (h : OwnM w.heap.size wr g hs gs i W M) (hs2 : hs.size = n) (hq : Q w wr)
    (hR : RowO wr.heap.size w2 26 A W c (u64 (M i))) (hq2 : Q wr w2) (hi : i < n) :
    (∃ (i1 : Nat) (hs : Array Value) (gs : Nat → Nat), Value.int .i64 ((i : Int) + 1) = .int .i64 i1 ∧ i1 ≤ n ∧ hs.size = n ∧ OwnM w.heap.size (w2.setCell ⟨g, i, none⟩ (.slice A W c)) g hs gs i1 W M ∧ Q w (w2.setCell ⟨g, i, none⟩ (.slice A W c))) ∧
      n - (intOf (Value.int .i64 ((i : Int) + 1))).toNat < n - (intOf (Value.int .i64 (i : Int))).toNat := by
  obtain ⟨gs', h2⟩ := h.push hR hq2 (by omega)
  refine ⟨⟨i + 1, _, gs', rfl, by omega, by simp [hs2], h2, (hq.trans hq2).setCell h.bg _⟩, ?_⟩
  simp only [intOf]; omega
set_option maxHeartbeats 1000000 in
set_option maxRecDepth 100000 in
theorem clone_any {p : Nat} (v : Value) (n W : Nat) (M : Mt p) (w : World) (h : ModV w v n W M) (hn : n ≤ 4096) (hW : W ≤ 4096) :
    Calls Try.prog 48 #[v] w (OwnP w n W M) := by
  obtain ⟨A, c, rfl, hR⟩ := h
  obtain ⟨i0, hi, hz0, hz1, hz2⟩ := info_parts info_row
  have hmk := mk_any 27 44 i0 (.slice none 0 0) 24 Try.underlying27 hi hz0 hz1 hz2 (by omega) rfl (n : Int) n rfl (by omega)
  have hcap := hR.cap
  have HR := Lib.hid hR
  clear hR
  go_enter Try.func48, Try.ntmps48
  go_wp2_with fail
  clear hmk
  obtain ⟨w1, hw1⟩ : ∃ w1, w.alloc (.cells #[.int .u64 p, .int .i64 W, .slice A n c] 29) = w1 := ⟨_, rfl⟩
  have hq1 : Q w w1 := hw1 ▸ (Q.refl w).alloc _
  have hz : w1.heap.size = w.heap.size + 1 := by rw [← hw1]; simp
  rw [hw1]
  have HZ := Lib.hid hz
  clear hw1 hz
  go_loopw [13] (fun iv' wr => ∃ (i : Nat) (hs : Array Value) (gs : Nat → Nat), iv' = .int .i64 i ∧ i ≤ n ∧ hs.size = n ∧ OwnM w.heap.size wr (w.heap.size + 1) hs gs i W M ∧ Q w wr) (fun iv' _ => n - (intOf iv').toNat)
  case atStart => exact ⟨0, _, _, rfl, Nat.zero_le _, by simp, own_start M (Blk.new' _ _ _ HZ.out) (by omega), hq1.alloc _⟩
  case round =>
    obtain ⟨i, hs, gs, rfl, hin, hsz, hO, hq⟩ := hrel
    have HSZ := Lib.hid hsz
    clear hsz
    by_cases hlt : i < n
    · obtain ⟨b, o, r, rfl, hb, hc1, hSl⟩ := (HR.out.q hq).at hlt
      obtain ⟨B, cb, rfl, hSc⟩ := hSl
      obtain ⟨u, hu⟩ : ∃ u, hs[i]? = some u := ⟨_, Array.getElem?_eq_getElem (by rw [HSZ.out]; exact hlt)⟩
      have k1 := (hO.head.cell i).trans hu
      have f1 := hO.head.frozen i
      have HO := Lib.hid hO
      have HSC := Lib.hid hSc
      have HQ := Lib.hid hq
      clear hO hSc hq hu
      go_wp2_with fail
      refine (clone1 B W cb (u64 (M i)) _ HSC.out (fun _ _ => rfl) (by omega)).mono ?_
      rintro e w2 ⟨A2, c2, rfl, hR2, hq2⟩
      have k1 := hq2.cell k1
      have f1 := (hq2.frozen (p := ⟨w.heap.size + 1, i, none⟩) HO.out.head.lt).trans f1
      have hz2 : w.heap.size + 1 < w2.heap.size := (HO.out.head.q hq2).lt
      have HR2 := Lib.hid hR2
      have HQ2 := Lib.hid hq2
      clear hR2 hq2
      go_wp2_with fail
      exact clone_round HO.out HSZ.out HQ.out HR2.out HQ2.out hlt
    · obtain rfl : i = n := by omega
      have HO := Lib.hid hO
      have HQ := Lib.hid hq
      clear hO hq
      go_wp2_with fail
      go_ret
      exact ⟨_, hs, gs, rfl, HO.out, HQ.out⟩

/-- The rows of the wide matrix before i, then one that is still zero. -/
def bsd0 (W i : Nat) (M : Mt p) : Mt p := fun j k => if j = i then 0 else bsd W M j k
def bsd1 (W i : Nat) (M : Mt p) : Mt p := fun j k => if j = i then (if k < W then M i k else 0) else bsd W M j k
set_option maxRecDepth 100000 in
theorem zeros_rowO {w1 : World} {base N g : Nat} {M : Mt p} {i : Nat} (hM : ∀ k, M i k = 0) (h : Blk w1 g 26 (Array.replicate N (.int .u64 0))) (hb : base ≤ g) (hN : N ≤ 140737488355328) :
    RowO base w1 26 (some ⟨g, 0, none⟩) N N (u64 (M i)) :=
  ⟨Nat.le_refl _, hN, fun _ => ⟨g, _, rfl, hb, h, fun k hk => by unfold u64; rw [hM, fzero_val]; simp [hk]⟩⟩
set_option maxRecDepth 100000 in
/-- The new row laid into its place, still zero. -/
theorem beside_lay {w wr w2 : World} {g G : Nat} {hs : Array Value} {gs : Nat → Nat} {n W N i : Nat} {M : Mt p} (h : OwnM w.heap.size wr g hs gs i N (bsd W M)) (hs2 : hs.size = n)
    (hb : Blk w2 G 26 (Array.replicate N (.int .u64 0))) (hG : wr.heap.size ≤ G) (hq : Q wr w2) (hN : N ≤ 8192) (hi : i < n) (hN0 : 0 < N) :
    ∃ hs' gs', OwnM w.heap.size (w2.setCell ⟨g, i, none⟩ (.slice (some ⟨G, 0, none⟩) N N)) g hs' gs' (i + 1) N (bsd0 W i M) ∧ hs'.size = n ∧ gs' i = G ∧ hs'[i]? = some (.slice (some ⟨G, 0, none⟩) N N) := by
  have h1 : OwnM w.heap.size wr g hs gs i N (bsd0 W i M) := h.congr (fun j k hj _ => by unfold bsd0; rw [if_neg (by omega)])
  obtain ⟨gs', h2⟩ := h1.push (zeros_rowO (M := bsd0 W i M) (fun k => by unfold bsd0; rw [if_pos rfl]) hb hG (by omega)) hq (by omega)
  have e : (hs.setIfInBounds i (.slice (some ⟨G, 0, none⟩) N N))[i]? = some (.slice (some ⟨G, 0, none⟩) N N) := by simp [hs2, hi]
  obtain ⟨A, c, e1, _, e2⟩ := h2.row i (by omega)
  rw [e] at e1
  injection e1 with e1
  injection e1 with e1 _ _
  rw [e2 hN0] at e1
  injection e1 with e1
  injection e1 with e1
  exact ⟨_, gs', h2, by simp [hs2], e1.symm, e⟩
set_option maxRecDepth 100000 in
theorem bsd1_cells {W N i : Nat} {M : Mt p} {cs : Array Value} (_ : W ≤ N) (h : ∀ j, j < (Array.replicate N (Value.int .u64 0)).size → cs[j]? = if j < W then some (u64 (M i) j) else (Array.replicate N (Value.int .u64 0))[j]?) :
    Cells cs N (fun k => if k < W then M i k else 0) := by
  intro j hj
  rw [h j (by simpa using hj)]
  by_cases e : j < W
  · rw [if_pos e]; dsimp only; rw [if_pos e]; rfl
  · rw [if_neg e]; dsimp only; rw [if_neg e, fzero_val]; simp [hj]
set_option maxRecDepth 100000 in
theorem bsd_last {W i k : Nat} {M : Mt p} : bsd W M i k = if k = W + i then 1 else if k < W then M i k else 0 := by
  unfold bsd idm; grind
set_option maxRecDepth 100000 in
theorem beside_round {w w2 w3 : World} {g G i n W N : Nat} {hs : Array Value} {gs : Nat → Nat} {M : Mt p} {cs : Array Value} {o : Value} (eG : gs i = G) (h : OwnM w.heap.size w2 g hs gs (i + 1) N (bsd0 W i M)) (hs2 : hs.size = n) (hq : Q w w2) (hu : Upd (G) w2 w3)
    (hb : Blk w3 (G) 26 cs) (hc : Cells cs N (fun k => if k < W then M i k else 0)) (hi : i < n) (hN : W + i < N) (hG : w.heap.size ≤ G) (h1 : ((1 : Fin p) : Nat) = 1) (ho : o = .int .u64 1) :
    (∃ (i1 : Nat) (hs : Array Value) (gs : Nat → Nat), Value.int .i64 ((i : Int) + 1) = .int .i64 i1 ∧ i1 ≤ n ∧ hs.size = n ∧ OwnM w.heap.size (w3.setCell ⟨G, W + i, none⟩ o).drew g hs gs i1 N (bsd W M) ∧ Q w (w3.setCell ⟨G, W + i, none⟩ o).drew) ∧
      n - (intOf (Value.int .i64 ((i : Int) + 1))).toNat < n - (intOf (Value.int .i64 (i : Int))).toNat := by
  subst ho
  subst eG
  have hu2 : Upd (gs i) w2 (w3.setCell ⟨gs i, W + i, none⟩ (.int .u64 1)).drew := (hu.setCell (W + i) (.int .u64 1)).drew
  have hc2 : Cells (cs.setIfInBounds (W + i) (.int .u64 (((1 : Fin p) : Nat) : Int))) N (bsd W M i) := hc.set hN (fun j _ => bsd_last)
  rw [h1] at hc2
  have h3 := h.upd (by omega) (show i < i + 1 by omega) hu2 ((hb.set (W + i) _).drew) hc2
  refine ⟨⟨i + 1, hs, gs, rfl, by omega, hs2, h3.congr (fun j k hj _ => ?_), ?_⟩, ?_⟩
  · by_cases e : j = i
    · rw [if_pos e, e]
    · rw [if_neg e]; unfold bsd0; rw [if_neg e]
  · exact Below.trans hq (hu2.below hG)
  · simp only [intOf]; omega
set_option maxHeartbeats 1000000 in
set_option maxRecDepth 100000 in
theorem beside_any (hp : Fp p) (v : Value) (n W : Nat) (M : Mt p) (w : World) (h : ModV w v n W M) (hn : n ≤ 4096) (hW : W ≤ 4096) :
    Calls Try.prog 54 #[v] w (OwnP w n (W + n) (bsd W M)) := by
  obtain ⟨A, c, rfl, hR⟩ := h
  obtain ⟨i0, hi, hz0, hz1, hz2⟩ := info_parts info_row
  obtain ⟨j0, hj, hy0, hy1, hy2⟩ := info_parts info_u64
  have hmk := mk_any 27 44 i0 (.slice none 0 0) 24 Try.underlying27 hi hz0 hz1 hz2 (by omega) rfl (n : Int) n rfl (by omega)
  have hmk2 := mk_any 44 26 j0 (.int .u64 0) 8 Try.underlying44 hj hy0 hy1 hy2 (by omega) rfl ((W : Int) + (n : Int)) (W + n) (by omega) (by omega)
  have hcap := hR.cap
  have h1p := fone_val hp
  have H1 := Lib.hid h1p
  have HR := Lib.hid hR
  clear hR h1p
  go_enter Try.func54, Try.ntmps54
  go_wp2_with fail
  clear hmk
  obtain ⟨w1, hw1⟩ : ∃ w1, w.alloc (.cells #[.int .u64 p, .int .i64 W, .slice A n c] 29) = w1 := ⟨_, rfl⟩
  have hq1 : Q w w1 := hw1 ▸ (Q.refl w).alloc _
  have hz : w1.heap.size = w.heap.size + 1 := by rw [← hw1]; simp
  have hB : Blk w1 w.heap.size 29 #[.int .u64 p, .int .i64 W, .slice A n c] := hw1 ▸ Blk.new w _ _
  rw [hw1]
  have HZ := Lib.hid hz
  have HB := Lib.hid hB
  have HQ1 := Lib.hid hq1
  clear hw1 hz hB hq1
  go_loopw [13] (fun iv' wr => ∃ (i : Nat) (hs : Array Value) (gs : Nat → Nat), iv' = .int .i64 i ∧ i ≤ n ∧ hs.size = n ∧ OwnM w1.heap.size wr (w.heap.size + 1) hs gs i (W + n) (bsd W M) ∧ Q w1 wr) (fun iv' _ => n - (intOf iv').toNat)
  case atStart => exact ⟨0, _, _, rfl, Nat.zero_le _, by simp, own_start _ (Blk.new' _ _ _ HZ.out) (by rw [HZ.out]; omega), (Q.refl _).alloc _⟩
  case round =>
    obtain ⟨i, hs, gs, rfl, hin, hsz, hO, hq⟩ := hrel
    have HSZ := Lib.hid hsz
    clear hsz
    have hBr := HB.out.q hq
    have b1 := hBr.cell 1
    have b2 := hBr.cell 2
    by_cases hlt : i < n
    · obtain ⟨b, o, r, rfl, hb, hc1, hSl⟩ := HR.out.at hlt
      have hc1 := (HQ1.out.trans hq).cell hc1
      obtain ⟨B, cb, rfl, hSc⟩ := hSl
      obtain ⟨u, hu⟩ : ∃ u, hs[i]? = some u := ⟨_, Array.getElem?_eq_getElem (by rw [HSZ.out]; exact hlt)⟩
      have k1 := (hO.head.cell i).trans hu
      have f1 := hO.head.frozen i
      have hgl := hO.head.lt
      have k1a := fun o => ((Q.refl wr).alloc o).cell k1
      have f1a := fun o => (((Q.refl wr).alloc o).frozen (p := ⟨w.heap.size + 1, i, none⟩) hgl).trans f1
      have HO := Lib.hid hO
      have HSC := Lib.hid hSc
      have HQ := Lib.hid hq
      have HBR := Lib.hid hBr
      clear hO hSc hq hu hBr
      obtain ⟨hs', gs', hO2, hs2, hg2, he2⟩ := beside_lay HO.out HSZ.out (w2 := wr.alloc (.cells (Array.replicate (W + n) (.int .u64 0)) 26)) (Blk.new _ _ _) (Nat.le_refl _) ((Q.refl wr).alloc _) (show W + n ≤ 8192 by omega) hlt (by omega)
      rw [World.setCell_alloc_past _ _ _ _ hgl] at hO2
      have hB2 : Blk ((wr.setCell ⟨w.heap.size + 1, i, none⟩ (.slice (some ⟨wr.heap.size, 0, none⟩) (W + n) (W + n))).alloc (.cells (Array.replicate (W + n) (.int .u64 0)) 26)) wr.heap.size 26 (Array.replicate (W + n) (.int .u64 0)) := Blk.new' _ _ _ (by simp [World.setCell])
      have hSC2 : Sc ((wr.setCell ⟨w.heap.size + 1, i, none⟩ (.slice (some ⟨wr.heap.size, 0, none⟩) (W + n) (W + n))).alloc (.cells (Array.replicate (W + n) (.int .u64 0)) 26)) B W cb (u64 (M i)) := HSC.out.q (((HQ1.out.trans HQ.out).setCell (by dsimp only; omega) _).alloc _)
      have HO2 := Lib.hid hO2
      have HS2 := Lib.hid hs2
      have HG2 := Lib.hid hg2
      have HE2 := Lib.hid he2
      have HB2 := Lib.hid hB2
      have HSC2 := Lib.hid hSC2
      clear hO2 hs2 hg2 he2 hB2 hSC2
      go_wp2_with (with_reducible refine wpList_copy0 rfl _ _ rfl wr.heap.size (W + n) (W + n) B W cb (u64 (M i)) rfl rfl _ HB2.out HSC2.out (fun _ _ => rfl) (by omega) (by simp) ?_; intro w3 cs3 hu3 hb3 hc3)
      have hne : w.heap.size + 1 ≠ wr.heap.size := by omega
      have k3 := ((hu3.blk HO2.out.head hne).cell i).trans HE2.out
      have b3 := (hu3.blk (((HBR.out.far (p := ⟨w.heap.size + 1, i, none⟩) (by dsimp only; omega) _).alloc _)) (by omega)).cell 1
      have hWi : W + i < W + n := by omega
      have k4 : w3.cell? ⟨wr.heap.size, W + i, none⟩ = some (.int .u64 0) := by
        rw [hb3.cell, hc3 (W + i) (by simpa using hlt), if_neg (by omega)]; simp [hlt]
      have f4 := hb3.frozen (W + i)
      have hWi2 : (W : Int) + (i : Int) < (W : Int) + (n : Int) := by omega
      have hWi0 : (0 : Int) ≤ (W : Int) + (i : Int) := by omega
      have HU3 := Lib.hid hu3
      have HB3 := @Lib.hid _ hb3
      have HC3 := @Lib.hid _ hc3
      clear hu3 hb3 hc3 k1a f1a k1 f1 b1 b2 hmk2
      have wr1 : IntKind.i64.wrap ((W : Int) + (i : Int)) = (W : Int) + (i : Int) := IntWalk.i64_in _ (by omega)
      have tn1 : ((W : Int) + (i : Int)).toNat = W + i := by omega
      go_region
      all_goals clear wr1 tn1
      all_goals
        go_wp2_with fail
        exact beside_round HG2.out HO2.out HS2.out (((HQ.out).setCell (by rw [HZ.out]; dsimp only; omega) _).alloc _) HU3.out HB3.out (bsd1_cells (by omega) HC3.out) hlt hWi (by rw [HZ.out]; omega) H1.out rfl
    · obtain rfl : i = n := by omega
      have HO := Lib.hid hO
      have HQ := Lib.hid hq
      clear hO hq
      go_wp2_with fail
      go_ret
      exact ⟨_, hs, gs, rfl, HO.out.mono HQ1.out.size, HQ1.out.trans HQ.out⟩
end
end Go.Proofs.Ytcjpjnneimjfiaa
