/-
  slices.Clone of a row, search, subtract.
  subtract.
  What holds while reduce runs; clear of a row of zeros.
-/
import Derived.Test.YtcjpjnneimjfiaaSl
import Derived.StillTailTactics
import Derived.Deep.RegionHeld3
import Derived.Deep.RegionLaw
import Derived.Deep.DrawnRows
import Derived.Laws.CopyRow
namespace Go.Proofs.Ytcjpjnneimjfiaa
open Go.RowKit

def CloneP (w : World) (n : Nat) (φ : Nat → Value) (e : Ending) (w' : World) : Prop := ∃ A c, e = .returned (.slice A n c) ∧ RowO w.heap.size w' 26 A n c φ ∧ Q w w'
set_option maxRecDepth 100000 in
theorem oneCell_tab {φ : Nat → Value} {n : Nat} (h : ∀ k, k < n → (φ k).oneCell' = true) : ∀ u ∈ tab φ n, u.oneCell' = true := by
  intro u hu
  unfold tab at hu
  obtain ⟨k, hk, rfl⟩ := List.mem_map.1 hu
  exact h k (List.mem_range.1 hk)
set_option maxRecDepth 100000 in
theorem clone_close {w w1 : World} {n : Nat} {φ : Nat → Value} {v : Value} {t : TypeId} (hn : n ≤ 140737488355328) (hown : w1.ownsRow w.heap.size 26 1 v (0 + n) ([] ++ tab φ n)) (hg : (w.alloc (.cells #[] t)).grownBy w1 (some w.heap.size)) :
    CloneP w n φ (.returned v) w1 := by
  rw [Nat.zero_add, List.nil_append] at hown
  obtain ⟨A, c, rfl, h⟩ := own_rowO hown rfl hn
  exact ⟨A, c, rfl, h, grown_q ((Q.refl w).alloc _) hg (fun k e => by injection e with e; omega)⟩
set_option maxHeartbeats 400000 in
set_option maxRecDepth 100000 in
theorem clone1 (A : Option Addr) (n c : Nat) (φ : Nat → Value) (w : World) (h : Sc w A n c φ) (h1 : ∀ k, k < n → (φ k).oneCell' = true) (hn : n ≤ 1099511627776) :
    Calls Try.prog 55 #[.slice A n c] w (CloneP w n φ) := by
  obtain ⟨i0, hi, hz0, hz1, hz2⟩ := info_parts info_u64
  have hcap := h.cap
  have hnil := fun (w : World) (a : Option Addr) (n c : Nat) => Lib.run_eql_slice_nil (P := Try.prog) w 44 26 a n c 0 0 Try.underlying44
  cases A with
  | none =>
    have h0 : n = 0 := by
      rcases Nat.eq_zero_or_pos n with g | g
      · exact g
      · obtain ⟨b, o, e, _⟩ := h.open g
        cases e
    subst h0
    go_enter Try.func55, Try.ntmps55
    go_wp2_with fail
    go_ret
    exact ⟨none, 0, rfl, ⟨Nat.le_refl _, Nat.zero_le _, fun g => by omega⟩, Q.refl _⟩
  | some a =>
    have H := Lib.hid h
    have H1 := @Lib.hid _ h1
    clear h h1
    go_enter Try.func55, Try.ntmps55
    go_wp2_with (at_builtin; go_must (refine wpList_app rfl _ _ 44 rfl w.heap.size 26 i0 (.int .u64 0) 8 Try.underlying44 hi hz0 hz1 hz2 rfl _ 0 [] rfl (own_new _ _ _ _ rfl (Nat.le_refl _)) (some a) n c (tab φ n) rfl (tab_len _ _) ((H.out.q ((Q.refl w).alloc _)).news) (oneCell_tab H1.out) (by unfold maxLen; omega) (by omega) (by simp) ?_); intro v' w1 hown' hgrow hat)
    go_ret
    exact clone_close (by omega) hown' hgrow

section
variable {p : Nat} [NeZero p]
set_option maxRecDepth 100000 in
theorem beq_fin (a : Fin p) : (((a : Nat) : Int) == 0) = decide (a = 0) := by
  rw [Bool.eq_iff_iff, beq_iff_eq, decide_eq_true_iff, f_eq0]; omega
set_option maxRecDepth 100000 in
theorem bne_fin (a : Fin p) : (((a : Nat) : Int) != 0) = !decide (a = 0) := by
  rw [bne, beq_fin]
def NumW (w : World) (z : Int) (e : Ending) (w' : World) : Prop := e = .returned (.int .i64 z) ∧ w = w'
/-- What search answers. -/
def atZ (M : Mt p) (n r c : Nat) : Int := if fnd M c (n - r) r < n then (fnd M c (n - r) r : Int) else -1
set_option maxHeartbeats 400000 in
set_option maxRecDepth 100000 in
theorem search_any (A : Option Addr) (n cp W : Nat) (M : Mt p) (r c : Nat) (w : World) (h : Rows64 w A n cp W M) (hr : r ≤ n) (hc : c < W) (hn : n ≤ 1099511627776) :
    Calls Try.prog 70 #[.slice A n cp, .int .i64 r, .int .i64 c] w (NumW w (atZ M n r c)) := by
  have hcap := h.cap
  have h0 := fnd_spec M c (n - r) r
  obtain ⟨t, ht⟩ : ∃ t, fnd M c (n - r) r = t := ⟨_, rfl⟩
  have e : atZ M n r c = if t < n then (t : Int) else -1 := by unfold atZ; rw [ht]
  rw [ht] at h0
  obtain ⟨h1, h2, h3, h4⟩ := h0
  have E := Lib.hid e
  have H3 := @Lib.hid _ h3
  have H4 := @Lib.hid _ h4
  clear e ht h3 h4
  go_enter Try.func70, Try.ntmps70
  go_wp2_with fail
  go_step3
  go_wp2_with fail
  go_step3
  go_wp2_with fail
  go_loop [7, 8] (fun av iv => ∃ i : Nat, iv = .int .i64 i ∧ av = .int .i64 (-1) ∧ r ≤ i ∧ i ≤ t ∧ i ≤ n) (fun _ iv => n - (intOf iv).toNat)
  case atStart => exact ⟨r, rfl, rfl, Nat.le_refl _, h1, hr⟩
  case round =>
    obtain ⟨i, rfl, rfl, hri, hit, hin⟩ := hrel
    by_cases hlt : i < n
    · obtain ⟨b, o, v, rfl, hb, hc1, hS⟩ := h.at hlt
      obtain ⟨b2, o2, c2, rfl, hcc, hb2, hc2⟩ := hS.at64 hc
      by_cases hz : M i c = 0
      · have hbz : (((M i c : Nat) : Int) != 0) = false := by rw [bne_fin, hz]; simp
        have hit2 : i < t := by
          rcases Nat.lt_or_ge i t with g | g
          · exact g
          · obtain rfl : i = t := by omega
            exact absurd hz (H4.out (by omega))
        have HZ := Lib.hid hz
        clear hz
        go_wp2_with fail
        go_round
        case rel => exact ⟨i + 1, rfl, rfl, by omega, by omega, by omega⟩
        case measure => simp [intOf]; omega
      · have hbz : (((M i c : Nat) : Int) != 0) = true := by rw [bne_fin]; simpa using hz
        have hit2 : t = i := by
          rcases Nat.lt_or_ge i t with g | g
          · exact absurd (H3.out i hri g) hz
          · omega
        subst hit2
        have HZ := Lib.hid hz
        clear hz
        go_wp2_with fail
        go_ret
        exact ⟨ret_int (by rw [E.out, if_pos hlt]), rfl⟩
    · go_wp2_with fail
      go_ret
      exact ⟨ret_int (by rw [E.out, if_neg (by omega)]), rfl⟩
end
end Go.Proofs.Ytcjpjnneimjfiaa
namespace Go.Proofs.Ytcjpjnneimjfiaa
open Go.RowKit
section
variable {p : Nat}

/-- The row behind k elements. -/
def sbt (c : Fin p) (x y : Nat → Fin p) (k : Nat) : Nat → Fin p := fun j => if j < k then x j - c * y j else x j
set_option maxRecDepth 100000 in
theorem sbt_at (c : Fin p) (x y : Nat → Fin p) (k : Nat) : sbt c x y k k = x k := by unfold sbt; rw [if_neg (by omega)]
def Cells (cs : Array Value) (n : Nat) (x : Nat → Fin p) : Prop := ∀ j, j < n → cs[j]? = some (.int .u64 ((x j : Nat) : Int))
set_option maxRecDepth 100000 in
theorem Cells.set {cs : Array Value} {n k : Nat} {x z : Nat → Fin p} {u : Fin p} (h : Cells cs n x) (hk : k < n) (e : ∀ j, j < n → z j = if j = k then u else x j) : Cells (cs.setIfInBounds k (.int .u64 ((u : Nat) : Int))) n z := by
  intro j hj
  have hs : k < cs.size := (Array.getElem?_eq_some_iff.1 (h k hk)).1
  rw [e j hj]
  by_cases hjk : j = k
  · subst hjk; simp [hs]
  · rw [if_neg hjk, Array.getElem?_setIfInBounds_ne (Ne.symm hjk)]; exact h j hj
set_option maxRecDepth 100000 in
theorem Cells.keep {cs : Array Value} {n : Nat} {x z : Nat → Fin p} (h : Cells cs n x) (e : ∀ j, j < n → z j = x j) : Cells cs n z := fun j hj => by rw [e j hj]; exact h j hj
variable [NeZero p]
set_option maxRecDepth 100000 in
theorem sbt_step (c : Fin p) (x y : Nat → Fin p) (k j : Nat) : sbt c x y (k + 1) j = if j = k then x k - c * y k else sbt c x y k j := by
  unfold sbt; grind
def SubP (w : World) (g n : Nat) (x : Nat → Fin p) (e : Ending) (w' : World) : Prop := e = .returned (.tuple #[]) ∧ Upd g w w' ∧ ∃ cs, Blk w' g 26 cs ∧ Cells cs n x
set_option maxRecDepth 100000 in
/-- What one round leaves. -/
theorem sub_close {w wr : World} {g n k : Nat} {c : Fin p} {x y : Nat → Fin p} {cs : Array Value} {u : Value} (hk : k < n) (hb : Blk wr g 26 cs) (hx : Cells cs n (sbt c x y k)) (hu : Upd g w wr) (e : u = .int .u64 ((x k - c * y k : Fin p) : Nat)) :
    (∃ (k1 : Nat) (cs : Array Value), Value.int .i64 ((k : Int) + 1) = .int .i64 k1 ∧ k1 ≤ n ∧ Blk (wr.setCell ⟨g, k, none⟩ u).drew g 26 cs ∧ Cells cs n (sbt c x y k1) ∧ Upd g w (wr.setCell ⟨g, k, none⟩ u).drew) ∧
      n - (intOf (Value.int .i64 ((k : Int) + 1))).toNat < n - (intOf (Value.int .i64 (k : Int))).toNat := by
  subst e
  refine ⟨⟨k + 1, _, rfl, by omega, (hb.set k _).drew, hx.set hk (fun j _ => sbt_step c x y k j), (hu.setCell k _).drew⟩, ?_⟩
  simp only [intOf]; omega

set_option maxHeartbeats 400000 in
set_option maxRecDepth 100000 in
theorem subtract_any (hp : Fp p) (g n cr cb : Nat) (cs : Array Value) (x y : Nat → Fin p) (B : Option Addr) (c : Fin p) (w : World) (hb : Blk w g 26 cs) (hx : Cells cs n x)
    (hy : Sc w B n cb (u64 y)) (hne : ∀ b o, B = some ⟨b, o, none⟩ → 0 < n → b ≠ g) (hn : n ≤ 1099511627776) (hcr : n ≤ cr) :
    Calls Try.prog 58 #[.int .u64 p, .slice (some ⟨g, 0, none⟩) n cr, .slice B n cb, .int .u64 ((c : Nat) : Int)] w (SubP w g n (fun j => x j - c * y j)) := by
  have hcap := hy.cap
  have HP := Lib.hid hp
  have HX := @Lib.hid _ hx
  have HN := @Lib.hid _ hne
  clear hp hx hne
  go_enter Try.func58, Try.ntmps58
  go_wp2
  go_loopw [12] (fun iv wr => ∃ (k : Nat) (cs : Array Value), iv = .int .i64 k ∧ k ≤ n ∧ Blk wr g 26 cs ∧ Cells cs n (sbt c x y k) ∧ Upd g w wr) (fun iv _ => n - (intOf iv).toNat)
  case atStart => exact ⟨0, cs, rfl, Nat.zero_le _, hb, HX.out.keep (fun j _ => by unfold sbt; rw [if_neg (by omega)]), Upd.refl _ _⟩
  case round =>
    obtain ⟨k, cs, rfl, hk, hb, hx, hu⟩ := hrel
    by_cases hlt : k < n
    · have hyw := hu.sc hy HN.out
      obtain ⟨b, o, rfl, hb2, hc2⟩ := hyw.at64 hlt
      have hc1 : wr.cell? ⟨g, k, none⟩ = some (.int .u64 ((x k : Nat) : Int)) := by rw [hb.cell, hx k hlt, sbt_at]
      have hf := hb.frozen k
      have HB := @Lib.hid _ hb
      have HX2 := @Lib.hid _ hx
      have HU := Lib.hid hu
      clear hb hx hu hyw
      by_cases hz : y k = 0
      · have hbz : (((y k : Nat) : Int) != 0) = false := by rw [bne_fin, hz]; simp
        have HZ := Lib.hid hz
        clear hz
        go_wp2_with fail
        refine ⟨⟨k + 1, cs, rfl, by omega, HB.out, HX2.out.keep (fun j hj => ?_), HU.out⟩, ?_⟩
        · rw [sbt_step]
          by_cases e : j = k
          · rw [if_pos e, HZ.out, e, sbt_at, mul0]; grind
          · rw [if_neg e]
        · simp only [intOf]; omega
      · have hbz : (((y k : Nat) : Int) != 0) = true := by rw [bne_fin]; simpa using hz
        have HZ := Lib.hid hz
        clear hz
        go_wp2_with fail
        go_region_law
          (first | (go_simp; go_at_call 71; refine (f_mul _ HP.out c (y k)).mono ?_; rintro e w' ⟨rfl, rfl⟩) | (go_simp; go_at_call 59; refine (f_sub _ HP.out (x k) (c * y k)).mono ?_; rintro e w' ⟨rfl, rfl⟩))
        all_goals
          go_wp2_with fail
          exact sub_close hlt HB.out HX2.out HU.out rfl
    · go_wp2_with fail
      obtain rfl : k = n := by omega
      refine bodyPost_ret (v := .tuple #[]) (by simp [results, Try.results58, go_sem]) rfl ⟨rfl, hu, cs, hb, hx.keep (fun j hj => ?_)⟩
      unfold sbt; rw [if_pos hj]
end
end Go.Proofs.Ytcjpjnneimjfiaa
namespace Go.Proofs.Ytcjpjnneimjfiaa
open Go.RowKit

set_option maxRecDepth 100000 in
theorem ownsRow_of_block {w w' : World} {base t : Nat} {v : Value} {n : Nat} {xs : List Value} (h : w.ownsRow base t 1 v n xs) (hb : ∀ g, base ≤ g → g < w.heap.size → w'.heap[g]? = w.heap[g]?) : w'.ownsRow base t 1 v n xs := by
  refine ⟨h.1, ?_⟩
  rcases h.2 with ⟨rfl, h0⟩ | ⟨g, cap, cur, rfl, h1, h2, h3⟩
  · exact .inl ⟨rfl, h0⟩
  · exact .inr ⟨g, cap, cur, rfl, h1, by rw [hb g h1 (Array.getElem?_eq_some_iff.1 h2).1]; exact h2, h3⟩
set_option maxRecDepth 100000 in
theorem ownsRow_q {w w' : World} {base t : Nat} {v : Value} {n : Nat} {xs : List Value} (h : w.ownsRow base t 1 v n xs) (hq : Q w w') : w'.ownsRow base t 1 v n xs :=
  ownsRow_of_block h (fun _ _ hg => hq.block hg)

set_option maxRecDepth 100000 in
theorem Cells.cell {p : Nat} {w : World} {g t n k : Nat} {cs : Array Value} {x : Nat → Fin p} (h : Cells cs n x) (hb : Blk w g t cs) (hk : k < n) {z : Fin p} (e : x k = z) : w.cell? ⟨g, k, none⟩ = some (.int .u64 ((z : Nat) : Int)) := by
  rw [hb.cell, h k hk, e]
set_option maxRecDepth 100000 in
theorem Cells.sc {p : Nat} {w : World} {g t n c : Nat} {cs : Array Value} {x : Nat → Fin p} (h : Cells cs n x) (hb : Blk w g t cs) (hc : n ≤ c) (hn : n ≤ 4096) : Sc w (some ⟨g, 0, none⟩) n c (u64 x) :=
  ⟨hc, by omega, fun _ => ⟨g, 0, rfl, hb.lt, fun k hk => by rw [Nat.zero_add, hb.cell, h k hk]; rfl⟩⟩
/-- Pivots as cells. -/
def i64s (pv : Nat → Nat) : Nat → Value := fun i => .int .i64 ((pv i : Nat) : Int)
section
variable {p : Nat}
/-- The rows are the call's own and older than w; the pivots are a row made behind w. -/
structure RedS (base : Nat) (w wr : World) (g : Nat) (hs : Array Value) (gs : Nat → Nat) (n W : Nat) (M : Nat → Nat → Fin p) (v : Value) (r : Nat) (pv : Nat → Nat) : Prop where
  own : OwnM base wr g hs gs n W M
  ltg : g < w.heap.size
  lt : 0 < W → ∀ i, i < n → gs i < w.heap.size
  piv : wr.ownsRow w.heap.size 3 1 v r (tab (i64s pv) r)
  bel : Below base w wr
  le : base ≤ w.heap.size
section
variable {base : Nat} {w wr w2 : World} {g : Nat} {hs : Array Value} {gs : Nat → Nat} {n W : Nat} {M M' : Nat → Nat → Fin p} {v : Value} {r : Nat} {pv : Nat → Nat}
set_option maxRecDepth 100000 in
theorem RedS.size (h : RedS base w wr g hs gs n W M v r pv) : w.heap.size ≤ wr.heap.size := h.bel.size
set_option maxRecDepth 100000 in
theorem RedS.q (h : RedS base w wr g hs gs n W M v r pv) (hq : Q wr w2) : RedS base w w2 g hs gs n W M v r pv :=
  ⟨h.own.q hq, h.ltg, h.lt, ownsRow_q h.piv hq, h.bel.trans (hq.mono (Nat.le_trans h.le h.size)), h.le⟩
set_option maxRecDepth 100000 in
theorem RedS.congr (h : RedS base w wr g hs gs n W M v r pv) (e : ∀ i k, i < n → k < W → M i k = M' i k) : RedS base w wr g hs gs n W M' v r pv :=
  ⟨h.own.congr e, h.ltg, h.lt, h.piv, h.bel, h.le⟩
set_option maxRecDepth 100000 in
theorem RedS.row (h : RedS base w wr g hs gs n W M v r pv) (hW : 0 < W) {i : Nat} (hi : i < n) (hu : Upd (gs i) wr w2) {cs : Array Value} (hb : Blk w2 (gs i) 26 cs) {x : Nat → Fin p} (hc : Cells cs W x) :
    RedS base w w2 g hs gs n W (fun j => if j = i then x else M j) v r pv :=
  ⟨h.own.upd hW hi hu hb hc, h.ltg, h.lt, ownsRow_of_block h.piv (fun k hk _ => hu.block k (by have := h.lt hW i hi; omega)), h.bel.trans (hu.below (h.own.own hW i hi).1), h.le⟩
set_option maxRecDepth 100000 in
theorem RedS.swap (h : RedS base w wr g hs gs n W M v r pv) {a t : Nat} (ha : a < n) (ht : t < n) (hne : a ≠ t) {va vt : Value} (ea : hs[a]? = some va) (et : hs[t]? = some vt) :
    ∃ hs' gs', RedS base w ((wr.setCell ⟨g, a, none⟩ vt).setCell ⟨g, t, none⟩ va).drew g hs' gs' n W (swp a t M) v r pv := by
  have la : a < hs.size := (Array.getElem?_eq_some_iff.1 ea).1
  have lt : t < hs.size := (Array.getElem?_eq_some_iff.1 et).1
  have hu : Upd g wr ((wr.setCell ⟨g, a, none⟩ vt).setCell ⟨g, t, none⟩ va).drew := (((Upd.refl g wr).setCell a vt).setCell t va).drew
  have hb : Blk ((wr.setCell ⟨g, a, none⟩ vt).setCell ⟨g, t, none⟩ va).drew g 44 ((hs.setIfInBounds a vt).setIfInBounds t va) := ((h.own.head.set a vt).set t va).drew
  refine ⟨_, _, h.own.swap ha ht hne ea et hb hu ?_ ?_ ?_, h.ltg, fun hW i hi => ?_, ownsRow_of_block h.piv (fun k hk _ => hu.block k (by have := h.ltg; omega)), h.bel.trans (hu.below h.own.bg), h.le⟩
  · rw [Array.getElem?_setIfInBounds_ne (Ne.symm hne)]; simp [la]
  · simp [lt]
  · intro i h1 h2
    rw [Array.getElem?_setIfInBounds_ne (Ne.symm h2), Array.getElem?_setIfInBounds_ne (Ne.symm h1)]
  · split
    · exact h.lt hW t ht
    · split
      · exact h.lt hW a ha
      · exact h.lt hW i hi
set_option maxRecDepth 100000 in
theorem RedS.push (h : RedS base w wr g hs gs n W M v r pv) {v2 : Value} {pv2 : Nat → Nat} {c : Nat} (hown : w2.ownsRow w.heap.size 3 1 v2 (r + 1) (tab (i64s pv) r ++ [.int .i64 ((c : Nat) : Int)])) (hb : Below w.heap.size wr w2) (e1 : ∀ i, i < r → pv2 i = pv i) (e2 : pv2 r = c) :
    RedS base w w2 g hs gs n W M v2 (r + 1) pv2 := by
  have hh : ∀ k, k < w.heap.size → w2.heap[k]? = wr.heap[k]? := fun k hk => hb.block k hk
  refine ⟨⟨(hh g h.ltg).trans h.own.head, h.own.bg, h.own.row, fun hW i hi => ?_, h.own.inj⟩, h.ltg, h.lt, ?_, h.bel.trans (hb.mono h.le), h.le⟩
  · obtain ⟨a, b, cs, hb1, hc⟩ := h.own.own hW i hi
    exact ⟨a, b, cs, (hh _ (h.lt hW i hi)).trans hb1, hc⟩
  · rw [← tab_snoc, show i64s pv2 r = .int .i64 ((c : Nat) : Int) by unfold i64s; rw [e2], tab_congr (ψ := i64s pv) (fun k hk => by unfold i64s; rw [e1 k hk])]
    exact hown
set_option maxRecDepth 100000 in
/-- The cells of row i. -/
theorem RedS.at (h : RedS base w wr g hs gs n W M v r pv) {i : Nat} (hi : i < n) (hW : 0 < W) : ∃ c cs, W ≤ c ∧ hs[i]? = some (.slice (some ⟨gs i, 0, none⟩) W c) ∧ wr.cell? ⟨g, i, none⟩ = some (.slice (some ⟨gs i, 0, none⟩) W c) ∧ gs i ≠ g ∧ Blk wr (gs i) 26 cs ∧ Cells cs W (M i) := by
  obtain ⟨A, c, e, hc, hA⟩ := h.own.row i hi
  obtain ⟨_, b, cs, hb, hcs⟩ := h.own.own hW i hi
  obtain rfl := hA hW
  exact ⟨c, cs, hc, e, by rw [h.own.head.cell]; exact e, b, hb, hcs⟩
end
end

section
variable {p : Nat} [NeZero p]
/-- Row r with its first k elements scaled. -/
def sclk (r : Nat) (u : Fin p) (k : Nat) (Y : Mt p) : Mt p := fun j => if j = r then (fun l => if l < k then Y r l * u else Y r l) else Y j
set_option maxRecDepth 100000 in
theorem sclk_0 {p : Nat} (r : Nat) (u : Fin p) (Y : Mt p) : sclk r u 0 Y = Y := by
  funext j l; unfold sclk; grind
set_option maxRecDepth 100000 in
theorem sclk_all {p : Nat} {r : Nat} {u : Fin p} {Y : Mt p} {W j l : Nat} (hl : l < W) : sclk r u W Y j l = scl r u Y j l := by
  unfold sclk scl
  by_cases h : j = r
  · subst h; simp [hl]
  · simp [h]
set_option maxRecDepth 100000 in
theorem sclk_at {p : Nat} (r : Nat) (u : Fin p) (k : Nat) (Y : Mt p) : sclk r u k Y r k = Y r k := by
  unfold sclk; grind
set_option maxRecDepth 100000 in
theorem scl_close {p : Nat} {base : Nat} {w wr : World} {g : Nat} {hs : Array Value} {gs : Nat → Nat} {n W : Nat} {Y : Mt p} {v : Value} {r q : Nat} {pv : Nat → Nat} {u : Fin p} {k : Nat} {cs : Array Value} {z : Value}
    (h : RedS base w wr g hs gs n W (sclk r u k Y) v q pv) (hW : k < W) (hr : r < n) (hb : Blk wr (gs r) 26 cs) (hc : Cells cs W (sclk r u k Y r)) (e : z = .int .u64 ((Y r k * u : Fin p) : Nat)) :
    (∃ k1 : Nat, Value.int .i64 ((k : Int) + 1) = .int .i64 k1 ∧ k1 ≤ W ∧ RedS base w (wr.setCell ⟨gs r, k, none⟩ z).drew g hs gs n W (sclk r u k1 Y) v q pv) ∧
      W - (intOf (Value.int .i64 ((k : Int) + 1))).toNat < W - (intOf (Value.int .i64 (k : Int))).toNat := by
  subst e
  have hc2 : Cells (cs.setIfInBounds k (.int .u64 ((Y r k * u : Fin p) : Nat))) W (sclk r u (k + 1) Y r) := hc.set hW (fun j _ => by unfold sclk; simp only [if_true]; grind)
  have h2 := h.row (by omega) hr (((Upd.refl (gs r) wr).setCell k (.int .u64 ((Y r k * u : Fin p) : Nat))).drew) ((hb.set k _).drew) hc2
  refine ⟨⟨k + 1, rfl, by omega, h2.congr (fun i l _ _ => by
    by_cases e : i = r
    · rw [if_pos e, e]
    · rw [if_neg e]; unfold sclk; rw [if_neg e, if_neg e])⟩, ?_⟩
  simp only [intOf]; omega
/-- The rows before i with their multiples of row r taken away. -/
def elmk (r c i : Nat) (Y : Mt p) : Mt p := fun j => if j < i then elm r (fun i => Y i c) Y j else Y j
set_option maxRecDepth 100000 in
theorem elmk_0 {p : Nat} (r c : Nat) (Y : Mt p) : elmk r c 0 Y = Y := by
  funext j l; unfold elmk; grind
set_option maxRecDepth 100000 in
theorem elmk_skip {r c i : Nat} {Y : Mt p} (h : i = r ∨ Y i c = 0) (j l : Nat) : elmk r c i Y j l = elmk r c (i + 1) Y j l := by
  unfold elmk
  by_cases e : j = i
  · subst e
    rw [if_neg (by omega), if_pos (by omega)]
    unfold elm
    rcases h with h | h
    · rw [if_pos h]
    · dsimp only; rw [h]; grind
  · by_cases e2 : j < i
    · rw [if_pos e2, if_pos (by omega)]
    · rw [if_neg e2, if_neg (by omega)]
set_option maxRecDepth 100000 in
theorem elmk_i {p : Nat} (r c i : Nat) (Y : Mt p) : elmk r c i Y i = Y i := by unfold elmk; rw [if_neg (by omega)]
set_option maxRecDepth 100000 in
theorem elmk_r {p : Nat} (r c i : Nat) (Y : Mt p) : elmk r c i Y r = Y r := by
  funext l; unfold elmk elm; split <;> simp
set_option maxRecDepth 100000 in
theorem elmk_step {p : Nat} {r c i : Nat} {Y : Mt p} (h : i ≠ r) (j : Nat) : elmk r c (i + 1) Y j = if j = i then (fun l => Y i l - Y i c * Y r l) else elmk r c i Y j := by
  funext l; unfold elmk
  by_cases e : j = i
  · subst e; rw [if_pos (by omega), if_pos rfl]; unfold elm; rw [if_neg h]
  · rw [if_neg e]
    by_cases e2 : j < i
    · rw [if_pos e2, if_pos (by omega)]
    · rw [if_neg e2, if_neg (by omega)]
set_option maxRecDepth 100000 in
theorem elmk_all {p : Nat} {r c n : Nat} {Y : Mt p} {j l : Nat} (h : j < n) : elmk r c n Y j l = elm r (fun i => Y i c) Y j l := by
  unfold elmk; rw [if_pos h]
set_option maxRecDepth 100000 in
theorem elm_close {p : Nat} {base : Nat} {w wr w2 : World} {g : Nat} {hs : Array Value} {gs : Nat → Nat} {n W : Nat} {Y : Mt p} {v : Value} {r q : Nat} {pv : Nat → Nat} {c i : Nat} {cs : Array Value}
    (h : RedS base w wr g hs gs n W (elmk r c i Y) v q pv) (hW : 0 < W) (hi : i < n) (hir : i ≠ r) (hu : Upd (gs i) wr w2) (hb : Blk w2 (gs i) 26 cs) (hc : Cells cs W (fun l => Y i l - Y i c * Y r l)) :
    (∃ i1 : Nat, Value.int .i64 ((i : Int) + 1) = .int .i64 i1 ∧ i1 ≤ n ∧ RedS base w w2 g hs gs n W (elmk r c i1 Y) v q pv) ∧
      n - (intOf (Value.int .i64 ((i : Int) + 1))).toNat < n - (intOf (Value.int .i64 (i : Int))).toNat := by
  have h2 := h.row hW hi hu hb hc
  refine ⟨⟨i + 1, rfl, by omega, h2.congr (fun j l _ _ => by rw [elmk_step hir])⟩, ?_⟩
  simp only [intOf]; omega
end

set_option maxRecDepth 100000 in
/-- clear of cells that are zeros already. -/
theorem wpList_clear0 {ops : Array Oper} {rest : List Oper} {o : Oper} {a : Act} {w : World} {R : Exit → Act → World → Prop} (hgd : o.guard = none) (s : Operand)
    (ho : o.op = .call { callee := .builtin .clear, args := #[s], argTypes := #[44] }) (hd : o.dst = none)
    (A : Option Addr) (n c : Nat) (hs : a.eval s = .slice A n c) (h0 : 0 < n → ∃ g cs, A = some ⟨g, 0, none⟩ ∧ Blk w g 26 cs ∧ ∀ k, k < n → cs[k]? = some (.int .u64 0))
    (h : wpList Try.prog ops R rest a w) :
    wpList Try.prog ops R (o :: rest) a w := by
  refine wpList_plain hgd fun K hK => ?_
  have hrun : (Builtin.clear_ #[44] o.type #[.slice A n c]).run Try.prog w = .ok (.tuple #[]) w := by
    rcases Nat.eq_zero_or_pos n with hn | hn
    · subst hn
      cases A <;> simp [Builtin.clear_, run_underlying Try.underlying44]
    · obtain ⟨g, cs, rfl, hb, hc⟩ := h0 hn
      obtain ⟨m, rfl⟩ : ∃ m, n = m + 1 := ⟨n - 1, by omega⟩
      have hz : (zeroValue 26).run Try.prog w = .ok (.int .u64 0) w := by kernel_rfl
      have hl : (Builtin.zeroCells (Value.int .u64 0).cells (m + 1)).toList = List.replicate (m + 1) (.int .u64 0) := by
        rw [show Builtin.zeroCells (Value.int .u64 0).cells (m + 1) = madeCells #[Value.int .u64 0] (m + 1) from by unfold Builtin.zeroCells madeCells; simp [Value.cells]]
        exact toList_madeCells_one _ _
      have hsz : m + 1 ≤ cs.size := (Array.getElem?_eq_some_iff.1 (hc m (by omega))).1
      have hst := run_storeCells_at (P := Try.prog) g 0 26 (List.replicate (m + 1) (.int .u64 0)) 0 cs w hb (by simp; omega) (by intro v hv; rw [List.eq_of_mem_replicate hv]; rfl)
      have he : (cs.toList.take (0 + 0) ++ List.replicate (m + 1) (Value.int .u64 0) ++ cs.toList.drop (0 + 0 + (List.replicate (m + 1) (Value.int .u64 0)).length)).toArray = cs := by
        apply Array.ext'
        apply List.ext_getElem?
        intro j
        simp only [Nat.add_zero, List.take_zero, List.nil_append, List.length_replicate, Nat.zero_add]
        rcases Nat.lt_or_ge j (m + 1) with g2 | g2
        · rw [List.getElem?_append_left (by simp; omega), List.getElem?_replicate, if_pos g2, Array.getElem?_toList, hc j g2]
        · rw [List.getElem?_append_right (by simp; omega), List.getElem?_drop, List.length_replicate, Array.getElem?_toList, Array.getElem?_toList, show m + 1 + (j - (m + 1)) = j by omega]
      rw [he, setRow_self w g cs _ _ hb] at hst
      simp [Builtin.clear_, run_underlying Try.underlying44, hz, hl, hst]
  unfold Oper.wp execOp
  simp only [ho, resolve, invoke, builtin, Sem.run_bind, Sem.run_pure, Result.andThen_ok, List.map_toArray, List.map_cons, List.map_nil, hs, hrun]
  refine hK _ _ ?_
  simp only [Act.put, hd]
  exact h
end Go.Proofs.Ytcjpjnneimjfiaa
