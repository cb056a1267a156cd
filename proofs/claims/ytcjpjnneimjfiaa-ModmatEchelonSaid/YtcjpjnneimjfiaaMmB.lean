/-
  subtract.
-/
import Derived.Test.YtcjpjnneimjfiaaMmA
import Derived.Deep.RegionHeld3
import Derived.Deep.RegionLaw
import Derived.Deep.DrawnRows
namespace Go.Proofs.Ytcjpjnneimjfiaa
open Go.RowKit
section
variable {p : Nat}

/-- The row behind k elements. -/
def sbt (c : Fin p) (x y : Nat → Fin p) (k : Nat) : Nat → Fin p := fun j => if j < k then x j - c * y j else x j
set_option maxRecDepth 100000 in
theorem sbt_at (c : Fin p) (x y : Nat → Fin p) (k : Nat) : sbt c x y k k = x k := by unfold sbt; rw [if_neg (by omega)]
def Cells (cs : Array Value) (n : Nat) (x : Nat → Fin p) : Prop := ∀ j, j < n → cs[j]? = some (.int .u64 ((x j : Nat) : Int))
set_option maxRecDepth 100000 in
theorem Cells.set {cs : Array Value} {n k : Nat} {x z : Nat → Fin p} {u : Fin p} (h : Cells cs n x) (hk : k < n) (e : ∀ j, j < n → z j = if j = k then u else x j) : Cells (cs.setIfInBounds k (.int .u64 ((u : Nat) : Int))) n z := by
  intro j hj
  have hs : k < cs.size := (Array.getElem?_eq_some_iff.1 (h k hk)).1
  rw [e j hj]
  by_cases hjk : j = k
  · subst hjk; simp [hs]
  · rw [if_neg hjk, Array.getElem?_setIfInBounds_ne (Ne.symm hjk)]; exact h j hj
set_option maxRecDepth 100000 in
theorem Cells.keep {cs : Array Value} {n : Nat} {x z : Nat → Fin p} (h : Cells cs n x) (e : ∀ j, j < n → z j = x j) : Cells cs n z := fun j hj => by rw [e j hj]; exact h j hj
variable [NeZero p]
set_option maxRecDepth 100000 in
theorem sbt_step (c : Fin p) (x y : Nat → Fin p) (k j : Nat) : sbt c x y (k + 1) j = if j = k then x k - c * y k else sbt c x y k j := by
  unfold sbt; grind
def SubP (w : World) (g n : Nat) (x : Nat → Fin p) (e : Ending) (w' : World) : Prop := e = .returned (.tuple #[]) ∧ Upd g w w' ∧ ∃ cs, Blk w' g 26 cs ∧ Cells cs n x
set_option maxRecDepth 100000 in
/-- What one round leaves. -/
theorem sub_close {w wr : World} {g n k : Nat} {c : Fin p} {x y : Nat → Fin p} {cs : Array Value} {u : Value} (hk : k < n) (hb : Blk wr g 26 cs) (hx : Cells cs n (sbt c x y k)) (hu : Upd g w wr) (e : u = .int .u64 ((x k - c * y k : Fin p) : Nat)) :
    (∃ (k1 : Nat) (cs : Array Value), Value.int .i64 ((k : Int) + 1) = .int .i64 k1 ∧ k1 ≤ n ∧ Blk (wr.setCell ⟨g, k, none⟩ u).drew g 26 cs ∧ Cells cs n (sbt c x y k1) ∧ Upd g w (wr.setCell ⟨g, k, none⟩ u).drew) ∧
      n - (intOf (Value.int .i64 ((k : Int) + 1))).toNat < n - (intOf (Value.int .i64 (k : Int))).toNat := by
  subst e
  refine ⟨⟨k + 1, _, rfl, by omega, (hb.set k _).drew, hx.set hk (fun j _ => sbt_step c x y k j), (hu.setCell k _).drew⟩, ?_⟩
  simp only [intOf]; omega

set_option maxHeartbeats 400000 in
set_option maxRecDepth 100000 in
theorem subtract_any (hp : Fp p) (g n cr cb : Nat) (cs : Array Value) (x y : Nat → Fin p) (B : Option Addr) (c : Fin p) (w : World) (hb : Blk w g 26 cs) (hx : Cells cs n x)
    (hy : Sc w B n cb (u64 y)) (hne : ∀ b o, B = some ⟨b, o, none⟩ → 0 < n → b ≠ g) (hn : n ≤ 1099511627776) (hcr : n ≤ cr) :
    Calls Try.prog 58 #[.int .u64 p, .slice (some ⟨g, 0, none⟩) n cr, .slice B n cb, .int .u64 ((c : Nat) : Int)] w (SubP w g n (fun j => x j - c * y j)) := by
  have hcap := hy.cap
  have HP := Lib.hid hp
  have HX := @Lib.hid _ hx
  have HN := @Lib.hid _ hne
  clear hp hx hne
  go_enter Try.func58, Try.ntmps58
  go_wp2
  go_loopw [12] (fun iv wr => ∃ (k : Nat) (cs : Array Value), iv = .int .i64 k ∧ k ≤ n ∧ Blk wr g 26 cs ∧ Cells cs n (sbt c x y k) ∧ Upd g w wr) (fun iv _ => n - (intOf iv).toNat)
  case atStart => exact ⟨0, cs, rfl, Nat.zero_le _, hb, HX.out.keep (fun j _ => by unfold sbt; rw [if_neg (by omega)]), Upd.refl _ _⟩
  case round =>
    obtain ⟨k, cs, rfl, hk, hb, hx, hu⟩ := hrel
    by_cases hlt : k < n
    · have hyw := hu.sc hy HN.out
      obtain ⟨b, o, rfl, hb2, hc2⟩ := hyw.at64 hlt
      have hc1 : wr.cell? ⟨g, k, none⟩ = some (.int .u64 ((x k : Nat) : Int)) := by rw [hb.cell, hx k hlt, sbt_at]
      have hf := hb.frozen k
      have HB := @Lib.hid _ hb
      have HX2 := @Lib.hid _ hx
      have HU := Lib.hid hu
      clear hb hx hu hyw
      by_cases hz : y k = 0
      · have hbz : (((y k : Nat) : Int) != 0) = false := by rw [bne_fin, hz]; simp
        have HZ := Lib.hid hz
        clear hz
        go_wp2_with fail
        refine ⟨⟨k + 1, cs, rfl, by omega, HB.out, HX2.out.keep (fun j hj => ?_), HU.out⟩, ?_⟩
        · rw [sbt_step]
          by_cases e : j = k
          · rw [if_pos e, HZ.out, e, sbt_at, mul0]; grind
          · rw [if_neg e]
        · simp only [intOf]; omega
      · have hbz : (((y k : Nat) : Int) != 0) = true := by rw [bne_fin]; simpa using hz
        have HZ := Lib.hid hz
        clear hz
        go_wp2_with fail
        go_region_law
          (first | (go_simp; go_at_call 71; refine (f_mul _ HP.out c (y k)).mono ?_; rintro e w' ⟨rfl, rfl⟩) | (go_simp; go_at_call 59; refine (f_sub _ HP.out (x k) (c * y k)).mono ?_; rintro e w' ⟨rfl, rfl⟩))
        all_goals
          go_wp2_with fail
          exact sub_close hlt HB.out HX2.out HU.out rfl
    · go_wp2_with fail
      obtain rfl : k = n := by omega
      refine bodyPost_ret (v := .tuple #[]) (by simp [results, Try.results58, go_sem]) rfl ⟨rfl, hu, cs, hb, hx.keep (fun j hj => ?_)⟩
      unfold sbt; rw [if_pos hj]
end
end Go.Proofs.Ytcjpjnneimjfiaa
