/-
  torsionref01.plus and minus.
-/
import Derived.Test.YtcjpjnneimjfiaaBase
import Derived.Test.YtcjpjnneimjfiaaNum
namespace Go.Proofs.Ytcjpjnneimjfiaa
open Go.RowKit

/-- A slice of limbs of a given value and length at most n. -/
def LimbsP (w : World) (v n : Nat) (e : Ending) (w' : World) : Prop := ∃ A c l, e = .returned (.slice A l.length c) ∧ Lm w' A c l ∧ val l = v ∧ l.length ≤ n ∧ Q w w'

set_option maxRecDepth 100000 in
theorem u32s_snoc (lo : List Nat) (s : Nat) (V : Int) (hV : V = (s : Int)) : u32s lo ++ [Value.int .u32 V] = u32s (lo ++ [s]) := by
  subst hV; simp [u32s]
set_option maxRecDepth 100000 in
theorem below_q {base : Nat} {a b c : World} (hq : Q a b) (h : Below base b c) (hb : a.heap.size ≤ base) : Q a c := Below.trans hq (h.mono hb)

set_option maxRecDepth 100000 in
/-- What one round of `plus` does to the relation of its loop. -/
theorem plus_close {w wr w2 : World} {la lb lo : List Nat} {i cy x y m c2 : Nat} {A2 : Option Addr} {V : Int} (hR : PlusR la lb i cy lo) (hx : la[i]?.getD 0 = x) (hy : lb[i]?.getD 0 = y) (hx2 : x < 4294967296) (hy2 : y < 4294967296) (hcy : cy ≤ 1)
    (hi : i < la.length ∨ i < lb.length ∨ (x + y = 0 ∧ i ≤ m)) (hma : la.length ≤ m) (hmb : lb.length ≤ m) (hV : V = ((cy + x + y : Nat) : Int))
    (hown : w2.ownsRow w.heap.size 49 1 (.slice A2 (i + 1) c2) (i + 1) (u32s lo ++ [.int .u32 (V % 4294967296)])) (hq : Q w wr) (hb : Below w.heap.size wr w2) :
    (∃ (i1 cy1 : Nat) (lo : List Nat), Value.int .i64 ((i : Int) + 1) = .int .i64 i1 ∧ Value.int .u64 (V / 4294967296) = .int .u64 cy1 ∧ cy1 ≤ 1 ∧ (i1 ≤ la.length ∨ i1 ≤ lb.length ∨ (cy1 = 0 ∧ i1 ≤ m + 1)) ∧ PlusR la lb i1 cy1 lo ∧ w2.ownsRow w.heap.size 49 1 (.slice A2 (i + 1) c2) i1 (u32s lo) ∧ Q w w2) ∧
      m + 2 - (intOf (Value.int .i64 ((i : Int) + 1))).toNat < m + 2 - (intOf (Value.int .i64 (i : Int))).toNat := by
  subst hV
  have e2 : (((cy + x + y : Nat) : Int) / 4294967296) = (((cy + x + y) / 4294967296 : Nat) : Int) := by omega
  rw [u32s_snoc lo ((cy + x + y) % 4294967296) _ (by omega)] at hown
  refine ⟨⟨i + 1, (cy + x + y) / 4294967296, _, rfl, by rw [e2], by omega, by omega, plus_step hR hx hy, hown, below_q hq hb (Nat.le_refl _)⟩, ?_⟩
  simp only [intOf]
  omega

set_option maxHeartbeats 1000000 in
set_option maxRecDepth 100000 in
theorem plus_any (A B : Option Addr) (c d : Nat) (la lb : List Nat) (w : World) (ha : Lm w A c la) (hb : Lm w B d lb) (m : Nat) (hma : la.length ≤ m) (hmb : lb.length ≤ m) (hm : m ≤ 68719476736) :
    Calls Try.prog 63 #[.slice A la.length c, .slice B lb.length d] w (LimbsP w (val la + val lb) (m + 1)) := by
  obtain ⟨i0, hi, hz0, hz1, hz2⟩ := info_parts info_u32
  go_enter Try.func63, Try.ntmps63
  go_wp2
  go_loopw [5, 6, 7] (fun ov cv iv wr => ∃ (i cy : Nat) (lo : List Nat), iv = .int .i64 i ∧ cv = .int .u64 cy ∧ cy ≤ 1 ∧ (i ≤ la.length ∨ i ≤ lb.length ∨ (cy = 0 ∧ i ≤ m + 1)) ∧ PlusR la lb i cy lo ∧ wr.ownsRow w.heap.size 49 1 ov i (u32s lo) ∧ Q w wr) (fun _ cv iv _ => (m + 2 - (intOf iv).toNat))
  case atStart => exact ⟨0, 0, [], rfl, rfl, by omega, by omega, plus_start _ _, own_new _ _ _ _ rfl (Nat.le_refl _), (Q.refl w).alloc _⟩
  case round =>
    obtain ⟨i, cy, lo, rfl, rfl, hcy, hib, hR, hown, hq⟩ := hrel
    obtain ⟨A', c', rfl, _⟩ := own_shape hown
    have HR := Lib.hid hR
    clear hR
    have hqs := hq.size
    by_cases h1 : i < la.length
    · obtain ⟨b, o, x, rfl, hb1, hx, hx2, hc⟩ := (ha.q hq).at (k := i) (by omega)
      have Hx := Lib.hid hx
      clear hx
      by_cases h2 : i < lb.length
      · obtain ⟨b', o', y, rfl, hb1', hy, hy2, hc'⟩ := (hb.q hq).at (k := i) (by omega)
        have Hy := Lib.hid hy
        clear hy
        go_wp2_with (at_builtin; go_must (refine wpList_app1 rfl _ _ 54 rfl w.heap.size 49 i0 (.int .u32 0) 4 Try.underlying54 hi hz0 hz1 hz2 rfl _ i (u32s lo) rfl hown _ rfl rfl (by omega) (by decide) (by omega) ?_); intro A2 c2 w2 hown2 hb2 hs2)
        exact plus_close HR.out (getD_at Hx.out) (getD_at Hy.out) (by omega) (by omega) hcy (by omega) hma hmb (by omega) hown2 hq hb2
      · go_wp2_with (at_builtin; go_must (refine wpList_app1 rfl _ _ 54 rfl w.heap.size 49 i0 (.int .u32 0) 4 Try.underlying54 hi hz0 hz1 hz2 rfl _ i (u32s lo) rfl hown _ rfl rfl (by omega) (by decide) (by omega) ?_); intro A2 c2 w2 hown2 hb2 hs2)
        exact plus_close HR.out (getD_at Hx.out) (getD_out (by omega)) (by omega) (by omega) hcy (by omega) hma hmb (by omega) hown2 hq hb2
    · by_cases h2 : i < lb.length
      · obtain ⟨b', o', y, rfl, hb1', hy, hy2, hc'⟩ := (hb.q hq).at (k := i) (by omega)
        have Hy := Lib.hid hy
        clear hy
        go_wp2_with (at_builtin; go_must (refine wpList_app1 rfl _ _ 54 rfl w.heap.size 49 i0 (.int .u32 0) 4 Try.underlying54 hi hz0 hz1 hz2 rfl _ i (u32s lo) rfl hown _ rfl rfl (by omega) (by decide) (by omega) ?_); intro A2 c2 w2 hown2 hb2 hs2)
        exact plus_close HR.out (getD_out (by omega)) (getD_at Hy.out) (by omega) (by omega) hcy (by omega) hma hmb (by omega) hown2 hq hb2
      · by_cases h3 : 0 < cy
        · go_wp2_with (at_builtin; go_must (refine wpList_app1 rfl _ _ 54 rfl w.heap.size 49 i0 (.int .u32 0) 4 Try.underlying54 hi hz0 hz1 hz2 rfl _ i (u32s lo) rfl hown _ rfl rfl (by omega) (by decide) (by omega) ?_); intro A2 c2 w2 hown2 hb2 hs2)
          exact plus_close (V := (cy : Int)) HR.out (getD_out (by omega)) (getD_out (by omega)) (by omega) (by omega) hcy (by omega) hma hmb (by omega) (by rw [show (cy : Int) % 4294967296 = cy from by omega]; exact hown2) hq hb2
        · obtain rfl : cy = 0 := by omega
          go_wp2_with fail
          go_ret
          obtain ⟨hlo, hlim, _⟩ := HR.out
          obtain ⟨A3, c3, e3, hl3, hL3⟩ := own_lm hown hlim (by omega)
          injection e3 with e3 _ e4
          subst e3 e4
          exact ⟨A', c', lo, by rw [← hl3]; rfl, hL3, plus_end HR.out (by omega) (by omega), by omega, hq⟩
set_option maxRecDepth 100000 in
/-- What one round of `minus` does to the relation of its loop. -/
theorem minus_close {w wr w2 : World} {la lb lo : List Nat} {i bo x y c2 D bo2 : Nat} {A2 : Option Addr} {V : Int} (hR : MinusR la lb i bo lo) (hx : la[i]?.getD 0 = x) (hy : lb[i]?.getD 0 = y)
    (hD : D < 4294967296) (e : D + bo + y = x + 4294967296 * bo2) (hb1 : bo2 ≤ 1) (hi : i < la.length) (hV : V = (D : Int))
    (hown : w2.ownsRow w.heap.size 49 1 (.slice A2 (i + 1) c2) (i + 1) (u32s lo ++ [.int .u32 V])) (hq : Q w wr) (hb : Below w.heap.size wr w2) :
    (∃ (i1 bo1 : Nat) (lo : List Nat), Value.int .i64 ((i : Int) + 1) = .int .i64 i1 ∧ Value.int .i64 (bo2 : Int) = .int .i64 bo1 ∧ bo1 ≤ 1 ∧ i1 ≤ la.length ∧ MinusR la lb i1 bo1 lo ∧ w2.ownsRow w.heap.size 49 1 (.slice A2 (i + 1) c2) i1 (u32s lo) ∧ Q w w2) ∧
      la.length - (intOf (Value.int .i64 ((i : Int) + 1))).toNat < la.length - (intOf (Value.int .i64 (i : Int))).toNat := by
  subst hV
  rw [u32s_snoc lo D _ rfl] at hown
  refine ⟨⟨i + 1, bo2, _, rfl, rfl, hb1, by omega, minus_step hR hx hy hD e, hown, below_q hq hb (Nat.le_refl _)⟩, ?_⟩
  simp only [intOf]
  omega

set_option maxHeartbeats 1000000 in
set_option maxRecDepth 100000 in
theorem minus_any (A B : Option Addr) (c d : Nat) (la lb : List Nat) (w : World) (ha : Lm w A c la) (hb : Lm w B d lb) (hlen : lb.length ≤ la.length) (hv : val lb ≤ val la) (hm : la.length ≤ 68719476736) :
    Calls Try.prog 65 #[.slice A la.length c, .slice B lb.length d] w (LimbsP w (val la - val lb) la.length) := by
  obtain ⟨i0, hi, hz0, hz1, hz2⟩ := info_parts info_u32
  have Hv := Lib.hid hv
  clear hv
  go_enter Try.func65, Try.ntmps65
  go_wp2
  go_loopw [5, 6, 7, 8] (fun ov bv iv _ wr => ∃ (i bo : Nat) (lo : List Nat), iv = .int .i64 i ∧ bv = .int .i64 bo ∧ bo ≤ 1 ∧ i ≤ la.length ∧ MinusR la lb i bo lo ∧ wr.ownsRow w.heap.size 49 1 ov i (u32s lo) ∧ Q w wr) (fun _ _ iv _ _ => (la.length - (intOf iv).toNat))
  case atStart => exact ⟨0, 0, [], rfl, rfl, by omega, by omega, minus_start _ _, own_new _ _ _ _ rfl (Nat.le_refl _), (Q.refl w).alloc _⟩
  case round =>
    obtain ⟨i, bo, lo, rfl, rfl, hbo, hib, hR, hown, hq⟩ := hrel
    obtain ⟨A', c', rfl, _⟩ := own_shape hown
    have HR := Lib.hid hR
    clear hR
    have hqs := hq.size
    by_cases h1 : i < la.length
    · obtain ⟨b, o, x, rfl, hb1, hx, hx2, hc⟩ := (ha.q hq).at (k := i) (by omega)
      have Hx := Lib.hid hx
      clear hx
      by_cases h2 : i < lb.length
      · obtain ⟨b', o', y, rfl, hb1', hy, hy2, hc'⟩ := (hb.q hq).at (k := i) (by omega)
        have Hy := Lib.hid hy
        clear hy
        by_cases h3 : x < bo + y
        · go_wp2_with (at_builtin; go_must (refine wpList_app1 rfl _ _ 54 rfl w.heap.size 49 i0 (.int .u32 0) 4 Try.underlying54 hi hz0 hz1 hz2 rfl _ i (u32s lo) rfl hown _ rfl rfl (by omega) (by decide) (by omega) ?_); intro A2 c2 w2 hown2 hb2 hs2)
          exact minus_close (D := x + 4294967296 - bo - y) (bo2 := 1) HR.out (getD_at Hx.out) (getD_at Hy.out) (by omega) (by omega) (by omega) h1 (by omega) hown2 hq hb2
        · go_wp2_with (at_builtin; go_must (refine wpList_app1 rfl _ _ 54 rfl w.heap.size 49 i0 (.int .u32 0) 4 Try.underlying54 hi hz0 hz1 hz2 rfl _ i (u32s lo) rfl hown _ rfl rfl (by omega) (by decide) (by omega) ?_); intro A2 c2 w2 hown2 hb2 hs2)
          exact minus_close (D := x - bo - y) (bo2 := 0) HR.out (getD_at Hx.out) (getD_at Hy.out) (by omega) (by omega) (by omega) h1 (by omega) hown2 hq hb2
      · by_cases h3 : x < bo
        · go_wp2_with (at_builtin; go_must (refine wpList_app1 rfl _ _ 54 rfl w.heap.size 49 i0 (.int .u32 0) 4 Try.underlying54 hi hz0 hz1 hz2 rfl _ i (u32s lo) rfl hown _ rfl rfl (by omega) (by decide) (by omega) ?_); intro A2 c2 w2 hown2 hb2 hs2)
          exact minus_close (D := x + 4294967296 - bo) (bo2 := 1) (y := 0) HR.out (getD_at Hx.out) (getD_out (by omega)) (by omega) (by omega) (by omega) h1 (by omega) hown2 hq hb2
        · go_wp2_with (at_builtin; go_must (refine wpList_app1 rfl _ _ 54 rfl w.heap.size 49 i0 (.int .u32 0) 4 Try.underlying54 hi hz0 hz1 hz2 rfl _ i (u32s lo) rfl hown _ rfl rfl (by omega) (by decide) (by omega) ?_); intro A2 c2 w2 hown2 hb2 hs2)
          exact minus_close (D := x - bo) (bo2 := 0) (y := 0) HR.out (getD_at Hx.out) (getD_out (by omega)) (by omega) (by omega) (by omega) h1 (by omega) hown2 hq hb2
    · go_wp2_with fail
      go_ret
      obtain ⟨hlo, hlim, _⟩ := HR.out
      obtain ⟨A3, c3, e3, hl3, hL3⟩ := own_lm hown hlim (by omega)
      injection e3 with e3 _ e4
      subst e3 e4
      exact ⟨A', c', lo, by rw [← hl3]; rfl, hL3, minus_end HR.out (by omega) (by omega) Hv.out, by omega, hq⟩
end Go.Proofs.Ytcjpjnneimjfiaa
