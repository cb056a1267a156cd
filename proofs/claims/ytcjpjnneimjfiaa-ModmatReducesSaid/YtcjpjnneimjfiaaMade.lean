/-
  torsionref01.less and Same.
  torsionref01.plus and minus.
-/
import Derived.Test.YtcjpjnneimjfiaaBase
import Derived.Test.YtcjpjnneimjfiaaNum
namespace Go.Proofs.Ytcjpjnneimjfiaa
open Go.RowKit

set_option maxRecDepth 100000 in
/-- What an append to a new, empty slice leaves: the slice, and the box that was laid before it. -/
theorem made_app {w w1 : World} {o : Obj} {n t : Nat} {l : List Nat} {cs : Array Value} {v' : Value} (ho : o = .cells cs t) (hl : ∀ x ∈ l, x < 4294967296) (hn : l.length = n) (hn2 : n ≤ 1099511627776)
    (hown : w1.ownsRow w.heap.size 49 1 v' (0 + n) ([] ++ u32s l)) (hg : ((w.alloc o).alloc (.cells #[] 49)).grownBy w1 (some (w.heap.size + 1))) :
    ∃ A c, v' = .slice A n c ∧ Lm w1 A c l ∧ Blk w1 w.heap.size t cs ∧ Q w w1 ∧ w.heap.size < w1.heap.size := by
  subst ho
  rw [Nat.zero_add, List.nil_append] at hown
  obtain ⟨A, c, rfl, _, h2⟩ := own_lm hown hl (by omega)
  have hq : Q w w1 := grown_q (((Q.refl w).alloc _).alloc _) hg (fun k e => by injection e with e; omega)
  have hB : Blk w1 w.heap.size t cs := ((Blk.new w t cs).alloc _).grown hg (by simp)
  exact ⟨A, c, rfl, h2, hB, hq, hB.lt⟩

def MadeP (w : World) (neg : Bool) (l : List Nat) (e : Ending) (w' : World) : Prop := ∃ v, e = .returned v ∧ IntL w' v (neg && decide (trim l ≠ [])) (trim l) ∧ Q w w'

set_option maxHeartbeats 400000 in
set_option maxRecDepth 100000 in
theorem made_any (A : Option Addr) (c : Nat) (l : List Nat) (neg : Bool) (w : World) (h : Lm w A c l) (hl : l.length ≤ 1099511627776) :
    Calls Try.prog 62 #[.slice A l.length c, .bool neg] w (MadeP w neg l) := by
  obtain ⟨i0, hi, hz0, hz1, hz2⟩ := info_parts info_u32
  have hcap := h.cap
  go_enter Try.func62, Try.ntmps62
  go_wp2
  go_loop [5] (fun nv => ∃ n : Nat, nv = .int .i64 n ∧ n ≤ l.length ∧ trim (l.take n) = trim l) (fun nv => (intOf nv).toNat)
  case atStart => exact ⟨l.length, rfl, Nat.le_refl _, by rw [List.take_length]⟩
  case round =>
    obtain ⟨n, rfl, hn, ht⟩ := hrel
    have Ht := Lib.hid ht
    clear ht
    have hT := h.take n (c' := c) (by rw [List.length_take]; omega)
    have hTl : (l.take n).length = n := by rw [List.length_take]; omega
    have HT := Lib.hid hTl
    clear hTl
    cases n with
    | zero =>
      have e0 : trim l = [] ∧ decide (trim l ≠ []) = false := ⟨Ht.out.symm, by rw [← Ht.out]; rfl⟩
      have E0 := Lib.hid e0
      clear e0
      cases neg with
      | false =>
        go_wp2_with (at_builtin; go_must (refine wpList_app rfl _ _ 54 rfl w.heap.size 49 i0 (.int .u32 0) 4 Try.underlying54 hi hz0 hz1 hz2 rfl _ 0 [] rfl (own_new _ _ _ _ (by simp) (by simp)) A 0 c (u32s (l.take (0))) rfl (by have := HT.out; simp [u32s]; try omega) (hT.newsq HT.out (((Q.refl w).alloc _).alloc _)) (oneCell_u32s _) (by unfold maxLen; omega) (by omega) (by simp; omega) ?_); intro v' w1 hown' hgrow hat; go_must (obtain ⟨A1, c1, rfl, hm1, hB1, hq1, hs1⟩ := made_app rfl hT.lt HT.out (by omega) hown' hgrow); clear hown' hgrow hat; have k0 := hB1.cell 0; have k1 := hB1.cell 1; have f0 := hB1.frozen 0; have f1 := hB1.frozen 1)
        refine bodyPost_ret (v := .agg #[.bool false, .slice A1 (0) c1]) (by simp [results, Try.results62, go_sem, k0, k1]) rfl ⟨_, rfl, ?_⟩
        rw [E0.out.2, E0.out.1]
        exact int_end hB1 hq1 (Nat.le_refl _) hm1 rfl false
      | true =>
        go_wp2_with (at_builtin; go_must (refine wpList_app rfl _ _ 54 rfl w.heap.size 49 i0 (.int .u32 0) 4 Try.underlying54 hi hz0 hz1 hz2 rfl _ 0 [] rfl (own_new _ _ _ _ (by simp) (by simp)) A 0 c (u32s (l.take (0))) rfl (by have := HT.out; simp [u32s]; try omega) (hT.newsq HT.out (((Q.refl w).alloc _).alloc _)) (oneCell_u32s _) (by unfold maxLen; omega) (by omega) (by simp; omega) ?_); intro v' w1 hown' hgrow hat; go_must (obtain ⟨A1, c1, rfl, hm1, hB1, hq1, hs1⟩ := made_app rfl hT.lt HT.out (by omega) hown' hgrow); clear hown' hgrow hat; have k0 := hB1.cell 0; have k1 := hB1.cell 1; have f0 := hB1.frozen 0; have f1 := hB1.frozen 1)
        refine bodyPost_ret (v := .agg #[.bool false, .slice A1 (0) c1]) (by simp [results, Try.results62, go_sem, k0, k1]) rfl ⟨_, rfl, ?_⟩
        rw [E0.out.2, E0.out.1]
        exact int_end hB1 hq1 (Nat.le_refl _) hm1 rfl false
    | succ n =>
      obtain ⟨b, o, x, rfl, hb, hx, hx2, hc⟩ := h.at (k := n) (by omega)
      have Hx := Lib.hid hx
      clear hx
      by_cases h0 : x = 0
      · subst h0
        go_wp2_with fail
        go_round
        case rel => exact ⟨n, rfl, by omega, by rw [← Ht.out, trim_take_of_zero (by omega) Hx.out]⟩
        case measure => simp [intOf]
      · have e1 : trim l = l.take (n + 1) := by rw [← Ht.out, trim_take_of_pos (by omega) Hx.out h0]
        have e2 : l.take (n + 1) ≠ [] := by intro e; have := HT.out; rw [e] at this; simp at this
        have e0 : trim l = l.take (n + 1) ∧ decide (trim l ≠ []) = true := ⟨e1, by rw [e1]; simpa using e2⟩
        have E0 := Lib.hid e0
        clear e0 e1 e2
        cases neg with
        | false =>
          go_wp2_with (at_builtin; go_must (refine wpList_app rfl _ _ 54 rfl w.heap.size 49 i0 (.int .u32 0) 4 Try.underlying54 hi hz0 hz1 hz2 rfl _ 0 [] rfl (own_new _ _ _ _ (by simp) (by simp)) (some ⟨b, o, none⟩) (n + 1) c (u32s (l.take (n + 1))) rfl (by have := HT.out; simp [u32s]; try omega) (hT.newsq HT.out (((Q.refl w).alloc _).alloc _)) (oneCell_u32s _) (by unfold maxLen; omega) (by omega) (by simp; omega) ?_); intro v' w1 hown' hgrow hat; go_must (obtain ⟨A1, c1, rfl, hm1, hB1, hq1, hs1⟩ := made_app rfl hT.lt HT.out (by omega) hown' hgrow); clear hown' hgrow hat; have k0 := hB1.cell 0; have k1 := hB1.cell 1; have f0 := hB1.frozen 0; have f1 := hB1.frozen 1)
          refine bodyPost_ret (v := .agg #[.bool false, .slice A1 (n + 1) c1]) (by simp [results, Try.results62, go_sem, k0, k1]) rfl ⟨_, rfl, ?_⟩
          rw [E0.out.2, E0.out.1]
          exact int_end hB1 hq1 (Nat.le_refl _) hm1 HT.out false
        | true =>
          go_wp2_with (at_builtin; go_must (refine wpList_app rfl _ _ 54 rfl w.heap.size 49 i0 (.int .u32 0) 4 Try.underlying54 hi hz0 hz1 hz2 rfl _ 0 [] rfl (own_new _ _ _ _ (by simp) (by simp)) (some ⟨b, o, none⟩) (n + 1) c (u32s (l.take (n + 1))) rfl (by have := HT.out; simp [u32s]; try omega) (hT.newsq HT.out (((Q.refl w).alloc _).alloc _)) (oneCell_u32s _) (by unfold maxLen; omega) (by omega) (by simp; omega) ?_); intro v' w1 hown' hgrow hat; go_must (obtain ⟨A1, c1, rfl, hm1, hB1, hq1, hs1⟩ := made_app rfl hT.lt HT.out (by omega) hown' hgrow); clear hown' hgrow hat; have k0 := hB1.cell 0; have k1 := hB1.cell 1; have f0 := hB1.frozen 0; have f1 := hB1.frozen 1)
          refine bodyPost_ret (v := .agg #[.bool true, .slice A1 (n + 1) c1]) (by simp [results, Try.results62, go_sem, k0, k1]) rfl ⟨_, rfl, ?_⟩
          rw [E0.out.2, E0.out.1]
          exact int_end hB1 hq1 (Nat.le_refl _) hm1 HT.out true
end Go.Proofs.Ytcjpjnneimjfiaa
namespace Go.Proofs.Ytcjpjnneimjfiaa
open Go.RowKit

def LessP (w : World) (la lb : List Nat) (e : Ending) (w' : World) : Prop := e = .returned (.bool (lessB la lb)) ∧ ∃ n, w' = w.drewN n

set_option maxHeartbeats 400000 in
set_option maxRecDepth 100000 in
theorem less_any (A B : Option Addr) (c d : Nat) (la lb : List Nat) (w : World) (ha : Lm w A c la) (hb : Lm w B d lb) :
    Calls Try.prog 64 #[.slice A la.length c, .slice B lb.length d] w (LessP w la lb) := by
  have la1 := ha.len
  have lb1 := hb.len
  by_cases hne : la.length = lb.length
  · have Hne := Lib.hid hne
    have hn1 : ((la.length : Int) != (lb.length : Int)) = false := by simp [hne]
    clear hne
    go_enter Try.func64, Try.ntmps64
    go_wp2
    go_loopw [5] (fun iv wr => (∃ n, wr = w.drewN n) ∧ ∃ k : Nat, k ≤ la.length ∧ iv = .int .i64 ((k : Int) - 1) ∧ la.drop k = lb.drop k) (fun iv wr => (intOf iv + 1).toNat)
    case atStart => exact ⟨⟨0, rfl⟩, la.length, Nat.le_refl _, rfl, by rw [List.drop_length, Hne.out, List.drop_length]⟩
    case round =>
      obtain ⟨⟨n, rfl⟩, k, hk, rfl, hd⟩ := hrel
      have Hd := Lib.hid hd
      clear hd
      cases k with
      | zero =>
        go_wp2
        go_ret
        exact ⟨ret_bool (by rw [show la = lb from Hd.out, lessB_refl]), n, rfl⟩
      | succ k =>
        have hkb : k < lb.length := by have := Hne.out; omega
        obtain ⟨b, o, x, rfl, hb1, hx, hx2, hc⟩ := ha.at (k := k) (by omega)
        obtain ⟨b', o', y, rfl, hb1', hy, hy2, hc'⟩ := hb.at (k := k) hkb
        have Hx := Lib.hid hx
        have Hy := Lib.hid hy
        clear hx hy
        rw [show ((k + 1 : Nat) : Int) - 1 = (k : Int) from by omega]
        by_cases hxy : x = y
        · subst hxy
          go_wp2
          go_quiet (fail)
          go_wp2
          exact ⟨⟨⟨_, rfl⟩, k, by omega, rfl, drop_step Hx.out Hy.out Hd.out⟩, by simp [intOf]⟩
        · have hn2 : ((x : Int) != (y : Int)) = true := by rw [bne_iff_ne]; omega
          go_wp2
          go_quiet (fail)
          go_wp2
          go_quiet (fail)
          go_wp2
          go_ret
          exact ⟨ret_bool (lessB_at ha.lt hb.lt Hne.out Hx.out Hy.out Hd.out hxy).symm, drews_three _ _ _ _⟩
  · have hn1 : ((la.length : Int) != (lb.length : Int)) = true := by rw [bne_iff_ne]; omega
    go_enter Try.func64, Try.ntmps64
    go_wp2
    go_ret
    exact ⟨ret_bool (lessB_len hne).symm, 0, rfl⟩
/-- What `Same` answers. -/
def sameB (na nb : Bool) (la lb : List Nat) : Bool := (na == nb) && (!lessB la lb && !lessB lb la)
def SameP (w : World) (na nb : Bool) (la lb : List Nat) (e : Ending) (w' : World) : Prop := e = .returned (.bool (sameB na nb la lb)) ∧ Q w w'

set_option maxRecDepth 100000 in
theorem less_true (A B : Option Addr) (c d : Nat) (la lb : List Nat) (w : World) (ha : Lm w A c la) (hb : Lm w B d lb) {b : Bool} (h : lessB la lb = b) :
    Calls Try.prog 64 #[.slice A la.length c, .slice B lb.length d] w fun e w' => e = .returned (.bool b) ∧ ∃ n, w' = w.drewN n :=
  (less_any A B c d la lb w ha hb).mono fun _ _ hp => by unfold LessP at hp; rwa [h] at hp

end Go.Proofs.Ytcjpjnneimjfiaa
namespace Go.Proofs.Ytcjpjnneimjfiaa
open Go.RowKit

/-- A slice of limbs of a given value and length at most n. -/
def LimbsP (w : World) (v n : Nat) (e : Ending) (w' : World) : Prop := ∃ A c l, e = .returned (.slice A l.length c) ∧ Lm w' A c l ∧ val l = v ∧ l.length ≤ n ∧ Q w w'

set_option maxRecDepth 100000 in
theorem u32s_snoc (lo : List Nat) (s : Nat) (V : Int) (hV : V = (s : Int)) : u32s lo ++ [Value.int .u32 V] = u32s (lo ++ [s]) := by
  subst hV; simp [u32s]
set_option maxRecDepth 100000 in
theorem below_q {base : Nat} {a b c : World} (hq : Q a b) (h : Below base b c) (hb : a.heap.size ≤ base) : Q a c := Below.trans hq (h.mono hb)

set_option maxRecDepth 100000 in
/-- What one round of `plus` does to the relation of its loop. -/
theorem plus_close {w wr w2 : World} {la lb lo : List Nat} {i cy x y m c2 : Nat} {A2 : Option Addr} {V : Int} (hR : PlusR la lb i cy lo) (hx : la[i]?.getD 0 = x) (hy : lb[i]?.getD 0 = y) (hx2 : x < 4294967296) (hy2 : y < 4294967296) (hcy : cy ≤ 1)
    (hi : i < la.length ∨ i < lb.length ∨ (x + y = 0 ∧ i ≤ m)) (hma : la.length ≤ m) (hmb : lb.length ≤ m) (hV : V = ((cy + x + y : Nat) : Int))
    (hown : w2.ownsRow w.heap.size 49 1 (.slice A2 (i + 1) c2) (i + 1) (u32s lo ++ [.int .u32 (V % 4294967296)])) (hq : Q w wr) (hb : Below w.heap.size wr w2) :
    (∃ (i1 cy1 : Nat) (lo : List Nat), Value.int .i64 ((i : Int) + 1) = .int .i64 i1 ∧ Value.int .u64 (V / 4294967296) = .int .u64 cy1 ∧ cy1 ≤ 1 ∧ (i1 ≤ la.length ∨ i1 ≤ lb.length ∨ (cy1 = 0 ∧ i1 ≤ m + 1)) ∧ PlusR la lb i1 cy1 lo ∧ w2.ownsRow w.heap.size 49 1 (.slice A2 (i + 1) c2) i1 (u32s lo) ∧ Q w w2) ∧
      m + 2 - (intOf (Value.int .i64 ((i : Int) + 1))).toNat < m + 2 - (intOf (Value.int .i64 (i : Int))).toNat := by
  subst hV
  have e2 : (((cy + x + y : Nat) : Int) / 4294967296) = (((cy + x + y) / 4294967296 : Nat) : Int) := by omega
  rw [u32s_snoc lo ((cy + x + y) % 4294967296) _ (by omega)] at hown
  refine ⟨⟨i + 1, (cy + x + y) / 4294967296, _, rfl, by rw [e2], by omega, by omega, plus_step hR hx hy, hown, below_q hq hb (Nat.le_refl _)⟩, ?_⟩
  simp only [intOf]
  omega

set_option maxHeartbeats 1000000 in
set_option maxRecDepth 100000 in
theorem plus_any (A B : Option Addr) (c d : Nat) (la lb : List Nat) (w : World) (ha : Lm w A c la) (hb : Lm w B d lb) (m : Nat) (hma : la.length ≤ m) (hmb : lb.length ≤ m) (hm : m ≤ 68719476736) :
    Calls Try.prog 63 #[.slice A la.length c, .slice B lb.length d] w (LimbsP w (val la + val lb) (m + 1)) := by
  obtain ⟨i0, hi, hz0, hz1, hz2⟩ := info_parts info_u32
  go_enter Try.func63, Try.ntmps63
  go_wp2
  go_loopw [5, 6, 7] (fun ov cv iv wr => ∃ (i cy : Nat) (lo : List Nat), iv = .int .i64 i ∧ cv = .int .u64 cy ∧ cy ≤ 1 ∧ (i ≤ la.length ∨ i ≤ lb.length ∨ (cy = 0 ∧ i ≤ m + 1)) ∧ PlusR la lb i cy lo ∧ wr.ownsRow w.heap.size 49 1 ov i (u32s lo) ∧ Q w wr) (fun _ cv iv _ => (m + 2 - (intOf iv).toNat))
  case atStart => exact ⟨0, 0, [], rfl, rfl, by omega, by omega, plus_start _ _, own_new _ _ _ _ rfl (Nat.le_refl _), (Q.refl w).alloc _⟩
  case round =>
    obtain ⟨i, cy, lo, rfl, rfl, hcy, hib, hR, hown, hq⟩ := hrel
    obtain ⟨A', c', rfl, _⟩ := own_shape hown
    have HR := Lib.hid hR
    clear hR
    have hqs := hq.size
    by_cases h1 : i < la.length
    · obtain ⟨b, o, x, rfl, hb1, hx, hx2, hc⟩ := (ha.q hq).at (k := i) (by omega)
      have Hx := Lib.hid hx
      clear hx
      by_cases h2 : i < lb.length
      · obtain ⟨b', o', y, rfl, hb1', hy, hy2, hc'⟩ := (hb.q hq).at (k := i) (by omega)
        have Hy := Lib.hid hy
        clear hy
        go_wp2_with (at_builtin; go_must (refine wpList_app1 rfl _ _ 54 rfl w.heap.size 49 i0 (.int .u32 0) 4 Try.underlying54 hi hz0 hz1 hz2 rfl _ i (u32s lo) rfl hown _ rfl rfl (by omega) (by decide) (by omega) ?_); intro A2 c2 w2 hown2 hb2 hs2)
        exact plus_close HR.out (getD_at Hx.out) (getD_at Hy.out) (by omega) (by omega) hcy (by omega) hma hmb (by omega) hown2 hq hb2
      · go_wp2_with (at_builtin; go_must (refine wpList_app1 rfl _ _ 54 rfl w.heap.size 49 i0 (.int .u32 0) 4 Try.underlying54 hi hz0 hz1 hz2 rfl _ i (u32s lo) rfl hown _ rfl rfl (by omega) (by decide) (by omega) ?_); intro A2 c2 w2 hown2 hb2 hs2)
        exact plus_close HR.out (getD_at Hx.out) (getD_out (by omega)) (by omega) (by omega) hcy (by omega) hma hmb (by omega) hown2 hq hb2
    · by_cases h2 : i < lb.length
      · obtain ⟨b', o', y, rfl, hb1', hy, hy2, hc'⟩ := (hb.q hq).at (k := i) (by omega)
        have Hy := Lib.hid hy
        clear hy
        go_wp2_with (at_builtin; go_must (refine wpList_app1 rfl _ _ 54 rfl w.heap.size 49 i0 (.int .u32 0) 4 Try.underlying54 hi hz0 hz1 hz2 rfl _ i (u32s lo) rfl hown _ rfl rfl (by omega) (by decide) (by omega) ?_); intro A2 c2 w2 hown2 hb2 hs2)
        exact plus_close HR.out (getD_out (by omega)) (getD_at Hy.out) (by omega) (by omega) hcy (by omega) hma hmb (by omega) hown2 hq hb2
      · by_cases h3 : 0 < cy
        · go_wp2_with (at_builtin; go_must (refine wpList_app1 rfl _ _ 54 rfl w.heap.size 49 i0 (.int .u32 0) 4 Try.underlying54 hi hz0 hz1 hz2 rfl _ i (u32s lo) rfl hown _ rfl rfl (by omega) (by decide) (by omega) ?_); intro A2 c2 w2 hown2 hb2 hs2)
          exact plus_close (V := (cy : Int)) HR.out (getD_out (by omega)) (getD_out (by omega)) (by omega) (by omega) hcy (by omega) hma hmb (by omega) (by rw [show (cy : Int) % 4294967296 = cy from by omega]; exact hown2) hq hb2
        · obtain rfl : cy = 0 := by omega
          go_wp2_with fail
          go_ret
          obtain ⟨hlo, hlim, _⟩ := HR.out
          obtain ⟨A3, c3, e3, hl3, hL3⟩ := own_lm hown hlim (by omega)
          injection e3 with e3 _ e4
          subst e3 e4
          exact ⟨A', c', lo, by rw [← hl3]; rfl, hL3, plus_end HR.out (by omega) (by omega), by omega, hq⟩
set_option maxRecDepth 100000 in
/-- What one round of `minus` does to the relation of its loop. -/
theorem minus_close {w wr w2 : World} {la lb lo : List Nat} {i bo x y c2 D bo2 : Nat} {A2 : Option Addr} {V : Int} (hR : MinusR la lb i bo lo) (hx : la[i]?.getD 0 = x) (hy : lb[i]?.getD 0 = y)
    (hD : D < 4294967296) (e : D + bo + y = x + 4294967296 * bo2) (hb1 : bo2 ≤ 1) (hi : i < la.length) (hV : V = (D : Int))
    (hown : w2.ownsRow w.heap.size 49 1 (.slice A2 (i + 1) c2) (i + 1) (u32s lo ++ [.int .u32 V])) (hq : Q w wr) (hb : Below w.heap.size wr w2) :
    (∃ (i1 bo1 : Nat) (lo : List Nat), Value.int .i64 ((i : Int) + 1) = .int .i64 i1 ∧ Value.int .i64 (bo2 : Int) = .int .i64 bo1 ∧ bo1 ≤ 1 ∧ i1 ≤ la.length ∧ MinusR la lb i1 bo1 lo ∧ w2.ownsRow w.heap.size 49 1 (.slice A2 (i + 1) c2) i1 (u32s lo) ∧ Q w w2) ∧
      la.length - (intOf (Value.int .i64 ((i : Int) + 1))).toNat < la.length - (intOf (Value.int .i64 (i : Int))).toNat := by
  subst hV
  rw [u32s_snoc lo D _ rfl] at hown
  refine ⟨⟨i + 1, bo2, _, rfl, rfl, hb1, by omega, minus_step hR hx hy hD e, hown, below_q hq hb (Nat.le_refl _)⟩, ?_⟩
  simp only [intOf]
  omega

set_option maxHeartbeats 1000000 in
set_option maxRecDepth 100000 in
theorem minus_any (A B : Option Addr) (c d : Nat) (la lb : List Nat) (w : World) (ha : Lm w A c la) (hb : Lm w B d lb) (hlen : lb.length ≤ la.length) (hv : val lb ≤ val la) (hm : la.length ≤ 68719476736) :
    Calls Try.prog 65 #[.slice A la.length c, .slice B lb.length d] w (LimbsP w (val la - val lb) la.length) := by
  obtain ⟨i0, hi, hz0, hz1, hz2⟩ := info_parts info_u32
  have Hv := Lib.hid hv
  clear hv
  go_enter Try.func65, Try.ntmps65
  go_wp2
  go_loopw [5, 6, 7, 8] (fun ov bv iv _ wr => ∃ (i bo : Nat) (lo : List Nat), iv = .int .i64 i ∧ bv = .int .i64 bo ∧ bo ≤ 1 ∧ i ≤ la.length ∧ MinusR la lb i bo lo ∧ wr.ownsRow w.heap.size 49 1 ov i (u32s lo) ∧ Q w wr) (fun _ _ iv _ _ => (la.length - (intOf iv).toNat))
  case atStart => exact ⟨0, 0, [], rfl, rfl, by omega, by omega, minus_start _ _, own_new _ _ _ _ rfl (Nat.le_refl _), (Q.refl w).alloc _⟩
  case round =>
    obtain ⟨i, bo, lo, rfl, rfl, hbo, hib, hR, hown, hq⟩ := hrel
    obtain ⟨A', c', rfl, _⟩ := own_shape hown
    have HR := Lib.hid hR
    clear hR
    have hqs := hq.size
    by_cases h1 : i < la.length
    · obtain ⟨b, o, x, rfl, hb1, hx, hx2, hc⟩ := (ha.q hq).at (k := i) (by omega)
      have Hx := Lib.hid hx
      clear hx
      by_cases h2 : i < lb.length
      · obtain ⟨b', o', y, rfl, hb1', hy, hy2, hc'⟩ := (hb.q hq).at (k := i) (by omega)
        have Hy := Lib.hid hy
        clear hy
        by_cases h3 : x < bo + y
        · go_wp2_with (at_builtin; go_must (refine wpList_app1 rfl _ _ 54 rfl w.heap.size 49 i0 (.int .u32 0) 4 Try.underlying54 hi hz0 hz1 hz2 rfl _ i (u32s lo) rfl hown _ rfl rfl (by omega) (by decide) (by omega) ?_); intro A2 c2 w2 hown2 hb2 hs2)
          exact minus_close (D := x + 4294967296 - bo - y) (bo2 := 1) HR.out (getD_at Hx.out) (getD_at Hy.out) (by omega) (by omega) (by omega) h1 (by omega) hown2 hq hb2
        · go_wp2_with (at_builtin; go_must (refine wpList_app1 rfl _ _ 54 rfl w.heap.size 49 i0 (.int .u32 0) 4 Try.underlying54 hi hz0 hz1 hz2 rfl _ i (u32s lo) rfl hown _ rfl rfl (by omega) (by decide) (by omega) ?_); intro A2 c2 w2 hown2 hb2 hs2)
          exact minus_close (D := x - bo - y) (bo2 := 0) HR.out (getD_at Hx.out) (getD_at Hy.out) (by omega) (by omega) (by omega) h1 (by omega) hown2 hq hb2
      · by_cases h3 : x < bo
        · go_wp2_with (at_builtin; go_must (refine wpList_app1 rfl _ _ 54 rfl w.heap.size 49 i0 (.int .u32 0) 4 Try.underlying54 hi hz0 hz1 hz2 rfl _ i (u32s lo) rfl hown _ rfl rfl (by omega) (by decide) (by omega) ?_); intro A2 c2 w2 hown2 hb2 hs2)
          exact minus_close (D := x + 4294967296 - bo) (bo2 := 1) (y := 0) HR.out (getD_at Hx.out) (getD_out (by omega)) (by omega) (by omega) (by omega) h1 (by omega) hown2 hq hb2
        · go_wp2_with (at_builtin; go_must (refine wpList_app1 rfl _ _ 54 rfl w.heap.size 49 i0 (.int .u32 0) 4 Try.underlying54 hi hz0 hz1 hz2 rfl _ i (u32s lo) rfl hown _ rfl rfl (by omega) (by decide) (by omega) ?_); intro A2 c2 w2 hown2 hb2 hs2)
          exact minus_close (D := x - bo) (bo2 := 0) (y := 0) HR.out (getD_at Hx.out) (getD_out (by omega)) (by omega) (by omega) (by omega) h1 (by omega) hown2 hq hb2
    · go_wp2_with fail
      go_ret
      obtain ⟨hlo, hlim, _⟩ := HR.out
      obtain ⟨A3, c3, e3, hl3, hL3⟩ := own_lm hown hlim (by omega)
      injection e3 with e3 _ e4
      subst e3 e4
      exact ⟨A', c', lo, by rw [← hl3]; rfl, hL3, minus_end HR.out (by omega) (by omega) Hv.out, by omega, hq⟩
end Go.Proofs.Ytcjpjnneimjfiaa
