/-
  divide by one limb, of the reference.
  DivMod of the reference, given what divide does.
  DivMod by one limb; the reference's Reduce.
-/
import Derived.Test.YtcjpjnneimjfiaaRow
import Derived.Test.YtcjpjnneimjfiaaInt
import Derived.Deep.RegionLaw
import Derived.Deep.CutRange
import Derived.Test.YtcjpjnneimjfiaaNorm
namespace Go.Proofs.Ytcjpjnneimjfiaa
open Go.RowKit

/-- Quotient and remainder of absolute values. -/
def DivP (w : World) (a b : Nat) (e : Ending) (w' : World) : Prop := ∃ v1 v2, e = .returned (.tuple #[v1, v2]) ∧ IntV w' v1 (a / b : Nat) ∧ IntV w' v2 (a % b : Nat) ∧ Q w w'

set_option maxRecDepth 100000 in
/-- A store of an integer into a box leaves what slices read. -/
theorem lm_boxes {w : World} {B t : Nat} {b0 neg : Bool} {A0 A' A : Option Addr} {n0 c0 n' c' c : Nat} {l : List Nat} (h : Lm w A c l) (hB : Blk w B t #[.bool b0, .slice A0 n0 c0]) :
    Lm ((w.setCell ⟨B, 0, none⟩ (.bool neg)).setCell ⟨B, 1, none⟩ (.slice A' n' c')) A c l := by
  have n1 : ∀ (b1 : Bool) (j : Nat) (x : Int), (#[Value.bool b1, .slice A0 n0 c0] : Array Value)[j]? ≠ some (Value.int .u32 x) := by
    intro b1 j x
    match j with
    | 0 => simp
    | 1 => simp
    | j + 2 => simp
  exact (h.box hB (n1 _) _ _).box (hB.set 0 _) (n1 neg) _ _
set_option maxRecDepth 100000 in
theorem blk_boxes {w : World} {B t : Nat} {b0 neg : Bool} {A0 A' : Option Addr} {n0 c0 n' c' : Nat} (hB : Blk w B t #[.bool b0, .slice A0 n0 c0]) :
    Blk ((w.setCell ⟨B, 0, none⟩ (.bool neg)).setCell ⟨B, 1, none⟩ (.slice A' n' c')) B t #[.bool neg, .slice A' n' c'] := (hB.set 0 _).set 1 _
set_option maxRecDepth 100000 in
theorem blk_boxes_far {w : World} {B D t : Nat} {cs : Array Value} {u v : Value} (hB : Blk w B t cs) (h : B ≠ D) : Blk ((w.setCell ⟨D, 0, none⟩ u).setCell ⟨D, 1, none⟩ v) B t cs := (hB.far h _).far h _
set_option maxRecDepth 100000 in
theorem IntA.boxes {w : World} {B t : Nat} {b0 neg : Bool} {A0 A' A : Option Addr} {n0 c0 n' c' c : Nat} {l : List Nat} {ng : Bool} {z : Int} (h : IntA w ng A c l z) (hB : Blk w B t #[.bool b0, .slice A0 n0 c0]) :
    IntA ((w.setCell ⟨B, 0, none⟩ (.bool neg)).setCell ⟨B, 1, none⟩ (.slice A' n' c')) ng A c l z := ⟨lm_boxes h.1 hB, h.2⟩
set_option maxRecDepth 100000 in
theorem Q.boxes {w w1 : World} {B : Nat} {u v : Value} (h : Q w w1) (hw : w.heap.size ≤ B) : Q w ((w1.setCell ⟨B, 0, none⟩ u).setCell ⟨B, 1, none⟩ v) := (h.setCell hw _).setCell hw _
set_option maxRecDepth 100000 in
theorem lm_single (w : World) (x : Nat) (hx : x < 4294967296) : Lm (w.alloc (.cells #[.int .u32 (x : Nat)] 49)) (some ⟨w.heap.size, 0, none⟩) 1 [x] :=
  Row32.lm (Row32.make w [x] rfl) (fun y hy => by obtain rfl : y = x := by simpa using hy
                                                  exact hx) (by simp) (by simp)
set_option maxRecDepth 100000 in
theorem val_single (x : Nat) : val [x] = x := by simp [val]

set_option maxHeartbeats 1000000 in
set_option maxRecDepth 100000 in
theorem divide1 (A B : Option Addr) (c d x : Nat) (la : List Nat) (w : World) (hA : Lm w A c la) (hB : Lm w B d [x]) (hx : 0 < x) (hn : la.length ≤ 4294967296) :
    Calls Try.prog 75 #[.slice A la.length c, .slice B 1 d] w (DivP w (val la) x) := by
  obtain ⟨b, o, y, rfl, hb, hy, hy2, hc⟩ := hB.at (k := 0) (by simp)
  obtain rfl : x = y := by simpa using hy
  have hcap := hB.cap
  have hc' : ∀ o1 o2 : Obj, ((w.alloc o1).alloc o2).cell? ⟨b, o, none⟩ = some (.int .u32 (x : Nat)) := fun o1 o2 => Q.cell (((Q.refl w).alloc _).alloc _) hc
  have k0 := hc' (.cells #[.bool false, .slice none 0 0] 73) (.cells #[.bool false, .slice none 0 0] 73)
  have hcap1 : 1 ≤ d := hcap
  clear hcap hc hc' hy
  go_enter Try.func75, Try.ntmps75
  go_wp2_with fail
  refine (short_any A c la x _ (hA.q (by repeat (first | exact Q.refl _ | assumption | apply Q.drew | apply Q.drewN | apply Q.alloc))) hn hx hy2).mono ?_
  rintro e w1 ⟨A1, c1, l1, rfl, hL1, hl1, hv1, hq1⟩
  obtain ⟨g4, g5, q1⟩ := boxes2 hq1
  have Hv1 := Lib.hid hv1
  have Hl1 := Lib.hid hl1
  clear hv1 hq1 k0 hl1
  go_wp2_with fail
  refine (made_v A1 c1 l1 false _ hL1 (by rw [Hl1.out]; omega)).mono ?_
  rintro e w2 ⟨v2, rfl, ⟨n2, A2, c2, l2, rfl, hI2⟩, hq2⟩
  have g4 := g4.q hq2
  have g5 := g5.q hq2
  have q2 := q1.trans hq2
  clear hq2 q1
  go_wp2_with fail
  have hr : val la % x < 4294967296 := Nat.lt_of_lt_of_le (Nat.mod_lt _ hx) (by omega)
  refine (made_v (some ⟨w2.heap.size, 0, none⟩) 1 [val la % x] false _ (lm_single w2 _ hr) (by simp)).mono ?_
  rintro e w3 ⟨v3, rfl, ⟨n3, A3, c3, l3, rfl, hI3⟩, hq3⟩
  have hq3' : Q w2 w3 := (boxes1 hq3).2
  have g4 := g4.q hq3'
  have g5 := g5.q hq3'
  have hI2 := hI2.q hq3'
  have q3 := q2.trans hq3'
  have hz4 := g4.lt
  have hz5 := g5.lt
  obtain ⟨k4, k5, f4, f5⟩ := g4.two
  obtain ⟨k6, k7, f6, f7⟩ := g5.two
  clear hq3 hq3' q2 hL1 hA hB hr
  go_wp2_with fail
  refine bodyPost_ret (v := .tuple #[.agg #[.bool n2, .slice A2 l2.length c2], .agg #[.bool n3, .slice A3 l3.length c3]]) (by simp [results, Try.results75, go_sem, k4, k5, k6, k7]) rfl ?_
  have g5' := blk_boxes_far (u := .bool n2) (v := .slice A2 l2.length c2) g5 (D := w.heap.size) (by omega)
  refine ⟨_, _, rfl, ⟨n2, A2, c2, l2, rfl, ?_⟩, ⟨n3, A3, c3, l3, rfl, ?_⟩, (q3.boxes (by omega)).boxes (by omega)⟩
  · have e : sgn false (val l1) = ((val la / x : Nat) : Int) := by rw [Hv1.out]; rfl
    rw [← e]
    exact (hI2.boxes g4).boxes g5'
  · have e : sgn false (val [val la % x]) = ((val la % x : Nat) : Int) := by rw [val_single]; rfl
    rw [← e]
    exact (hI3.boxes g4).boxes g5'
end Go.Proofs.Ytcjpjnneimjfiaa
namespace Go.Proofs.Ytcjpjnneimjfiaa
open Go.RowKit

def DMP (w : World) (a b : Int) (e : Ending) (w' : World) : Prop := ∃ v1 v2, e = .returned (.tuple #[v1, v2, .int .i64 0]) ∧ IntV w' v1 (a / b) ∧ IntV w' v2 (a % b) ∧ Q w w'
set_option maxRecDepth 100000 in
theorem boxes4 {w w1 : World} {c1 c2 c3 c4 : Array Value} {t1 t2 t3 t4 : TypeId} (h : Q ((((w.alloc (.cells c1 t1)).alloc (.cells c2 t2)).alloc (.cells c3 t3)).alloc (.cells c4 t4)) w1) : Blk w1 w.heap.size t1 c1 ∧ Blk w1 (w.heap.size + 1) t2 c2 ∧ Blk w1 (w.heap.size + 1 + 1) t3 c3 ∧ Blk w1 (w.heap.size + 1 + 1 + 1) t4 c4 ∧ Q w w1 :=
  ⟨((((Blk.new w t1 c1).alloc _).alloc _).alloc _).q h, (((Blk.new' _ t2 c2 (by simp)).alloc _).alloc _).q h, ((Blk.new' _ t3 c3 (by simp)).alloc _).q h, (Blk.new' _ t4 c4 (by simp)).q h, Q.trans (((((Q.refl w).alloc _).alloc _).alloc _).alloc _) h⟩
set_option maxRecDepth 100000 in
theorem DMP.drew {w w' : World} {a b : Int} {e : Ending} (h : DMP w a b e w') : DMP w a b e w'.drew := by
  obtain ⟨v1, v2, rfl, h1, h2, hq⟩ := h
  exact ⟨v1, v2, rfl, h1.q ((Q.refl _).drew), h2.q ((Q.refl _).drew), hq.drew⟩
set_option maxRecDepth 100000 in
/-- Made of an integer's own parts. -/
theorem made_same {w : World} {neg : Bool} {A : Option Addr} {c : Nat} {l : List Nat} {z : Int} (h : IntA w neg A c l z) (hl : l.length ≤ 1099511627776) :
    Calls Try.prog 62 #[.slice A l.length c, .bool neg] w (RetV w z) := by
  have := made_v A c l neg w h.1 hl
  rwa [← h.2.2.2] at this

set_option maxRecDepth 100000 in
/-- The boxes of DivMod behind the division: quotient q, rest r. -/
structure DSt (w : World) (T : Nat) (n1 n2 : Bool) (A2 : Option Addr) (c2 : Nat) (l2 : List Nat) (b q r : Int) (wx : World) : Prop where
  g2 : ∃ A1 c1 k1, Blk wx w.heap.size 73 #[.bool n1, .slice A1 k1 c1]
  g3 : Blk wx (w.heap.size + 1) 73 #[.bool n2, .slice A2 l2.length c2]
  g4 : Blk wx (w.heap.size + 1 + 1) 73 #[.bool false, .slice none 0 0]
  g5 : Blk wx (w.heap.size + 1 + 1 + 1) 73 #[.bool false, .slice none 0 0]
  g7 : ∃ n A c l, Blk wx T 73 #[.bool n, .slice A (List.length l) c] ∧ IntA wx n A c l q
  g8 : ∃ n A c l, Blk wx (T + 1) 73 #[.bool n, .slice A (List.length l) c] ∧ IntA wx n A c l r
  i2 : IntA wx n2 A2 c2 l2 b
  qq : Q w wx
  hT : w.heap.size + 1 + 1 + 1 < T
section
variable {w wx wy : World} {T : Nat} {n1 n2 : Bool} {A2 : Option Addr} {c2 : Nat} {l2 : List Nat} {b q r : Int}
set_option maxRecDepth 100000 in
theorem DSt.step (h : DSt w T n1 n2 A2 c2 l2 b q r wx) (hq : Q wx wy) : DSt w T n1 n2 A2 c2 l2 b q r wy := by
  obtain ⟨⟨A1, c1, k1, g2⟩, g3, g4, g5, ⟨n, A, c, l, g7, i7⟩, ⟨n', A', c', l', g8, i8⟩, i2, qq, hT⟩ := h
  exact ⟨⟨A1, c1, k1, g2.q hq⟩, g3.q hq, g4.q hq, g5.q hq, ⟨n, A, c, l, g7.q hq, i7.q hq⟩, ⟨n', A', c', l', g8.q hq, i8.q hq⟩, i2.q hq, qq.trans hq, hT⟩
set_option maxRecDepth 100000 in
theorem DSt.put7 (h : DSt w T n1 n2 A2 c2 l2 b q r wx) {ng : Bool} {A : Option Addr} {c : Nat} {l : List Nat} {q' : Int} (hI : IntA wx ng A c l q') :
    DSt w T n1 n2 A2 c2 l2 b q' r ((wx.setCell ⟨T, 0, none⟩ (.bool ng)).setCell ⟨T, 1, none⟩ (.slice A l.length c)) := by
  obtain ⟨⟨A1, c1, k1, g2⟩, g3, g4, g5, ⟨n0, A0, c0, l0, g7, i7⟩, ⟨n', A', c', l', g8, i8⟩, i2, qq, hT⟩ := h
  exact ⟨⟨A1, c1, k1, blk_boxes_far g2 (by omega)⟩, blk_boxes_far g3 (by omega), blk_boxes_far g4 (by omega), blk_boxes_far g5 (by omega), ⟨ng, A, c, l, blk_boxes g7, hI.boxes g7⟩, ⟨n', A', c', l', blk_boxes_far g8 (by omega), i8.boxes g7⟩, i2.boxes g7, qq.boxes (by omega), hT⟩
set_option maxRecDepth 100000 in
theorem DSt.put8 (h : DSt w T n1 n2 A2 c2 l2 b q r wx) {ng : Bool} {A : Option Addr} {c : Nat} {l : List Nat} {r' : Int} (hI : IntA wx ng A c l r') :
    DSt w T n1 n2 A2 c2 l2 b q r' ((wx.setCell ⟨T + 1, 0, none⟩ (.bool ng)).setCell ⟨T + 1, 1, none⟩ (.slice A l.length c)) := by
  obtain ⟨⟨A1, c1, k1, g2⟩, g3, g4, g5, ⟨n0, A0, c0, l0, g7, i7⟩, ⟨n', A', c', l', g8, i8⟩, i2, qq, hT⟩ := h
  exact ⟨⟨A1, c1, k1, blk_boxes_far g2 (by omega)⟩, blk_boxes_far g3 (by omega), blk_boxes_far g4 (by omega), blk_boxes_far g5 (by omega), ⟨n0, A0, c0, l0, blk_boxes_far g7 (by omega), i7.boxes g8⟩, ⟨ng, A, c, l, blk_boxes g8, hI.boxes g8⟩, i2.boxes g8, qq.boxes (by omega), hT⟩
set_option maxRecDepth 100000 in
theorem DSt.fin (h : DSt w T n1 n2 A2 c2 l2 b q r wx) {ng ng' : Bool} {A A' : Option Addr} {c c' : Nat} {l l' : List Nat} {z z' : Int} (i7 : IntA wx ng A c l z) (i8 : IntA wx ng' A' c' l' z') {a0 b0 : Int} (hz : z = a0 / b0) (hz' : z' = a0 % b0) :
    DMP w a0 b0 (.returned (.tuple #[.agg #[.bool ng, .slice A l.length c], .agg #[.bool ng', .slice A' l'.length c'], .int .i64 0]))
      ((((wx.setCell ⟨w.heap.size + 1 + 1, 0, none⟩ (.bool ng)).setCell ⟨w.heap.size + 1 + 1, 1, none⟩ (.slice A l.length c)).setCell ⟨w.heap.size + 1 + 1 + 1, 0, none⟩ (.bool ng')).setCell ⟨w.heap.size + 1 + 1 + 1, 1, none⟩ (.slice A' l'.length c')) := by
  subst hz hz'
  have g5' := blk_boxes_far (u := .bool ng) (v := .slice A l.length c) h.g5 (D := w.heap.size + 1 + 1) (by omega)
  exact ⟨_, _, rfl, ⟨ng, A, c, l, rfl, (i7.boxes h.g4).boxes g5'⟩, ⟨ng', A', c', l', rfl, (i8.boxes h.g4).boxes g5'⟩, (h.qq.boxes (by omega)).boxes (by omega)⟩
end
/-! The plain law of the signs. -/
theorem dm_unique {a b q r : Int} (hb : b ≠ 0) (h : r + b * q = a) (h0 : 0 ≤ r) (h1 : r < b.natAbs) : q = a / b ∧ r = a % b := by
  rcases Int.lt_or_gt_of_ne hb with g | g
  · have e := (Int.ediv_emod_unique (a := a) (b := -b) (q := -q) (r := r) (by omega)).2 ⟨by rw [Int.neg_mul_neg]; exact h, h0, by omega⟩
    rw [Int.ediv_neg, Int.emod_neg] at e
    exact ⟨by omega, e.2.symm⟩
  · have e := (Int.ediv_emod_unique (a := a) (b := b) (q := q) (r := r) g).2 ⟨h, h0, by omega⟩
    exact ⟨e.1.symm, e.2.symm⟩
set_option maxRecDepth 100000 in
theorem dm_parts {a b : Int} (hb : b ≠ 0) : ∃ x y z : Int, ((a.natAbs / b.natAbs : Nat) : Int) = x ∧ ((a.natAbs % b.natAbs : Nat) : Int) = y ∧ (b.natAbs : Int) = z ∧ (a.natAbs : Int) = z * x + y ∧ 0 ≤ y ∧ y < z ∧ 0 ≤ x := by
  refine ⟨_, _, _, rfl, rfl, rfl, ?_, Int.natCast_nonneg _, ?_, Int.natCast_nonneg _⟩
  · have := Nat.div_add_mod a.natAbs b.natAbs
    rw [← Int.natCast_mul, ← Int.natCast_add, this]
  · have : a.natAbs % b.natAbs < b.natAbs := Nat.mod_lt _ (by omega)
    omega
set_option maxRecDepth 100000 in
theorem dm_law {a b x y z : Int} (hb : b ≠ 0) (ez : (b.natAbs : Int) = z) (h : (a.natAbs : Int) = z * x + y) (h0 : 0 ≤ y) (h1 : y < z) :
    (0 ≤ a → 0 ≤ b → x = a / b ∧ y = a % b) ∧ (0 ≤ a → b < 0 → -x = a / b ∧ y = a % b) ∧
    (a < 0 → 0 ≤ b → y = 0 → -x = a / b ∧ y = a % b) ∧ (a < 0 → b < 0 → y = 0 → x = a / b ∧ y = a % b) ∧
    (a < 0 → 0 ≤ b → y ≠ 0 → -(x + 1) = a / b ∧ z - y = a % b) ∧ (a < 0 → b < 0 → y ≠ 0 → x + 1 = a / b ∧ z - y = a % b) := by
  refine ⟨fun ha hb' => dm_unique hb ?_ h0 (by omega), fun ha hb' => dm_unique hb ?_ h0 (by omega), fun ha hb' hy => dm_unique hb ?_ h0 (by omega), fun ha hb' hy => dm_unique hb ?_ h0 (by omega), fun ha hb' hy => dm_unique hb ?_ (by omega) (by omega), fun ha hb' hy => dm_unique hb ?_ (by omega) (by omega)⟩
  · have e1 : a = z * x + y := by omega
    have e2 : b = z := by omega
    subst e2; rw [e1]; grind
  · have e1 : a = z * x + y := by omega
    have e2 : b = -z := by omega
    rw [e1, e2]; grind
  · have e1 : a = -(z * x + y) := by omega
    have e2 : b = z := by omega
    rw [e1, e2, hy]; grind
  · have e1 : a = -(z * x + y) := by omega
    have e2 : b = -z := by omega
    rw [e1, e2, hy]; grind
  · have e1 : a = -(z * x + y) := by omega
    have e2 : b = z := by omega
    rw [e1, e2]; grind
  · have e1 : a = -(z * x + y) := by omega
    have e2 : b = -z := by omega
    rw [e1, e2]; grind
set_option maxRecDepth 100000 in
theorem IntA.nonneg {w : World} {A : Option Addr} {c : Nat} {l : List Nat} {z : Int} (h : IntA w false A c l z) : 0 ≤ z := by rw [h.2.2.2]; simp [sgn]
set_option maxRecDepth 100000 in
theorem IntA.neg {w : World} {A : Option Addr} {c : Nat} {l : List Nat} {z : Int} (h : IntA w true A c l z) : z < 0 := by
  have h1 := h.2.2.1 rfl
  have h2 : 0 < l.length := by cases l <;> simp at h1 ⊢
  have h3 := h.val_pos h2
  rw [h.2.2.2]; simp [sgn]; omega
set_option maxRecDepth 100000 in
theorem fits_one' (n : Nat) : Fits (n + 1) 1 := by
  unfold Fits
  have h : 1 ≤ 4294967296 ^ n := Nat.pow_pos (by decide)
  rw [Nat.pow_succ]; simp; omega
set_option maxRecDepth 100000 in
theorem fits_le {n : Nat} {a x : Int} (h : Fits n a) (hx : x.natAbs ≤ a.natAbs + 1) : Fits (n + 1) x := by
  unfold Fits at h ⊢
  rw [Nat.pow_succ]
  omega

set_option maxHeartbeats 12000000 in
set_option maxRecDepth 100000 in
theorem divmod_any (va vb : Value) (a b : Int) (n : Nat) (w : World) (ha : IntV w va a) (hb : IntV w vb b) (hn : n ≤ 1073741823) (fa : Fits n a) (fb : Fits n b) (hb0 : b ≠ 0)
    (hdiv : ∀ (A B : Option Addr) (c d : Nat) (la lb : List Nat) (w' : World), Lm w' A c la → Lm w' B d lb → Canon la → Canon lb → val la = a.natAbs → val lb = b.natAbs → la.length ≤ n → lb.length ≤ n →
      Calls Try.prog 75 #[.slice A la.length c, .slice B lb.length d] w' (DivP w' a.natAbs b.natAbs)) :
    Calls Try.prog 68 #[va, vb] w (DMP w a b) := by
  obtain ⟨na, A, c, la, rfl, hA⟩ := ha
  obtain ⟨nb, B, d, lb, rfl, hB⟩ := hb
  have lna := hA.len fa
  have lnb := hB.len fb
  have Hd := @Lib.hid _ hdiv
  have Hb0 := Lib.hid hb0
  clear hdiv hb0
  go_enter Try.func68, Try.ntmps68
  go_wp2_with fail
  go_upto_region 1 with fail
  go_cut [] from 9 to 18 (fun wx => ∃ n1 A1 c1 l1 n2 A2 c2 l2, IntA wx n1 A1 c1 l1 a ∧ IntA wx n2 A2 c2 l2 b ∧ Blk wx w.heap.size 73 #[.bool n1, .slice A1 (List.length l1) c1] ∧ Blk wx (w.heap.size + 1) 73 #[.bool n2, .slice A2 (List.length l2) c2] ∧
    Blk wx (w.heap.size + 1 + 1) 73 #[.bool false, .slice none 0 0] ∧ Blk wx (w.heap.size + 1 + 1 + 1) 73 #[.bool false, .slice none 0 0] ∧ Q w wx)
  case first =>
    go_region_law (first | (go_simp; go_at_call 62; have qq := q1; refine (made_same (hB.q qq) (by omega)).mono ?_; rintro e w2 ⟨_, rfl, ⟨n2, A2, c2, l2, rfl, hI2⟩, hq2⟩; have hI1 := hI1.q hq2; have g2 := g2.q hq2; have g3 := g3.q hq2; have g4 := g4.q hq2; have g5 := g5.q hq2; have q2 := q1.trans hq2; clear k20 k21 k30 k31; obtain ⟨k20, k21, _, _⟩ := g2.two; obtain ⟨k30, k31, _, _⟩ := g3.two; have hz3 := g3.lt; have hz5 := g5.lt; clear hq2 q1 qq) | (go_simp; go_at_call 62; refine (made_same (hA.q (by repeat (first | exact Q.refl _ | assumption | apply Q.drew | apply Q.drewN | apply Q.alloc))) (by omega)).mono ?_; rintro e w1 ⟨_, rfl, ⟨n1, A1, c1, l1, rfl, hI1⟩, hq1⟩; obtain ⟨g2, g3, g4, g5, q1⟩ := boxes4 hq1.of_drew; obtain ⟨k20, k21, _, _⟩ := g2.two; obtain ⟨k30, k31, _, _⟩ := g3.two; have hz3 := g3.lt; have hz5 := g5.lt; clear hq1))
    all_goals go_wp2_with fail
    all_goals go_meet
    all_goals exact ⟨n1, A1, c1, l1, n2, A2, c2, l2, (hI1.boxes g2).boxes (blk_boxes_far g3 (by omega)), (hI2.boxes g2).boxes (blk_boxes_far g3 (by omega)), blk_boxes_far (blk_boxes g2) (by omega), blk_boxes (blk_boxes_far g3 (by omega)), blk_boxes_far (blk_boxes_far g4 (by omega)) (by omega), blk_boxes_far (blk_boxes_far g5 (by omega)) (by omega), (q2.boxes (by omega)).boxes (by omega)⟩
  case rest =>
    obtain ⟨n1, A1, c1, l1, n2, A2, c2, l2, hI1, hI2, g2, g3, g4, g5, q1⟩ := hcut
    have hbs : (b.sign == 0) = false := by rw [beq_eq_false_iff_ne]; exact fun h => Hb0.out (Int.sign_eq_zero_iff_zero.1 h)
    obtain ⟨k20, k21, _, _⟩ := g2.two
    obtain ⟨k30, k31, _, _⟩ := g3.two
    have hl1 := hI1.len fa
    have hl2 := hI2.len fb
    clear hA hB lna lnb
    go_wp2_with fail
    refine (rsign_any _ b _ ⟨_, _, _, _, rfl, hI2⟩).mono ?_
    rintro e w3 ⟨rfl, hq⟩
    have hI1 := hI1.q hq
    have hI2 := hI2.q hq
    have g2 := g2.q hq
    have g3 := g3.q hq
    have g4 := g4.q hq
    have g5 := g5.q hq
    have q3 := q1.trans hq
    clear hq q1 k20 k21 k30 k31
    obtain ⟨k20, k21, _, _⟩ := g2.two
    obtain ⟨k30, k31, _, _⟩ := g3.two
    go_wp2_with fail
    refine (Hd.out A1 A2 c1 c2 l1 l2 _ hI1.1 hI2.1 hI1.2.1 hI2.2.1 hI1.abs.symm hI2.abs.symm hl1 hl2).mono ?_
    rintro e w4 ⟨_, _, rfl, ⟨nq, Aq, cq, lq, rfl, hIq⟩, ⟨nr, Ar, cr, lr, rfl, hIr⟩, hq⟩
    obtain ⟨x, y, z, ex, ey, ez, hlaw, hy0, hy1, hx0⟩ := dm_parts (a := a) Hb0.out
    rw [ex] at hIq
    rw [ey] at hIr
    have hz5 := (g5.q hq).lt
    have g7 : Blk ((w4.alloc (.cells #[.bool nq, .slice Aq lq.length cq] 73)).alloc (.cells #[.bool nr, .slice Ar lr.length cr] 73)) w4.heap.size 73 #[.bool nq, .slice Aq lq.length cq] := (Blk.new w4 _ _).alloc _
    have g8 : Blk ((w4.alloc (.cells #[.bool nq, .slice Aq lq.length cq] 73)).alloc (.cells #[.bool nr, .slice Ar lr.length cr] 73)) (w4.heap.size + 1) 73 #[.bool nr, .slice Ar lr.length cr] := Blk.new' _ _ _ (by simp)
    have hqa : Q w4 ((w4.alloc (.cells #[.bool nq, .slice Aq lq.length cq] 73)).alloc (.cells #[.bool nr, .slice Ar lr.length cr] 73)) := ((Q.refl w4).alloc _).alloc _
    have hqb := hq.trans hqa
    have D0 : DSt w w4.heap.size n1 n2 A2 c2 l2 b x y ((w4.alloc (.cells #[.bool nq, .slice Aq lq.length cq] 73)).alloc (.cells #[.bool nr, .slice Ar lr.length cr] 73)) :=
      ⟨⟨A1, c1, _, g2.q hqb⟩, g3.q hqb, g4.q hqb, g5.q hqb, ⟨nq, Aq, cq, lq, g7, hIq.q hqa⟩, ⟨nr, Ar, cr, lr, g8, hIr.q hqa⟩, hI2.q hqb, q3.trans hqb, hz5⟩
    have HL := @Lib.hid _ (dm_law Hb0.out ez hlaw hy0 hy1)
    have hna : if n1 then a < 0 else 0 ≤ a := by
      cases n1
      · exact hI1.nonneg
      · exact hI1.neg
    have hnb : if n2 then b < 0 else 0 ≤ b := by
      cases n2
      · exact hI2.nonneg
      · exact hI2.neg
    have HNA := Lib.hid hna
    have HNB := Lib.hid hnb
    have fx : Fits (n + 1) x := fits_le fa (by
      have h1 : x = ((a.natAbs / b.natAbs : Nat) : Int) := ex.symm
      have h2 : a.natAbs / b.natAbs ≤ a.natAbs := Nat.div_le_self _ _
      rw [h1]; omega)
    have fx1 : Fits (n + 1) (x + 1) := fits_le fa (by
      have h1 : x = ((a.natAbs / b.natAbs : Nat) : Int) := ex.symm
      have h2 : a.natAbs / b.natAbs ≤ a.natAbs := Nat.div_le_self _ _
      rw [h1]; omega)
    have fz : Fits n z := by unfold Fits at fb ⊢; omega
    have fy : Fits n y := by unfold Fits at fb ⊢; omega
    have FZ := Lib.hid fz
    have FY := Lib.hid fy
    have FX := Lib.hid fx
    have FX1 := Lib.hid fx1
    have EZ := Lib.hid ez
    have HY := Lib.hid (And.intro hy0 hy1)
    clear hna hnb fx fx1 fz fy ex ey ez hlaw hy0 hy1 hx0 hIq hIr g2 g3 g4 g5 g7 g8 hqa hqb hq q3 hI1 hI2 hbs k20 k21 k30 k31
    go_upto_region 5 with fail
    generalize (w4.alloc (.cells #[.bool nq, .slice Aq lq.length cq] 73)).alloc (.cells #[.bool nr, .slice Ar lr.length cr] 73) = w5 at D0 ⊢
    generalize w4.heap.size = T at D0 hz5 ⊢
    cases n1 with
    | false =>
      have ha0 : 0 ≤ a := by have := HNA.out; simpa using this
      have HA := Lib.hid ha0
      clear ha0
      cases n2 with
      | false =>
        have hb0 : 0 ≤ b := by have := HNB.out; simpa using this
        have HB := Lib.hid hb0
        clear hb0
        have DD := D0
        have DE := DD
        obtain ⟨⟨A1, c1, k1, g2⟩, g3, g4, g5, ⟨n7, A7, c7, l7, g7, i7⟩, ⟨n8, A8, c8, l8, g8, i8⟩, i2, qq, hT⟩ := DE
        obtain ⟨k20, k21, _, _⟩ := g2.two
        obtain ⟨k30, k31, _, _⟩ := g3.two
        obtain ⟨k40, k41, f40, f41⟩ := g4.two
        obtain ⟨k50, k51, f50, f51⟩ := g5.two
        obtain ⟨k70, k71, f70, f71⟩ := g7.two
        obtain ⟨k80, k81, f80, f81⟩ := g8.two
        have hz7 := g7.lt
        have hz8 := g8.lt
        go_wp2_with fail
        go_region
        all_goals go_wp2
        all_goals refine bodyPost_ret (v := .tuple #[.agg #[.bool n7, .slice A7 l7.length c7], .agg #[.bool n8, .slice A8 l8.length c8], .int .i64 0]) (by simp [results, Try.results68, go_sem, k40, k41, k50, k51]) rfl ?_
        all_goals exact DMP.drew (DD.fin i7 i8 (HL.out.1 HA.out HB.out).1 (HL.out.1 HA.out HB.out).2)
      | true =>
        have hb0 : b < 0 := by have := HNB.out; simpa using this
        have HB := Lib.hid hb0
        clear hb0
        have DD := D0
        have DE := DD
        obtain ⟨⟨A1, c1, k1, g2⟩, g3, g4, g5, ⟨n7, A7, c7, l7, g7, i7⟩, ⟨n8, A8, c8, l8, g8, i8⟩, i2, qq, hT⟩ := DE
        obtain ⟨k20, k21, _, _⟩ := g2.two
        obtain ⟨k30, k31, _, _⟩ := g3.two
        obtain ⟨k40, k41, f40, f41⟩ := g4.two
        obtain ⟨k50, k51, f50, f51⟩ := g5.two
        obtain ⟨k70, k71, f70, f71⟩ := g7.two
        obtain ⟨k80, k81, f80, f81⟩ := g8.two
        have hz7 := g7.lt
        have hz8 := g8.lt
        go_wp2_with fail
        refine (rneg_any _ _ _ ⟨_, _, _, _, rfl, i7⟩ (FX.out.mono (by omega))).mono ?_
        rintro e w9 ⟨_, rfl, ⟨n9, A9, c9, l9, rfl, i9⟩, hq⟩
        have D9 := DD.step hq
        have DD := D9.put7 i9
        obtain ⟨k70', k71', f70', f71'⟩ := (g7.q hq).two
        have hz7' := (g7.q hq).lt
        clear g2 g3 g4 g5 g7 g8 k20 k21 k30 k31 k40 k41 k50 k51 k70 k71 k80 k81 f40 f41 f50 f51 f70 f71 f80 f81 hz7 hz8 i7 i8 i2 qq D9
        go_upto_region 10 with fail
        generalize ((w9.setCell ⟨T, 0, none⟩ (.bool n9)).setCell ⟨T, 1, none⟩ (.slice A9 l9.length c9)) = wt at DD ⊢
        clear k70' k71' f70' f71' hz7'
        have DE := DD
        obtain ⟨⟨_, _, _, g2⟩, g3, g4, g5, ⟨n7, A7, c7, l7, g7, i7⟩, ⟨n8, A8, c8, l8, g8, i8⟩, i2, qq, hT⟩ := DE
        obtain ⟨k20, k21, _, _⟩ := g2.two
        obtain ⟨k30, k31, _, _⟩ := g3.two
        obtain ⟨k40, k41, f40, f41⟩ := g4.two
        obtain ⟨k50, k51, f50, f51⟩ := g5.two
        obtain ⟨k70, k71, f70, f71⟩ := g7.two
        obtain ⟨k80, k81, f80, f81⟩ := g8.two
        have hz7 := g7.lt
        have hz8 := g8.lt
        go_region
        all_goals go_wp2
        all_goals refine bodyPost_ret (v := .tuple #[.agg #[.bool n7, .slice A7 l7.length c7], .agg #[.bool n8, .slice A8 l8.length c8], .int .i64 0]) (by simp [results, Try.results68, go_sem, k40, k41, k50, k51]) rfl ?_
        all_goals exact DMP.drew (DD.fin i7 i8 (HL.out.2.1 HA.out HB.out).1 (HL.out.2.1 HA.out HB.out).2)
    | true =>
      have ha0 : a < 0 := by have := HNA.out; simpa using this
      have HA := Lib.hid ha0
      clear ha0
      have DD := D0
      have DE := DD
      obtain ⟨⟨A1, c1, k1, g2⟩, g3, g4, g5, ⟨n7, A7, c7, l7, g7, i7⟩, ⟨n8, A8, c8, l8, g8, i8⟩, i2, qq, hT⟩ := DE
      obtain ⟨k20, k21, _, _⟩ := g2.two
      obtain ⟨k30, k31, _, _⟩ := g3.two
      obtain ⟨k40, k41, f40, f41⟩ := g4.two
      obtain ⟨k50, k51, f50, f51⟩ := g5.two
      obtain ⟨k70, k71, f70, f71⟩ := g7.two
      obtain ⟨k80, k81, f80, f81⟩ := g8.two
      have hz7 := g7.lt
      have hz8 := g8.lt
      go_wp2_with fail
      refine (rsign_any _ y _ ⟨_, _, _, _, rfl, i8⟩).mono ?_
      rintro e w6 ⟨rfl, hq⟩
      have D1 := DD.step hq
      clear g2 g3 g4 g5 g7 g8 k20 k21 k30 k31 k40 k41 k50 k51 k70 k71 k80 k81 f40 f41 f50 f51 f70 f71 f80 f81 hz7 hz8 i7 i8 i2 qq DD D0 hq
      by_cases hy : y = 0
      · have hsg : y.sign = 0 := by rw [hy]; rfl
        have HY0 := Lib.hid hy
        clear hy
        cases n2 with
        | false =>
          have hb0 : 0 ≤ b := by have := HNB.out; simpa using this
          have HB := Lib.hid hb0
          clear hb0
          have DD := D1
          have DE := DD
          obtain ⟨⟨A1, c1, k1, g2⟩, g3, g4, g5, ⟨n7, A7, c7, l7, g7, i7⟩, ⟨n8, A8, c8, l8, g8, i8⟩, i2, qq, hT⟩ := DE
          obtain ⟨k20, k21, _, _⟩ := g2.two
          obtain ⟨k30, k31, _, _⟩ := g3.two
          obtain ⟨k40, k41, f40, f41⟩ := g4.two
          obtain ⟨k50, k51, f50, f51⟩ := g5.two
          obtain ⟨k70, k71, f70, f71⟩ := g7.two
          obtain ⟨k80, k81, f80, f81⟩ := g8.two
          have hz7 := g7.lt
          have hz8 := g8.lt
          go_wp2_with fail
          refine (rneg_any _ _ _ ⟨_, _, _, _, rfl, i7⟩ (FX.out.mono (by omega))).mono ?_
          rintro e w9 ⟨_, rfl, ⟨n9, A9, c9, l9, rfl, i9⟩, hq⟩
          have D9 := DD.step hq
          have DD := D9.put7 i9
          obtain ⟨k70', k71', f70', f71'⟩ := (g7.q hq).two
          have hz7' := (g7.q hq).lt
          clear g2 g3 g4 g5 g7 g8 k20 k21 k30 k31 k40 k41 k50 k51 k70 k71 k80 k81 f40 f41 f50 f51 f70 f71 f80 f81 hz7 hz8 i7 i8 i2 qq D9
          go_upto_region 10 with fail
          generalize ((w9.setCell ⟨T, 0, none⟩ (.bool n9)).setCell ⟨T, 1, none⟩ (.slice A9 l9.length c9)) = wt at DD ⊢
          clear k70' k71' f70' f71' hz7'
          have DE := DD
          obtain ⟨⟨_, _, _, g2⟩, g3, g4, g5, ⟨n7, A7, c7, l7, g7, i7⟩, ⟨n8, A8, c8, l8, g8, i8⟩, i2, qq, hT⟩ := DE
          obtain ⟨k20, k21, _, _⟩ := g2.two
          obtain ⟨k30, k31, _, _⟩ := g3.two
          obtain ⟨k40, k41, f40, f41⟩ := g4.two
          obtain ⟨k50, k51, f50, f51⟩ := g5.two
          obtain ⟨k70, k71, f70, f71⟩ := g7.two
          obtain ⟨k80, k81, f80, f81⟩ := g8.two
          have hz7 := g7.lt
          have hz8 := g8.lt
          go_region
          all_goals go_wp2
          all_goals refine bodyPost_ret (v := .tuple #[.agg #[.bool n7, .slice A7 l7.length c7], .agg #[.bool n8, .slice A8 l8.length c8], .int .i64 0]) (by simp [results, Try.results68, go_sem, k40, k41, k50, k51]) rfl ?_
          all_goals exact DMP.drew (DD.fin i7 i8 (HL.out.2.2.1 HA.out HB.out HY0.out).1 (HL.out.2.2.1 HA.out HB.out HY0.out).2)
        | true =>
          have hb0 : b < 0 := by have := HNB.out; simpa using this
          have HB := Lib.hid hb0
          clear hb0
          have DD := D1
          have DE := DD
          obtain ⟨⟨A1, c1, k1, g2⟩, g3, g4, g5, ⟨n7, A7, c7, l7, g7, i7⟩, ⟨n8, A8, c8, l8, g8, i8⟩, i2, qq, hT⟩ := DE
          obtain ⟨k20, k21, _, _⟩ := g2.two
          obtain ⟨k30, k31, _, _⟩ := g3.two
          obtain ⟨k40, k41, f40, f41⟩ := g4.two
          obtain ⟨k50, k51, f50, f51⟩ := g5.two
          obtain ⟨k70, k71, f70, f71⟩ := g7.two
          obtain ⟨k80, k81, f80, f81⟩ := g8.two
          have hz7 := g7.lt
          have hz8 := g8.lt
          go_wp2_with fail
          go_region
          all_goals go_wp2
          all_goals refine bodyPost_ret (v := .tuple #[.agg #[.bool n7, .slice A7 l7.length c7], .agg #[.bool n8, .slice A8 l8.length c8], .int .i64 0]) (by simp [results, Try.results68, go_sem, k40, k41, k50, k51]) rfl ?_
          all_goals exact DMP.drew (DD.fin i7 i8 (HL.out.2.2.2.1 HA.out HB.out HY0.out).1 (HL.out.2.2.2.1 HA.out HB.out HY0.out).2)
      · have hsg : y.sign = 1 := Int.sign_eq_one_of_pos (by have := HY.out; omega)
        have HY0 := Lib.hid hy
        clear hy
        go_upto_region 6 with fail
        go_cut [] from 39 to 41 (fun wx => DSt w T true n2 A2 c2 l2 b (x + 1) y wx)
        case first =>
          have DD := D1
          have DE := DD
          obtain ⟨⟨A1, c1, k1, g2⟩, g3, g4, g5, ⟨n7, A7, c7, l7, g7, i7⟩, ⟨n8, A8, c8, l8, g8, i8⟩, i2, qq, hT⟩ := DE
          obtain ⟨k20, k21, _, _⟩ := g2.two
          obtain ⟨k30, k31, _, _⟩ := g3.two
          obtain ⟨k40, k41, f40, f41⟩ := g4.two
          obtain ⟨k50, k51, f50, f51⟩ := g5.two
          obtain ⟨k70, k71, f70, f71⟩ := g7.two
          obtain ⟨k80, k81, f80, f81⟩ := g8.two
          have hz7 := g7.lt
          have hz8 := g8.lt
          go_region_law (first | (go_simp; go_at_call 40; have ho := hvo; refine (radd_any _ _ x 1 _ ⟨_, _, _, _, rfl, i7⟩ ho (n + 1) (by omega) FX.out (fits_one' n)).mono ?_; rintro e wb ⟨_, rfl, ⟨n9, A9, c9, l9, rfl, i9⟩, hq2⟩; have D3 := D2.step hq2; obtain ⟨k70, k71, f70, f71⟩ := (g7.q hq2).two; have hz7 := (g7.q hq2).lt; clear hq2) | (go_simp; go_at_call 47; refine (rof_any 1 _ (by decide) (by decide)).mono ?_; rintro e wa ⟨vo, rfl, hvo, hq⟩; have hq := hq.of_drew; have D2 := DD.step hq; have i7 := i7.q hq; have g7 := g7.q hq; clear k70 k71 f70 f71; obtain ⟨k70, k71, f70, f71⟩ := g7.two; have hz7 := g7.lt; clear hq))
          all_goals go_wp2_with fail
          all_goals go_meet
          all_goals exact D3.put7 i9
        case rest =>
          have D1 := hcut
          clear hcut
          go_upto_region 7 with fail
          go_cut [] from 42 to 46 (fun wx => DSt w T true n2 A2 c2 l2 b (x + 1) (z - y) wx)
          case first =>
            have DD := D1
            have DE := DD
            obtain ⟨⟨A1, c1, k1, g2⟩, g3, g4, g5, ⟨n7, A7, c7, l7, g7, i7⟩, ⟨n8, A8, c8, l8, g8, i8⟩, i2, qq, hT⟩ := DE
            obtain ⟨k20, k21, _, _⟩ := g2.two
            obtain ⟨k30, k31, _, _⟩ := g3.two
            obtain ⟨k40, k41, f40, f41⟩ := g4.two
            obtain ⟨k50, k51, f50, f51⟩ := g5.two
            obtain ⟨k70, k71, f70, f71⟩ := g7.two
            obtain ⟨k80, k81, f80, f81⟩ := g8.two
            have hz7 := g7.lt
            have hz8 := g8.lt
            have hzz : sgn false (val l2) = z := by rw [← EZ.out, ← natAbs_sgn n2 (val l2), ← i2.2.2.2]; rfl
            have hl2 : l2.length ≤ 1099511627776 := by omega
            go_region_law (first | (go_simp; go_at_call 42; have ho := hvo; refine (rsub_any _ _ z y _ ho ⟨_, _, _, _, rfl, i8⟩ n (by omega) FZ.out FY.out).mono ?_; rintro e wb ⟨_, rfl, ⟨n9, A9, c9, l9, rfl, i9⟩, hq2⟩; have D3 := D2.step hq2; obtain ⟨k80, k81, f80, f81⟩ := (g8.q hq2).two; have hz8 := (g8.q hq2).lt; clear hq2) | (go_simp; go_at_call 62; refine (made_v A2 c2 l2 false _ (i2.1.q (by repeat (first | exact Q.refl _ | assumption | apply Q.drew | apply Q.drewN | apply Q.alloc))) hl2).mono ?_; rintro e wa ⟨vo, rfl, hvo, hq⟩; have hvo : IntV wa vo z := hzz ▸ hvo; have hq := hq.of_drew; have D2 := DD.step hq; have i8 := i8.q hq; have g8 := g8.q hq; clear k80 k81 f80 f81; obtain ⟨k80, k81, f80, f81⟩ := g8.two; have hz8 := g8.lt; clear hq))
            all_goals go_wp2_with fail
            all_goals go_meet
            all_goals exact D3.put8 i9
          case rest =>
            have D1 := hcut
            clear hcut
            cases n2 with
            | false =>
              have hb0 : 0 ≤ b := by have := HNB.out; simpa using this
              have HB := Lib.hid hb0
              clear hb0
              have DD := D1
              have DE := DD
              obtain ⟨⟨A1, c1, k1, g2⟩, g3, g4, g5, ⟨n7, A7, c7, l7, g7, i7⟩, ⟨n8, A8, c8, l8, g8, i8⟩, i2, qq, hT⟩ := DE
              obtain ⟨k20, k21, _, _⟩ := g2.two
              obtain ⟨k30, k31, _, _⟩ := g3.two
              obtain ⟨k40, k41, f40, f41⟩ := g4.two
              obtain ⟨k50, k51, f50, f51⟩ := g5.two
              obtain ⟨k70, k71, f70, f71⟩ := g7.two
              obtain ⟨k80, k81, f80, f81⟩ := g8.two
              have hz7 := g7.lt
              have hz8 := g8.lt
              go_wp2_with fail
              refine (rneg_any _ _ _ ⟨_, _, _, _, rfl, i7⟩ (FX1.out.mono (by omega))).mono ?_
              rintro e w9 ⟨_, rfl, ⟨n9, A9, c9, l9, rfl, i9⟩, hq⟩
              have D9 := DD.step hq
              have DD := D9.put7 i9
              obtain ⟨k70', k71', f70', f71'⟩ := (g7.q hq).two
              have hz7' := (g7.q hq).lt
              clear g2 g3 g4 g5 g7 g8 k20 k21 k30 k31 k40 k41 k50 k51 k70 k71 k80 k81 f40 f41 f50 f51 f70 f71 f80 f81 hz7 hz8 i7 i8 i2 qq D9
              go_upto_region 10 with fail
              generalize ((w9.setCell ⟨T, 0, none⟩ (.bool n9)).setCell ⟨T, 1, none⟩ (.slice A9 l9.length c9)) = wt at DD ⊢
              clear k70' k71' f70' f71' hz7'
              have DE := DD
              obtain ⟨⟨_, _, _, g2⟩, g3, g4, g5, ⟨n7, A7, c7, l7, g7, i7⟩, ⟨n8, A8, c8, l8, g8, i8⟩, i2, qq, hT⟩ := DE
              obtain ⟨k20, k21, _, _⟩ := g2.two
              obtain ⟨k30, k31, _, _⟩ := g3.two
              obtain ⟨k40, k41, f40, f41⟩ := g4.two
              obtain ⟨k50, k51, f50, f51⟩ := g5.two
              obtain ⟨k70, k71, f70, f71⟩ := g7.two
              obtain ⟨k80, k81, f80, f81⟩ := g8.two
              have hz7 := g7.lt
              have hz8 := g8.lt
              go_region
              all_goals go_wp2
              all_goals refine bodyPost_ret (v := .tuple #[.agg #[.bool n7, .slice A7 l7.length c7], .agg #[.bool n8, .slice A8 l8.length c8], .int .i64 0]) (by simp [results, Try.results68, go_sem, k40, k41, k50, k51]) rfl ?_
              all_goals exact DMP.drew (DD.fin i7 i8 (HL.out.2.2.2.2.1 HA.out HB.out HY0.out).1 (HL.out.2.2.2.2.1 HA.out HB.out HY0.out).2)
            | true =>
              have hb0 : b < 0 := by have := HNB.out; simpa using this
              have HB := Lib.hid hb0
              clear hb0
              have DD := D1
              have DE := DD
              obtain ⟨⟨A1, c1, k1, g2⟩, g3, g4, g5, ⟨n7, A7, c7, l7, g7, i7⟩, ⟨n8, A8, c8, l8, g8, i8⟩, i2, qq, hT⟩ := DE
              obtain ⟨k20, k21, _, _⟩ := g2.two
              obtain ⟨k30, k31, _, _⟩ := g3.two
              obtain ⟨k40, k41, f40, f41⟩ := g4.two
              obtain ⟨k50, k51, f50, f51⟩ := g5.two
              obtain ⟨k70, k71, f70, f71⟩ := g7.two
              obtain ⟨k80, k81, f80, f81⟩ := g8.two
              have hz7 := g7.lt
              have hz8 := g8.lt
              go_wp2_with fail
              go_region
              all_goals go_wp2
              all_goals refine bodyPost_ret (v := .tuple #[.agg #[.bool n7, .slice A7 l7.length c7], .agg #[.bool n8, .slice A8 l8.length c8], .int .i64 0]) (by simp [results, Try.results68, go_sem, k40, k41, k50, k51]) rfl ?_
              all_goals exact DMP.drew (DD.fin i7 i8 (HL.out.2.2.2.2.2 HA.out HB.out HY0.out).1 (HL.out.2.2.2.2.2 HA.out HB.out HY0.out).2)
end Go.Proofs.Ytcjpjnneimjfiaa
namespace Go.Proofs.Ytcjpjnneimjfiaa
open Go.RowKit

set_option maxRecDepth 100000 in
theorem single_of {l : List Nat} (hc : Canon l) (h0 : 0 < val l) (h : val l < 4294967296) : ∃ x, l = [x] ∧ val l = x := by
  have hl : l.length ≤ 1 := canon_length hc (n := 1) (by simpa using h)
  match l, hl with
  | [], _ => simp [val] at h0
  | [x], _ => exact ⟨x, rfl, val_single x⟩
set_option maxRecDepth 100000 in
theorem divmod1 (va vb : Value) (a : Int) (p n : Nat) (w : World) (ha : IntV w va a) (hb : IntV w vb (p : Int)) (hn : n ≤ 1073741823) (fa : Fits n a) (hn1 : 1 ≤ n) (hp : 0 < p) (hp2 : p < 4294967296) :
    Calls Try.prog 68 #[va, vb] w (DMP w a (p : Int)) := by
  refine divmod_any va vb a p n w ha hb hn fa ((fits_one (p : Int) (by omega) (by omega)).mono hn1) (by omega) ?_
  intro A B c d la lb w' hA hB _ hcb eva evb hla _
  have hvb : val lb = p := by rw [evb]; rfl
  obtain ⟨x, rfl, hx⟩ := single_of hcb (by omega) (by omega)
  have hxp : x = p := by omega
  have h := divide1 A B c d x la w' hA hB (by omega) (by omega)
  rw [eva, hxp] at h
  exact h

set_option maxRecDepth 100000 in
theorem rof_i (N : Int) {A : Int} (w : World) (hA : A = N) (h1 : -2 ^ 63 ≤ N) (h2 : N < 2 ^ 63) : Calls Try.prog 47 #[.int .i64 A] w (RetV w N) := by
  subst hA; exact rof_any A w h1 h2
set_option maxRecDepth 100000 in
theorem Lm.allocd {w : World} {A : Option Addr} {c : Nat} {l : List Nat} {o : Obj} (h : Lm w A c l) : Lm (w.alloc o) A c l := h.q ((Q.refl w).alloc o)
set_option maxRecDepth 100000 in
theorem Lm.drewd {w : World} {A : Option Addr} {c : Nat} {l : List Nat} (h : Lm w A c l) : Lm w.drew A c l := h.q ((Q.refl w).drew)
set_option maxHeartbeats 8000000 in
set_option maxRecDepth 100000 in
theorem rreduce_any (p : Nat) (va : Value) (a : Int) (n : Nat) (w : World) (hp : 0 < p) (hp2 : p < 4294967296) (ha : IntV w va a) (hn : n ≤ 1073741823) (hn1 : 1 ≤ n) (fa : Fits n a) :
    Calls Try.prog 44 #[.int .u64 p, va] w (RetQ w (redN p a)) := by
  have ha0 := ha
  obtain ⟨na, A, c, la, rfl, hA⟩ := ha
  have h1 : 0 ≤ a % (p : Int) := Int.emod_nonneg _ (by omega)
  have h2 : a % (p : Int) < (p : Int) := Int.emod_lt_of_pos _ (by omega)
  obtain ⟨r, hr⟩ : ∃ r : Nat, a % (p : Int) = (r : Int) := ⟨(a % (p : Int)).toNat, by omega⟩
  have hred : redN p a = r := by unfold redN; rw [hr]; rfl
  have hrp : r < p := by omega
  rw [hred]
  have wp : IntKind.i64.wrap (p : Int) = (p : Int) := by rw [IntKind.wrap_i64]; omega
  have WP := Lib.hid wp
  have HR := Lib.hid hr
  have HRP := Lib.hid hrp
  have HA0 := @Lib.hid _ ha0
  clear wp hr h1 h2 hred hrp ha0
  go_enter Try.func44, Try.ntmps44
  go_wp2_with fail
  go_upto_region 1 with fail
  go_cut [5, 6, 7] from 10 to 18 (fun _ s6 _ wx => ∃ T nr Ar cr lr, s6 = .pointer (some ⟨T, 0, none⟩) ∧ wx.cell? ⟨T, 0, none⟩ = some (.bool nr) ∧ wx.cell? ⟨T, 1, none⟩ = some (.slice Ar (List.length lr) cr) ∧ IntA wx nr Ar cr lr (r : Int) ∧ Q w wx)
  case first =>
    go_region_law (first | (go_simp; go_at_call 47; have hh := fun W => rof_i (p : Int) W WP.out (by omega) (by omega); refine (hh _).mono ?_; clear hh; rintro e w1 ⟨vo, rfl, hvo, hq⟩; have q1 : Q w w1 := Q.trans (by repeat (first | exact Q.refl _ | assumption | apply Q.drew | apply Q.drewN | apply Q.alloc)) hq; have hz1 := hq.size; (try simp at hz1); (first | (have b1 : Blk w1 (w.heap.size) 73 #[.bool na, .slice A la.length c] := Blk.q ?_ hq; rotate_left; (focus ((repeat (first | with_reducible assumption | with_reducible exact Blk.new _ _ _ | (with_reducible refine Blk.new' _ _ _ ?_; focus (first | rfl | (simp; done))) | with_reducible apply Blk.alloc | with_reducible apply Blk.drew)); done)); obtain ⟨e1, e1', d1, d1'⟩ := b1.two; have l1 := b1.lt) | skip); (first | (have b2 : Blk w1 (w.heap.size + 1) 73 #[.bool false, .slice none 0 0] := Blk.q ?_ hq; rotate_left; (focus ((repeat (first | with_reducible assumption | with_reducible exact Blk.new _ _ _ | (with_reducible refine Blk.new' _ _ _ ?_; focus (first | rfl | (simp; done))) | with_reducible apply Blk.alloc | with_reducible apply Blk.drew)); done)); obtain ⟨e2, e2', d2, d2'⟩ := b2.two; have l2 := b2.lt) | skip); (first | (have b3 : Blk w1 (w.heap.size + 1 + 1) 73 #[.bool false, .slice none 0 0] := Blk.q ?_ hq; rotate_left; (focus ((repeat (first | with_reducible assumption | with_reducible exact Blk.new _ _ _ | (with_reducible refine Blk.new' _ _ _ ?_; focus (first | rfl | (simp; done))) | with_reducible apply Blk.alloc | with_reducible apply Blk.drew)); done)); obtain ⟨e3, e3', d3, d3'⟩ := b3.two; have l3 := b3.lt) | skip); clear hq) | (go_simp; go_at_call 68; have hh := fun W (h1 : Q w W) (h2 : Q w1 W) => divmod1 _ _ a p n W (HA0.out.q h1) (hvo.q h2) hn fa hn1 hp hp2; refine (hh _ (by repeat (first | exact Q.refl _ | assumption | apply Q.drew | apply Q.drewN | apply Q.alloc)) (by repeat (first | exact Q.refl _ | assumption | apply Q.drew | apply Q.drewN | apply Q.alloc))).mono ?_; clear hh; rintro e w2 ⟨_, _, rfl, ⟨nq, Aq, cq, lq, rfl, iq⟩, ⟨nr, Ar, cr, lr, rfl, ir⟩, hq⟩; have q2 : Q w w2 := Q.trans (by repeat (first | exact Q.refl _ | assumption | apply Q.drew | apply Q.drewN | apply Q.alloc)) hq; have hz2 := hq.size; (try simp at hz2); (first | (have b4 : Blk w2 (w.heap.size) 73 #[.bool na, .slice A la.length c] := Blk.q ?_ hq; rotate_left; (focus ((repeat (first | with_reducible assumption | with_reducible exact Blk.new _ _ _ | (with_reducible refine Blk.new' _ _ _ ?_; focus (first | rfl | (simp; done))) | with_reducible apply Blk.alloc | with_reducible apply Blk.drew)); done)); obtain ⟨e4, e4', d4, d4'⟩ := b4.two; have l4 := b4.lt) | skip); (first | (have b5 : Blk w2 (w.heap.size + 1) 73 #[.bool false, .slice none 0 0] := Blk.q ?_ hq; rotate_left; (focus ((repeat (first | with_reducible assumption | with_reducible exact Blk.new _ _ _ | (with_reducible refine Blk.new' _ _ _ ?_; focus (first | rfl | (simp; done))) | with_reducible apply Blk.alloc | with_reducible apply Blk.drew)); done)); obtain ⟨e5, e5', d5, d5'⟩ := b5.two; have l5 := b5.lt) | skip); (first | (have b6 : Blk w2 (w.heap.size + 1 + 1) 73 #[.bool false, .slice none 0 0] := Blk.q ?_ hq; rotate_left; (focus ((repeat (first | with_reducible assumption | with_reducible exact Blk.new _ _ _ | (with_reducible refine Blk.new' _ _ _ ?_; focus (first | rfl | (simp; done))) | with_reducible apply Blk.alloc | with_reducible apply Blk.drew)); done)); obtain ⟨e6, e6', d6, d6'⟩ := b6.two; have l6 := b6.lt) | skip); (first | (have b7 : Blk w2 (w1.heap.size) 73 #[.bool false, .slice none 0 0] := Blk.q ?_ hq; rotate_left; (focus ((repeat (first | with_reducible assumption | with_reducible exact Blk.new _ _ _ | (with_reducible refine Blk.new' _ _ _ ?_; focus (first | rfl | (simp; done))) | with_reducible apply Blk.alloc | with_reducible apply Blk.drew)); done)); obtain ⟨e7, e7', d7, d7'⟩ := b7.two; have l7 := b7.lt) | skip); (first | (have b8 : Blk w2 (w1.heap.size + 1) 73 #[.bool false, .slice none 0 0] := Blk.q ?_ hq; rotate_left; (focus ((repeat (first | with_reducible assumption | with_reducible exact Blk.new _ _ _ | (with_reducible refine Blk.new' _ _ _ ?_; focus (first | rfl | (simp; done))) | with_reducible apply Blk.alloc | with_reducible apply Blk.drew)); done)); obtain ⟨e8, e8', d8, d8'⟩ := b8.two; have l8 := b8.lt) | skip); clear hq))
    all_goals go_wp2_with fail
    all_goals go_meet
    all_goals rw [HR.out] at ir
    all_goals have irl := ir.1
    all_goals refine ⟨_, nr, Ar, cr, lr, rfl, (Blk.two (t := 73) (x := .bool nr) (y := .slice Ar lr.length cr) ?_).1, (Blk.two (t := 73) (x := .bool nr) (y := .slice Ar lr.length cr) ?_).2.1, ⟨?_, ir.2⟩, ?_⟩
    all_goals (repeat' (first | with_reducible assumption | with_reducible exact Blk.new _ _ _ | with_reducible refine blk_boxes (b0 := false) (A0 := none) (n0 := 0) (c0 := 0) ?_ | with_reducible refine lm_boxes (t := 73) ?_ (b0 := false) (A0 := none) (n0 := 0) (c0 := 0) ?_ | with_reducible refine blk_boxes_far ?_ ?_ | (with_reducible refine Blk.new' _ _ _ ?_; focus (simp [World.setCell]; done)) | with_reducible apply Blk.alloc | with_reducible apply Blk.drew | with_reducible apply Lm.drewd | with_reducible apply Lm.allocd | with_reducible apply Q.drew | with_reducible apply Q.alloc | with_reducible refine Q.setCell ?_ ?_ _ | (dsimp only; omega) | omega))
  case rest =>
    obtain ⟨T, nr, Ar, cr, lr, rfl, k0, k1, ir, q⟩ := hcut
    go_wp2_with fail
    refine (rsmall_any _ (r : Int) _ ⟨_, _, _, _, rfl, ir⟩ (by omega) (by have := HRP.out; omega)).mono ?_
    rintro e w3 ⟨rfl, hq⟩
    go_wp2_with fail
    go_ret
    exact ⟨ret_int (by rw [IntKind.wrap_u64]; have := HRP.out; omega), q.trans hq⟩
end Go.Proofs.Ytcjpjnneimjfiaa
