/-
  Integers in memory, and the small functions of the reference over them.
  Neg, Sub, Sign, Cmp and Of of the reference.
  Of and Small of the reference.
-/
import Derived.Test.YtcjpjnneimjfiaaMade
import Derived.Deep.RegionHeld3
namespace Go.Proofs.Ytcjpjnneimjfiaa
open Go.RowKit

/-- `A`, `c`, `neg`, `l` are a valid integer z. -/
def IntA (w : World) (neg : Bool) (A : Option Addr) (c : Nat) (l : List Nat) (z : Int) : Prop := Lm w A c l ∧ Canon l ∧ (neg = true → l ≠ []) ∧ z = sgn neg (val l)
/-- The value v is the valid integer z. -/
def IntV (w : World) (v : Value) (z : Int) : Prop := ∃ neg A c l, v = .agg #[.bool neg, .slice A l.length c] ∧ IntA w neg A c l z
/-- z has at most n limbs. -/
def Fits (n : Nat) (z : Int) : Prop := z.natAbs < 4294967296 ^ n
def RetV (w : World) (z : Int) (e : Ending) (w' : World) : Prop := ∃ v, e = .returned v ∧ IntV w' v z ∧ Q w w'

section
variable {w w' : World} {v : Value} {z : Int} {neg : Bool} {A : Option Addr} {c : Nat} {l : List Nat}
set_option maxRecDepth 100000 in
theorem IntA.q (h : IntA w neg A c l z) (hq : Q w w') : IntA w' neg A c l z := ⟨h.1.q hq, h.2⟩
set_option maxRecDepth 100000 in
theorem IntV.q (h : IntV w v z) (hq : Q w w') : IntV w' v z := by
  obtain ⟨neg, A, c, l, e, h⟩ := h
  exact ⟨neg, A, c, l, e, h.q hq⟩
set_option maxRecDepth 100000 in
theorem natAbs_sgn (neg : Bool) (n : Nat) : (sgn neg n).natAbs = n := by cases neg <;> simp [sgn]
set_option maxRecDepth 100000 in
theorem IntA.abs (h : IntA w neg A c l z) : z.natAbs = val l := by rw [h.2.2.2, natAbs_sgn]
set_option maxRecDepth 100000 in
theorem IntA.len (h : IntA w neg A c l z) {n : Nat} (hf : Fits n z) : l.length ≤ n := canon_length h.2.1 (by rw [← h.abs]; exact hf)
set_option maxRecDepth 100000 in
theorem IntA.fits (h : IntA w neg A c l z) : Fits l.length z := by unfold Fits; rw [h.abs]; exact val_lt h.1.lt
set_option maxRecDepth 100000 in
theorem Fits.mono {n m : Nat} (h : Fits n z) (hnm : n ≤ m) : Fits m z := Nat.lt_of_lt_of_le h (Nat.pow_le_pow_right (by decide) hnm)
set_option maxRecDepth 100000 in
/-- What Made gives. -/
theorem MadeP.retV {e : Ending} (h : MadeP w neg l e w') : RetV w (sgn neg (val l)) e w' := by
  obtain ⟨v, he, ⟨A, c, rfl, hL⟩, hq⟩ := h
  refine ⟨_, he, ⟨_, A, c, trim l, rfl, hL, trim_canon l, by simp, ?_⟩, hq⟩
  rw [val_trim]
  by_cases h0 : trim l = []
  · have : val l = 0 := by rw [← val_trim, h0]; rfl
    cases neg <;> simp [h0, sgn, this]
  · simp [h0]
set_option maxRecDepth 100000 in
theorem made_v (A : Option Addr) (c : Nat) (l : List Nat) (neg : Bool) (w : World) (h : Lm w A c l) (hl : l.length ≤ 1099511627776) :
    Calls Try.prog 62 #[.slice A l.length c, .bool neg] w (RetV w (sgn neg (val l))) :=
  (made_any A c l neg w h hl).mono fun _ _ hp => hp.retV
end

set_option maxRecDepth 100000 in
theorem Blk.two {w : World} {t : TypeId} {x y : Value} {B : Nat} (h : Blk w B t #[x, y]) : w.cell? ⟨B, 0, none⟩ = some x ∧ w.cell? ⟨B, 1, none⟩ = some y ∧ w.frozen? ⟨B, 0, none⟩ = false ∧ w.frozen? ⟨B, 1, none⟩ = false :=
  ⟨by rw [h.cell]; rfl, by rw [h.cell]; rfl, h.frozen 0, h.frozen 1⟩
set_option maxRecDepth 100000 in
theorem Q.of_drew {a b : World} (h : Q a.drew b) : Q a b := by
  have h' : Below a.heap.size a.drew b := h
  exact ⟨h'.os, h'.tape, h'.output, h'.size, h'.block⟩
set_option maxRecDepth 100000 in
theorem Q.of_drewN {a b : World} {n : Nat} (h : Q (a.drewN n) b) : Q a b := by
  have h' : Below a.heap.size (a.drewN n) b := h
  exact ⟨h'.os, h'.tape, h'.output, h'.size, h'.block⟩
set_option maxRecDepth 100000 in
theorem boxes1 {w w1 : World} {c1 : Array Value} {t1 : TypeId} (h : Q (w.alloc (.cells c1 t1)) w1) : Blk w1 w.heap.size t1 c1 ∧ Q w w1 :=
  ⟨(Blk.new w t1 c1).q h, Q.trans ((Q.refl w).alloc _) h⟩
set_option maxRecDepth 100000 in
theorem boxes2 {w w1 : World} {c1 c2 : Array Value} {t1 t2 : TypeId} (h : Q ((w.alloc (.cells c1 t1)).alloc (.cells c2 t2)) w1) : Blk w1 w.heap.size t1 c1 ∧ Blk w1 (w.heap.size + 1) t2 c2 ∧ Q w w1 :=
  ⟨((Blk.new w t1 c1).alloc _).q h, (Blk.new' _ t2 c2 (by simp)).q h, Q.trans (((Q.refl w).alloc _).alloc _) h⟩
set_option maxRecDepth 100000 in
theorem boxes3 {w w1 : World} {c1 c2 c3 : Array Value} {t1 t2 t3 : TypeId} (h : Q (((w.alloc (.cells c1 t1)).alloc (.cells c2 t2)).alloc (.cells c3 t3)) w1) : Blk w1 w.heap.size t1 c1 ∧ Blk w1 (w.heap.size + 1) t2 c2 ∧ Blk w1 (w.heap.size + 1 + 1) t3 c3 ∧ Q w w1 :=
  ⟨(((Blk.new w t1 c1).alloc _).alloc _).q h, ((Blk.new' _ t2 c2 (by simp)).alloc _).q h, (Blk.new' _ t3 c3 (by simp)).q h, Q.trans ((((Q.refl w).alloc _).alloc _).alloc _) h⟩

set_option maxRecDepth 100000 in
theorem cell_far2 {w : World} {B : Nat} {p : Addr} {x u v : Value} (h : w.cell? p = some x) (hne : p.block ≠ B) : ((w.setCell ⟨B, 0, none⟩ u).setCell ⟨B, 1, none⟩ v).cell? p = some x := by
  rw [World.cell?_of_block (Below.heap_setCell _ ⟨B, 1, none⟩ v p.block hne), World.cell?_of_block (Below.heap_setCell _ ⟨B, 0, none⟩ u p.block hne)]
  exact h

set_option maxRecDepth 100000 in
/-- The end of a function that hands on an integer: stored into its result's box B. -/
theorem retV_end {w w1 : World} {B t : Nat} {b0 : Bool} {A0 A : Option Addr} {n0 c0 c n : Nat} {neg : Bool} {l : List Nat} {z : Int} (hB : Blk w1 B t #[.bool b0, .slice A0 n0 c0]) (hq : Q w w1) (hw : w.heap.size ≤ B) (h : IntA w1 neg A c l z) (hn : l.length = n) :
    RetV w z (.returned (.agg #[.bool neg, .slice A n c])) ((w1.setCell ⟨B, 0, none⟩ (.bool neg)).setCell ⟨B, 1, none⟩ (.slice A n c)) := by
  obtain ⟨hi, hq2⟩ := int_end hB hq hw h.1 hn neg
  obtain ⟨A', c', e, hL⟩ := hi
  injection e with e
  simp at e
  obtain ⟨rfl, rfl, rfl⟩ := e
  exact ⟨_, rfl, ⟨neg, A, c, l, by rw [hn], hL, h.2⟩, hq2⟩

set_option maxHeartbeats 1000000 in
set_option maxRecDepth 100000 in
theorem radd_same (na : Bool) (A B : Option Addr) (c d : Nat) (la lb : List Nat) (a b : Int) (w : World) (hA : IntA w na A c la a) (hB : IntA w na B d lb b) (n : Nat) (hn : n ≤ 1073741824) (lna : la.length ≤ n) (lnb : lb.length ≤ n) :
    Calls Try.prog 40 #[.agg #[.bool na, .slice A la.length c], .agg #[.bool na, .slice B lb.length d]] w (RetV w (a + b)) := by
  have hn1 : (na == na) = true := by simp
  go_enter Try.func40, Try.ntmps40
  go_wp2_with fail
  go_region_held3 (fun w' => w'.cell? ⟨w.heap.size, 0, none⟩ = some (.bool na) ∧ w'.cell? ⟨w.heap.size, 1, none⟩ = some (.slice A la.length c) ∧ w'.cell? ⟨w.heap.size + 1, 0, none⟩ = some (.bool na) ∧ w'.cell? ⟨w.heap.size + 1, 1, none⟩ = some (.slice B lb.length d)) (first | with_reducible exact ⟨k4, k5, k6, k7⟩ | with_reducible exact ⟨k0, k1, k2, k3⟩ | with_reducible exact ⟨cell_far2 k4 (by dsimp only; omega), cell_far2 k5 (by dsimp only; omega), cell_far2 k6 (by dsimp only; omega), cell_far2 k7 (by dsimp only; omega)⟩ | go_keep)
    (first | (go_at_call 63; refine (plus_any A B c d la lb _ (hA.1.q (by repeat (first | exact Q.refl _ | assumption | apply Q.drew | apply Q.drewN | apply Q.alloc))) (hB.1.q (by repeat (first | exact Q.refl _ | assumption | apply Q.drew | apply Q.drewN | apply Q.alloc))) n lna lnb (by omega)).mono ?_; rintro e w1 ⟨A1, c1, l1, rfl, hL1, hv1, hl1, hq1⟩; obtain ⟨g1, g2, g3, hq⟩ := boxes3 (Q.of_drew hq1); obtain ⟨k0, k1, _, _⟩ := g1.two; obtain ⟨k2, k3, _, _⟩ := g2.two; have Hv1 := Lib.hid hv1; clear hv1) | (go_at_call 62; refine (made_v _ _ _ _ _ (hL1.q (by repeat (first | exact Q.refl _ | assumption | apply Q.drew | apply Q.drewN | apply Q.alloc))) (by omega)).mono ?_; rintro e w2 ⟨v2, rfl, ⟨neg2, A2, c2, l2, rfl, hI2⟩, hq2⟩; obtain ⟨k4, k5, _, _⟩ := (g1.q hq2).two; obtain ⟨k6, k7, _, _⟩ := (g2.q hq2).two; have g4 := g3.q hq2; obtain ⟨k8, k9, f8, f9⟩ := g4.two; have hz := g4.lt; have hqw := hq.trans hq2))
  go_wp2
  refine bodyPost_ret (v := .agg #[.bool neg2, .slice A2 l2.length c2]) (by simp [results, Try.results40, go_sem, k8, k9]) rfl ?_
  have hr := retV_end g4 hqw (by omega) hI2 rfl
  rw [show sgn na (val l1) = a + b from (by rw [hA.2.2.2, hB.2.2.2]; exact sgn_add_same Hv1.out)] at hr
  exact hr

set_option maxHeartbeats 1000000 in
set_option maxRecDepth 100000 in
theorem radd_ge (na nb : Bool) (A B : Option Addr) (c d : Nat) (la lb : List Nat) (a b : Int) (w : World) (hA : IntA w na A c la a) (hB : IntA w nb B d lb b) (n : Nat) (hn : n ≤ 1073741824) (lna : la.length ≤ n) (_lnb : lb.length ≤ n) (hs : na ≠ nb) (h1 : lessB la lb = false) :
    Calls Try.prog 40 #[.agg #[.bool na, .slice A la.length c], .agg #[.bool nb, .slice B lb.length d]] w (RetV w (a + b)) := by
  have hn1 : (na == nb) = false := by simpa using hs
  have Hs := Lib.hid hs
  clear hs
  have hv := lessB_false hA.1.lt hB.1.lt hA.2.1 hB.2.1 h1
  have hll := canon_len_le hA.1.lt hB.2.1 hv
  have H1 := Lib.hid h1
  clear h1
  go_enter Try.func40, Try.ntmps40
  go_wp2_with fail
  refine (less_true _ _ _ _ _ _ _ (hA.1.q (by repeat (first | exact Q.refl _ | assumption | apply Q.drew | apply Q.drewN | apply Q.alloc))) (hB.1.q (by repeat (first | exact Q.refl _ | assumption | apply Q.drew | apply Q.drewN | apply Q.alloc))) H1.out).mono ?_
  rintro e w1 ⟨rfl, n1, rfl⟩
  go_wp2_with fail
  go_region_held3 (fun w' => w'.cell? ⟨w.heap.size, 0, none⟩ = some (.bool na) ∧ w'.cell? ⟨w.heap.size, 1, none⟩ = some (.slice A la.length c) ∧ w'.cell? ⟨w.heap.size + 1, 0, none⟩ = some (.bool nb) ∧ w'.cell? ⟨w.heap.size + 1, 1, none⟩ = some (.slice B lb.length d)) (first | with_reducible exact ⟨k4, k5, k6, k7⟩ | with_reducible exact ⟨k0, k1, k2, k3⟩ | with_reducible exact ⟨cell_far2 k4 (by dsimp only; omega), cell_far2 k5 (by dsimp only; omega), cell_far2 k6 (by dsimp only; omega), cell_far2 k7 (by dsimp only; omega)⟩ | go_keep)
    (first | (go_at_call 65; refine (minus_any A B c d la lb _ (hA.1.q (by repeat (first | exact Q.refl _ | assumption | apply Q.drew | apply Q.drewN | apply Q.alloc))) (hB.1.q (by repeat (first | exact Q.refl _ | assumption | apply Q.drew | apply Q.drewN | apply Q.alloc))) hll hv (by omega)).mono ?_; rintro e w1 ⟨A1, c1, l1, rfl, hL1, hv1, hl1, hq1⟩; obtain ⟨g1, g2, g3, hq⟩ := boxes3 hq1.of_drewN; obtain ⟨k0, k1, _, _⟩ := g1.two; obtain ⟨k2, k3, _, _⟩ := g2.two; have Hv1 := Lib.hid hv1; clear hv1) | (go_at_call 62; refine (made_v _ _ _ _ _ (hL1.q (by repeat (first | exact Q.refl _ | assumption | apply Q.drew | apply Q.drewN | apply Q.alloc))) (by omega)).mono ?_; rintro e w2 ⟨v2, rfl, ⟨neg2, A2, c2, l2, rfl, hI2⟩, hq2⟩; obtain ⟨k4, k5, _, _⟩ := (g1.q hq2).two; obtain ⟨k6, k7, _, _⟩ := (g2.q hq2).two; have g4 := g3.q hq2; obtain ⟨k8, k9, f8, f9⟩ := g4.two; have hz := g4.lt; have hqw := hq.trans hq2))
  go_wp2
  refine bodyPost_ret (v := .agg #[.bool neg2, .slice A2 l2.length c2]) (by simp [results, Try.results40, go_sem, k8, k9]) rfl ?_
  have hr := retV_end g4 hqw (by omega) hI2 rfl
  rw [show sgn na (val l1) = a + b from (by rw [hA.2.2.2, hB.2.2.2]; exact sgn_add_ge Hs.out hv Hv1.out)] at hr
  exact hr

set_option maxHeartbeats 1000000 in
set_option maxRecDepth 100000 in
theorem radd_lt (na nb : Bool) (A B : Option Addr) (c d : Nat) (la lb : List Nat) (a b : Int) (w : World) (hA : IntA w na A c la a) (hB : IntA w nb B d lb b) (n : Nat) (hn : n ≤ 1073741824) (_lna : la.length ≤ n) (lnb : lb.length ≤ n) (hs : na ≠ nb) (h1 : lessB la lb = true) :
    Calls Try.prog 40 #[.agg #[.bool na, .slice A la.length c], .agg #[.bool nb, .slice B lb.length d]] w (RetV w (a + b)) := by
  have hn1 : (na == nb) = false := by simpa using hs
  have Hs := Lib.hid hs
  clear hs
  have hv := Nat.le_of_lt (lessB_true hA.1.lt hB.1.lt hA.2.1 hB.2.1 h1)
  have hll := canon_len_le hB.1.lt hA.2.1 hv
  have H1 := Lib.hid h1
  clear h1
  go_enter Try.func40, Try.ntmps40
  go_wp2_with fail
  refine (less_true _ _ _ _ _ _ _ (hA.1.q (by repeat (first | exact Q.refl _ | assumption | apply Q.drew | apply Q.drewN | apply Q.alloc))) (hB.1.q (by repeat (first | exact Q.refl _ | assumption | apply Q.drew | apply Q.drewN | apply Q.alloc))) H1.out).mono ?_
  rintro e w1 ⟨rfl, n1, rfl⟩
  go_wp2_with fail
  go_region_held3 (fun w' => w'.cell? ⟨w.heap.size, 0, none⟩ = some (.bool na) ∧ w'.cell? ⟨w.heap.size, 1, none⟩ = some (.slice A la.length c) ∧ w'.cell? ⟨w.heap.size + 1, 0, none⟩ = some (.bool nb) ∧ w'.cell? ⟨w.heap.size + 1, 1, none⟩ = some (.slice B lb.length d)) (first | with_reducible exact ⟨k4, k5, k6, k7⟩ | with_reducible exact ⟨k0, k1, k2, k3⟩ | with_reducible exact ⟨cell_far2 k4 (by dsimp only; omega), cell_far2 k5 (by dsimp only; omega), cell_far2 k6 (by dsimp only; omega), cell_far2 k7 (by dsimp only; omega)⟩ | go_keep)
    (first | (go_at_call 65; refine (minus_any B A d c lb la _ (hB.1.q (by repeat (first | exact Q.refl _ | assumption | apply Q.drew | apply Q.drewN | apply Q.alloc))) (hA.1.q (by repeat (first | exact Q.refl _ | assumption | apply Q.drew | apply Q.drewN | apply Q.alloc))) hll hv (by omega)).mono ?_; rintro e w1 ⟨A1, c1, l1, rfl, hL1, hv1, hl1, hq1⟩; obtain ⟨g1, g2, g3, hq⟩ := boxes3 hq1.of_drewN; obtain ⟨k0, k1, _, _⟩ := g1.two; obtain ⟨k2, k3, _, _⟩ := g2.two; have Hv1 := Lib.hid hv1; clear hv1) | (go_at_call 62; refine (made_v _ _ _ _ _ (hL1.q (by repeat (first | exact Q.refl _ | assumption | apply Q.drew | apply Q.drewN | apply Q.alloc))) (by omega)).mono ?_; rintro e w2 ⟨v2, rfl, ⟨neg2, A2, c2, l2, rfl, hI2⟩, hq2⟩; obtain ⟨k4, k5, _, _⟩ := (g1.q hq2).two; obtain ⟨k6, k7, _, _⟩ := (g2.q hq2).two; have g4 := g3.q hq2; obtain ⟨k8, k9, f8, f9⟩ := g4.two; have hz := g4.lt; have hqw := hq.trans hq2))
  go_wp2
  refine bodyPost_ret (v := .agg #[.bool neg2, .slice A2 l2.length c2]) (by simp [results, Try.results40, go_sem, k8, k9]) rfl ?_
  have hr := retV_end g4 hqw (by omega) hI2 rfl
  rw [show sgn nb (val l1) = a + b from (by rw [hA.2.2.2, hB.2.2.2]; exact sgn_add_lt Hs.out hv Hv1.out)] at hr
  exact hr

set_option maxRecDepth 100000 in
theorem radd_any (va vb : Value) (a b : Int) (w : World) (ha : IntV w va a) (hb : IntV w vb b) (n : Nat) (hn : n ≤ 1073741824) (fa : Fits n a) (fb : Fits n b) :
    Calls Try.prog 40 #[va, vb] w (RetV w (a + b)) := by
  obtain ⟨na, A, c, la, rfl, hA⟩ := ha
  obtain ⟨nb, B, d, lb, rfl, hB⟩ := hb
  by_cases hs : na = nb
  · subst hs
    exact radd_same na A B c d la lb a b w hA hB n hn (hA.len fa) (hB.len fb)
  · rcases h1 : lessB la lb with _ | _
    · exact radd_ge na nb A B c d la lb a b w hA hB n hn (hA.len fa) (hB.len fb) hs h1
    · exact radd_lt na nb A B c d la lb a b w hA hB n hn (hA.len fa) (hB.len fb) hs h1
end Go.Proofs.Ytcjpjnneimjfiaa
namespace Go.Proofs.Ytcjpjnneimjfiaa
open Go.RowKit

set_option maxRecDepth 100000 in
theorem sgn_not (na : Bool) (n : Nat) : sgn (!na) n = -sgn na n := by cases na <;> simp [sgn]

set_option maxHeartbeats 400000 in
set_option maxRecDepth 100000 in
theorem rneg_any (va : Value) (a : Int) (w : World) (ha : IntV w va a) (hf : Fits 1073741825 a) : Calls Try.prog 66 #[va] w (RetV w (-a)) := by
  obtain ⟨na, A, c, la, rfl, hA⟩ := ha
  have lna := hA.len hf
  go_enter Try.func66, Try.ntmps66
  go_wp2_with fail
  refine (made_v A c la (!na) _ (hA.1.q (by repeat (first | exact Q.refl _ | assumption | apply Q.drew | apply Q.drewN | apply Q.alloc))) (by omega)).mono ?_
  rintro e w2 ⟨v2, rfl, ⟨neg2, A2, c2, l2, rfl, hI2⟩, hq2⟩
  obtain ⟨g1, g2, hq⟩ := boxes2 hq2
  obtain ⟨k8, k9, f8, f9⟩ := g2.two
  have hz := g2.lt
  go_wp2_with fail
  refine bodyPost_ret (v := .agg #[.bool neg2, .slice A2 l2.length c2]) (by simp [results, Try.results66, go_sem, k8, k9]) rfl ?_
  have hr := retV_end g2 hq (by omega) hI2 rfl
  rw [sgn_not, ← hA.2.2.2] at hr
  exact hr

def SignP (w : World) (z : Int) (e : Ending) (w' : World) : Prop := e = .returned (.int .i64 z.sign) ∧ Q w w'
set_option maxRecDepth 100000 in
theorem IntA.sign0 {w : World} {neg : Bool} {A : Option Addr} {c : Nat} {l : List Nat} {z : Int} (h : IntA w neg A c l z) (hl : l.length = 0) : z = 0 := by
  rw [h.2.2.2, List.eq_nil_of_length_eq_zero hl]; cases neg <;> rfl
set_option maxRecDepth 100000 in
theorem IntA.val_pos {w : World} {neg : Bool} {A : Option Addr} {c : Nat} {l : List Nat} {z : Int} (h : IntA w neg A c l z) (hl : 0 < l.length) : 0 < val l := by
  have := val_pos_of_canon h.2.1 (by rintro rfl; simp at hl)
  have h2 : 0 < 4294967296 ^ (l.length - 1) := Nat.pow_pos (by decide)
  omega

set_option maxHeartbeats 400000 in
set_option maxRecDepth 100000 in
theorem rsign_any (va : Value) (a : Int) (w : World) (ha : IntV w va a) : Calls Try.prog 74 #[va] w (SignP w a) := by
  obtain ⟨na, A, c, la, rfl, hA⟩ := ha
  have hl2 := hA.1.len
  by_cases h0 : la.length = 0
  · have H0 := Lib.hid h0
    have hb : ((la.length : Int) == 0) = true := by simp [h0]
    clear h0
    go_enter Try.func74, Try.ntmps74
    go_wp2_with fail
    go_ret
    exact ⟨ret_int (by rw [hA.sign0 H0.out]; rfl), (by repeat (first | exact Q.refl _ | assumption | apply Q.drew | apply Q.drewN | apply Q.alloc))⟩
  · have hp := hA.val_pos (by omega)
    have hb : ((la.length : Int) == 0) = false := by rw [beq_eq_false_iff_ne]; omega
    cases na with
    | false =>
      go_enter Try.func74, Try.ntmps74
      go_wp2_with fail
      go_ret
      exact ⟨ret_int (by rw [hA.2.2.2]; simp [sgn, Int.sign_eq_one_of_pos (by omega : (0 : Int) < (val la : Int))]), (by repeat (first | exact Q.refl _ | assumption | apply Q.drew | apply Q.drewN | apply Q.alloc))⟩
    | true =>
      go_enter Try.func74, Try.ntmps74
      go_wp2_with fail
      go_ret
      exact ⟨ret_int (by rw [hA.2.2.2]; simp [sgn, Int.sign_eq_one_of_pos (by omega : (0 : Int) < (val la : Int))]), (by repeat (first | exact Q.refl _ | assumption | apply Q.drew | apply Q.drewN | apply Q.alloc))⟩

set_option maxHeartbeats 1000000 in
set_option maxRecDepth 100000 in
theorem rsub_any (va vb : Value) (a b : Int) (w : World) (ha : IntV w va a) (hb : IntV w vb b) (n : Nat) (hn : n ≤ 1073741824) (fa : Fits n a) (fb : Fits n b) :
    Calls Try.prog 42 #[va, vb] w (RetV w (a - b)) := by
  have ha0 := ha
  have hb0 := hb
  obtain ⟨na, A, c, la, rfl, hA⟩ := ha
  obtain ⟨nb, B, d, lb, rfl, hB⟩ := hb
  go_enter Try.func42, Try.ntmps42
  go_wp2_with fail
  go_region_held3 (fun w' => w'.cell? ⟨w.heap.size, 0, none⟩ = some (.bool na) ∧ w'.cell? ⟨w.heap.size, 1, none⟩ = some (.slice A la.length c) ∧ w'.cell? ⟨w.heap.size + 1, 0, none⟩ = some (.bool nb) ∧ w'.cell? ⟨w.heap.size + 1, 1, none⟩ = some (.slice B lb.length d)) (first | with_reducible exact ⟨k4, k5, k6, k7⟩ | with_reducible exact ⟨k0, k1, k2, k3⟩ | with_reducible exact ⟨cell_far2 k4 (by dsimp only; omega), cell_far2 k5 (by dsimp only; omega), cell_far2 k6 (by dsimp only; omega), cell_far2 k7 (by dsimp only; omega)⟩ | go_keep)
    (first | (go_at_call 66; refine (rneg_any _ b _ (hb0.q (by repeat (first | exact Q.refl _ | assumption | apply Q.drew | apply Q.drewN | apply Q.alloc))) (fb.mono (by omega))).mono ?_; rintro e w1 ⟨v1, rfl, ⟨neg1, A1, c1, l1, rfl, hI1⟩, hq1⟩; obtain ⟨g1, g2, g3, hq⟩ := boxes3 hq1.of_drew; obtain ⟨k0, k1, _, _⟩ := g1.two; obtain ⟨k2, k3, _, _⟩ := g2.two) | (go_at_call 40; refine (radd_any _ _ a (-b) _ (ha0.q (by repeat (first | exact Q.refl _ | assumption | apply Q.drew | apply Q.drewN | apply Q.alloc))) ⟨_, _, _, _, rfl, hI1.q (by repeat (first | exact Q.refl _ | assumption | apply Q.drew | apply Q.drewN | apply Q.alloc))⟩ n hn fa (by unfold Fits at fb ⊢; omega)).mono ?_; rintro e w2 ⟨v2, rfl, ⟨neg2, A2, c2, l2, rfl, hI2⟩, hq2⟩; obtain ⟨k4, k5, _, _⟩ := (g1.q hq2).two; obtain ⟨k6, k7, _, _⟩ := (g2.q hq2).two; have g4 := g3.q hq2; obtain ⟨k8, k9, f8, f9⟩ := g4.two; have hz := g4.lt; have hqw := hq.trans hq2))
  go_wp2
  refine bodyPost_ret (v := .agg #[.bool neg2, .slice A2 l2.length c2]) (by simp [results, Try.results42, go_sem, k8, k9]) rfl ?_
  have hr := retV_end g4 hqw (by omega) hI2 rfl
  rw [← Int.sub_eq_add_neg] at hr
  exact hr

end Go.Proofs.Ytcjpjnneimjfiaa
namespace Go.Proofs.Ytcjpjnneimjfiaa
open Go.RowKit

set_option maxRecDepth 100000 in
theorem lm_two {w : World} {k t x y : Nat} {X Y : Int} (h : Blk w k t #[.int .u32 X, .int .u32 Y]) (hX : X = (x : Int)) (hY : Y = (y : Int)) (hx : x < 4294967296) (hy : y < 4294967296) : Lm w (some ⟨k, 0, none⟩) 2 [x, y] := by
  subst hX hY
  refine ⟨by simp, by simp, by simp [hx, hy], fun _ => ⟨k, 0, rfl, h.lt, fun i hi => ?_⟩⟩
  rw [h.cell]
  match i, hi with
  | 0, _ => rfl
  | 1, _ => rfl
set_option maxRecDepth 100000 in
theorem lm_one {w : World} {k t x : Nat} {X : Int} (h : Blk w k t #[.int .u32 X]) (hX : X = (x : Int)) (hx : x < 4294967296) : Lm w (some ⟨k, 0, none⟩) 1 [x] := by
  subst hX
  refine ⟨by simp, by simp, by simp [hx], fun _ => ⟨k, 0, rfl, h.lt, fun i hi => ?_⟩⟩
  rw [h.cell]
  match i, hi with
  | 0, _ => rfl

set_option maxHeartbeats 400000 in
set_option maxRecDepth 100000 in
theorem rof_any (n : Int) (w : World) (h1 : -2 ^ 63 ≤ n) (h2 : n < 2 ^ 63) : Calls Try.prog 47 #[.int .i64 n] w (RetV w n) := by
  by_cases h0 : n < 0
  · go_enter Try.func47, Try.ntmps47
    go_wp2_with fail
    have e0 : IntKind.u64.wrap (-IntKind.u64.wrap n) = (((-n).toNat : Nat) : Int) := by rw [IntKind.wrap_u64, IntKind.wrap_u64]; omega
    rw [e0]
    refine (made_v (some ⟨w.heap.size + 1, 0, none⟩) 2 [(-n).toNat % 4294967296, (-n).toNat / 4294967296] true _ (lm_two (Blk.new' _ _ _ (by simp)) (by omega) (by omega) (by omega) (by omega)) (by simp)).mono ?_
    rintro e w2 ⟨v2, rfl, ⟨neg2, A2, c2, l2, rfl, hI2⟩, hq2⟩
    obtain ⟨g1, g2, hq⟩ := boxes2 hq2
    obtain ⟨k8, k9, f8, f9⟩ := g1.two
    have hz := g1.lt
    clear e0
    go_wp2_with fail
    refine bodyPost_ret (v := .agg #[.bool neg2, .slice A2 l2.length c2]) (by simp [results, Try.results47, go_sem, k8, k9]) rfl ?_
    have hr := retV_end g1 hq (by omega) hI2 rfl
    rw [show sgn true (val [(-n).toNat % 4294967296, (-n).toNat / 4294967296]) = n from by simp only [val, sgn, if_true]; omega] at hr
    exact hr
  · go_enter Try.func47, Try.ntmps47
    go_wp2_with fail
    refine (made_v (some ⟨w.heap.size + 1, 0, none⟩) 2 [n.toNat % 4294967296, n.toNat / 4294967296] false _ (lm_two (Blk.new' _ _ _ (by simp)) (by omega) (by omega) (by omega) (by omega)) (by simp)).mono ?_
    rintro e w2 ⟨v2, rfl, ⟨neg2, A2, c2, l2, rfl, hI2⟩, hq2⟩
    obtain ⟨g1, g2, hq⟩ := boxes2 hq2
    obtain ⟨k8, k9, f8, f9⟩ := g1.two
    have hz := g1.lt
    go_wp2_with fail
    refine bodyPost_ret (v := .agg #[.bool neg2, .slice A2 l2.length c2]) (by simp [results, Try.results47, go_sem, k8, k9]) rfl ?_
    have hr := retV_end g1 hq (by omega) hI2 rfl
    rw [show sgn false (val [n.toNat % 4294967296, n.toNat / 4294967296]) = n from by simp [val, sgn]; omega] at hr
    exact hr

set_option maxRecDepth 100000 in
theorem fits_one (n : Int) (h1 : -4294967296 < n) (h2 : n < 4294967296) : Fits 1 n := by unfold Fits; omega
set_option maxRecDepth 100000 in
theorem fits_two (n : Int) (h1 : -2 ^ 63 ≤ n) (h2 : n < 2 ^ 63) : Fits 2 n := by unfold Fits; omega

def SmallP (w : World) (z : Int) (e : Ending) (w' : World) : Prop := e = .returned (.tuple #[.int .i64 z, .bool true]) ∧ Q w w'
set_option maxHeartbeats 1000000 in
set_option maxRecDepth 100000 in
/-- Small, of an integer of 64 bits that is not negative. -/
theorem rsmall_any (va : Value) (a : Int) (w : World) (ha : IntV w va a) (h1 : 0 ≤ a) (h2 : a < 2 ^ 63) : Calls Try.prog 69 #[va] w (SmallP w a) := by
  obtain ⟨na, A, c, la, rfl, hA⟩ := ha
  have hl := hA.len (fits_two a (by omega) h2)
  have habs := hA.abs
  have hva : val la = a.toNat := by omega
  have Hva := Lib.hid hva
  clear hva habs
  have hna : na = false := by
    cases na with
    | false => rfl
    | true =>
      have h3 := hA.2.2.1 rfl
      have h4 := hA.val_pos (List.length_pos_iff.2 h3)
      have := hA.2.2.2
      simp only [sgn, if_true] at this
      omega
  subst hna
  have hsz : decide ((2 : Int) < (la.length : Int)) = false := by simp; omega
  go_enter Try.func69, Try.ntmps69
  go_wp2_with fail
  go_loop [4, 5] (fun mv iv => ∃ k m : Nat, k ≤ la.length ∧ iv = .int .i64 ((k : Int) - 1) ∧ mv = .int .u64 m ∧ m = val (la.drop k)) (fun _ iv => (intOf iv + 1).toNat)
  case atStart => exact ⟨la.length, 0, Nat.le_refl _, rfl, rfl, by rw [List.drop_length]; rfl⟩
  case round =>
    obtain ⟨k, m, hk, rfl, rfl, hm⟩ := hrel
    have Hm := Lib.hid hm
    clear hm
    cases k with
    | zero =>
      have hm2 : m = a.toNat := by rw [Hm.out, List.drop_zero, Hva.out]
      have hm3 : m ≤ 9223372036854775807 := by omega
      have hm4 : decide ((m : Int) ≤ 9223372036854775807) = true := by simp; omega
      clear hm2
      go_wp2_with fail
      go_ret2
      have hm2 : m = a.toNat := by rw [Hm.out, List.drop_zero, Hva.out]
      refine ⟨?_, (by repeat (first | exact Q.refl _ | assumption | apply Q.drew | apply Q.drewN | apply Q.alloc))⟩
      have e : (m : Int) = a := by omega
      show Ending.returned (.tuple #[.int .i64 (m : Int), .bool true]) = _
      rw [e]
    | succ k =>
      obtain ⟨b, o, x, rfl, hb, hx, hx2, hc⟩ := (hA.1).at (k := k) (by omega)
      have hd := val_drop_lt hA.1.lt (k + 1)
      rw [← Hm.out] at hd
      have hm2 : m < 4294967296 := Nat.lt_of_lt_of_le hd (Nat.le_trans (Nat.pow_le_pow_right (by decide) (by omega : la.length - (k + 1) ≤ 1)) (by decide))
      have Hx := Lib.hid hx
      clear hx hd
      rw [show ((k + 1 : Nat) : Int) - 1 = (k : Int) from by omega]
      go_wp2_with fail
      go_round
      case rel => exact ⟨k, m * 4294967296 + x, by omega, rfl, rfl, by rw [val_drop Hx.out, ← Hm.out]; omega⟩
      case measure => simp [intOf]
end Go.Proofs.Ytcjpjnneimjfiaa
