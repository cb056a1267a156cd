/-
  divide by one limb, of the reference.
-/
import Derived.Test.YtlipdmbdohpblaaDoorShort
import Derived.Test.YtlipdmbdohpblaaDoorInt3
namespace Go.Proofs.YtlipdmbdohpblaaDoor
open Go.RowKit

/-- Quotient and remainder of absolute values. -/
def DivP (w : World) (a b : Nat) (e : Ending) (w' : World) : Prop := ∃ v1 v2, e = .returned (.tuple #[v1, v2]) ∧ IntV w' v1 (a / b : Nat) ∧ IntV w' v2 (a % b : Nat) ∧ Q w w'

/-- A store of an integer into a box leaves what slices read. -/
theorem lm_boxes {w : World} {B t : Nat} {b0 neg : Bool} {A0 A' A : Option Addr} {n0 c0 n' c' c : Nat} {l : List Nat} (h : Lm w A c l) (hB : Blk w B t #[.bool b0, .slice A0 n0 c0]) :
    Lm ((w.setCell ⟨B, 0, none⟩ (.bool neg)).setCell ⟨B, 1, none⟩ (.slice A' n' c')) A c l := by
  have n1 : ∀ (b1 : Bool) (j : Nat) (x : Int), (#[Value.bool b1, .slice A0 n0 c0] : Array Value)[j]? ≠ some (Value.int .u32 x) := by
    intro b1 j x
    match j with
    | 0 => simp
    | 1 => simp
    | j + 2 => simp
  exact (h.box hB (n1 _) _ _).box (hB.set 0 _) (n1 neg) _ _
theorem blk_boxes {w : World} {B t : Nat} {b0 neg : Bool} {A0 A' : Option Addr} {n0 c0 n' c' : Nat} (hB : Blk w B t #[.bool b0, .slice A0 n0 c0]) :
    Blk ((w.setCell ⟨B, 0, none⟩ (.bool neg)).setCell ⟨B, 1, none⟩ (.slice A' n' c')) B t #[.bool neg, .slice A' n' c'] := (hB.set 0 _).set 1 _
theorem blk_boxes_far {w : World} {B D t : Nat} {cs : Array Value} {u v : Value} (hB : Blk w B t cs) (h : B ≠ D) : Blk ((w.setCell ⟨D, 0, none⟩ u).setCell ⟨D, 1, none⟩ v) B t cs := (hB.far h _).far h _
theorem IntA.boxes {w : World} {B t : Nat} {b0 neg : Bool} {A0 A' A : Option Addr} {n0 c0 n' c' c : Nat} {l : List Nat} {ng : Bool} {z : Int} (h : IntA w ng A c l z) (hB : Blk w B t #[.bool b0, .slice A0 n0 c0]) :
    IntA ((w.setCell ⟨B, 0, none⟩ (.bool neg)).setCell ⟨B, 1, none⟩ (.slice A' n' c')) ng A c l z := ⟨lm_boxes h.1 hB, h.2⟩
theorem Q.boxes {w w1 : World} {B : Nat} {u v : Value} (h : Q w w1) (hw : w.heap.size ≤ B) : Q w ((w1.setCell ⟨B, 0, none⟩ u).setCell ⟨B, 1, none⟩ v) := (h.setCell hw _).setCell hw _
theorem lm_single (w : World) (x : Nat) (hx : x < 4294967296) : Lm (w.alloc (.cells #[.int .u32 (x : Nat)] 23)) (some ⟨w.heap.size, 0, none⟩) 1 [x] :=
  Row32.lm (Row32.make w [x] rfl) (fun y hy => by obtain rfl : y = x := by simpa using hy
                                                  exact hx) (by simp) (by simp)
theorem val_single (x : Nat) : val [x] = x := by simp [val]

set_option maxHeartbeats 1000000 in
theorem divide1 (A B : Option Addr) (c d x : Nat) (la : List Nat) (w : World) (hA : Lm w A c la) (hB : Lm w B d [x]) (hx : 0 < x) (hn : la.length ≤ 4294967296) :
    Calls Tryd.prog 53 #[.slice A la.length c, .slice B 1 d] w (DivP w (val la) x) := by
  obtain ⟨b, o, y, rfl, hb, hy, hy2, hc⟩ := hB.at (k := 0) (by simp)
  obtain rfl : x = y := by simpa using hy
  have hcap := hB.cap
  have hc' : ∀ o1 o2 : Obj, ((w.alloc o1).alloc o2).cell? ⟨b, o, none⟩ = some (.int .u32 (x : Nat)) := fun o1 o2 => Q.cell (((Q.refl w).alloc _).alloc _) hc
  have k0 := hc' (.cells #[.bool false, .slice none 0 0] 35) (.cells #[.bool false, .slice none 0 0] 35)
  have hcap1 : 1 ≤ d := hcap
  clear hcap hc hc' hy
  go_enter Tryd.func53, Tryd.ntmps53
  go_wp2_with fail
  refine (short_any A c la x _ (hA.q (by repeat (first | exact Q.refl _ | assumption | apply Q.drew | apply Q.drewN | apply Q.alloc))) hn hx hy2).mono ?_
  rintro e w1 ⟨A1, c1, l1, rfl, hL1, hl1, hv1, hq1⟩
  obtain ⟨g4, g5, q1⟩ := boxes2 hq1
  have Hv1 := Lib.hid hv1
  have Hl1 := Lib.hid hl1
  clear hv1 hq1 k0 hl1
  go_wp2_with fail
  refine (made_v A1 c1 l1 false _ hL1 (by rw [Hl1.out]; omega)).mono ?_
  rintro e w2 ⟨v2, rfl, ⟨n2, A2, c2, l2, rfl, hI2⟩, hq2⟩
  have g4 := g4.q hq2
  have g5 := g5.q hq2
  have q2 := q1.trans hq2
  clear hq2 q1
  go_wp2_with fail
  have hr : val la % x < 4294967296 := Nat.lt_of_lt_of_le (Nat.mod_lt _ hx) (by omega)
  refine (made_v (some ⟨w2.heap.size, 0, none⟩) 1 [val la % x] false _ (lm_single w2 _ hr) (by simp)).mono ?_
  rintro e w3 ⟨v3, rfl, ⟨n3, A3, c3, l3, rfl, hI3⟩, hq3⟩
  have hq3' : Q w2 w3 := (boxes1 hq3).2
  have g4 := g4.q hq3'
  have g5 := g5.q hq3'
  have hI2 := hI2.q hq3'
  have q3 := q2.trans hq3'
  have hz4 := g4.lt
  have hz5 := g5.lt
  obtain ⟨k4, k5, f4, f5⟩ := g4.two
  obtain ⟨k6, k7, f6, f7⟩ := g5.two
  clear hq3 hq3' q2 hL1 hA hB hr
  go_wp2_with fail
  refine bodyPost_ret (v := .tuple #[.agg #[.bool n2, .slice A2 l2.length c2], .agg #[.bool n3, .slice A3 l3.length c3]]) (by simp [results, Tryd.results53, go_sem, k4, k5, k6, k7]) rfl ?_
  have g5' := blk_boxes_far (u := .bool n2) (v := .slice A2 l2.length c2) g5 (D := w.heap.size) (by omega)
  refine ⟨_, _, rfl, ⟨n2, A2, c2, l2, rfl, ?_⟩, ⟨n3, A3, c3, l3, rfl, ?_⟩, (q3.boxes (by omega)).boxes (by omega)⟩
  · have e : sgn false (val l1) = ((val la / x : Nat) : Int) := by rw [Hv1.out]; rfl
    rw [← e]
    exact (hI2.boxes g4).boxes g5'
  · have e : sgn false (val [val la % x]) = ((val la % x : Nat) : Int) := by rw [val_single]; rfl
    rw [← e]
    exact (hI3.boxes g4).boxes g5'
end Go.Proofs.YtlipdmbdohpblaaDoor
