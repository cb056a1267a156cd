/-
  DivMod by one limb; the reference's Reduce.
-/
import Derived.Deep.CutRange
import Derived.Test.YtlipdmbdohpblaaDoorDivB
import Derived.Test.YtlipdmbdohpblaaDoorReduce
namespace Go.Proofs.YtlipdmbdohpblaaDoor
open Go.RowKit

theorem single_of {l : List Nat} (hc : Canon l) (h0 : 0 < val l) (h : val l < 4294967296) : ∃ x, l = [x] ∧ val l = x := by
  have hl : l.length ≤ 1 := canon_length hc (n := 1) (by simpa using h)
  match l, hl with
  | [], _ => simp [val] at h0
  | [x], _ => exact ⟨x, rfl, val_single x⟩
theorem divmod1 (va vb : Value) (a : Int) (p n : Nat) (w : World) (ha : IntV w va a) (hb : IntV w vb (p : Int)) (hn : n ≤ 1073741823) (fa : Fits n a) (hn1 : 1 ≤ n) (hp : 0 < p) (hp2 : p < 4294967296) :
    Calls Tryd.prog 43 #[va, vb] w (DMP w a (p : Int)) := by
  refine divmod_any va vb a p n w ha hb hn fa ((fits_one (p : Int) (by omega) (by omega)).mono hn1) (by omega) ?_
  intro A B c d la lb w' hA hB _ hcb eva evb hla _
  have hvb : val lb = p := by rw [evb]; rfl
  obtain ⟨x, rfl, hx⟩ := single_of hcb (by omega) (by omega)
  have hxp : x = p := by omega
  have h := divide1 A B c d x la w' hA hB (by omega) (by omega)
  rw [eva, hxp] at h
  exact h

theorem rof_i (N : Int) {A : Int} (w : World) (hA : A = N) (h1 : -2 ^ 63 ≤ N) (h2 : N < 2 ^ 63) : Calls Tryd.prog 22 #[.int .i64 A] w (RetV w N) := by
  subst hA; exact rof_any A w h1 h2
theorem Lm.allocd {w : World} {A : Option Addr} {c : Nat} {l : List Nat} {o : Obj} (h : Lm w A c l) : Lm (w.alloc o) A c l := h.q ((Q.refl w).alloc o)
theorem Lm.drewd {w : World} {A : Option Addr} {c : Nat} {l : List Nat} (h : Lm w A c l) : Lm w.drew A c l := h.q ((Q.refl w).drew)
set_option maxHeartbeats 8000000 in
theorem rreduce_any (p : Nat) (va : Value) (a : Int) (n : Nat) (w : World) (hp : 0 < p) (hp2 : p < 4294967296) (ha : IntV w va a) (hn : n ≤ 1073741823) (hn1 : 1 ≤ n) (fa : Fits n a) :
    Calls Tryd.prog 18 #[.int .u64 p, va] w (RetQ w (redN p a)) := by
  have ha0 := ha
  obtain ⟨na, A, c, la, rfl, hA⟩ := ha
  have h1 : 0 ≤ a % (p : Int) := Int.emod_nonneg _ (by omega)
  have h2 : a % (p : Int) < (p : Int) := Int.emod_lt_of_pos _ (by omega)
  obtain ⟨r, hr⟩ : ∃ r : Nat, a % (p : Int) = (r : Int) := ⟨(a % (p : Int)).toNat, by omega⟩
  have hred : redN p a = r := by unfold redN; rw [hr]; rfl
  have hrp : r < p := by omega
  rw [hred]
  have wp : IntKind.i64.wrap (p : Int) = (p : Int) := by rw [IntKind.wrap_i64]; omega
  have WP := Lib.hid wp
  have HR := Lib.hid hr
  have HRP := Lib.hid hrp
  have HA0 := @Lib.hid _ ha0
  clear wp hr h1 h2 hred hrp ha0
  go_enter Tryd.func18, Tryd.ntmps18
  go_wp2_with fail
  go_upto_region 1 with fail
  go_cut [5, 6, 7] from 10 to 18 (fun _ s6 _ wx => ∃ T nr Ar cr lr, s6 = .pointer (some ⟨T, 0, none⟩) ∧ wx.cell? ⟨T, 0, none⟩ = some (.bool nr) ∧ wx.cell? ⟨T, 1, none⟩ = some (.slice Ar (List.length lr) cr) ∧ IntA wx nr Ar cr lr (r : Int) ∧ Q w wx)
  case first =>
    go_region_law (first | (go_simp; go_at_call 22; have hh := fun W => rof_i (p : Int) W WP.out (by omega) (by omega); refine (hh _).mono ?_; clear hh; rintro e w1 ⟨vo, rfl, hvo, hq⟩; have q1 : Q w w1 := Q.trans (by repeat (first | exact Q.refl _ | assumption | apply Q.drew | apply Q.drewN | apply Q.alloc)) hq; have hz1 := hq.size; (try simp at hz1); (first | (have b1 : Blk w1 (w.heap.size) 35 #[.bool na, .slice A la.length c] := Blk.q ?_ hq; rotate_left; (focus ((repeat (first | with_reducible assumption | with_reducible exact Blk.new _ _ _ | (with_reducible refine Blk.new' _ _ _ ?_; focus (first | rfl | (simp; done))) | with_reducible apply Blk.alloc | with_reducible apply Blk.drew)); done)); obtain ⟨e1, e1', d1, d1'⟩ := b1.two; have l1 := b1.lt) | skip); (first | (have b2 : Blk w1 (w.heap.size + 1) 35 #[.bool false, .slice none 0 0] := Blk.q ?_ hq; rotate_left; (focus ((repeat (first | with_reducible assumption | with_reducible exact Blk.new _ _ _ | (with_reducible refine Blk.new' _ _ _ ?_; focus (first | rfl | (simp; done))) | with_reducible apply Blk.alloc | with_reducible apply Blk.drew)); done)); obtain ⟨e2, e2', d2, d2'⟩ := b2.two; have l2 := b2.lt) | skip); (first | (have b3 : Blk w1 (w.heap.size + 1 + 1) 35 #[.bool false, .slice none 0 0] := Blk.q ?_ hq; rotate_left; (focus ((repeat (first | with_reducible assumption | with_reducible exact Blk.new _ _ _ | (with_reducible refine Blk.new' _ _ _ ?_; focus (first | rfl | (simp; done))) | with_reducible apply Blk.alloc | with_reducible apply Blk.drew)); done)); obtain ⟨e3, e3', d3, d3'⟩ := b3.two; have l3 := b3.lt) | skip); clear hq) | (go_simp; go_at_call 43; have hh := fun W (h1 : Q w W) (h2 : Q w1 W) => divmod1 _ _ a p n W (HA0.out.q h1) (hvo.q h2) hn fa hn1 hp hp2; refine (hh _ (by repeat (first | exact Q.refl _ | assumption | apply Q.drew | apply Q.drewN | apply Q.alloc)) (by repeat (first | exact Q.refl _ | assumption | apply Q.drew | apply Q.drewN | apply Q.alloc))).mono ?_; clear hh; rintro e w2 ⟨_, _, rfl, ⟨nq, Aq, cq, lq, rfl, iq⟩, ⟨nr, Ar, cr, lr, rfl, ir⟩, hq⟩; have q2 : Q w w2 := Q.trans (by repeat (first | exact Q.refl _ | assumption | apply Q.drew | apply Q.drewN | apply Q.alloc)) hq; have hz2 := hq.size; (try simp at hz2); (first | (have b4 : Blk w2 (w.heap.size) 35 #[.bool na, .slice A la.length c] := Blk.q ?_ hq; rotate_left; (focus ((repeat (first | with_reducible assumption | with_reducible exact Blk.new _ _ _ | (with_reducible refine Blk.new' _ _ _ ?_; focus (first | rfl | (simp; done))) | with_reducible apply Blk.alloc | with_reducible apply Blk.drew)); done)); obtain ⟨e4, e4', d4, d4'⟩ := b4.two; have l4 := b4.lt) | skip); (first | (have b5 : Blk w2 (w.heap.size + 1) 35 #[.bool false, .slice none 0 0] := Blk.q ?_ hq; rotate_left; (focus ((repeat (first | with_reducible assumption | with_reducible exact Blk.new _ _ _ | (with_reducible refine Blk.new' _ _ _ ?_; focus (first | rfl | (simp; done))) | with_reducible apply Blk.alloc | with_reducible apply Blk.drew)); done)); obtain ⟨e5, e5', d5, d5'⟩ := b5.two; have l5 := b5.lt) | skip); (first | (have b6 : Blk w2 (w.heap.size + 1 + 1) 35 #[.bool false, .slice none 0 0] := Blk.q ?_ hq; rotate_left; (focus ((repeat (first | with_reducible assumption | with_reducible exact Blk.new _ _ _ | (with_reducible refine Blk.new' _ _ _ ?_; focus (first | rfl | (simp; done))) | with_reducible apply Blk.alloc | with_reducible apply Blk.drew)); done)); obtain ⟨e6, e6', d6, d6'⟩ := b6.two; have l6 := b6.lt) | skip); (first | (have b7 : Blk w2 (w1.heap.size) 35 #[.bool false, .slice none 0 0] := Blk.q ?_ hq; rotate_left; (focus ((repeat (first | with_reducible assumption | with_reducible exact Blk.new _ _ _ | (with_reducible refine Blk.new' _ _ _ ?_; focus (first | rfl | (simp; done))) | with_reducible apply Blk.alloc | with_reducible apply Blk.drew)); done)); obtain ⟨e7, e7', d7, d7'⟩ := b7.two; have l7 := b7.lt) | skip); (first | (have b8 : Blk w2 (w1.heap.size + 1) 35 #[.bool false, .slice none 0 0] := Blk.q ?_ hq; rotate_left; (focus ((repeat (first | with_reducible assumption | with_reducible exact Blk.new _ _ _ | (with_reducible refine Blk.new' _ _ _ ?_; focus (first | rfl | (simp; done))) | with_reducible apply Blk.alloc | with_reducible apply Blk.drew)); done)); obtain ⟨e8, e8', d8, d8'⟩ := b8.two; have l8 := b8.lt) | skip); clear hq))
    all_goals go_wp2_with fail
    all_goals go_meet
    all_goals rw [HR.out] at ir
    all_goals have irl := ir.1
    all_goals refine ⟨_, nr, Ar, cr, lr, rfl, (Blk.two (t := 35) (x := .bool nr) (y := .slice Ar lr.length cr) ?_).1, (Blk.two (t := 35) (x := .bool nr) (y := .slice Ar lr.length cr) ?_).2.1, ⟨?_, ir.2⟩, ?_⟩
    all_goals (repeat' (first | with_reducible assumption | with_reducible exact Blk.new _ _ _ | with_reducible refine blk_boxes (b0 := false) (A0 := none) (n0 := 0) (c0 := 0) ?_ | with_reducible refine lm_boxes (t := 35) ?_ (b0 := false) (A0 := none) (n0 := 0) (c0 := 0) ?_ | with_reducible refine blk_boxes_far ?_ ?_ | (with_reducible refine Blk.new' _ _ _ ?_; focus (simp [World.setCell]; done)) | with_reducible apply Blk.alloc | with_reducible apply Blk.drew | with_reducible apply Lm.drewd | with_reducible apply Lm.allocd | with_reducible apply Q.drew | with_reducible apply Q.alloc | with_reducible refine Q.setCell ?_ ?_ _ | (dsimp only; omega) | omega))
  case rest =>
    obtain ⟨T, nr, Ar, cr, lr, rfl, k0, k1, ir, q⟩ := hcut
    go_wp2_with fail
    refine (rsmall_any _ (r : Int) _ ⟨_, _, _, _, rfl, ir⟩ (by omega) (by have := HRP.out; omega)).mono ?_
    rintro e w3 ⟨rfl, hq⟩
    go_wp2_with fail
    go_ret
    exact ⟨ret_int (by rw [IntKind.wrap_u64]; have := HRP.out; omega), q.trans hq⟩
end Go.Proofs.YtlipdmbdohpblaaDoor
