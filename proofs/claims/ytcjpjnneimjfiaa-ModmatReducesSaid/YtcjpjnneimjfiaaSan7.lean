/-
  sanity of torsionlaw07.
-/
import Derived.Test.YtcjpjnneimjfiaaRfC
import Derived.Test.YtcjpjnneimjfiaaMmI
namespace Go.Proofs.Ytcjpjnneimjfiaa
open Go.RowKit
section

/-- Literals. -/
def lx (l : List (Fin 5)) : Nat → Fin 5 := fun k => l.getD k 0
set_option maxRecDepth 100000 in
theorem fp5 : Fp 5 := ⟨prw5, by decide⟩
set_option maxRecDepth 100000 in
theorem sl4 {w : World} {g : Nat} {a b c d : Fin 5} (h : Blk w g 26 #[.int .u64 ((a : Nat) : Int), .int .u64 ((b : Nat) : Int), .int .u64 ((c : Nat) : Int), .int .u64 ((d : Nat) : Int)]) : Sl w (.slice (some ⟨g, 0, none⟩) 4 4) 4 (u64 (lx [a, b, c, d])) :=
  ⟨_, 4, rfl, Nat.le_refl _, by omega, fun _ => ⟨g, 0, rfl, h.lt, fun k hk => by
    rw [Nat.zero_add, h.cell]
    match k, hk with
    | 0, _ => rfl
    | 1, _ => rfl
    | 2, _ => rfl
    | 3, _ => rfl⟩⟩
set_option maxRecDepth 100000 in
theorem sl2 {w : World} {g : Nat} {a b : Fin 5} (h : Blk w g 26 #[.int .u64 ((a : Nat) : Int), .int .u64 ((b : Nat) : Int)]) : Sl w (.slice (some ⟨g, 0, none⟩) 2 2) 2 (u64 (lx [a, b])) :=
  ⟨_, 2, rfl, Nat.le_refl _, by omega, fun _ => ⟨g, 0, rfl, h.lt, fun k hk => by
    rw [Nat.zero_add, h.cell]
    match k, hk with
    | 0, _ => rfl
    | 1, _ => rfl⟩⟩
def fM (l : List (Fin 5)) : Mt 5 := fiveM (lx l)
set_option maxRecDepth 100000 in
theorem five4 (g : Nat) (a b c d : Fin 5) (w : World) (h : Blk w g 26 #[.int .u64 ((a : Nat) : Int), .int .u64 ((b : Nat) : Int), .int .u64 ((c : Nat) : Int), .int .u64 ((d : Nat) : Int)]) :
    Calls Try.prog 46 #[.slice (some ⟨g, 0, none⟩) 4 4] w (ModQ w 2 2 (fM [a, b, c, d])) := five_any _ 4 2 _ w (sl4 h) rfl (by omega)
set_option maxRecDepth 100000 in
theorem five2 (g : Nat) (a b : Fin 5) (w : World) (h : Blk w g 26 #[.int .u64 ((a : Nat) : Int), .int .u64 ((b : Nat) : Int)]) :
    Calls Try.prog 46 #[.slice (some ⟨g, 0, none⟩) 2 2] w (ModQ w 1 2 (fM [a, b])) := five_any _ 2 1 _ w (sl2 h) rfl (by omega)
set_option maxRecDepth 100000 in
theorem s_rref : (rf 2 2 (fM [0, 2, 3, 1])).r = 2 ∧ (∀ i, i < 2 → (rf 2 2 (fM [0, 2, 3, 1])).pv i = i) ∧ ∀ i, i < 2 → ∀ k, k < 2 → (rf 2 2 (fM [0, 2, 3, 1])).M i k = fM [1, 0, 0, 1] i k := by decide +kernel
set_option maxRecDepth 100000 in
theorem s_rank : (rf 2 2 (fM [1, 2, 2, 4])).r = 1 := by decide +kernel
set_option maxRecDepth 100000 in
theorem s_det1 : detOf 2 (rf 2 2 (fM [1, 2, 3, 4])) = 3 := by decide +kernel
set_option maxRecDepth 100000 in
theorem s_det2 : detOf 2 (rf 2 2 (fM [1, 2, 2, 4])) = 0 := by decide +kernel
set_option maxRecDepth 100000 in
theorem s_det3 : detOf 0 (rf 0 0 (fM [])) = 1 := by decide +kernel
set_option maxRecDepth 100000 in
theorem s_left : (lf 2 2 (fM [1, 2, 2, 4])).r = 1 ∧ ∀ i, i < 1 → ∀ k, k < 2 → (lf 2 2 (fM [1, 2, 2, 4])).M i k = fM [1, 2] i k := by decide +kernel
set_option maxRecDepth 100000 in
theorem s_sol1 : ∀ k, k < 2 → rstF 2 2 (fM [1, 2, 2, 4]) (lx [3, 1]) k = 0 := by decide +kernel
set_option maxRecDepth 100000 in
theorem s_sol2 : ¬ ∀ k, k < 2 → rstF 2 2 (fM [1, 2, 2, 4]) (lx [1, 0]) k = 0 := by decide +kernel
set_option maxRecDepth 100000 in
theorem s_act : ∀ k, k < 2 → comb 2 (solF 2 2 (fM [1, 2, 2, 4]) (lx [3, 1])) (fM [1, 2, 2, 4]) k = lx [3, 1] k := by decide +kernel
set_option maxRecDepth 100000 in
theorem s_red : ∀ i, i < 1 → ∀ k, k < 2 → (zf ((fun _ k => if k = 0 then (-1 : Int) else 7) i k) : Fin 5) = fM [4, 2] i k := by decide +kernel

def SaneQ (w : World) (e : Ending) (w' : World) : Prop := e = .returned (.bool true) ∧ Q w w'
/-- What the variables a, p, flat and minus hold. -/
structure SanS (w W0 : World) (K1 K3 : Nat) (A1 : Option Addr) (c1 : Nat) (Ap : Option Addr) (cp : Nat) (A3 : Option Addr) (c3 : Nat) : Prop where
  q : Q w W0
  b1 : Blk W0 K1 29 #[.int .u64 (5 : Nat), .int .i64 (2 : Nat), .slice A1 2 c1]
  b3 : Blk W0 K3 29 #[.int .u64 (5 : Nat), .int .i64 (2 : Nat), .slice A3 2 c3]
  m1 : ModV W0 (.agg #[.int .u64 (5 : Nat), .int .i64 (2 : Nat), .slice A1 2 c1]) 2 2 (fM [1, 0, 0, 1])
  m3 : ModV W0 (.agg #[.int .u64 (5 : Nat), .int .i64 (2 : Nat), .slice A3 2 c3]) 2 2 (fM [1, 2, 2, 4])
  pv : Sl W0 (.slice Ap 2 cp) 2 (i64s fun i => i)
def DetZ (w : World) (Z E : Int) (e : Ending) (w' : World) : Prop := e = .returned (.tuple #[.int .u64 Z, .int .i64 E]) ∧ Q w w'
set_option maxRecDepth 100000 in
theorem det_z (v : Value) (n : Nat) (M : Mt 5) (w : World) (h : ModV w v n n M) (hn : n ≤ 4096) {Z : Int} (e : (((detOf n (rf n n M) : Fin 5) : Nat) : Int) = Z) : Calls Try.prog 16 #[v] w (DetZ w Z 0) := by
  refine (det_any fp5 v n M w h hn).mono ?_
  rintro e' w' ⟨rfl, hq⟩
  exact ⟨by rw [e]; rfl, hq⟩
set_option maxRecDepth 100000 in
theorem det_z50 (v : Value) (n W : Nat) (M : Mt 5) (w : World) (h : ModV w v n W M) (hn : n ≤ 4096) (hW : W ≤ 4096) (hne : n ≠ W) : Calls Try.prog 16 #[v] w (DetZ w 0 50) := by
  refine (det_shape v n W M w h hn hW hne).mono ?_
  rintro e' w' ⟨rfl, hq⟩
  exact ⟨rfl, hq⟩
set_option maxRecDepth 100000 in
theorem SanS.box1 {w W0 w' : World} {K1 K3 : Nat} {A1 : Option Addr} {c1 : Nat} {Ap : Option Addr} {cp : Nat} {A3 : Option Addr} {c3 : Nat} (h : SanS w W0 K1 K3 A1 c1 Ap cp A3 c3) (hq : Q W0 w') :
    w'.cell? ⟨K1, 0, none⟩ = some (.int .u64 5) ∧ w'.cell? ⟨K1, 1, none⟩ = some (.int .i64 2) ∧ w'.cell? ⟨K1, 2, none⟩ = some (.slice A1 2 c1) := (h.b1.q hq).three'
set_option maxRecDepth 100000 in
theorem SanS.box3 {w W0 w' : World} {K1 K3 : Nat} {A1 : Option Addr} {c1 : Nat} {Ap : Option Addr} {cp : Nat} {A3 : Option Addr} {c3 : Nat} (h : SanS w W0 K1 K3 A1 c1 Ap cp A3 c3) (hq : Q W0 w') :
    w'.cell? ⟨K3, 0, none⟩ = some (.int .u64 5) ∧ w'.cell? ⟨K3, 1, none⟩ = some (.int .i64 2) ∧ w'.cell? ⟨K3, 2, none⟩ = some (.slice A3 2 c3) := (h.b3.q hq).three'
set_option maxRecDepth 100000 in
theorem mat12 {w : World} {B B' : Nat} {n1 n2 : Bool} {A1 A2 : Option Addr} {c1 c2 : Nat} {l1 l2 : List Nat} {z1 z2 : Int} (h1 : IntA w n1 A1 c1 l1 z1) (h2 : IntA w n2 A2 c2 l2 z2)
    (hb : Blk w B 71 #[.slice (some ⟨B', 0, none⟩) 2 2]) (hb' : Blk w B' 73 #[.bool n1, .slice A1 l1.length c1, .bool n2, .slice A2 l2.length c2]) :
    MatV w (.agg #[.int .i64 (1 : Nat), .int .i64 (2 : Nat), .slice (some ⟨B, 0, none⟩) 1 1]) 1 2 (fun _ k => if k = 0 then z1 else z2) := by
  refine ⟨_, 1, rfl, fun _ => .slice (some ⟨B', 0, none⟩) 2 2, ⟨Nat.le_refl _, by omega, fun _ => ⟨B, 0, rfl, hb.lt, fun k hk => ?_⟩⟩, fun i hi => ⟨_, 2, rfl, Nat.le_refl _, by omega, fun _ => ⟨B', 0, rfl, hb'.lt, fun k hk => ?_⟩⟩⟩
  · obtain rfl : k = 0 := by omega
    rw [hb.cell]; rfl
  · match k, hk with
    | 0, _ => exact ⟨.bool n1, .slice A1 l1.length c1, by rw [hb'.cell]; rfl, by rw [hb'.cell]; rfl, n1, A1, c1, l1, rfl, h1⟩
    | 1, _ => exact ⟨.bool n2, .slice A2 l2.length c2, by rw [hb'.cell]; rfl, by rw [hb'.cell]; rfl, n2, A2, c2, l2, rfl, h2⟩
set_option maxRecDepth 100000 in
theorem SanS.six {w W0 w' : World} {K1 K3 : Nat} {A1 : Option Addr} {c1 : Nat} {Ap : Option Addr} {cp : Nat} {A3 : Option Addr} {c3 : Nat} (h : SanS w W0 K1 K3 A1 c1 Ap cp A3 c3) (hq : Q W0 w') :
    w'.cell? ⟨K1, 0, none⟩ = some (.int .u64 5) ∧ w'.cell? ⟨K1, 1, none⟩ = some (.int .i64 2) ∧ w'.cell? ⟨K1, 2, none⟩ = some (.slice A1 2 c1) ∧
    w'.cell? ⟨K3, 0, none⟩ = some (.int .u64 5) ∧ w'.cell? ⟨K3, 1, none⟩ = some (.int .i64 2) ∧ w'.cell? ⟨K3, 2, none⟩ = some (.slice A3 2 c3) :=
  ⟨(h.box1 hq).1, (h.box1 hq).2.1, (h.box1 hq).2.2, h.box3 hq⟩
set_option maxRecDepth 100000 in
theorem SanS.move {w W0 W1 : World} {K1 K3 : Nat} {A1 : Option Addr} {c1 : Nat} {Ap : Option Addr} {cp : Nat} {A3 : Option Addr} {c3 : Nat} (h : SanS w W0 K1 K3 A1 c1 Ap cp A3 c3) (hq : Q W0 W1) : SanS w W1 K1 K3 A1 c1 Ap cp A3 c3 :=
  ⟨h.q.trans hq, h.b1.q hq, h.b3.q hq, h.m1.q hq, h.m3.q hq, h.pv.q hq⟩
set_option maxRecDepth 100000 in
theorem left_z (v : Value) (w : World) (h : ModV w v 2 2 (fM [1, 2, 2, 4])) : Calls Try.prog 18 #[v] w (ModQ w 1 2 (fM [1, 2])) := by
  refine (left_any fp5 v 2 2 _ w h (by omega) (by omega)).mono ?_
  rintro e w' ⟨u, rfl, hM, hq⟩
  rw [s_left.1] at hM
  exact ⟨u, rfl, hM.congr (fun i k hi hk => s_left.2 i hi k hk), hq⟩
set_option maxRecDepth 100000 in
theorem sli2 {w : World} {g : Nat} (h : Blk w g 3 #[.int .i64 0, .int .i64 1]) : Sl w (.slice (some ⟨g, 0, none⟩) 2 2) 2 (i64s fun i => i) :=
  ⟨_, 2, rfl, Nat.le_refl _, by omega, fun _ => ⟨g, 0, rfl, h.lt, fun k hk => by
    rw [Nat.zero_add, h.cell]
    match k, hk with
    | 0, _ => rfl
    | 1, _ => rfl⟩⟩
set_option maxRecDepth 100000 in
theorem rank_z (v : Value) (n W : Nat) (M : Mt 5) (w : World) (h : ModV w v n W M) (hn : n ≤ 4096) (hW : W ≤ 4096) {Z : Int} (e : ((rf n W M).r : Int) = Z) : Calls Try.prog 22 #[v] w (IntQ w Z) := e ▸ rank_any fp5 v n W M w h hn hW
set_option maxHeartbeats 4000000 in
set_option maxRecDepth 100000 in
theorem sane7 (w : World) : Calls Try.prog 11 #[] w (SaneQ w) := by
  go_enter Try.func11, Try.ntmps11
  go_wp2_with fail
  refine (five4 _ 0 2 3 1 _ (Blk.new _ _ _)).mono ?_
  rintro e w1 ⟨v1, rfl, hM1, hq1⟩
  have q1 := ((Q.refl w).alloc _).trans hq1
  have HM1 := Lib.hid hM1
  clear hM1 hq1
  go_wp2_with fail
  refine (rref_any fp5 v1 2 2 (fM [0, 2, 3, 1]) _ HM1.out.modv (by omega) (by omega)).mono ?_
  rintro e w2 ⟨v2, Ap, cp, rfl, hO2, hP2, hq2⟩
  obtain ⟨s1, s2, s3⟩ := s_rref
  rw [s1] at hO2 hP2 ⊢
  obtain ⟨A1, c1, rfl, hR1⟩ := hO2
  have q2 := q1.trans hq2
  have hp2 : Sl w2 (.slice Ap 2 cp) 2 (i64s fun i => i) := ⟨Ap, cp, rfl, hP2.sc.congr (fun k hk => by unfold i64s; rw [s2 k hk])⟩
  have hm2 : ModV w2 (.agg #[.int .u64 (5 : Nat), .int .i64 (2 : Nat), .slice A1 2 c1]) 2 2 (fM [1, 0, 0, 1]) := ⟨A1, c1, rfl, hR1.rows.congr (fun i k hi hk => s3 i hi k hk)⟩
  have HP2 := Lib.hid hp2
  have HM2 := Lib.hid hm2
  have HQ2 := Lib.hid q2
  clear hR1 hP2 hq2 hp2 hm2 q1 q2 s1 s2 s3 HM1
  go_wp2_with fail
  refine (five4 _ 1 2 2 4 _ (Blk.new' _ _ _ (by simp))).mono ?_
  rintro e w3 ⟨v3, rfl, ⟨A3, c3, rfl, hR3⟩, hq3⟩
  have hq3' : Q w2 w3 := ((((Q.refl w2).alloc _).alloc _).trans hq3)
  have hS : SanS w (w3.alloc (.cells #[.int .u64 5, .int .i64 2, .slice A3 2 c3] 29)) w2.heap.size w3.heap.size A1 c1 Ap cp A3 c3 :=
    ⟨(HQ2.out.trans hq3').alloc _, (((Blk.new w2 _ _).alloc _).q hq3).alloc _, Blk.new w3 _ _, HM2.out.q (hq3'.alloc _), ⟨A3, c3, rfl, hR3.rows.q ((Q.refl w3).alloc _)⟩, HP2.out.q (hq3'.alloc _)⟩
  have HS := Lib.hid hS
  clear hR3 hq3 hq3' hS HP2 HM2 HQ2
  go_wp2_with fail
  obtain ⟨W0, hW0⟩ : ∃ W0, w3.alloc (.cells #[.int .u64 5, .int .i64 2, .slice A3 2 c3] 29) = W0 := ⟨_, rfl⟩
  have hz0 : W0.heap.size = w3.heap.size + 1 := by rw [← hW0]; simp
  have HZ0 := Lib.hid hz0
  rw [hW0] at HS ⊢
  clear hW0 hz0
  refine (five4 _ 1 2 3 4 _ (Blk.new' _ _ _ HZ0.out)).mono ?_
  rintro e w4 ⟨v4, rfl, hM4, hq4⟩
  have q4 := ((Q.refl W0).alloc _).trans hq4
  have HM4 := Lib.hid hM4
  clear hM4 hq4
  go_wp2_with fail
  refine (det_z v4 2 (fM [1, 2, 3, 4]) _ HM4.out.modv (by omega) (Z := 3) (by rw [s_det1]; rfl)).mono ?_
  rintro e w5 ⟨rfl, hq5⟩
  have q5 := q4.trans hq5
  clear hq5 q4 HM4
  obtain ⟨b0, b1, b2⟩ := HS.out.box3 q5
  go_wp2_with fail
  refine (det_z _ 2 (fM [1, 2, 2, 4]) _ (HS.out.m3.q q5) (by omega) (Z := 0) (by rw [s_det2]; rfl)).mono ?_
  rintro e w6 ⟨rfl, hq6⟩
  have q6 := q5.trans hq6
  clear hq6 q5 b0 b1 b2
  go_wp2_with fail
  refine (five2 _ 1 2 _ (Blk.new _ _ _)).mono ?_
  rintro e w7 ⟨v7, rfl, hM7, hq7⟩
  have q7 := (q6.alloc _).trans hq7
  have HM7 := Lib.hid hM7
  clear hM7 hq7 q6
  go_wp2_with fail
  refine (det_z50 v7 1 2 (fM [1, 2]) _ HM7.out.modv (by omega) (by omega) (by omega)).mono ?_
  rintro e w8 ⟨rfl, hq8⟩
  have q8 := q7.trans hq8
  clear hq8 q7 HM7
  go_wp2_with fail
  refine (det_z (.agg #[.int .u64 (5 : Nat), .int .i64 (0 : Nat), .slice none 0 0]) 0 (fM []) _ ⟨none, 0, rfl, fun _ => .int .u64 0, ⟨Nat.le_refl _, by omega, fun h => by omega⟩, fun i hi => by omega⟩ (by omega) (Z := 1) (by rw [s_det3]; rfl)).mono ?_
  rintro e w9 ⟨rfl, hq9⟩
  have q9 := q8.trans hq9
  clear hq9 q8
  obtain ⟨b0, b1, b2⟩ := HS.out.box3 q9
  go_wp2_with fail
  refine (solve_any fp5 _ _ 2 2 (fM [1, 2, 2, 4]) (lx [3, 1]) _ (HS.out.m3.q (q9.alloc _)) (sl2 (Blk.new _ _ _)) (by omega) (by omega)).mono ?_
  rintro e w10 ⟨h10, _, hq10⟩
  obtain ⟨v10, rfl, A10, c10, rfl, hS10⟩ := h10 s_sol1
  have q10 := (q9.alloc _).trans hq10
  have HS10 := Lib.hid hS10
  clear hq10 q9 hS10 b0 b1 b2
  obtain ⟨b0, b1, b2⟩ := HS.out.box3 q10
  go_wp2_with fail
  refine (solve_any fp5 _ _ 2 2 (fM [1, 2, 2, 4]) (lx [1, 0]) _ (HS.out.m3.q (q10.alloc _)) (sl2 (Blk.new _ _ _)) (by omega) (by omega)).mono ?_
  rintro e w11 ⟨_, h11, hq11⟩
  obtain rfl := h11 s_sol2
  have q11 := (q10.alloc _).trans hq11
  have HS11 := Lib.hid (HS10.out.q (((Q.refl w10).alloc _).trans hq11))
  clear hq11 q10 HS10 b0 b1 b2
  go_wp2_with fail
  refine (rof_any (-1) _ (by decide) (by decide)).mono ?_
  rintro e w12 ⟨v12, rfl, ⟨n1, B1, d1, l1, rfl, hI1⟩, hq12⟩
  have q12 := q11.trans hq12
  have HI1 := Lib.hid hI1
  clear hI1
  go_wp2_with fail
  refine (rof_any 7 _ (by decide) (by decide)).mono ?_
  rintro e w13 ⟨v13, rfl, ⟨n2, B2, d2, l2, rfl, hI2⟩, hq13⟩
  have q13 := q12.trans hq13
  have HS13 := Lib.hid (HS11.out.q (hq12.trans hq13))
  have HI2 := Lib.hid hI2
  have HI1' := Lib.hid (HI1.out.q hq13)
  clear hI2 hq12 hq13 q11 q12 HS11 HI1
  have hmat : MatV (((w13.alloc (.cells #[.bool n1, .slice B1 (List.length l1) d1, .bool n2, .slice B2 (List.length l2) d2] 73)).alloc (.cells #[.slice (some ⟨w13.heap.size, 0, none⟩) 2 2] 71)).alloc (.cells #[.int .i64 1, .int .i64 2, .slice (some ⟨w13.heap.size + 1, 0, none⟩) 1 1] 68)) (.agg #[.int .i64 (1 : Nat), .int .i64 (2 : Nat), .slice (some ⟨w13.heap.size + 1, 0, none⟩) 1 1]) 1 2 (fun _ k => if k = 0 then (-1 : Int) else 7) :=
    mat12 (HI1'.out.q ((((Q.refl w13).alloc _).alloc _).alloc _)) (HI2.out.q ((((Q.refl w13).alloc _).alloc _).alloc _)) ((Blk.new' _ _ _ (by simp)).alloc _) (((Blk.new w13 _ _).alloc _).alloc _)
  obtain ⟨W14, hW14⟩ : ∃ W14, (((w13.alloc (.cells #[.bool n1, .slice B1 (List.length l1) d1, .bool n2, .slice B2 (List.length l2) d2] 73)).alloc (.cells #[.slice (some ⟨w13.heap.size, 0, none⟩) 2 2] 71)).alloc (.cells #[.int .i64 1, .int .i64 2, .slice (some ⟨w13.heap.size + 1, 0, none⟩) 1 1] 68)) = W14 := ⟨_, rfl⟩
  have q14 : Q W0 W14 := hW14 ▸ ((q13.alloc _).alloc _).alloc _
  have hB16 : Blk W14 (w13.heap.size + 1 + 1) 68 #[.int .i64 1, .int .i64 2, .slice (some ⟨w13.heap.size + 1, 0, none⟩) 1 1] := hW14 ▸ Blk.new' _ _ _ (by simp)
  have hs14 : Sl W14 (.slice A10 2 c10) 2 (u64 (solF 2 2 (fM [1, 2, 2, 4]) (lx [3, 1]))) := Sl.q ⟨A10, c10, rfl, HS13.out⟩ (hW14 ▸ ((((Q.refl w13).alloc _).alloc _).alloc _))
  rw [hW14] at hmat
  have HMAT := Lib.hid hmat
  have HB16 := Lib.hid hB16
  have HS14 := Lib.hid hs14
  have HW14 := Lib.hid hW14
  clear hmat hB16 hs14 hW14 q13 HS13 HI2 HI1'
  go_wp2_with fail
  rw [HW14.out]
  clear HW14
  have HS := Lib.hid (HS.out.move q14)
  have q14 := Q.refl W14
  have sk := HS.out.six q14
  obtain ⟨t0, t1, t2, t3, t4, t5⟩ := sk
  go_region_held3 (fun w' => w'.cell? ⟨w2.heap.size, 0, none⟩ = some (.int .u64 5) ∧ w'.cell? ⟨w2.heap.size, 1, none⟩ = some (.int .i64 2) ∧ w'.cell? ⟨w2.heap.size, 2, none⟩ = some (.slice A1 2 c1) ∧ w'.cell? ⟨w3.heap.size, 0, none⟩ = some (.int .u64 5) ∧ w'.cell? ⟨w3.heap.size, 1, none⟩ = some (.int .i64 2) ∧ w'.cell? ⟨w3.heap.size, 2, none⟩ = some (.slice A3 2 c3)) (first | exact sk | exact HS.out.six (q14.drew.alloc _) | go_keep)
    (first | (go_at_call_of 46 (Value.slice (some ⟨W14.heap.size, 0, none⟩) 4 4); refine (five4 _ 1 0 0 1 _ (Blk.new W14 _ _).drew).mono ?_; rintro e wA ⟨vA, rfl, hMA, hqA⟩; have qA := (q14.alloc _).drew.trans hqA; have sk := HS.out.six qA) | (go_at_call_of 19 (Value.agg #[.int .u64 5, .int .i64 2, .slice A1 2 c1]); refine (same_mod _ vA 2 2 (fM [1, 0, 0, 1]) (fM [1, 0, 0, 1]) _ (HS.out.m1.q qA) hMA.modv (fun _ _ _ _ => rfl) (by omega)).mono ?_; rintro e wB ⟨rfl, hqB⟩; have qB := qA.trans hqB; have sk := HS.out.six qB) | (go_at_call 21; refine (ints_true _ _ 2 (fun i => i) (fun i => i) _ (HS.out.pv.q (qB.alloc _)) (sli2 (Blk.new wB _ _)) (fun _ _ => rfl)).mono ?_; rintro e wC ⟨rfl, hqC⟩; have qC := (qB.alloc _).trans hqC; have sk := HS.out.six qC) | (go_at_call 22; refine (rank_z _ 2 2 (fM [1, 2, 2, 4]) _ (HS.out.m3.q qC) (by omega) (by omega) (Z := 1) (by rw [s_rank]; rfl)).mono ?_; rintro e wD ⟨rfl, hqD⟩; have qD := qC.trans hqD; have sk := HS.out.six qD) | (go_at_call 18; refine (left_z _ _ (by first | exact HS.out.m3.q qE | exact HS.out.m3.q qD | exact HS.out.m3.q (qD.alloc _))).mono ?_; rintro e wL ⟨vL, rfl, hML, hqL⟩; (first | have qL := qE.trans hqL | have qL := qD.trans hqL | have qL := (qD.alloc _).trans hqL); have sk := HS.out.six qL) | (go_at_call 46; refine (five2 _ 1 2 _ (by first | exact Blk.q (Blk.new wD _ _) hqL | exact Blk.new wD _ _ | exact Blk.new wL _ _)).mono ?_; rintro e wE ⟨vE, rfl, hME, hqE⟩; (first | have qE := qL.trans hqE | have qE := (qL.alloc _).trans hqE | have qE := (qD.alloc _).trans hqE); have sk := HS.out.six qE) | (go_at_call 19; refine (same_mod vL vE 1 2 (fM [1, 2]) (fM [1, 2]) _ (by first | exact hML.modv | exact hML.modv.q hqE | exact hML.modv.q (((Q.refl _).alloc _).trans hqE)) (by first | exact hME.modv | exact hME.modv.q hqL) (fun _ _ _ _ => rfl) (by omega)).mono ?_; rintro e wZ ⟨rfl, hqZ⟩; (first | have qZ := qE.trans hqZ | have qZ := qL.trans hqZ); have sk := HS.out.six qZ))
  all_goals
    have QZ := Lib.hid qZ
    have HSZ := Lib.hid (HS14.out.q qZ)
    have HMZ := Lib.hid (HMAT.out.q qZ)
    have HBZ := Lib.hid (HB16.out.q qZ)
    obtain ⟨_, _, _, t3, t4, t5⟩ := HS.out.six qZ
    have hm3 := HS.out.m3.q qZ
    have HM3 := Lib.hid hm3
    clear qZ hqZ sk hm3 qA qB qC qD qE qL hqA hqB hqC hqD hqE hqL hMA hML hME HS14 HMAT HB16
    go_wp2_with fail
    refine (act_any fp5 _ _ 2 2 (solF 2 2 (fM [1, 2, 2, 4]) (lx [3, 1])) (fM [1, 2, 2, 4]) _ HSZ.out HM3.out (by omega) (by omega)).mono ?_
    rintro e wP ⟨AP, cP, rfl, hRP, hqP⟩
    have HRP := Lib.hid hRP
    have HQP := Lib.hid hqP
    clear hRP hqP t3 t4 t5
    go_wp2_with fail
    refine (row_true _ _ 2 _ (lx [3, 1]) _ ⟨AP, cP, rfl, HRP.out.sc.q ((Q.refl wP).alloc _)⟩ (sl2 (Blk.new wP _ _)) s_act).mono ?_
    rintro e wR ⟨rfl, hqR⟩
    have qR := (HQP.out.alloc _).trans hqR
    obtain ⟨m0, m1, m2⟩ := (HBZ.out.q qR).three'
    have HQR := Lib.hid qR
    clear hqR qR
    go_wp2_with fail
    refine (reduceM_any fp5 _ 1 2 _ _ (HMZ.out.q HQR.out) (by omega) (by omega)).mono ?_
    rintro e wS ⟨vS, rfl, hMS, hqS⟩
    have HMS := Lib.hid hMS
    have HQS := Lib.hid (HQR.out.trans hqS)
    clear hMS hqS m0 m1 m2
    go_wp2_with fail
    refine (five2 _ 4 2 _ (Blk.new wS _ _)).mono ?_
    rintro e wT ⟨vT, rfl, hMT, hqT⟩
    have HMT := Lib.hid hMT
    have HQT := Lib.hid (((Q.refl wS).alloc _).trans hqT)
    clear hMT hqT
    go_wp2_with fail
    refine (same_mod vS vT 1 2 _ (fM [4, 2]) _ (HMS.out.modv.q HQT.out) HMT.out.modv (fun i k hi hk => s_red i hi k hk) (by omega)).mono ?_
    rintro e wU ⟨rfl, hqU⟩
    go_wp2_with fail
    go_ret
    exact ⟨rfl, HS.out.q.trans (QZ.out.trans ((HQS.out.trans HQT.out).trans hqU))⟩
end
end Go.Proofs.Ytcjpjnneimjfiaa
