/-
  ModmatReduces: the walk.
-/
import Derived.Test.YtcjpjnneimjfiaaRd7
import Derived.Test.YtcjpjnneimjfiaaIn8
import Derived.Test.YtcjpjnneimjfiaaFree
import Derived.Test.YtcjpjnneimjfiaaGrowR
import Derived.Test.YtcjpjnneimjfiaaRfF
import Derived.Test.YtcjpjnneimjfiaaSan7
namespace Go.Proofs.Ytcjpjnneimjfiaa
open Go.RowKit
attribute [local go_sem] opGrow growUpon stepUpon
/-- A value that is an integer; a new box of one integer. -/
def IntY (z : Int) (v : Value) (w : World) : Prop := IntV w v z
set_option maxRecDepth 100000 in
theorem IntY.keep {z : Int} (v : Value) (w w' : World) (h : IntY z v w) (hq : Q w w') : IntY z v w' := IntV.q h hq
def BoxI (x y : Value) (v : Value) (w : World) : Prop := ∃ B, v = .slice (some ⟨B, 0, none⟩) 1 1 ∧ Blk w B 73 #[x, y]
set_option maxRecDepth 100000 in
theorem BoxI.keep {x y : Value} (v : Value) (w w' : World) (h : BoxI x y v w) (hq : Q w w') : BoxI x y v w' := by
  obtain ⟨B, e, h⟩ := h
  exact ⟨B, e, h.q hq⟩
set_option maxRecDepth 100000 in
theorem BoxI.new (x y : Value) (w : World) : BoxI x y (.slice (some ⟨w.heap.size, 0, none⟩) 1 1) (w.alloc (.cells #[x, y] 73)) := ⟨_, rfl, Blk.new w _ _⟩
set_option maxRecDepth 100000 in
theorem fits_9 {x : Int} (h : -9 ≤ x ∧ x ≤ 9) : Fits 1 x := fits_one x (by omega) (by omega)
set_option maxRecDepth 100000 in
theorem mul_9 {x y : Int} (h : -9 ≤ x ∧ x ≤ 9) (k : -9 ≤ y ∧ y ≤ 9) : -81 ≤ x * y ∧ x * y ≤ 81 := by
  have : (x * y).natAbs ≤ 81 := by rw [Int.natAbs_mul]; exact Nat.mul_le_mul (show x.natAbs ≤ 9 by omega) (show y.natAbs ≤ 9 by omega)
  omega
set_option maxRecDepth 100000 in
theorem fits_81 {x : Int} (h : -81 ≤ x ∧ x ≤ 81) : Fits 1 x := fits_one x (by omega) (by omega)
set_option maxRecDepth 100000 in
/-- A row of a matrix of integers; an element of a row. -/
theorem mat_at {w : World} {A : Option Addr} {n c W i : Nat} {Z : Nat → Nat → Int} (h : RowsI w A n c W Z) (hi : i < n) (hW : 0 < W) : ∃ b o b1 o1 c1, A = some ⟨b, o, none⟩ ∧ n ≤ c ∧ w.cell? ⟨b, o + i, none⟩ = some (.slice (some ⟨b1, o1, none⟩) W c1) ∧ W ≤ c1 ∧ SlI w (some ⟨b1, o1, none⟩) W c1 (Z i) := by
  obtain ⟨b, o, r, e, _, hc, A1, c1, rfl, hS⟩ := h.at hi
  obtain ⟨b1, o1, e1, _⟩ := hS.2.2 hW
  subst e1
  exact ⟨b, o, b1, o1, c1, e, h.cap, hc, hS.1, hS⟩
set_option maxRecDepth 100000 in
theorem elt_at {w : World} {b o n c k : Nat} {Z : Nat → Int} (h : SlI w (some ⟨b, o, none⟩) n c Z) (hk : k < n) : ∃ ng B d m, w.cell? ⟨b, o + k * 2, none⟩ = some (.bool ng) ∧ w.cell? ⟨b, o + k * 2 + 1, none⟩ = some (.slice B m d) ∧ IntV w (.agg #[.bool ng, .slice B m d]) (Z k) := by
  obtain ⟨b', o', ng, B, d, l, e, _, h1, h2, h3⟩ := h.at hk
  injection e with e
  injection e with e1 e2
  subst e1 e2
  exact ⟨ng, B, d, l.length, h1, h2, ng, B, d, l, rfl, h3⟩
set_option maxRecDepth 100000 in
theorem intv_el {w : World} {a b : Value} {z : Int} (h : IntV w (.agg #[a, b]) z) : ∃ y : Elt, a = elA y ∧ b = elB y ∧ IntA w y.1 y.2.1 y.2.2.1 y.2.2.2 z := by
  obtain ⟨ng, A, c, l, e, h⟩ := h
  injection e with e
  have e3 : a = .bool ng := by have := congrArg (fun a => a[0]?) e; simpa using this
  have e4 : b = .slice A l.length c := by have := congrArg (fun a => a[1]?) e; simpa using this
  exact ⟨(ng, A, c, l), e3, e4, h⟩
/-- A value that is known. -/
def KnY (u v : Value) (_ : World) : Prop := v = u
set_option maxRecDepth 100000 in
theorem KnY.keep {u : Value} (v : Value) (w w' : World) (h : KnY u v w) (_ : Q w w') : KnY u v w' := h
section
variable {p : Nat} [NeZero p]
set_option maxRecDepth 100000 in
/-- Integers modulo p. -/
theorem redN_int (z : Int) : ((redN p z : Nat) : Int) = z % (p : Int) := by
  unfold redN
  have := Nat.pos_of_ne_zero (NeZero.ne p)
  exact Int.toNat_of_nonneg (Int.emod_nonneg z (by omega))
set_option maxRecDepth 100000 in
theorem zf_add (x y : Int) : (zf (x + y) : Fin p) = zf x + zf y := by
  apply Fin.ext
  apply Int.natCast_inj.1
  rw [Fin.val_add, Int.natCast_emod, Int.natCast_add]
  show ((redN p (x + y) : Nat) : Int) = (((redN p x : Nat) : Int) + ((redN p y : Nat) : Int)) % (p : Int)
  rw [redN_int, redN_int, redN_int, ← Int.add_emod]
set_option maxRecDepth 100000 in
theorem zf_mul (x y : Int) : (zf (x * y) : Fin p) = zf x * zf y := by
  apply Fin.ext
  apply Int.natCast_inj.1
  rw [Fin.val_mul, Int.natCast_emod, Int.natCast_mul]
  show ((redN p (x * y) : Nat) : Int) = (((redN p x : Nat) : Int) * ((redN p y : Nat) : Int)) % (p : Int)
  rw [redN_int, redN_int, redN_int, ← Int.mul_emod]
set_option maxRecDepth 100000 in
theorem zf_sub (x y : Int) : (zf (x - y) : Fin p) = zf x - zf y := by
  have h : (zf (x - y) : Fin p) + zf y = zf x := by rw [← zf_add, Int.sub_add_cancel]
  grind
set_option maxRecDepth 100000 in
theorem zf_mm {X Y V : Nat → Nat → Int} (h : (fun i k => X i 0 * Y 0 k + X i 1 * Y 1 k) = V) (i k : Nat) : mm 2 (fun i k => (zf (X i k) : Fin p)) (fun i k => zf (Y i k)) i k = zf (V i k) := by
  rw [← h]
  show (0 + zf (X i 0) * zf (Y 0 k)) + zf (X i 1) * zf (Y 1 k) = (zf (X i 0 * Y 0 k + X i 1 * Y 1 k) : Fin p)
  rw [zf_add, zf_mul, zf_mul]
  grind
set_option maxRecDepth 100000 in
theorem zf_lap (X : Nat → Nat → Int) : lap 2 (fun i k => (zf (X i k) : Fin p)) = zf (X 0 0 * X 1 1 - X 0 1 * X 1 0) := by
  rw [lap_2, zf_sub, zf_mul, zf_mul]
set_option maxRecDepth 100000 in
theorem det_h (hp : Fp p) (v : Value) (n : Nat) (M : Mt p) (w : World) (h : ModV w v n n M) (hn : n ≤ 4) {d : Fin p} (e : lap n M = d) :
    Calls Try.prog 16 #[v] w (DetP w d 0) := by
  have h1 := det_any hp v n M w h (by omega)
  rw [det_lap hn (rf_inv hp n n M), e] at h1
  exact h1
set_option maxRecDepth 100000 in
theorem fits_det {X : Nat → Nat → Int} (h : ∀ i k, -9 ≤ X i k ∧ X i k ≤ 9) : Fits 1 (X 0 0 * X 1 1 - X 0 1 * X 1 0) := by
  have h1 := mul_9 (h 0 0) (h 1 1)
  have h2 := mul_9 (h 0 1) (h 1 0)
  exact fits_one _ (by omega) (by omega)
end
/-- The determinant's region: what holds once some operations are done. -/
structure J13 (w0 : World) (x y : Int) (D : Nat → Bool) (vs : Nat → Value) (w : World) : Prop where
  a : D 12 = true → IntV w (vs 12) x
  b : D 25 = true → IntV w (vs 25) y
  c : D 26 = true → IntV w (vs 26) (x - y)
  d : D 27 = true → ∃ b b0 A0 n0 c0, vs 27 = .pointer (some ⟨b, 0, none⟩) ∧ w0.heap.size ≤ b ∧ Blk w b 73 #[.bool b0, .slice A0 n0 c0]
  e : D 28 = true → D 27 = true ∧ ∃ b u v, vs 27 = .pointer (some ⟨b, 0, none⟩) ∧ w0.heap.size ≤ b ∧ Blk w b 73 #[u, v] ∧ IntV w (.agg #[u, v]) (x - y)
set_option maxRecDepth 100000 in
theorem J13.start {w0 : World} {x y : Int} {vs : Nat → Value} {w : World} : J13 w0 x y (fun _ => false) vs w := ⟨fun h => (by cases h), fun h => (by cases h), fun h => (by cases h), fun h => (by cases h), fun h => (by cases h)⟩
section
variable {w0 : World} {x y : Int} {D : Nat → Bool} {vs : Nat → Value} {w w' : World} {v : Value}
set_option maxRecDepth 100000 in
theorem J13.q (h : J13 w0 x y D vs w) (hq : Q w w') : J13 w0 x y D vs w' :=
  ⟨fun e => (h.a e).q hq, fun e => (h.b e).q hq, fun e => (h.c e).q hq, fun e => by
    obtain ⟨b, b0, A0, n0, c0, e1, e2, e3⟩ := h.d e
    exact ⟨b, b0, A0, n0, c0, e1, e2, e3.q hq⟩, fun e => by
    obtain ⟨e0, b, u, v, e1, e2, e3, e4⟩ := h.e e
    exact ⟨e0, b, u, v, e1, e2, e3.q hq, e4.q hq⟩⟩
set_option maxRecDepth 100000 in
theorem J13.one (h : J13 w0 x y D vs w) (hq : Q w w') (hv : IntV w' v x) : J13 w0 x y (fun j => j == 12 || D j) (fun j => if j = 12 then v else vs j) w' :=
  ⟨fun _ => hv, (h.q hq).b, (h.q hq).c, (h.q hq).d, (h.q hq).e⟩
set_option maxRecDepth 100000 in
theorem J13.two (h : J13 w0 x y D vs w) (hq : Q w w') (hv : IntV w' v y) : J13 w0 x y (fun j => j == 25 || D j) (fun j => if j = 25 then v else vs j) w' :=
  ⟨(h.q hq).a, fun _ => hv, (h.q hq).c, (h.q hq).d, (h.q hq).e⟩
set_option maxRecDepth 100000 in
theorem J13.three (h : J13 w0 x y D vs w) (hq : Q w w') (hv : IntV w' v (x - y)) : J13 w0 x y (fun j => j == 26 || D j) (fun j => if j = 26 then v else vs j) w' :=
  ⟨(h.q hq).a, (h.q hq).b, fun _ => hv, (h.q hq).d, (h.q hq).e⟩
set_option maxRecDepth 100000 in
theorem J13.four (h : J13 w0 x y D vs w) (hw : Q w0 w) (hD : D 27 = false) :
    J13 w0 x y (fun j => j == 27 || D j) (fun j => if j = 27 then .pointer (some ⟨w.heap.size, 0, none⟩) else vs j) (w.alloc (.cells #[.bool false, .slice none 0 0] 73)) := by
  have h1 := h.q ((Q.refl w).alloc (.cells #[.bool false, .slice none 0 0] 73))
  refine ⟨h1.a, h1.b, h1.c, fun _ => ⟨w.heap.size, false, none, 0, 0, rfl, hw.size, Blk.new w _ _⟩, fun e => ?_⟩
  have := (h1.e e).1
  rw [hD] at this
  cases this
set_option maxRecDepth 100000 in
theorem J13.five {b n0 c0 : Nat} {b0 ng : Bool} {A0 AI : Option Addr} {cI : Nat} {lI : List Nat} (h : J13 w0 x y D vs w) (h27 : D 27 = true) (hw : w0.heap.size ≤ b) (e27 : vs 27 = .pointer (some ⟨b, 0, none⟩)) (hB : Blk w b 73 #[.bool b0, .slice A0 n0 c0]) (hI : IntA w ng AI cI lI (x - y)) :
    J13 w0 x y (fun j => j == 28 || D j) (fun j => if j = 28 then undef else vs j) ((w.setCell ⟨b, 0, none⟩ (.bool ng)).setCell ⟨b, 1, none⟩ (.slice AI lI.length cI)) := by
  have hv : ∀ {v : Value} {z : Int}, IntV w v z → IntV ((w.setCell ⟨b, 0, none⟩ (.bool ng)).setCell ⟨b, 1, none⟩ (.slice AI lI.length cI)) v z := fun hv => by
    obtain ⟨g, A, c, l, e, hA⟩ := hv
    exact ⟨g, A, c, l, e, hA.boxes hB⟩
  have hb := (hB.set 0 (.bool ng)).set 1 (.slice AI lI.length cI)
  exact ⟨fun e => hv (h.a e), fun e => hv (h.b e), fun e => hv (h.c e), fun _ => ⟨b, ng, AI, lI.length, cI, e27, hw, hb⟩, fun _ => ⟨h27, b, _, _, e27, hw, hb, ng, AI, cI, lI, rfl, hI.boxes hB⟩⟩
end
section
variable {p : Nat}
/-- The three reductions' region. -/
def Cl (w0 : World) (M : Mt p) (D : Nat → Bool) (vs : Nat → Value) (w : World) (i : Nat) : Prop := D i = true → ModO w0.heap.size w (vs i) 2 2 M
def Al (w0 : World) (D : Nat → Bool) (vs : Nat → Value) (w : World) (i : Nat) : Prop := D i = true → ∃ b x y z, vs i = .pointer (some ⟨b, 0, none⟩) ∧ w0.heap.size ≤ b ∧ Blk w b 29 #[x, y, z]
def Stn (w0 : World) (M : Mt p) (D : Nat → Bool) (vs : Nat → Value) (w : World) (i j : Nat) : Prop := D j = true → D i = true ∧ ∃ b A c, vs i = .pointer (some ⟨b, 0, none⟩) ∧ w0.heap.size ≤ b ∧ Blk w b 29 #[.int .u64 (p : Int), .int .i64 2, .slice A 2 c] ∧ RowsO w0.heap.size w A 2 c 2 M
section
variable {w0 : World} {M : Mt p} {D : Nat → Bool} {vs : Nat → Value} {w w' : World} {i j : Nat}
set_option maxRecDepth 100000 in
theorem Cl.q (h : Cl w0 M D vs w i) (hq : Q w w') : Cl w0 M D vs w' i := fun e => (h e).q hq
set_option maxRecDepth 100000 in
theorem Al.q (h : Al w0 D vs w i) (hq : Q w w') : Al w0 D vs w' i := fun e => by
  obtain ⟨b, x, y, z, e1, e2, e3⟩ := h e
  exact ⟨b, x, y, z, e1, e2, e3.q hq⟩
set_option maxRecDepth 100000 in
theorem Stn.q (h : Stn w0 M D vs w i j) (hq : Q w w') : Stn w0 M D vs w' i j := fun e => by
  obtain ⟨e0, b, A, c, e1, e2, e3, e4⟩ := h e
  exact ⟨e0, b, A, c, e1, e2, e3.q hq, e4.q hq⟩
def put3 (w : World) (b : Nat) (x y z : Value) : World := ((w.setCell ⟨b, 0, none⟩ x).setCell ⟨b, 1, none⟩ y).setCell ⟨b, 2, none⟩ z
set_option maxRecDepth 100000 in
theorem put3_upd (w : World) (b : Nat) (x y z : Value) : Upd b w (put3 w b x y z) := (((Upd.refl b w).setCell 0 x).setCell 1 y).setCell 2 z
set_option maxRecDepth 100000 in
theorem put3_blk {b t : Nat} {x0 y0 z0 : Value} (h : Blk w b t #[x0, y0, z0]) (x y z : Value) : Blk (put3 w b x y z) b t #[x, y, z] := ((h.set 0 x).set 1 y).set 2 z
set_option maxRecDepth 100000 in
theorem rowsO_put3 {base b n c W : Nat} {A : Option Addr} {x0 y0 z0 x y z : Value} (h : RowsO base w A n c W M) (hB : Blk w b 29 #[x0, y0, z0]) : RowsO base (put3 w b x y z) A n c W M := h.far (put3_upd w b x y z) hB (by decide) (by decide)
set_option maxRecDepth 100000 in
theorem Cl.put {b : Nat} {x0 y0 z0 x y z : Value} (h : Cl w0 M D vs w i) (hB : Blk w b 29 #[x0, y0, z0]) : Cl w0 M D vs (put3 w b x y z) i := fun e => by
  obtain ⟨A, c, e1, hr⟩ := h e
  exact ⟨A, c, e1, rowsO_put3 hr hB⟩
set_option maxRecDepth 100000 in
theorem Al.put {b : Nat} {x0 y0 z0 x y z : Value} (h : Al w0 D vs w i) (hB : Blk w b 29 #[x0, y0, z0]) : Al w0 D vs (put3 w b x y z) i := fun e => by
  obtain ⟨b', x', y', z', e1, e2, e3⟩ := h e
  by_cases hb : b' = b
  · subst hb; exact ⟨b', x, y, z, e1, e2, put3_blk hB x y z⟩
  · exact ⟨b', x', y', z', e1, e2, (put3_upd w b x y z).blk e3 hb⟩
set_option maxRecDepth 100000 in
theorem Stn.put {b : Nat} {x0 y0 z0 x y z : Value} (h : Stn w0 M D vs w i j) (hB : Blk w b 29 #[x0, y0, z0]) (hne : D i = true → vs i ≠ .pointer (some ⟨b, 0, none⟩)) : Stn w0 M D vs (put3 w b x y z) i j := fun e => by
  obtain ⟨e0, b', A, c, e1, e2, e3, e4⟩ := h e
  exact ⟨e0, b', A, c, e1, e2, (put3_upd w b x y z).blk e3 (fun hb => hne e0 (by rw [e1, hb])), rowsO_put3 e4 hB⟩
set_option maxRecDepth 100000 in
theorem Al.ne (h : Al w0 D vs w i) (hi : D i = true) : vs i ≠ .pointer (some ⟨w.heap.size, 0, none⟩) := fun e => by
  obtain ⟨b, x, y, z, e1, _, e3⟩ := h hi
  rw [e1] at e
  injection e with e
  injection e with e
  injection e with e
  have := e3.lt
  omega
end
structure J14 (w0 : World) (M1 M2 M3 : Mt p) (D : Nat → Bool) (vs : Nat → Value) (w : World) : Prop where
  c1 : Cl w0 M1 D vs w 2
  c2 : Cl w0 M2 D vs w 5
  c3 : Cl w0 M3 D vs w 8
  a1 : Al w0 D vs w 9
  a2 : Al w0 D vs w 10
  a3 : Al w0 D vs w 11
  s1 : Stn w0 M1 D vs w 9 12
  s2 : Stn w0 M2 D vs w 10 13
  s3 : Stn w0 M3 D vs w 11 14
  d12 : D 9 = true → D 10 = true → vs 9 ≠ vs 10
  d13 : D 9 = true → D 11 = true → vs 9 ≠ vs 11
  d23 : D 10 = true → D 11 = true → vs 10 ≠ vs 11
section
variable {w0 : World} {M1 M2 M3 : Mt p} {D : Nat → Bool} {vs : Nat → Value} {w w' : World} {v : Value}
set_option maxRecDepth 100000 in
theorem J14.start : J14 w0 M1 M2 M3 (fun _ => false) vs w := ⟨fun h => (by cases h), fun h => (by cases h), fun h => (by cases h), fun h => (by cases h), fun h => (by cases h), fun h => (by cases h), fun h => (by cases h), fun h => (by cases h), fun h => (by cases h), fun h => (by cases h), fun h => (by cases h), fun h => (by cases h)⟩
set_option maxRecDepth 100000 in
theorem J14.q (h : J14 w0 M1 M2 M3 D vs w) (hq : Q w w') : J14 w0 M1 M2 M3 D vs w' := ⟨h.c1.q hq, h.c2.q hq, h.c3.q hq, h.a1.q hq, h.a2.q hq, h.a3.q hq, h.s1.q hq, h.s2.q hq, h.s3.q hq, h.d12, h.d13, h.d23⟩
set_option maxRecDepth 100000 in
theorem J14.one (h : J14 w0 M1 M2 M3 D vs w) (hq : Q w w') (hv : ModO w0.heap.size w' v 2 2 M1) : J14 w0 M1 M2 M3 (fun j => j == 2 || D j) (fun j => if j = 2 then v else vs j) w' :=
  have k := h.q hq
  ⟨fun _ => hv, k.c2, k.c3, k.a1, k.a2, k.a3, k.s1, k.s2, k.s3, k.d12, k.d13, k.d23⟩
set_option maxRecDepth 100000 in
theorem J14.two (h : J14 w0 M1 M2 M3 D vs w) (hq : Q w w') (hv : ModO w0.heap.size w' v 2 2 M2) : J14 w0 M1 M2 M3 (fun j => j == 5 || D j) (fun j => if j = 5 then v else vs j) w' :=
  have k := h.q hq
  ⟨k.c1, fun _ => hv, k.c3, k.a1, k.a2, k.a3, k.s1, k.s2, k.s3, k.d12, k.d13, k.d23⟩
set_option maxRecDepth 100000 in
theorem J14.three (h : J14 w0 M1 M2 M3 D vs w) (hq : Q w w') (hv : ModO w0.heap.size w' v 2 2 M3) : J14 w0 M1 M2 M3 (fun j => j == 8 || D j) (fun j => if j = 8 then v else vs j) w' :=
  have k := h.q hq
  ⟨k.c1, k.c2, fun _ => hv, k.a1, k.a2, k.a3, k.s1, k.s2, k.s3, k.d12, k.d13, k.d23⟩
set_option maxRecDepth 100000 in
theorem J14.four (h : J14 w0 M1 M2 M3 D vs w) (hw : w0.heap.size ≤ w.heap.size) (hD : D 9 = false) (x y z : Value) :
    J14 w0 M1 M2 M3 (fun j => j == 9 || D j) (fun j => if j = 9 then .pointer (some ⟨w.heap.size, 0, none⟩) else vs j) (w.alloc (.cells #[x, y, z] 29)) :=
  have k := h.q ((Q.refl w).alloc (.cells #[x, y, z] 29))
  ⟨k.c1, k.c2, k.c3, fun _ => ⟨w.heap.size, x, y, z, rfl, hw, Blk.new w _ _⟩, k.a2, k.a3, fun e => (by have := (k.s1 e).1; rw [hD] at this; cases this), k.s2, k.s3, fun _ e => (h.a2.ne e).symm, fun _ e => (h.a3.ne e).symm, k.d23⟩
set_option maxRecDepth 100000 in
theorem J14.five (h : J14 w0 M1 M2 M3 D vs w) (hw : w0.heap.size ≤ w.heap.size) (hD : D 10 = false) (x y z : Value) :
    J14 w0 M1 M2 M3 (fun j => j == 10 || D j) (fun j => if j = 10 then .pointer (some ⟨w.heap.size, 0, none⟩) else vs j) (w.alloc (.cells #[x, y, z] 29)) :=
  have k := h.q ((Q.refl w).alloc (.cells #[x, y, z] 29))
  ⟨k.c1, k.c2, k.c3, k.a1, fun _ => ⟨w.heap.size, x, y, z, rfl, hw, Blk.new w _ _⟩, k.a3, k.s1, fun e => (by have := (k.s2 e).1; rw [hD] at this; cases this), k.s3, fun e _ => h.a1.ne e, k.d13, fun _ e => (h.a3.ne e).symm⟩
set_option maxRecDepth 100000 in
theorem J14.six (h : J14 w0 M1 M2 M3 D vs w) (hw : w0.heap.size ≤ w.heap.size) (hD : D 11 = false) (x y z : Value) :
    J14 w0 M1 M2 M3 (fun j => j == 11 || D j) (fun j => if j = 11 then .pointer (some ⟨w.heap.size, 0, none⟩) else vs j) (w.alloc (.cells #[x, y, z] 29)) :=
  have k := h.q ((Q.refl w).alloc (.cells #[x, y, z] 29))
  ⟨k.c1, k.c2, k.c3, k.a1, k.a2, fun _ => ⟨w.heap.size, x, y, z, rfl, hw, Blk.new w _ _⟩, k.s1, k.s2, fun e => (by have := (k.s3 e).1; rw [hD] at this; cases this), k.d12, fun e _ => h.a1.ne e, fun e _ => h.a2.ne e⟩
set_option maxRecDepth 100000 in
theorem J14.s12 {b : Nat} {x y z : Value} {A : Option Addr} {c : Nat} (h : J14 w0 M1 M2 M3 D vs w) (hD : D 9 = true) (e : vs 9 = .pointer (some ⟨b, 0, none⟩)) (hw : w0.heap.size ≤ b) (hB : Blk w b 29 #[x, y, z]) (hR : RowsO w0.heap.size w A 2 c 2 M1) :
    J14 w0 M1 M2 M3 (fun j => j == 12 || D j) (fun j => if j = 12 then undef else vs j) (put3 w b (.int .u64 (p : Int)) (.int .i64 2) (.slice A 2 c)) :=
  ⟨h.c1.put hB, h.c2.put hB, h.c3.put hB, h.a1.put hB, h.a2.put hB, h.a3.put hB, fun _ => ⟨hD, b, A, c, e, hw, put3_blk hB _ _ _, rowsO_put3 hR hB⟩, h.s2.put hB (fun e2 e3 => h.d12 hD e2 (e.trans e3.symm)), h.s3.put hB (fun e2 e3 => h.d13 hD e2 (e.trans e3.symm)), h.d12, h.d13, h.d23⟩
set_option maxRecDepth 100000 in
theorem J14.s13 {b : Nat} {x y z : Value} {A : Option Addr} {c : Nat} (h : J14 w0 M1 M2 M3 D vs w) (hD : D 10 = true) (e : vs 10 = .pointer (some ⟨b, 0, none⟩)) (hw : w0.heap.size ≤ b) (hB : Blk w b 29 #[x, y, z]) (hR : RowsO w0.heap.size w A 2 c 2 M2) :
    J14 w0 M1 M2 M3 (fun j => j == 13 || D j) (fun j => if j = 13 then undef else vs j) (put3 w b (.int .u64 (p : Int)) (.int .i64 2) (.slice A 2 c)) :=
  ⟨h.c1.put hB, h.c2.put hB, h.c3.put hB, h.a1.put hB, h.a2.put hB, h.a3.put hB, h.s1.put hB (fun e2 e3 => h.d12 e2 hD (e3.trans e.symm)), fun _ => ⟨hD, b, A, c, e, hw, put3_blk hB _ _ _, rowsO_put3 hR hB⟩, h.s3.put hB (fun e2 e3 => h.d23 hD e2 (e.trans e3.symm)), h.d12, h.d13, h.d23⟩
set_option maxRecDepth 100000 in
theorem J14.s14 {b : Nat} {x y z : Value} {A : Option Addr} {c : Nat} (h : J14 w0 M1 M2 M3 D vs w) (hD : D 11 = true) (e : vs 11 = .pointer (some ⟨b, 0, none⟩)) (hw : w0.heap.size ≤ b) (hB : Blk w b 29 #[x, y, z]) (hR : RowsO w0.heap.size w A 2 c 2 M3) :
    J14 w0 M1 M2 M3 (fun j => j == 14 || D j) (fun j => if j = 14 then undef else vs j) (put3 w b (.int .u64 (p : Int)) (.int .i64 2) (.slice A 2 c)) :=
  ⟨h.c1.put hB, h.c2.put hB, h.c3.put hB, h.a1.put hB, h.a2.put hB, h.a3.put hB, h.s1.put hB (fun e2 e3 => h.d13 e2 hD (e3.trans e.symm)), h.s2.put hB (fun e2 e3 => h.d23 e2 hD (e3.trans e.symm)), fun _ => ⟨hD, b, A, c, e, hw, put3_blk hB _ _ _, rowsO_put3 hR hB⟩, h.d12, h.d13, h.d23⟩
end
end
section
variable {p : Nat} [NeZero p]
set_option maxHeartbeats 4000000 in
set_option maxRecDepth 100000 in
theorem law_reduces (hp : Fp p) (A : Option Addr) (n c : Nat) (len : Nat → Nat) (Z : Nat → Nat → Int) (A' : Option Addr) (n' c' : Nat) (len' : Nat → Nat) (Z' : Nat → Nat → Int) (P : Nat) (w : World) (h : Rows8 w A n c len Z) (h2 : Rows8 w A' n' c' len' Z') (hP : prN P = p) (hP2 : P < 256) :
    Calls Try.prog 10 #[.slice A n c, .slice A' n' c', .int .u8 P] w (SaneQ w) := by
  obtain ⟨X, hX⟩ : ∃ X, zI n len Z = X := ⟨_, rfl⟩
  obtain ⟨Y, hY⟩ : ∃ Y, zI n' len' Z' = Y := ⟨_, rfl⟩
  have hXb : ∀ i k, -9 ≤ X i k ∧ X i k ≤ 9 := fun i k => by rw [← hX]; exact zI_le n len Z i k
  have hYb : ∀ i k, -9 ≤ Y i k ∧ Y i k ≤ 9 := fun i k => by rw [← hY]; exact zI_le n' len' Z' i k
  obtain ⟨V, hV⟩ : ∃ V : Nat → Nat → Int, (fun i k => X i 0 * Y 0 k + X i 1 * Y 1 k) = V := ⟨_, rfl⟩
  have HR := Lib.hid h
  have HR' := Lib.hid h2
  have HP := Lib.hid hp
  have HPP := Lib.hid hP
  have HX := Lib.hid hX
  have HY := Lib.hid hY
  have HXB := @Lib.hid _ hXb
  have HYB := @Lib.hid _ hYb
  have HV := Lib.hid hV
  clear hp h h2 hP hX hY hXb hYb hV
  go_enter Try.func10, Try.ntmps10
  go_wp2_with fail
  refine (sane7 _).mono ?_
  rintro e w1 ⟨rfl, hq1⟩
  have HQ1 := Lib.hid hq1
  clear hq1
  go_wp2_with fail
  refine (integers_any A n c len Z _ (HR.out.q HQ1.out)).mono ?_
  rw [HX.out]
  rintro e w2 ⟨_, rfl, ⟨Aa, ca, rfl, hA⟩, hq2⟩
  have HQ2 := Lib.hid (HQ1.out.trans hq2)
  have HA := Lib.hid hA
  clear hA hq2
  go_wp2_with fail
  refine (integers_any A' n' c' len' Z' _ (HR'.out.q HQ2.out)).mono ?_
  rw [HY.out]
  rintro e w3 ⟨_, rfl, ⟨Ab, cb, rfl, hB⟩, hq3⟩
  have HQ3 := Lib.hid (HQ2.out.trans hq3)
  have HA := Lib.hid (HA.out.q hq3)
  have HB := Lib.hid hB
  clear hB hq3
  go_wp2_with fail
  refine (madeP P _ hP2).mono ?_
  rw [HPP.out]
  rintro e w4 ⟨rfl, hq4⟩
  have HQ4 := Lib.hid (HQ3.out.trans hq4)
  have HA := Lib.hid (HA.out.q hq4)
  have HB := Lib.hid (HB.out.q hq4)
  clear hq4
  go_wp2_with fail
  obtain ⟨g, hg⟩ : ∃ g, w4.heap.size = g := ⟨_, rfl⟩
  have hgw : w.heap.size ≤ g := by rw [← hg]; exact HQ4.out.size
  rw [hg]
  obtain ⟨W1, hW1⟩ : ∃ W1, (w4.alloc (.cells #[.int .i64 2, .int .i64 2, .slice Aa 2 ca] 68)).alloc (.cells #[.int .i64 2, .int .i64 2, .slice Ab 2 cb] 68) = W1 := ⟨_, rfl⟩
  have hsz : W1.heap.size = g + 1 + 1 := by rw [← hW1]; simp [hg]
  have hB8 : Blk W1 g 68 #[.int .i64 2, .int .i64 2, .slice Aa 2 ca] := hW1 ▸ (Blk.new' w4 _ _ hg).alloc _
  have hB9 : Blk W1 (g + 1) 68 #[.int .i64 2, .int .i64 2, .slice Ab 2 cb] := hW1 ▸ Blk.new' _ _ _ (by simp [hg])
  have hq4 : Q w4 W1 := hW1 ▸ ((Q.refl w4).alloc _).alloc _
  have HQ4 := Lib.hid (HQ4.out.trans hq4)
  have HA := Lib.hid (HA.out.q hq4)
  have HB := Lib.hid (HB.out.q hq4)
  have HB8 := Lib.hid hB8
  have HB9 := Lib.hid hB9
  clear hB8 hB9 hq4
  rw [hW1]
  clear hW1 hg
  go_loopw [12] (fun iv' wx => ∃ (i : Nat) (A2 : Option Addr) (c2 : Nat) (ρ : Nat → Value), iv' = .int .i64 i ∧ i ≤ 2 ∧ BldI W1 wx (g + 1 + 1) 2 2 i A2 c2 2 ρ V) (fun iv' _ => 2 - (intOf iv').toNat)
  case atStart => exact ⟨0, none, 0, fun _ => .slice none 0 0, rfl, by omega, BldI.start (Blk.new' _ _ _ hsz) ((Q.refl _).alloc _) (by omega)⟩
  case round =>
    obtain ⟨i, A2, c2, ρ, rfl, hi2, hB⟩ := hrel
    obtain ⟨W5, rfl⟩ : ∃ W5 : World, W5 = wr := ⟨_, rfl⟩
    have HBL := Lib.hid hB
    clear hB
    by_cases hil : i < 2
    · have hi5 : (i : Int) < 2 := by omega
      go_wp2_with fail
      go_loopw [13, 14] (fun v7 iv' wx => ∃ (k : Nat) (A3 : Option Addr) (c3 : Nat) (E : Nat → Elt), v7 = .slice A3 k c3 ∧ iv' = .int .i64 k ∧ k ≤ 2 ∧ OwnI W5.heap.size wx A3 k c3 E (V i) ∧ Q W5 wx) (fun _ iv' _ => 2 - (intOf iv').toNat)
      case atStart => exact ⟨0, _, _, fun _ => (false, none, 0, []), rfl, rfl, by omega, OwnI.start W5 _ _, (Q.refl W5).alloc _⟩
      case round =>
        obtain ⟨k, A3, c3, E, rfl, rfl, hk2, hO, hq⟩ := hrel
        obtain ⟨W7, rfl⟩ : ∃ W7 : World, W7 = wr := ⟨_, rfl⟩
        have HO := Lib.hid hO
        have HQ7 := Lib.hid hq
        clear hO hq
        by_cases hkl : k < 2
        · have hk5 : (k : Int) < 2 := by omega
          have q17 := HBL.out.q.trans HQ7.out
          obtain ⟨_, _, x2⟩ := (HB8.out.q q17).three'
          obtain ⟨_, _, y2⟩ := (HB9.out.q q17).three'
          obtain ⟨ba, oa, b1, o1, c1, rfl, hca, z1, hc1, hS1⟩ := mat_at (HA.out.q q17) hil (by decide)
          obtain ⟨bb, ob, b2, o2, c2', rfl, hcb, z2, hc2, hS2⟩ := mat_at (HB.out.q q17) (show 0 < 2 by decide) (by decide)
          obtain ⟨_, _, b3, o3, c3', e3, _, z3, hc3, hS3⟩ := mat_at (HB.out.q q17) (show 1 < 2 by decide) (by decide)
          injection e3 with e3
          injection e3 with e3 e4
          subst e3 e4
          obtain ⟨n1, B1, d1, m1, u1, v1, i1⟩ := elt_at hS1 (show 0 < 2 by decide)
          obtain ⟨n2, B2, d2, m2, u2, v2, i2⟩ := elt_at hS1 (show 1 < 2 by decide)
          obtain ⟨n3, B3, d3, m3, u3, v3, i3⟩ := elt_at hS2 hkl
          obtain ⟨n4, B4, d4, m4, u4, v4, i4⟩ := elt_at hS3 hkl
          simp only [Nat.zero_mul, Nat.one_mul, Nat.add_zero] at z1 z2 z3 u1 v1 u2 v2
          go_wp2_with fail
          have hqn : ∀ W6, Q W7.drew W6 → Q W7 W6 := fun W6 q => (Q.refl W7).drew.trans q
          have qF := fun W6 q => And.intro ((hqn W6 q).cell x2) (And.intro ((hqn W6 q).cell y2) (And.intro ((hqn W6 q).cell z1) (And.intro ((hqn W6 q).cell z2) (And.intro ((hqn W6 q).cell z3) (And.intro ((hqn W6 q).cell u1) (And.intro ((hqn W6 q).cell v1) (And.intro ((hqn W6 q).cell u2) (And.intro ((hqn W6 q).cell v2) (And.intro ((hqn W6 q).cell u3) (And.intro ((hqn W6 q).cell v3) (And.intro ((hqn W6 q).cell u4) ((hqn W6 q).cell v4))))))))))))
          refine wp_region_fix [true, true, true, true, true, true, true, true, true, true, true, true, true, true, true, false, true, true, true, true, true, true, true, true, true, true, true, true, true, true, false, false, false] (by kernel_rfl) (by kernel_rfl) ?_
          intro KF hKF
          simp only [List.length_cons, List.length_nil, Nat.reduceAdd, sel_nil, sel_tt, sel_tf, sel_ft, sel_ff, List.drop_succ_cons, List.drop_zero] at hKF ⊢
          iterate 29 ((apply wpFix_read; (case hgd => rfl); (case h => (intro wq hq K' hK; have qr := qF wq hq; go_simp; exact hK))))
          refine hKF _ (wpMks_makeU (IntY (X i 0 * Y 0 k)) IntY.keep rfl ?_ ?_)
          · intro wq hq _ V' hV'
            go_simp
            go_at_call 41
            refine (rmul_any _ _ _ _ wq (i1.q (hqn _ hq)) (i3.q (hqn _ hq)) 1 (by omega) (fits_9 (HXB.out _ _)) (fits_9 (HYB.out _ _))).mono ?_
            rintro e w' ⟨v, rfl, h1, h2⟩
            exact ⟨_, rfl, h2, hV' _ _ h2 h1⟩
          rintro v5 ⟨_, _, _⟩
          refine wpMks_makeU (IntY (X i 1 * Y 1 k)) IntY.keep rfl ?_ ?_
          · intro wq hq _ V' hV'
            go_simp
            go_at_call 41
            refine (rmul_any _ _ _ _ wq (i2.q (hqn _ hq)) (i4.q (hqn _ hq)) 1 (by omega) (fits_9 (HXB.out _ _)) (fits_9 (HYB.out _ _))).mono ?_
            rintro e w' ⟨v, rfl, h1, h2⟩
            exact ⟨_, rfl, h2, hV' _ _ h2 h1⟩
          rintro v6 ⟨_, _, _⟩
          refine wpMks_makeU (IntY (V i k)) IntY.keep rfl ?_ ?_
          · intro wq hq hs V' hV'
            go_simp
            go_at_call 40
            refine (radd_any _ _ _ _ wq hs.1.2 hs.2 1 (by omega) (fits_81 (mul_9 (HXB.out _ _) (HYB.out _ _))) (fits_81 (mul_9 (HXB.out _ _) (HYB.out _ _)))).mono ?_
            rintro e w' ⟨v, rfl, h1, h2⟩
            exact ⟨_, rfl, h2, hV' _ _ h2 (by rw [← HV.out]; exact h1)⟩
          rintro v8 ⟨_, _, ng, AI, cI, lI, rfl, _⟩
          refine wpMks_makeU (BoxI (.bool ng) (.slice AI lI.length cI)) BoxI.keep rfl ?_ ?_
          · intro wq hq hs V' hV'
            go_simp
            exact ⟨(Q.refl wq).alloc _, hV' _ _ ((Q.refl wq).alloc _) (BoxI.new _ _ wq)⟩
          rintro v ⟨_, _, B7, rfl, _⟩
          refine wpMks_nil ?_
          rintro w6 hq6 ⟨⟨_, hI6⟩, B8, e9, hB6⟩
          injection e9 with e9
          injection e9 with e9
          injection e9 with e9
          subst e9
          obtain ⟨y, ey1, ey2, hy⟩ := intv_el hI6
          rw [ey1, ey2] at hB6
          have hq7 := hqn _ hq6
          have hl5 := HQ7.out.size
          refine wpList_appI (by rfl) _ _ (by rfl) (by rfl) HO.out hq7 (y := y) hy B7 (by rfl) hB6 (by omega) hl5 ?_
          intro A9 c9 w9 E9 hO9 hg9
          have hq9 : Q W5 w9 := grown_q (HQ7.out.trans hq7) hg9 (fun g e => (own_lt HO.out.own g e).1)
          have HO9 := Lib.hid hO9
          have HQ9 := Lib.hid hq9
          clear hO9 hq9 hg9 hy hB6 hI6 ey1 ey2 hq7 hq6 qF hqn x2 y2 z1 z2 z3 u1 v1 u2 v2 u3 v3 u4 v4 i1 i2 i3 i4 hS1 hS2 hS3
          go_wp2_with fail
          refine ⟨⟨k + 1, A9, c9, E9, rfl, rfl, by omega, HO9.out, HQ9.out⟩, ?_⟩
          simp only [intOf]; omega
        · obtain rfl : k = 2 := by omega
          obtain ⟨k0, k1, k2⟩ := (HBL.out.box.q HQ7.out).three'
          have kf := (HBL.out.box.q HQ7.out).frozen 2
          have kl := (HBL.out.box.q HQ7.out).lt
          have hlt := HBL.out.box.lt
          have hrow := ((HO.out.row (by omega)).mono (show g + 1 + 1 + 1 ≤ W5.heap.size by omega)).q ((Q.refl W7).alloc (.cells #[.slice A3 2 c3] 71))
          have ka := fun o => ((Q.refl W7).alloc o).cell k2
          have HRW := Lib.hid hrow
          clear hrow
          go_wp2_with (at_builtin; go_must (refine wpList_appR rfl _ _ rfl HBL.out rfl (HQ7.out.alloc _) HRW.out W7.heap.size rfl (Blk.new W7 _ _) (by omega) ?_); intro A9 c9 w9 hb9 hB9; have k2c := hb9.cell 2; have f2c := hb9.frozen 2; have hl9 := hb9.lt)
          obtain ⟨ρ', hB9⟩ := hB9
          refine ⟨⟨i + 1, A9, c9, ρ', rfl, by omega, hB9⟩, ?_⟩
          simp only [intOf]; omega
    · obtain rfl : i = 2 := by omega
      have HB8 := Lib.hid (HB8.out.q HBL.out.q)
      have HB9 := Lib.hid (HB9.out.q HBL.out.q)
      have HBC := Lib.hid HBL.out.box
      have HA := Lib.hid (HA.out.q HBL.out.q)
      have HB := Lib.hid (HB.out.q HBL.out.q)
      have HC := Lib.hid (HBL.out.rows (by omega))
      have HQ5 := Lib.hid (HQ4.out.trans HBL.out.q)
      have hg5 := HBL.out.box.lt
      clear HBL
      obtain ⟨_, _, x2⟩ := HB8.out.three'
      obtain ⟨ba, oa, b1, o1, c1, rfl, hca, z1, hc1, hS1⟩ := mat_at HA.out (show 0 < 2 by decide) (by decide)
      obtain ⟨_, _, b3, o3, c3', e3, _, z3, hc3, hS3⟩ := mat_at HA.out (show 1 < 2 by decide) (by decide)
      injection e3 with e3
      injection e3 with e3 e4
      subst e3 e4
      obtain ⟨n1, B1, d1, m1, u1, v1, i1⟩ := elt_at hS1 (show 0 < 2 by decide)
      obtain ⟨n2, B2, d2, m2, u2, v2, i2⟩ := elt_at hS1 (show 1 < 2 by decide)
      obtain ⟨n3, B3, d3, m3, u3, v3, i3⟩ := elt_at hS3 (show 0 < 2 by decide)
      obtain ⟨n4, B4, d4, m4, u4, v4, i4⟩ := elt_at hS3 (show 1 < 2 by decide)
      simp only [Nat.zero_mul, Nat.one_mul, Nat.add_zero] at z1 z3 u1 v1 u2 v2 u3 v3 u4 v4
      go_wp2_with fail
      have hqn : ∀ W6, Q W5.drew W6 → Q W5 W6 := fun W6 q => (Q.refl W5).drew.trans q
      have qF := fun W6 q => And.intro ((hqn W6 q).cell x2) (And.intro ((hqn W6 q).cell z1) (And.intro ((hqn W6 q).cell z3) (And.intro ((hqn W6 q).cell u1) (And.intro ((hqn W6 q).cell v1) (And.intro ((hqn W6 q).cell u2) (And.intro ((hqn W6 q).cell v2) (And.intro ((hqn W6 q).cell u3) (And.intro ((hqn W6 q).cell v3) (And.intro ((hqn W6 q).cell u4) ((hqn W6 q).cell v4))))))))))
      refine wp_region_free [true, true, true, true, true, true, true, true, true, true, true, true, false, true, true, true, true, true, true, true, true, true, true, true, true, false, false, false, false] [⟨12, some 90, [], []⟩, ⟨25, some 103, [], [12]⟩, ⟨26, some 104, [(12, 90), (25, 103)], [12, 25]⟩, ⟨27, some 15, [], []⟩, ⟨28, none, [(26, 104), (27, 15)], [26, 27]⟩] (by kernel_rfl) (by kernel_rfl) ?_
      intro KF hKF
      simp only [sel_nil, sel_tt, sel_tf, sel_ft, sel_ff] at hKF ⊢
      iterate 24 ((apply wpRd_read; (case hgd => rfl); (case h => (intro wq hq K' hK; have qr := qF wq hq; go_simp; exact hK))))
      refine hKF _ ⟨J13 W5.drew (X 0 0 * X 1 1) (X 0 1 * X 1 0), J13.start, ?_, ?_⟩
      · refine wpRows_cons ?_ (wpRows_cons ?_ (wpRows_cons ?_ (wpRows_cons ?_ (wpRows_cons ?_ wpRows_nil))))
        · intro D vs wq hq hJ hD hpre
          simp only [List.foldl_nil]
          go_simp
          go_at_call 41
          refine (rmul_any _ _ _ _ wq (i1.q (hqn _ hq)) (i4.q (hqn _ hq)) 1 (by omega) (fits_9 (HXB.out _ _)) (fits_9 (HXB.out _ _))).mono ?_
          rintro e w' ⟨v, rfl, h1, h2⟩
          exact ⟨_, rfl, hq.trans h2, hJ.one h2 h1⟩
        · intro D vs wq hq hJ hD hpre
          simp only [List.foldl_nil]
          go_simp
          go_at_call 41
          refine (rmul_any _ _ _ _ wq (i2.q (hqn _ hq)) (i3.q (hqn _ hq)) 1 (by omega) (fits_9 (HXB.out _ _)) (fits_9 (HXB.out _ _))).mono ?_
          rintro e w' ⟨v, rfl, h1, h2⟩
          exact ⟨_, rfl, hq.trans h2, hJ.two h2 h1⟩
        · intro D vs wq hq hJ hD hpre
          simp only [List.foldl_cons, List.foldl_nil]
          go_simp
          go_at_call 42
          refine (rsub_any _ _ _ _ wq (hJ.a (hpre 12 (by simp))) (hJ.b (hpre 25 (by simp))) 1 (by omega) (fits_81 (mul_9 (HXB.out _ _) (HXB.out _ _))) (fits_81 (mul_9 (HXB.out _ _) (HXB.out _ _)))).mono ?_
          rintro e w' ⟨v, rfl, h1, h2⟩
          exact ⟨_, rfl, hq.trans h2, hJ.three h2 h1⟩
        · intro D vs wq hq hJ hD hpre
          simp only [List.foldl_nil]
          go_simp
          exact ⟨hq.alloc _, hJ.four hq hD⟩
        · intro D vs wq hq hJ hD hpre
          obtain ⟨b, b0, A0, n0, c0, e27, hbw, hBb⟩ := hJ.d (hpre 27 (by simp))
          obtain ⟨ng, AI, cI, lI, e26, hI⟩ := hJ.c (hpre 26 (by simp))
          have bl := hBb.lt
          obtain ⟨bc0, bc1, bf0, bf1⟩ := hBb.two
          simp only [List.foldl_cons, List.foldl_nil, e27, e26]
          go_simp
          exact ⟨Q.boxes hq hbw, hJ.five (hpre 27 (by simp)) hbw e27 hBb hI⟩
      · intro D vs w6 hD hq6 hJ
        have h28 := hD ⟨28, none, [(26, 104), (27, 15)], [26, 27]⟩ (by simp)
        obtain ⟨_, b, u, v, e27, hbw, hBd, hId⟩ := hJ.e h28
        simp only [List.foldl_cons, List.foldl_nil, e27]
        generalize vs 12 = t12
        generalize vs 25 = t25
        generalize vs 26 = t26
        generalize vs 28 = t28
        have hq5 := hqn _ hq6
        have hb5 : W5.heap.size ≤ b := hbw
        clear hJ hD h28 e27 qF hqn x2 z1 z3 u1 v1 u2 v2 u3 v3 u4 v4 i1 i2 i3 i4 hS1 hS3 hbw
        have HB8 := Lib.hid (HB8.out.q hq5)
        have HB9 := Lib.hid (HB9.out.q hq5)
        have HBC := Lib.hid (HBC.out.q hq5)
        have HA := Lib.hid (HA.out.q hq5)
        have HB := Lib.hid (HB.out.q hq5)
        have HC := Lib.hid (HC.out.q hq5)
        have HQ6 := Lib.hid (HQ5.out.trans hq5)
        have HBD := Lib.hid hBd
        have HID := Lib.hid hId
        clear hBd hId hq5 hq6
        obtain ⟨a0, a1, a2⟩ := HB8.out.three'
        obtain ⟨b0, b1', b2⟩ := HB9.out.three'
        obtain ⟨c0, c1', c2⟩ := HBC.out.three'
        go_wp2_with fail
        have hqn : ∀ W6, Q w6.drew W6 → Q w6 W6 := fun W6 q => (Q.refl w6).drew.trans q
        have qF := fun W6 q => And.intro ((hqn W6 q).cell a0) (And.intro ((hqn W6 q).cell a1) (And.intro ((hqn W6 q).cell a2) (And.intro ((hqn W6 q).cell b0) (And.intro ((hqn W6 q).cell b1') (And.intro ((hqn W6 q).cell b2) (And.intro ((hqn W6 q).cell c0) (And.intro ((hqn W6 q).cell c1') ((hqn W6 q).cell c2))))))))
        refine wp_region_free [true, true, false, true, true, false, true, true, false, false, false, false, false, false, false] [⟨2, some 107, [], []⟩, ⟨5, some 110, [], [2]⟩, ⟨8, some 113, [], [5]⟩, ⟨9, some 16, [], []⟩, ⟨10, some 17, [], []⟩, ⟨11, some 18, [], []⟩, ⟨12, none, [(2, 107), (9, 16)], [2, 9, 10, 11]⟩, ⟨13, none, [(5, 110), (10, 17)], [5, 10, 12]⟩, ⟨14, none, [(8, 113), (11, 18)], [8, 11, 13]⟩] (by kernel_rfl) (by kernel_rfl) ?_
        intro KF hKF
        simp only [sel_nil, sel_tt, sel_tf, sel_ft, sel_ff] at hKF ⊢
        iterate 6 ((apply wpRd_read; (case hgd => rfl); (case h => (intro wq hq K' hK; have qr := qF wq hq; go_simp; exact hK))))
        refine hKF _ ⟨J14 (p := p) w6.drew (fun i k => zf (X i k)) (fun i k => zf (Y i k)) (fun i k => zf (V i k)), J14.start, ?_, ?_⟩
        · refine wpRows_cons ?_ (wpRows_cons ?_ (wpRows_cons ?_ (wpRows_cons ?_ (wpRows_cons ?_ (wpRows_cons ?_ (wpRows_cons ?_ (wpRows_cons ?_ (wpRows_cons ?_ wpRows_nil))))))))
          · intro D vs wq hq hJ hD hpre
            simp only [List.foldl_nil]
            go_simp
            go_at_call 43
            refine (reduceM_any HP.out _ 2 2 X wq ⟨_, _, rfl, HA.out.q (hqn _ hq)⟩ (by omega) (by omega)).mono ?_
            rintro e w' ⟨v, rfl, h1, h2⟩
            exact ⟨_, rfl, hq.trans h2, hJ.one h2 (h1.mono hq.size)⟩
          · intro D vs wq hq hJ hD hpre
            simp only [List.foldl_nil]
            go_simp
            go_at_call 43
            refine (reduceM_any HP.out _ 2 2 Y wq ⟨_, _, rfl, HB.out.q (hqn _ hq)⟩ (by omega) (by omega)).mono ?_
            rintro e w' ⟨v, rfl, h1, h2⟩
            exact ⟨_, rfl, hq.trans h2, hJ.two h2 (h1.mono hq.size)⟩
          · intro D vs wq hq hJ hD hpre
            simp only [List.foldl_nil]
            go_simp
            go_at_call 43
            refine (reduceM_any HP.out _ 2 2 V wq ⟨_, _, rfl, HC.out.q (hqn _ hq)⟩ (by omega) (by omega)).mono ?_
            rintro e w' ⟨v, rfl, h1, h2⟩
            exact ⟨_, rfl, hq.trans h2, hJ.three h2 (h1.mono hq.size)⟩
          · intro D vs wq hq hJ hD hpre
            simp only [List.foldl_nil]
            go_simp
            exact ⟨hq.alloc _, hJ.four hq.size hD _ _ _⟩
          · intro D vs wq hq hJ hD hpre
            simp only [List.foldl_nil]
            go_simp
            exact ⟨hq.alloc _, hJ.five hq.size hD _ _ _⟩
          · intro D vs wq hq hJ hD hpre
            simp only [List.foldl_nil]
            go_simp
            exact ⟨hq.alloc _, hJ.six hq.size hD _ _ _⟩
          · intro D vs wq hq hJ hD hpre
            obtain ⟨b', x', y', z', e9, hbw, hBb⟩ := hJ.a1 (hpre 9 (by simp))
            obtain ⟨A7, c7, e7, hR⟩ := hJ.c1 (hpre 2 (by simp))
            have bl := hBb.lt
            obtain ⟨bc0, bc1, bc2⟩ := hBb.three'
            have bf0 := hBb.frozen 0
            have bf1 := hBb.frozen 1
            have bf2 := hBb.frozen 2
            simp only [List.foldl_cons, List.foldl_nil, e9, e7]
            go_simp
            exact ⟨((hq.setCell hbw _).setCell hbw _).setCell hbw _, hJ.s12 (hpre 9 (by simp)) e9 hbw hBb hR⟩
          · intro D vs wq hq hJ hD hpre
            obtain ⟨b', x', y', z', e9, hbw, hBb⟩ := hJ.a2 (hpre 10 (by simp))
            obtain ⟨A7, c7, e7, hR⟩ := hJ.c2 (hpre 5 (by simp))
            have bl := hBb.lt
            obtain ⟨bc0, bc1, bc2⟩ := hBb.three'
            have bf0 := hBb.frozen 0
            have bf1 := hBb.frozen 1
            have bf2 := hBb.frozen 2
            simp only [List.foldl_cons, List.foldl_nil, e9, e7]
            go_simp
            exact ⟨((hq.setCell hbw _).setCell hbw _).setCell hbw _, hJ.s13 (hpre 10 (by simp)) e9 hbw hBb hR⟩
          · intro D vs wq hq hJ hD hpre
            obtain ⟨b', x', y', z', e9, hbw, hBb⟩ := hJ.a3 (hpre 11 (by simp))
            obtain ⟨A7, c7, e7, hR⟩ := hJ.c3 (hpre 8 (by simp))
            have bl := hBb.lt
            obtain ⟨bc0, bc1, bc2⟩ := hBb.three'
            have bf0 := hBb.frozen 0
            have bf1 := hBb.frozen 1
            have bf2 := hBb.frozen 2
            simp only [List.foldl_cons, List.foldl_nil, e9, e7]
            go_simp
            exact ⟨((hq.setCell hbw _).setCell hbw _).setCell hbw _, hJ.s14 (hpre 11 (by simp)) e9 hbw hBb hR⟩
        · intro D vs w7 hD hq7 hJ
          obtain ⟨_, g16, A16, c16, e16, _, B16, R16⟩ := hJ.s1 (hD ⟨12, none, [(2, 107), (9, 16)], [2, 9, 10, 11]⟩ (by simp))
          obtain ⟨_, g17, A17, c17, e17, _, B17, R17⟩ := hJ.s2 (hD ⟨13, none, [(5, 110), (10, 17)], [5, 10, 12]⟩ (by simp))
          obtain ⟨_, g18, A18, c18, e18, _, B18, R18⟩ := hJ.s3 (hD ⟨14, none, [(8, 113), (11, 18)], [8, 11, 13]⟩ (by simp))
          simp only [List.foldl_cons, List.foldl_nil, e16, e17, e18]
          generalize vs 2 = t2
          generalize vs 5 = t5
          generalize vs 8 = t8
          generalize vs 12 = t12
          generalize vs 13 = t13
          generalize vs 14 = t14
          have hq8 := hqn _ hq7
          clear hJ hD qF hqn e16 e17 e18 a0 a1 a2 b0 b1' b2 c0 c1' c2 hKF
          have HB8 := Lib.hid (HB8.out.q hq8)
          have HA := Lib.hid (HA.out.q hq8)
          have HBD := Lib.hid (HBD.out.q hq8)
          have HID := Lib.hid (HID.out.q hq8)
          have HQ7 := Lib.hid (HQ6.out.trans hq8)
          have HB16 := Lib.hid B16
          have HB17 := Lib.hid B17
          have HB18 := Lib.hid B18
          have HR16 := Lib.hid R16.rows
          have HR17 := Lib.hid R17.rows
          have HR18 := Lib.hid R18.rows
          clear hq8 hq7 B16 B17 B18 R16 R17 R18
          obtain ⟨a0, a1, a2⟩ := HB16.out.three'
          go_wp2_with fail
          refine (valid_any HP.out _ 2 2 _ _ ⟨A16, c16, rfl, HR16.out⟩ (by omega) (by omega)).mono ?_
          rintro e w8 ⟨rfl, hq8⟩
          have HQ8 := Lib.hid hq8
          clear hq8 a0 a1 a2
          obtain ⟨a0, a1, a2⟩ := (HB17.out.q HQ8.out).three'
          go_wp2_with fail
          refine (valid_any HP.out _ 2 2 _ _ ⟨A17, c17, rfl, HR17.out.q HQ8.out⟩ (by omega) (by omega)).mono ?_
          rintro e w9 ⟨rfl, hq9⟩
          have HQ9 := Lib.hid (HQ8.out.trans hq9)
          clear hq9 a0 a1 a2
          obtain ⟨a0, a1, a2⟩ := (HB16.out.q HQ9.out).three'
          obtain ⟨b0, b1, b2⟩ := (HB17.out.q HQ9.out).three'
          go_wp2_with fail
          refine (det_h HP.out _ 2 _ _ ⟨A16, c16, rfl, HR16.out.q HQ9.out⟩ (by omega) (zf_lap X)).mono ?_
          rintro e w10 ⟨rfl, hq10⟩
          have q10 := HQ9.out.trans hq10
          have HQ10 := Lib.hid (HQ7.out.trans q10)
          have HR16 := Lib.hid (HR16.out.q q10)
          have HR17 := Lib.hid (HR17.out.q q10)
          have HR18 := Lib.hid (HR18.out.q q10)
          have HA := Lib.hid (HA.out.q q10)
          have HID := Lib.hid (HID.out.q q10)
          have HB8 := Lib.hid (HB8.out.q q10)
          have HBD := Lib.hid (HBD.out.q q10)
          have HB16 := Lib.hid (HB16.out.q q10)
          have HB17 := Lib.hid (HB17.out.q q10)
          have HB18 := Lib.hid (HB18.out.q q10)
          clear q10 hq10 a0 a1 a2 b0 b1 b2 HQ9 HQ8
          obtain ⟨d, hd⟩ : ∃ d : Fin p, zf (X 0 0 * X 1 1 - X 0 1 * X 1 0) = d := ⟨_, rfl⟩
          have hd2 : redN p (X 0 0 * X 1 1 - X 0 1 * X 1 0) = (d : Nat) := by rw [← hd]; rfl
          rw [hd]
          have HD2 := Lib.hid hd2
          clear hd hd2
          obtain ⟨a0, a1, a2⟩ := HB16.out.three'
          obtain ⟨b0, b1, b2⟩ := HB17.out.three'
          obtain ⟨c0, c1, c2⟩ := HB18.out.three'
          obtain ⟨d0, d1, _, _⟩ := HBD.out.two
          obtain ⟨e0, e1, e2⟩ := HB8.out.three'
          go_wp2_with fail
          have hqn : ∀ W6, Q w10.drew W6 → Q w10 W6 := fun W6 q => (Q.refl w10).drew.trans q
          have qF := fun W6 q => And.intro ((hqn W6 q).cell a0) (And.intro ((hqn W6 q).cell a1) (And.intro ((hqn W6 q).cell a2) (And.intro ((hqn W6 q).cell b0) (And.intro ((hqn W6 q).cell b1) (And.intro ((hqn W6 q).cell b2) (And.intro ((hqn W6 q).cell c0) (And.intro ((hqn W6 q).cell c1) (And.intro ((hqn W6 q).cell c2) (And.intro ((hqn W6 q).cell d0) (And.intro ((hqn W6 q).cell d1) (And.intro ((hqn W6 q).cell e0) (And.intro ((hqn W6 q).cell e1) ((hqn W6 q).cell e2)))))))))))))
          refine wp_region_phases5 [0, 0, 1, 0, 1, 2, 2, 2, 2, 2, 2, 2, 2, 2, 2, 2, 2, 2, 2, 2, 3, 3, 4, 4, 4, 4] (by kernel_rfl) (by kernel_rfl) ?_
          intro KF hKF
          simp only [List.length_cons, List.length_nil, Nat.reduceAdd, selN_nil, selN_00, selN_01, selN_02, selN_03, selN_04, selN_10, selN_11, selN_12, selN_13, selN_14, selN_20, selN_21, selN_22, selN_23, selN_24, selN_30, selN_31, selN_32, selN_33, selN_34, selN_40, selN_41, selN_42, selN_43, selN_44, List.drop_succ_cons, List.drop_zero] at hKF ⊢
          iterate 3 ((apply wpFix_read; (case hgd => rfl); (case h => (intro wq hq K' hK; have qr := qF wq hq; go_simp; exact hK))))
          refine hKF _ (wpMks_makeU (ModY 2 2 (mm 2 (fun i k => (zf (X i k) : Fin p)) (fun i k => zf (Y i k)))) ModY.keep rfl ?_ ?_)
          · intro wq hq _ V' hV'
            go_simp
            go_at_call 34
            refine (mul_any HP.out _ _ 2 2 2 _ _ wq ⟨_, _, rfl, HR16.out.q (hqn _ hq)⟩ ⟨_, _, rfl, HR17.out.q (hqn _ hq)⟩ (by omega) (by omega) (by omega)).mono ?_
            rintro e w' ⟨v, rfl, h1, h2⟩
            exact ⟨_, rfl, h2, hV' _ _ h2 h1.modv⟩
          rintro vm ⟨_, _, _⟩
          refine wpMks_makeU (KnY (.bool true)) KnY.keep rfl ?_ ?_
          · intro wq hq hs V' hV'
            go_simp
            go_at_call 19
            exact (same_mod vm _ 2 2 _ _ _ hs.2 ⟨_, _, rfl, HR18.out.q (hqn _ hq)⟩ (fun i k _ _ => zf_mm HV.out i k) (by omega)).mono fun e w' h => ⟨_, h.1, h.2, hV' _ _ h.2 rfl⟩
          rintro _ ⟨_, _, rfl⟩
          refine wpMks_nil ?_
          iterate 8 ((apply wpDets_read; case h => (intro wq hq K' hK; have qr := qF wq hq; go_simp; exact hK)))
          refine wpDets_call (.int .u64 ((d : Nat) : Int)) ?_ ?_
          · intro wq hq V hV
            go_simp
            go_at_call 44
            refine (rreduce_any p _ _ 1 wq (by have := HP.out.two; omega) (by have := HP.out.2; omega) (HID.out.q (hqn _ hq)) (by omega) (by omega) (fits_det HXB.out)).mono fun e w' h => ⟨_, h.1.trans (by rw [HD2.out]), h.2, hV _ h.2⟩
          iterate 6 ((apply wpDets_read; case h => (intro wq hq K' hK; have qr := qF wq hq; go_simp; exact hK)))
          refine wpDets_nil ?_
          refine wpMks_make (ModY 2 2 (fun i k => (zf (X i k) : Fin p))) ModY.keep ?_ ?_
          · intro wq hq hs V' hV'
            go_simp
            go_at_call 45
            refine (reduce7_any HP.out _ 2 2 X wq ⟨_, _, rfl, HA.out.q (hqn _ hq)⟩ (by omega) (by omega) (fun i k _ _ => (fits_9 (HXB.out i k)).mono (by omega))).mono ?_
            rintro e w' ⟨v, rfl, h1, h2⟩
            exact ⟨_, rfl, h2, hV' _ _ h2 h1.modv⟩
          rintro vr ⟨_, _, _⟩
          refine wpMks_make (KnY (.bool true)) KnY.keep ?_ ?_
          · intro wq hq hs V' hV'
            go_simp
            go_at_call 19
            exact (same_mod _ vr 2 2 _ _ _ ⟨_, _, rfl, HR16.out.q (hqn _ hq)⟩ hs.2 (fun _ _ _ _ => rfl) (by omega)).mono fun e w' h => ⟨_, h.1, h.2, hV' _ _ h.2 rfl⟩
          rintro _ ⟨_, _, rfl⟩
          refine wpMks_nil ?_
          iterate 4 ((apply wpDets_read; case h => (intro wq hq K' hK; have qr := qF wq hq; go_simp; exact hK)))
          refine wpDets_nil ?_
          rintro w11 hq11 _
          have q11 := hqn _ hq11
          clear qF hqn hKF
          go_wp2_with fail
          go_ret
          exact ⟨rfl, HQ10.out.trans q11⟩
end
end Go.Proofs.Ytcjpjnneimjfiaa
