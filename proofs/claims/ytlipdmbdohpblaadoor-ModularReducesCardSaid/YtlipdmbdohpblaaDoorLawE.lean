/-
  The walk of ModularReduces.
-/
import Derived.Deep.CutRange
import Derived.Test.YtlipdmbdohpblaaDoorRedA
import Derived.Test.YtlipdmbdohpblaaDoorMul
namespace Go.Proofs.YtlipdmbdohpblaaDoor
open Go.RowKit

theorem mreduce_c (p r : Nat) (va : Value) (a : Int) (w : World) (hp : 0 < p) (hp2 : p < 2147483648) (ha : IntV w va a) (h : redN p a = r) : Calls Tryd.prog 17 #[.int .u64 p, va] w (RetQ w r) := h ▸ mod_reduce p va a w hp (by omega) ha
theorem rreduce_c (p r n : Nat) (va : Value) (a : Int) (w : World) (hp : 0 < p) (hp2 : p < 2147483648) (ha : IntV w va a) (hn : n ≤ 1073741823) (hn1 : 1 ≤ n) (fa : Fits n a) (h : redN p a = r) : Calls Tryd.prog 18 #[.int .u64 p, va] w (RetQ w r) := h ▸ rreduce_any p va a n w hp (by omega) ha hn hn1 fa

theorem rcmp_c (va vb : Value) (a b sg : Int) (w : World) (ha : IntV w va a) (hb : IntV w vb b) (fa : Fits 4 a) (fb : Fits 4 b) (h : (a - b).sign = sg) :
    Calls Tryd.prog 21 #[va, vb] w fun e w' => e = .returned (.int .i64 sg) ∧ Q w w' := h ▸ rcmp_any va vb a b w ha hb 4 (by decide) fa fb
theorem symm_facts (p r : Nat) (hp : p < 2147483648) (hr : r < p) : ∃ z sg1 sg2 : Int, symm p r = z ∧ (z + z - (p : Int)).sign = sg1 ∧ sg1 ≤ 0 ∧ (z + z - -(p : Int)).sign = sg2 ∧ 0 < sg2 ∧ Fits 1 z ∧ Fits 4 (z + z) ∧ Fits 4 (p : Int) ∧ Fits 4 (-(p : Int)) ∧ redN p z = r := by
  obtain ⟨h1, h2⟩ := symm_around p r hr
  have hb : -2147483648 < symm p r ∧ symm p r < 2147483648 := by unfold symm; split <;> omega
  refine ⟨symm p r, _, _, rfl, rfl, ?_, rfl, ?_, ?_, ?_, ?_, ?_, redN_symm p r hr⟩
  · rcases Int.lt_or_eq_of_le h1 with g | g
    · rw [Int.sign_eq_neg_one_of_neg g]; decide
    · rw [g]; decide
  · rw [Int.sign_eq_one_of_pos h2]; decide
  · exact fits_one _ (by omega) (by omega)
  · exact (fits_two _ (by omega) (by omega)).mono (by decide)
  · exact (fits_two _ (by omega) (by omega)).mono (by decide)
  · exact (fits_two _ (by omega) (by omega)).mono (by decide)
theorem radd_u (p a b u : Nat) (w : World) (hp : p < 2147483648) (ha : a < p) (hb : b < p) (h : (a + b) % p = u) : Calls Tryd.prog 23 #[.int .u64 p, .int .u64 a, .int .u64 b] w (RetN w u) := h ▸ ref_add p a b w (by omega) ha hb
theorem rmul_u (p a b u : Nat) (w : World) (hp : p < 2147483648) (ha : a < p) (hb : b < p) (h : a * b % p = u) : Calls Tryd.prog 25 #[.int .u64 p, .int .u64 a, .int .u64 b] w (RetN w u) := h ▸ ref_mul p a b w (by omega) (sq_lt (by omega) (by omega))
/-- The boxes of the two integers. -/
structure ESt (w : World) (Ta Tb : Nat) (za zb : Int) (wx : World) : Prop where
  ga : ∃ n A c l, Blk wx Ta 35 #[.bool n, .slice A (List.length l) c] ∧ IntA wx n A c l za
  gb : ∃ n A c l, Blk wx Tb 35 #[.bool n, .slice A (List.length l) c] ∧ IntA wx n A c l zb
  q : Q w wx
  lt : Ta < Tb
set_option maxRecDepth 100000 in
set_option maxHeartbeats 2000000 in
theorem law_reduces (k : Nat) (A1 A2 : Option Addr) (c1 c2 : Nat) (l1 l2 : List Nat) (n1 n2 : Bool) (w : World) (hk : k < 256) (h1 : Lm w A1 c1 l1) (h2 : Lm w A2 c2 l2) (hT : Tab w) :
    Calls Tryd.prog 5 #[.int .u8 k, .agg #[.slice A1 l1.length c1, .bool n1], .agg #[.slice A2 l2.length c2, .bool n2]] w (SaneP w) := by
  obtain ⟨p, hp⟩ : ∃ p, pr15 k = p := ⟨_, rfl⟩
  have hpr : Pr p := hp ▸ pr15_pr k
  have hlt : p < 2147483648 := hp ▸ pr15_lt k
  have h0 : 0 < p := by have := hpr.1; omega
  obtain ⟨za, hza⟩ : ∃ z, sgn n1 (val (l1.take 4)) = z := ⟨_, rfl⟩
  obtain ⟨zb, hzb⟩ : ∃ z, sgn n2 (val (l2.take 4)) = z := ⟨_, rfl⟩
  have fa : Fits 4 za := hza ▸ fits_take n1 l1 h1.lt
  have fb : Fits 4 zb := hzb ▸ fits_take n2 l2 h2.lt
  obtain ⟨r, hr⟩ : ∃ r, redN p za = r := ⟨_, rfl⟩
  obtain ⟨s, hs⟩ : ∃ s, redN p zb = s := ⟨_, rfl⟩
  have hrp : r < p := hr ▸ redN_lt p za h0
  have hsp : s < p := hs ▸ redN_lt p zb h0
  have hri : (r : Int) < (p : Int) := by omega
  have hsi : (s : Int) < (p : Int) := by omega
  have m1 : ∀ w', Q w w' → Calls Tryd.prog 16 #[.agg #[.slice A1 l1.length c1, .bool n1]] w' (RetV w' za) := fun w' hq => hza ▸ lawmade A1 c1 l1 n1 w' (h1.q hq)
  have m2 : ∀ w', Q w w' → Calls Tryd.prog 16 #[.agg #[.slice A2 l2.length c2, .bool n2]] w' (RetV w' zb) := fun w' hq => hzb ▸ lawmade A2 c2 l2 n2 w' (h2.q hq)
  have HP := Lib.hid hp
  have HK := Lib.hid hk
  have HPR := Lib.hid (And.intro hlt h0)
  have HFA := Lib.hid fa
  have HFB := Lib.hid fb
  have HR := Lib.hid hr
  have HS := Lib.hid hs
  have HRP := Lib.hid (And.intro hrp hsp)
  obtain ⟨z, sg1, sg2, hz, e1, s1, e2, s2, fz, fzz, fp, fnp, hzr⟩ := symm_facts p r hlt hrp
  have wp : IntKind.i64.wrap (p : Int) = (p : Int) := by rw [IntKind.wrap_i64]; omega
  have wnp : IntKind.i64.wrap (-IntKind.i64.wrap (p : Int)) = -(p : Int) := by rw [wp, IntKind.wrap_i64]; omega
  have HZ := @Lib.hid _ (And.intro hz (And.intro e1 (And.intro e2 (And.intro fz (And.intro fzz (And.intro fp (And.intro fnp (And.intro hzr (And.intro wp wnp)))))))))
  have S1 := Lib.hid s1
  have S2 := Lib.hid s2
  clear hz e1 e2 fz fzz fp fnp hzr wp wnp s1 s2
  have M1 := @Lib.hid _ m1
  have M2 := @Lib.hid _ m2
  clear hp hk hlt h0 hpr hza hzb fa fb hr hs hrp hsp h1 h2 m1 m2
  go_enter Tryd.func5, Tryd.ntmps5
  go_wp2_with fail
  refine (sane_any _ (hT.q (by repeat (first | exact Q.refl _ | assumption | apply Q.drew | apply Q.drewN | apply Q.alloc)))).mono ?_
  rintro e w1 ⟨rfl, hq⟩
  obtain ⟨gx, gy, q1⟩ := boxes2 hq
  clear hq
  go_wp2_with fail
  refine (made_c k p _ HK.out HP.out).mono ?_
  rintro e w2 ⟨rfl, hq⟩
  have gx := gx.q hq
  have gy := gy.q hq
  have q2 := q1.trans hq
  obtain ⟨x0, x1, _, _⟩ := gx.two
  clear hq q1
  go_wp2_with fail
  refine (M1.out _ q2).mono ?_
  rintro e w3 ⟨_, rfl, ⟨na, Aa, ca, la, rfl, ia⟩, hq⟩
  have gy := gy.q hq
  have q3 := q2.trans hq
  obtain ⟨y0, y1, _, _⟩ := gy.two
  have hzy := gy.lt
  clear hq q2 x0 x1 gx
  go_wp2_with fail
  refine (M2.out _ (q3.alloc _)).mono ?_
  rintro e w4 ⟨_, rfl, ⟨nb, Ab, cb, lb, rfl, ib⟩, hq⟩
  obtain ⟨ga, hq'⟩ := boxes1 hq
  have q4 := q3.trans hq'
  have ia := ia.q hq'
  obtain ⟨a0, a1, _, _⟩ := ga.two
  have hza := ga.lt
  clear hq hq' q3 y0 y1 gy hzy
  have gb := Blk.new w4 35 #[Value.bool nb, Value.slice Ab lb.length cb]
  have D0 : ESt w w3.heap.size w4.heap.size za zb (w4.alloc (.cells #[Value.bool nb, Value.slice Ab lb.length cb] 35)) :=
    ⟨⟨na, Aa, ca, la, ga.alloc _, ia.q ((Q.refl _).alloc _)⟩, ⟨nb, Ab, cb, lb, gb, ib.q ((Q.refl _).alloc _)⟩, q4.alloc _, hza⟩
  clear gb
  go_upto_region 5 with fail
  generalize hW : w4.alloc (.cells #[Value.bool nb, Value.slice Ab lb.length cb] 35) = wa at D0 ⊢
  clear hW ga ia ib q4 a0 a1
  generalize w3.heap.size = Ta at D0 hza ⊢
  generalize w4.heap.size = Tb at D0 hza ⊢
  obtain ⟨⟨na, Aa, ca, la, ga, ia⟩, ⟨nb, Ab, cb, lb, gb, ib⟩, qa, hab⟩ := D0
  obtain ⟨a0, a1, _, _⟩ := ga.two
  go_wp2_with fail
  refine (mreduce_c p r _ za _ HPR.out.2 HPR.out.1 ⟨_, _, _, _, rfl, ia⟩ HR.out).mono ?_
  rintro e w5 ⟨rfl, hq⟩
  have ga := ga.q hq
  have gb := gb.q hq
  have ia := ia.q hq
  have ib := ib.q hq
  have q5 := qa.trans hq
  clear hq qa a0 a1
  obtain ⟨b0, b1, _, _⟩ := gb.two
  go_wp2_with fail
  refine (mreduce_c p s _ zb _ HPR.out.2 HPR.out.1 ⟨_, _, _, _, rfl, ib⟩ HS.out).mono ?_
  rintro e w6 ⟨rfl, hq⟩
  have ga := ga.q hq
  have gb := gb.q hq
  have ia := ia.q hq
  have ib := ib.q hq
  have q6 := q5.trans hq
  clear hq q5 b0 b1
  obtain ⟨a0, a1, _, _⟩ := ga.two
  go_wp2_with fail
  refine (rreduce_c p r 4 _ za _ HPR.out.2 HPR.out.1 ⟨_, _, _, _, rfl, ia⟩ (by omega) (by omega) HFA.out HR.out).mono ?_
  rintro e w7 ⟨rfl, hq⟩
  have ga := ga.q hq
  have gb := gb.q hq
  have ia := ia.q hq
  have ib := ib.q hq
  have q7 := q6.trans hq
  clear hq q6 a0 a1
  go_wp2_with fail
  refine (mod_symmetric p r _ (by have := HPR.out; omega) HRP.out.1).mono ?_
  rintro e w8 ⟨_, rfl, ⟨nt, At, ct, lt, rfl, it⟩, hq⟩
  have ga := ga.q hq
  have gb := gb.q hq
  have ia := ia.q hq
  have ib := ib.q hq
  have q8 := q7.trans hq
  clear hq q7
  rw [HZ.out.1] at it
  go_wp2_with fail
  have hzt := gb.lt
  refine (radd_any _ _ z z _ ⟨_, _, _, _, rfl, it.q ((Q.refl _).alloc _)⟩ ⟨_, _, _, _, rfl, it.q ((Q.refl _).alloc _)⟩ 1 (by decide) HZ.out.2.2.2.1 HZ.out.2.2.2.1).mono ?_
  rintro e w9 ⟨_, rfl, ⟨nw, Aw, cw, lw, rfl, iw⟩, hq⟩
  have gt := (Blk.new w8 35 #[Value.bool nt, Value.slice At lt.length ct]).q hq
  have hq' := Q.trans ((Q.refl w8).alloc _) hq
  have ga := ga.q hq'
  have gb := gb.q hq'
  have ia := ia.q hq'
  have ib := ib.q hq'
  have it := it.q hq'
  have q9 := q8.trans hq'
  have gw := Blk.new w9 35 #[Value.bool nw, Value.slice Aw lw.length cw]
  have ga := ga.alloc (.cells #[Value.bool nw, Value.slice Aw lw.length cw] 35)
  have gb := gb.alloc (.cells #[Value.bool nw, Value.slice Aw lw.length cw] 35)
  have gt := gt.alloc (.cells #[Value.bool nw, Value.slice Aw lw.length cw] 35)
  have hqa : Q w9 (w9.alloc (.cells #[Value.bool nw, Value.slice Aw lw.length cw] 35)) := (Q.refl w9).alloc _
  have ia := ia.q hqa
  have ib := ib.q hqa
  have it := it.q hqa
  have iw := iw.q hqa
  have q10 := q9.trans hqa
  clear hq hq' hqa q8 q9 hzt
  go_upto_region 11 with fail
  generalize w9.alloc (.cells #[Value.bool nw, Value.slice Aw lw.length cw] 35) = wb at ga gb gt gw ia ib it iw q10 ⊢
  generalize w9.heap.size = Tw at gw ⊢
  generalize w8.heap.size = Tt at gt ⊢
  obtain ⟨k0, k1, _, _⟩ := gw.two
  have s1 := S1.out
  have s2 := S2.out
  go_region_held3 (fun w' => w'.cell? ⟨Tw, 0, none⟩ = some (.bool nw) ∧ w'.cell? ⟨Tw, 1, none⟩ = some (.slice Aw lw.length cw)) (first | with_reducible exact ⟨m0, m1⟩ | with_reducible exact ⟨j0, j1⟩ | with_reducible exact ⟨i0, i1⟩ | with_reducible exact ⟨h0, h1⟩ | with_reducible exact ⟨k0, k1⟩ | go_keep)
    (first | (go_at_call 21; have ho := ho2; have hh := rcmp_c _ _ (z + z) (-(p : Int)) sg2 _ iw3 ho HZ.out.2.2.2.2.1 HZ.out.2.2.2.2.2.2.1 HZ.out.2.2.1; refine hh.mono ?_; clear hh; rintro e wf ⟨rfl, hq4⟩; obtain ⟨m0, m1, _, _⟩ := (gw3.q hq4).two; have Q4 := Q3.trans hq4) | (go_at_call 22; have ho := Q2; refine (rof_i (-(p : Int)) _ HZ.out.2.2.2.2.2.2.2.2.2 (by have := HPR.out; omega) (by have := HPR.out; omega)).mono ?_; rintro e we ⟨v2, rfl, ho2, hq3⟩; have gw3 := gw2.q hq3; have Q3 := Q2.trans hq3; have iw3 : IntV we _ (z + z) := ⟨_, _, _, _, rfl, iw.q Q3⟩; obtain ⟨j0, j1, _, _⟩ := gw3.two; clear ho) | (go_at_call 21; have ho := ho1; have hh := rcmp_c _ _ (z + z) (p : Int) sg1 _ iw1 ho HZ.out.2.2.2.2.1 HZ.out.2.2.2.2.2.1 HZ.out.2.1; refine hh.mono ?_; clear hh; rintro e wd ⟨rfl, hq2⟩; have gw2 := gw1.q hq2; have Q2 := Q1.trans hq2; obtain ⟨i0, i1, _, _⟩ := gw2.two; clear ho) | (go_at_call 22; refine (rof_i (p : Int) _ HZ.out.2.2.2.2.2.2.2.2.1 (by have := HPR.out; omega) (by have := HPR.out; omega)).mono ?_; rintro e wc ⟨v1, rfl, ho1, hq1⟩; have Q1 := hq1.of_drew; have gw1 := gw.q Q1; have iw1 : IntV wc _ (z + z) := ⟨_, _, _, _, rfl, iw.q Q1⟩; obtain ⟨h0, h1, _, _⟩ := gw1.two))
  have ga := ga.q Q4
  have gb := gb.q Q4
  have gt := gt.q Q4
  have ia := ia.q Q4
  have ib := ib.q Q4
  have it := it.q Q4
  have q11 := q10.trans Q4
  obtain ⟨t0, t1, _, _⟩ := gt.two
  obtain ⟨u, hu⟩ : ∃ u, (r + s) % p = u := ⟨_, rfl⟩
  obtain ⟨v, hv⟩ : ∃ v, r * s % p = v := ⟨_, rfl⟩
  have U1 := Lib.hid (show redN p (za + zb) = u by rw [redN_add p za zb HPR.out.2, HR.out, HS.out, hu])
  have V1 := Lib.hid (show redN p (za * zb) = v by rw [redN_mul p za zb HPR.out.2, HR.out, HS.out, hv])
  have U2 := Lib.hid hu
  have V2 := Lib.hid hv
  clear hu hv k0 k1 h0 h1 i0 i1 j0 j1 m0 m1 iw iw1 iw3 gw gw1 gw2 gw3 ho1 ho2 hq1 hq2 hq3 hq4 Q1 Q2 Q3 Q4 q10
  go_wp2_with fail
  refine (mreduce_c p r _ z _ HPR.out.2 HPR.out.1 ⟨_, _, _, _, rfl, it⟩ HZ.out.2.2.2.2.2.2.2.1).mono ?_
  rintro e w12 ⟨rfl, hq⟩
  have ga := ga.q hq
  have gb := gb.q hq
  have ia := ia.q hq
  have ib := ib.q hq
  have q12 := q11.trans hq
  clear hq q11 t0 t1 gt it
  obtain ⟨a0, a1, _, _⟩ := ga.two
  obtain ⟨b0, b1, _, _⟩ := gb.two
  go_wp2_with fail
  refine (radd_any _ _ za zb _ ⟨_, _, _, _, rfl, ia⟩ ⟨_, _, _, _, rfl, ib⟩ 4 (by decide) HFA.out HFB.out).mono ?_
  rintro e w13 ⟨v3, rfl, hv3, hq⟩
  have ga := ga.q hq
  have gb := gb.q hq
  have ia := ia.q hq
  have ib := ib.q hq
  have q13 := q12.trans hq
  clear hq q12 a0 a1 b0 b1
  go_wp2_with fail
  refine (mreduce_c p u _ (za + zb) _ HPR.out.2 HPR.out.1 hv3 U1.out).mono ?_
  rintro e w14 ⟨rfl, hq⟩
  have ga := ga.q hq
  have gb := gb.q hq
  have ia := ia.q hq
  have ib := ib.q hq
  have q14 := q13.trans hq
  clear hq q13 hv3
  obtain ⟨a0, a1, _, _⟩ := ga.two
  obtain ⟨b0, b1, _, _⟩ := gb.two
  go_wp2_with fail
  refine (radd_u p r s u _ HPR.out.1 HRP.out.1 HRP.out.2 U2.out).mono ?_
  rintro e w' ⟨rfl, rfl⟩
  go_wp2_with fail
  refine (rmul_any _ _ za zb _ ⟨_, _, _, _, rfl, ia⟩ ⟨_, _, _, _, rfl, ib⟩ 4 (by decide) HFA.out HFB.out).mono ?_
  rintro e w15 ⟨v5, rfl, hv5, hq⟩
  have q15 := q14.trans hq
  clear hq q14 a0 a1 b0 b1 ga gb ia ib
  go_wp2_with fail
  refine (mreduce_c p v _ (za * zb) _ HPR.out.2 HPR.out.1 hv5 V1.out).mono ?_
  rintro e w16 ⟨rfl, hq⟩
  have q16 := q15.trans hq
  clear hq q15
  go_wp2_with fail
  refine (rmul_u p r s v _ HPR.out.1 HRP.out.1 HRP.out.2 V2.out).mono ?_
  rintro e w' ⟨rfl, rfl⟩
  go_wp2_with fail
  go_ret
  exact ⟨rfl, q16⟩
end Go.Proofs.YtlipdmbdohpblaaDoor
