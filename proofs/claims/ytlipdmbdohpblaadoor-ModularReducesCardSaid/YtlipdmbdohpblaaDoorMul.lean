/-
  torsionref01.Mul.
-/
import Derived.Test.YtlipdmbdohpblaaDoorRow
namespace Go.Proofs.YtlipdmbdohpblaaDoor
open Go.RowKit

/-- What one round of the inner loop does to its relation. -/
theorem mul_close {w3 wx : World} {la lb lo : List Nat} {B N i k x s : Nat} {V : Int} (h : MulI la lb N i (k + 1) (s / 4294967296) x (lo.set (i + k) (s % 4294967296))) (hV : V = (s : Int)) (hrow : Row32 wx B lo) (hq : Q w3 wx) (hB : w3.heap.size ≤ B)
    (hk : k + 1 ≤ lb.length ∨ (s / 4294967296 = 0 ∧ k + 1 ≤ lb.length + 1)) :
    (∃ (k1 cy1 : Nat) (lo : List Nat), Value.int .i64 ((k : Int) + 1) = .int .i64 k1 ∧ Value.int .u64 (V / 4294967296) = .int .u64 cy1 ∧ (k1 ≤ lb.length ∨ (cy1 = 0 ∧ k1 ≤ lb.length + 1)) ∧ MulI la lb N i k1 cy1 x lo ∧
        Row32 (wx.setCell ⟨B, i + k, none⟩ (.int .u32 (V % 4294967296))) B lo ∧ Q w3 (wx.setCell ⟨B, i + k, none⟩ (.int .u32 (V % 4294967296)))) ∧
      lb.length + 2 - (intOf (Value.int .i64 ((k : Int) + 1))).toNat < lb.length + 2 - (intOf (Value.int .i64 (k : Int))).toNat := by
  subst hV
  refine ⟨⟨k + 1, s / 4294967296, _, rfl, by rw [show (s : Int) / 4294967296 = ((s / 4294967296 : Nat) : Int) from by omega], hk, h, hrow.set (i + k) (s % 4294967296) (by omega), hq.setCell hB _⟩, ?_⟩
  simp only [intOf]
  omega

set_option maxHeartbeats 1000000 in
theorem rmul_any (va vb : Value) (a b : Int) (w : World) (ha : IntV w va a) (hb : IntV w vb b) (n : Nat) (hn : n ≤ 1073741824) (fa : Fits n a) (fb : Fits n b) :
    Calls Tryd.prog 24 #[va, vb] w (RetV w (a * b)) := by
  obtain ⟨na, A, c, la, rfl, hA⟩ := ha
  obtain ⟨nb, B, d, lb, rfl, hB⟩ := hb
  have lna := hA.len fa
  have lnb := hB.len fb
  obtain ⟨N, hN⟩ : ∃ N, N = la.length + lb.length + 1 := ⟨_, rfl⟩
  have hN1 : la.length + lb.length < N := by omega
  have hmk : ∀ w, (Instr.makeSlice 30 (.int .i64 ((la.length : Int) + (lb.length : Int) + 1)) (.int .i64 ((la.length : Int) + (lb.length : Int) + 1))).run Tryd.prog w = .ok (.slice (some ⟨w.heap.size, 0, none⟩) N N) (w.alloc (.cells (row32 (List.replicate N 0)) 23)) :=
    fun w => mk32 _ N (by omega) (by omega) w
  have HN := Lib.hid hN
  clear hN
  go_enter Tryd.func24, Tryd.ntmps24
  go_wp2_with fail
  obtain ⟨w3, hw3⟩ : ∃ w3, ((w.alloc (.cells #[.bool na, .slice A la.length c] 35)).alloc (.cells #[.bool nb, .slice B lb.length d] 35)).alloc (.cells #[.bool false, .slice none 0 0] 35) = w3 := ⟨_, rfl⟩
  have hs3 : w3.heap.size = w.heap.size + 1 + 1 + 1 := by rw [← hw3]; simp
  have hQ3 : ∀ {wx}, Q w3 wx → Blk wx w.heap.size 35 #[.bool na, .slice A la.length c] ∧ Blk wx (w.heap.size + 1) 35 #[.bool nb, .slice B lb.length d] ∧ Blk wx (w.heap.size + 1 + 1) 35 #[.bool false, .slice none 0 0] ∧ Q w wx := fun h => by rw [← hw3] at h; exact boxes3 h
  rw [hw3]
  clear hmk
  have HQ3 := @Lib.hid _ @hQ3
  clear hQ3
  go_loopw [6, 7, 8] (fun iv _ _ wr => ∃ (i : Nat) (lo : List Nat), iv = .int .i64 i ∧ i ≤ la.length ∧ MulO la lb N i lo ∧ Row32 wr (w.heap.size + 1 + 1 + 1) lo ∧ Q w3 wr) (fun iv _ _ _ => la.length - (intOf iv).toNat)
  case atStart => exact ⟨0, _, rfl, Nat.zero_le _, mul_start la lb N, Row32.make _ _ hs3, (Q.refl w3).alloc _⟩
  case round =>
    obtain ⟨i, lo, rfl, hi, hR, hrow, hq⟩ := hrel
    have HR := Lib.hid hR
    clear hR
    obtain ⟨g1, g2, g3, hqw⟩ := HQ3.out hq
    obtain ⟨k0, k1, _, _⟩ := g1.two
    obtain ⟨k2, k3, _, _⟩ := g2.two
    by_cases h1 : i < la.length
    · obtain ⟨b1, o1, x, rfl, hb1, hx, hx2, hcw⟩ := hA.1.at (k := i) (by omega)
      have hc := hqw.cell hcw
      have Hx := Lib.hid hx
      clear hx
      go_wp2_with fail
      obtain ⟨wo, hwo⟩ : ∃ wo : World, wo = wr := ⟨_, rfl⟩
      have HW := Lib.hid hwo
      clear hwo
      go_loopw [7, 8] (fun cv kv wi => ∃ (k cy : Nat) (lo : List Nat), kv = .int .i64 k ∧ cv = .int .u64 cy ∧ (k ≤ lb.length ∨ (cy = 0 ∧ k ≤ lb.length + 1)) ∧ MulI la lb N i k cy x lo ∧ Row32 wi (w.heap.size + 1 + 1 + 1) lo ∧ Q w3 wi) (fun _ kv _ => lb.length + 2 - (intOf kv).toNat)
      case atStart => exact ⟨0, 0, lo, rfl, rfl, by omega, mul_in HR.out x, hrow, hq⟩
      case round =>
        clear hrow hq g1 g2 g3 hqw k0 k1 k2 k3 hb1 hc
        obtain ⟨k, cy, lo, rfl, rfl, hk, hI, hrow, hq⟩ := hrel
        have hcy := hI.2.2.1
        have hll := hI.1
        have HI := Lib.hid hI
        have HL := Lib.hid hll
        clear hI hll
        obtain ⟨g1, g2, g3, hqw⟩ := HQ3.out hq
        have hc := hqw.cell hcw
        obtain ⟨k0, k1, _, _⟩ := g1.two
        obtain ⟨k2, k3, _, _⟩ := g2.two
        by_cases h2 : k < lb.length
        · obtain ⟨b2, o2, y, rfl, hb2, hy, hy2, hcB⟩ := (hB.1.q hqw).at (k := k) h2
          have Hy := Lib.hid hy
          clear hy
          have hik : i + k < lo.length := by rw [HL.out]; omega
          obtain ⟨o, ho⟩ : ∃ o, lo[i + k]? = some o := ⟨_, List.getElem?_eq_getElem hik⟩
          have kr := hrow.cell ho
          have fr := hrow.frozen (i + k)
          have hst := mul_step HI.out ho (getD_at Hy.out) hx2 hy2 rfl
          have hs1 : cy + o + x * y < 2 ^ 64 := hst.2
          have hs2 : x * y < 2 ^ 64 := by omega
          have ho2 : o < 4294967296 := HI.out.2.1 o (List.mem_of_getElem? ho)
          have HST := Lib.hid hst
          have HO := Lib.hid ho
          clear hst ho
          go_wp2_with fail
          go_quiet (fail)
          go_wp2_with fail
          exact mul_close HST.out.1 (by omega) (hrow.drewN _) (hq.drewN _) (by omega) (by omega)
        · by_cases h3 : 0 < cy
          · have hkl : k = lb.length := by omega
            have hik : i + k < lo.length := by rw [HL.out]; omega
            obtain ⟨o, ho⟩ : ∃ o, lo[i + k]? = some o := ⟨_, List.getElem?_eq_getElem hik⟩
            have kr := hrow.cell ho
            have fr := hrow.frozen (i + k)
            have hst := mul_step HI.out ho (getD_out (by omega)) hx2 (by omega : 0 < 4294967296) rfl
            have hs1 : cy + o < 2 ^ 64 := by have := hst.2; omega
            have ho2 : o < 4294967296 := HI.out.2.1 o (List.mem_of_getElem? ho)
            have h0 : (cy + o + x * 0) / 4294967296 = 0 := by
              have h4 := hst.1
              rw [hkl] at h4
              have := mul_top hA.1.lt hB.1.lt h4 Hx.out
              exact this
            have HST := Lib.hid hst
            have HO := Lib.hid ho
            have H0 := Lib.hid h0
            have HK := Lib.hid hkl
            clear hst ho h0 hkl
            go_wp2_with fail
            exact mul_close HST.out.1 (by omega) hrow hq (by omega) (by have := H0.out; have := HK.out; omega)
          · obtain rfl : cy = 0 := by omega
            go_wp2_with fail
            refine ⟨⟨i + 1, lo, rfl, by omega, mul_out HI.out (by omega) Hx.out, hrow, hq⟩, ?_⟩
            simp only [intOf]
            omega
    · have hi2 : i = la.length := by omega
      have HI2 := Lib.hid hi2
      clear hi2
      go_wp2_with fail
      have hlen : lo.length = N := HR.out.1
      have hN2 : lo.length ≤ 4294967296 := by have := HN.out; omega
      rw [← hlen]
      refine (made_v _ lo.length lo (na != nb) _ (hrow.lm HR.out.2.1 (by omega) (Nat.le_refl _)) (by omega)).mono ?_
      rintro e w2 ⟨v2, rfl, ⟨neg2, A2, c2, l2, rfl, hI2⟩, hq2⟩
      have g4 := g3.q hq2
      obtain ⟨k8, k9, f8, f9⟩ := g4.two
      have hz := g4.lt
      have hqe := hqw.trans hq2
      go_wp2_with fail
      refine bodyPost_ret (v := .agg #[.bool neg2, .slice A2 l2.length c2]) (by simp [results, Tryd.results24, go_sem, k8, k9]) rfl ?_
      have hr := retV_end g4 hqe (by omega) hI2 rfl
      have hv : val lo = val la * val lb := mul_end (by have h := HR.out; rwa [HI2.out] at h)
      rw [hv, sgn_mul, ← hA.2.2.2, ← hB.2.2.2] at hr
      exact hr
end Go.Proofs.YtlipdmbdohpblaaDoor
