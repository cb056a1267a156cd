/-
  A block of uint32 that the call itself has made.
  torsionref01.Mul.
  torsionref01.short.
-/
import Derived.Test.YtcjpjnneimjfiaaInt
import Derived.Test.YtcjpjnneimjfiaaNum
namespace Go.Proofs.Ytcjpjnneimjfiaa
open Go.RowKit

/-- The cells of a row of numbers. -/
def row32 (l : List Nat) : Array Value := (u32s l).toArray
/-- Block g is the row l of uint32. -/
def Row32 (w : World) (g : Nat) (l : List Nat) : Prop := Blk w g 49 (row32 l)
section
variable {w w' : World} {g : Nat} {l : List Nat}
set_option maxRecDepth 100000 in
theorem row32_get {l : List Nat} {i x : Nat} (h : l[i]? = some x) : (row32 l)[i]? = some (Value.int .u32 (x : Nat)) := by
  simp [row32, u32s, h]
set_option maxRecDepth 100000 in
theorem Row32.cell (h : Row32 w g l) {i x : Nat} (hx : l[i]? = some x) : w.cell? ⟨g, i, none⟩ = some (.int .u32 (x : Nat)) := by
  rw [Blk.cell h, row32_get hx]
set_option maxRecDepth 100000 in
theorem Row32.frozen (h : Row32 w g l) (i : Nat) : w.frozen? ⟨g, i, none⟩ = false := Blk.frozen h i
set_option maxRecDepth 100000 in
theorem Row32.lt (h : Row32 w g l) : g < w.heap.size := Blk.lt h
set_option maxRecDepth 100000 in
theorem Row32.q (h : Row32 w g l) (hq : Q w w') : Row32 w' g l := Blk.q h hq
set_option maxRecDepth 100000 in
theorem Row32.drewN (h : Row32 w g l) (n : Nat) : Row32 (w.drewN n) g l := h
set_option maxRecDepth 100000 in
theorem row32_set (l : List Nat) (i v : Nat) (V : Int) (hV : V = (v : Int)) : (row32 l).setIfInBounds i (.int .u32 V) = row32 (l.set i v) := by
  subst hV; simp [row32, u32s, List.map_set]
set_option maxRecDepth 100000 in
theorem Row32.set (h : Row32 w g l) (i v : Nat) {V : Int} (hV : V = (v : Int)) : Row32 (w.setCell ⟨g, i, none⟩ (.int .u32 V)) g (l.set i v) := by
  have := Blk.set h i (.int .u32 V); rwa [row32_set l i v V hV] at this
set_option maxRecDepth 100000 in
theorem Row32.lm (h : Row32 w g l) (hl : Limbs l) (hn : l.length ≤ 140737488355328) {c : Nat} (hc : l.length ≤ c) : Lm w (some ⟨g, 0, none⟩) c l :=
  ⟨hc, hn, hl, fun _ => ⟨g, 0, rfl, h.lt, fun i hi => by rw [Nat.zero_add]; exact h.cell (List.getElem?_eq_getElem hi)⟩⟩
set_option maxRecDepth 100000 in
theorem Row32.make (w : World) (l : List Nat) {k : Nat} (hk : w.heap.size = k) : Row32 (w.alloc (.cells (row32 l) 49)) k l := Blk.new' w _ _ hk
end

set_option maxRecDepth 100000 in
/-- make([]uint32, n). -/
theorem mk32 (N : Int) (n : Nat) (hN : N = (n : Int)) (hn : n ≤ 68719476736) (w : World) :
    (Instr.makeSlice 54 (.int .i64 N) (.int .i64 N)).run Try.prog w = .ok (.slice (some ⟨w.heap.size, 0, none⟩) n n) (w.alloc (.cells (row32 (List.replicate n 0)) 49)) := by
  subst hN
  obtain ⟨i0, hi, hz0, hz1, hz2⟩ := info_parts info_u32
  have hr := run_make (P := Try.prog) w 54 49 i0 (.int .u32 0) Try.underlying54 hi hz0 .i64 .i64 (n : Int) (n : Int) (by omega) (by omega) (by rw [hz2]; omega) (by omega)
  rw [hz1] at hr
  simp only [Int.toNat_natCast, Nat.mul_one] at hr
  rw [hr]
  congr 2
  congr 1
  apply Array.ext'
  rw [show Value.cells (.int .u32 0) = #[.int .u32 0] from rfl, toList_madeCells_one]
  simp [row32, u32s]

end Go.Proofs.Ytcjpjnneimjfiaa
namespace Go.Proofs.Ytcjpjnneimjfiaa
open Go.RowKit

set_option maxRecDepth 100000 in
/-- What one round of the inner loop does to its relation. -/
theorem mul_close {w3 wx : World} {la lb lo : List Nat} {B N i k x s : Nat} {V : Int} (h : MulI la lb N i (k + 1) (s / 4294967296) x (lo.set (i + k) (s % 4294967296))) (hV : V = (s : Int)) (hrow : Row32 wx B lo) (hq : Q w3 wx) (hB : w3.heap.size ≤ B)
    (hk : k + 1 ≤ lb.length ∨ (s / 4294967296 = 0 ∧ k + 1 ≤ lb.length + 1)) :
    (∃ (k1 cy1 : Nat) (lo : List Nat), Value.int .i64 ((k : Int) + 1) = .int .i64 k1 ∧ Value.int .u64 (V / 4294967296) = .int .u64 cy1 ∧ (k1 ≤ lb.length ∨ (cy1 = 0 ∧ k1 ≤ lb.length + 1)) ∧ MulI la lb N i k1 cy1 x lo ∧
        Row32 (wx.setCell ⟨B, i + k, none⟩ (.int .u32 (V % 4294967296))) B lo ∧ Q w3 (wx.setCell ⟨B, i + k, none⟩ (.int .u32 (V % 4294967296)))) ∧
      lb.length + 2 - (intOf (Value.int .i64 ((k : Int) + 1))).toNat < lb.length + 2 - (intOf (Value.int .i64 (k : Int))).toNat := by
  subst hV
  refine ⟨⟨k + 1, s / 4294967296, _, rfl, by rw [show (s : Int) / 4294967296 = ((s / 4294967296 : Nat) : Int) from by omega], hk, h, hrow.set (i + k) (s % 4294967296) (by omega), hq.setCell hB _⟩, ?_⟩
  simp only [intOf]
  omega

set_option maxHeartbeats 1000000 in
set_option maxRecDepth 100000 in
theorem rmul_any (va vb : Value) (a b : Int) (w : World) (ha : IntV w va a) (hb : IntV w vb b) (n : Nat) (hn : n ≤ 1073741824) (fa : Fits n a) (fb : Fits n b) :
    Calls Try.prog 41 #[va, vb] w (RetV w (a * b)) := by
  obtain ⟨na, A, c, la, rfl, hA⟩ := ha
  obtain ⟨nb, B, d, lb, rfl, hB⟩ := hb
  have lna := hA.len fa
  have lnb := hB.len fb
  obtain ⟨N, hN⟩ : ∃ N, N = la.length + lb.length + 1 := ⟨_, rfl⟩
  have hN1 : la.length + lb.length < N := by omega
  have hmk : ∀ w, (Instr.makeSlice 54 (.int .i64 ((la.length : Int) + (lb.length : Int) + 1)) (.int .i64 ((la.length : Int) + (lb.length : Int) + 1))).run Try.prog w = .ok (.slice (some ⟨w.heap.size, 0, none⟩) N N) (w.alloc (.cells (row32 (List.replicate N 0)) 49)) :=
    fun w => mk32 _ N (by omega) (by omega) w
  have HN := Lib.hid hN
  clear hN
  go_enter Try.func41, Try.ntmps41
  go_wp2_with fail
  obtain ⟨w3, hw3⟩ : ∃ w3, ((w.alloc (.cells #[.bool na, .slice A la.length c] 73)).alloc (.cells #[.bool nb, .slice B lb.length d] 73)).alloc (.cells #[.bool false, .slice none 0 0] 73) = w3 := ⟨_, rfl⟩
  have hs3 : w3.heap.size = w.heap.size + 1 + 1 + 1 := by rw [← hw3]; simp
  have hQ3 : ∀ {wx}, Q w3 wx → Blk wx w.heap.size 73 #[.bool na, .slice A la.length c] ∧ Blk wx (w.heap.size + 1) 73 #[.bool nb, .slice B lb.length d] ∧ Blk wx (w.heap.size + 1 + 1) 73 #[.bool false, .slice none 0 0] ∧ Q w wx := fun h => by rw [← hw3] at h; exact boxes3 h
  rw [hw3]
  clear hmk
  have HQ3 := @Lib.hid _ @hQ3
  clear hQ3
  go_loopw [6, 7, 8] (fun iv _ _ wr => ∃ (i : Nat) (lo : List Nat), iv = .int .i64 i ∧ i ≤ la.length ∧ MulO la lb N i lo ∧ Row32 wr (w.heap.size + 1 + 1 + 1) lo ∧ Q w3 wr) (fun iv _ _ _ => la.length - (intOf iv).toNat)
  case atStart => exact ⟨0, _, rfl, Nat.zero_le _, mul_start la lb N, Row32.make _ _ hs3, (Q.refl w3).alloc _⟩
  case round =>
    obtain ⟨i, lo, rfl, hi, hR, hrow, hq⟩ := hrel
    have HR := Lib.hid hR
    clear hR
    obtain ⟨g1, g2, g3, hqw⟩ := HQ3.out hq
    obtain ⟨k0, k1, _, _⟩ := g1.two
    obtain ⟨k2, k3, _, _⟩ := g2.two
    by_cases h1 : i < la.length
    · obtain ⟨b1, o1, x, rfl, hb1, hx, hx2, hcw⟩ := hA.1.at (k := i) (by omega)
      have hc := hqw.cell hcw
      have Hx := Lib.hid hx
      clear hx
      go_wp2_with fail
      obtain ⟨wo, hwo⟩ : ∃ wo : World, wo = wr := ⟨_, rfl⟩
      have HW := Lib.hid hwo
      clear hwo
      go_loopw [7, 8] (fun cv kv wi => ∃ (k cy : Nat) (lo : List Nat), kv = .int .i64 k ∧ cv = .int .u64 cy ∧ (k ≤ lb.length ∨ (cy = 0 ∧ k ≤ lb.length + 1)) ∧ MulI la lb N i k cy x lo ∧ Row32 wi (w.heap.size + 1 + 1 + 1) lo ∧ Q w3 wi) (fun _ kv _ => lb.length + 2 - (intOf kv).toNat)
      case atStart => exact ⟨0, 0, lo, rfl, rfl, by omega, mul_in HR.out x, hrow, hq⟩
      case round =>
        clear hrow hq g1 g2 g3 hqw k0 k1 k2 k3 hb1 hc
        obtain ⟨k, cy, lo, rfl, rfl, hk, hI, hrow, hq⟩ := hrel
        have hcy := hI.2.2.1
        have hll := hI.1
        have HI := Lib.hid hI
        have HL := Lib.hid hll
        clear hI hll
        obtain ⟨g1, g2, g3, hqw⟩ := HQ3.out hq
        have hc := hqw.cell hcw
        obtain ⟨k0, k1, _, _⟩ := g1.two
        obtain ⟨k2, k3, _, _⟩ := g2.two
        by_cases h2 : k < lb.length
        · obtain ⟨b2, o2, y, rfl, hb2, hy, hy2, hcB⟩ := (hB.1.q hqw).at (k := k) h2
          have Hy := Lib.hid hy
          clear hy
          have hik : i + k < lo.length := by rw [HL.out]; omega
          obtain ⟨o, ho⟩ : ∃ o, lo[i + k]? = some o := ⟨_, List.getElem?_eq_getElem hik⟩
          have kr := hrow.cell ho
          have fr := hrow.frozen (i + k)
          have hst := mul_step HI.out ho (getD_at Hy.out) hx2 hy2 rfl
          have hs1 : cy + o + x * y < 2 ^ 64 := hst.2
          have hs2 : x * y < 2 ^ 64 := by omega
          have ho2 : o < 4294967296 := HI.out.2.1 o (List.mem_of_getElem? ho)
          have HST := Lib.hid hst
          have HO := Lib.hid ho
          clear hst ho
          go_wp2_with fail
          go_quiet (fail)
          go_wp2_with fail
          exact mul_close HST.out.1 (by omega) (hrow.drewN _) (hq.drewN _) (by omega) (by omega)
        · by_cases h3 : 0 < cy
          · have hkl : k = lb.length := by omega
            have hik : i + k < lo.length := by rw [HL.out]; omega
            obtain ⟨o, ho⟩ : ∃ o, lo[i + k]? = some o := ⟨_, List.getElem?_eq_getElem hik⟩
            have kr := hrow.cell ho
            have fr := hrow.frozen (i + k)
            have hst := mul_step HI.out ho (getD_out (by omega)) hx2 (by omega : 0 < 4294967296) rfl
            have hs1 : cy + o < 2 ^ 64 := by have := hst.2; omega
            have ho2 : o < 4294967296 := HI.out.2.1 o (List.mem_of_getElem? ho)
            have h0 : (cy + o + x * 0) / 4294967296 = 0 := by
              have h4 := hst.1
              rw [hkl] at h4
              have := mul_top hA.1.lt hB.1.lt h4 Hx.out
              exact this
            have HST := Lib.hid hst
            have HO := Lib.hid ho
            have H0 := Lib.hid h0
            have HK := Lib.hid hkl
            clear hst ho h0 hkl
            go_wp2_with fail
            exact mul_close HST.out.1 (by omega) hrow hq (by omega) (by have := H0.out; have := HK.out; omega)
          · obtain rfl : cy = 0 := by omega
            go_wp2_with fail
            refine ⟨⟨i + 1, lo, rfl, by omega, mul_out HI.out (by omega) Hx.out, hrow, hq⟩, ?_⟩
            simp only [intOf]
            omega
    · have hi2 : i = la.length := by omega
      have HI2 := Lib.hid hi2
      clear hi2
      go_wp2_with fail
      have hlen : lo.length = N := HR.out.1
      have hN2 : lo.length ≤ 4294967296 := by have := HN.out; omega
      rw [← hlen]
      refine (made_v _ lo.length lo (na != nb) _ (hrow.lm HR.out.2.1 (by omega) (Nat.le_refl _)) (by omega)).mono ?_
      rintro e w2 ⟨v2, rfl, ⟨neg2, A2, c2, l2, rfl, hI2⟩, hq2⟩
      have g4 := g3.q hq2
      obtain ⟨k8, k9, f8, f9⟩ := g4.two
      have hz := g4.lt
      have hqe := hqw.trans hq2
      go_wp2_with fail
      refine bodyPost_ret (v := .agg #[.bool neg2, .slice A2 l2.length c2]) (by simp [results, Try.results41, go_sem, k8, k9]) rfl ?_
      have hr := retV_end g4 hqe (by omega) hI2 rfl
      have hv : val lo = val la * val lb := mul_end (by have h := HR.out; rwa [HI2.out] at h)
      rw [hv, sgn_mul, ← hA.2.2.2, ← hB.2.2.2] at hr
      exact hr
end Go.Proofs.Ytcjpjnneimjfiaa
namespace Go.Proofs.Ytcjpjnneimjfiaa
open Go.RowKit

set_option maxRecDepth 100000 in
theorem cdiv (s d : Nat) (S : Int) (hS : S = (s : Int)) : S / (d : Int) = ((s / d : Nat) : Int) := by subst hS; rfl
set_option maxRecDepth 100000 in
theorem cmod (s d : Nat) (S : Int) (hS : S = (s : Int)) : S % (d : Int) = ((s % d : Nat) : Int) := by subst hS; rfl

def ShortP (w : World) (la : List Nat) (d : Nat) (e : Ending) (w' : World) : Prop :=
  ∃ A c l, e = .returned (.tuple #[.slice A l.length c, .int .u32 (val la % d : Nat)]) ∧ Lm w' A c l ∧ l.length = la.length ∧ val l = val la / d ∧ Q w w'

set_option maxHeartbeats 1000000 in
set_option maxRecDepth 100000 in
theorem short_any (A : Option Addr) (c : Nat) (la : List Nat) (d : Nat) (w : World) (hA : Lm w A c la) (hn : la.length ≤ 4294967296) (hd : 0 < d) (hd2 : d < 4294967296) :
    Calls Try.prog 77 #[.slice A la.length c, .int .u32 d] w (ShortP w la d) := by
  obtain ⟨N, hN⟩ : ∃ N, N = la.length := ⟨_, rfl⟩
  have hmk : ∀ w, (Instr.makeSlice 54 (.int .i64 (la.length : Int)) (.int .i64 (la.length : Int))).run Try.prog w = .ok (.slice (some ⟨w.heap.size, 0, none⟩) N N) (w.alloc (.cells (row32 (List.replicate N 0)) 49)) :=
    fun w => mk32 _ N (by omega) (by omega) w
  have hNa : la.length ≤ N := by omega
  have hNb : N ≤ la.length := by omega
  have HN := Lib.hid hN
  clear hN
  go_enter Try.func77, Try.ntmps77
  go_wp2_with fail
  clear hmk
  go_loopw [7, 8] (fun rv iv wr => ∃ (k rest : Nat) (lo : List Nat), iv = .int .i64 ((k : Int) - 1) ∧ rv = .int .u64 rest ∧ k ≤ N ∧ rest < d ∧ ShortR la d N k rest lo ∧ Row32 wr w.heap.size lo ∧ Q w wr) (fun _ iv _ => (intOf iv + 1).toNat)
  case atStart => exact ⟨N, 0, _, by rw [HN.out], rfl, Nat.le_refl _, hd, short_start la hd HN.out.symm, Row32.make _ _ rfl, (Q.refl w).alloc _⟩
  case round =>
    obtain ⟨k, rest, lo, rfl, rfl, hk, hr, hR, hrow, hq⟩ := hrel
    have hll := hR.1
    have HR := Lib.hid hR
    have HL := Lib.hid hll
    clear hR hll
    cases k with
    | zero =>
      go_wp2_with fail
      go_ret2
      have e := short_end HR.out
      refine ⟨_, _, lo, ?_, hrow.lm HR.out.2.1 (by have := HL.out; omega) (by have := HL.out; omega : lo.length ≤ N), by have := HL.out; have := HN.out; omega, e.1, hq⟩
      show Ending.returned (.tuple #[.slice (some ⟨w.heap.size, 0, none⟩) N N, .int .u32 (rest : Int)]) = _
      rw [HL.out, e.2]
    | succ k =>
      obtain ⟨b1, o1, x, rfl, hb1, hx, hx2, hcw⟩ := hA.at (k := k) (by omega)
      have hc := hq.cell hcw
      have hst := short_step HR.out hx (by omega) hx2 hd2 rfl
      have hs1 : rest * 4294967296 + x < 2 ^ 64 := hst.2.1
      have hs2 : (rest * 4294967296 + x) / d < 4294967296 := hst.2.2
      obtain ⟨o, ho⟩ : ∃ o, lo[k]? = some o := ⟨_, List.getElem?_eq_getElem (by rw [HL.out]; omega)⟩
      have kr := hrow.cell ho
      have fr := hrow.frozen k
      have HST := Lib.hid hst
      have Hx := Lib.hid hx
      clear hst hx ho
      rw [show ((k + 1 : Nat) : Int) - 1 = (k : Int) from by omega]
      go_wp2_with fail
      have e1 : ((rest : Int) * 4294967296 + (x : Int)) % (d : Int) = (((rest * 4294967296 + x) % d : Nat) : Int) := cmod _ _ _ (by omega)
      have e2 : ((rest : Int) * 4294967296 + (x : Int)) / (d : Int) % 4294967296 = (((rest * 4294967296 + x) / d : Nat) : Int) := by
        rw [cdiv (rest * 4294967296 + x) d _ (by omega)]
        clear e1
        generalize (rest * 4294967296 + x) / d = qq at hs2 ⊢
        omega
      refine ⟨⟨k, (rest * 4294967296 + x) % d, _, rfl, by rw [e1], by omega, Nat.mod_lt _ hd, HST.out.1, hrow.set k _ e2, hq.setCell (Nat.le_refl _) _⟩, ?_⟩
      simp only [intOf]
      omega
end Go.Proofs.Ytcjpjnneimjfiaa
