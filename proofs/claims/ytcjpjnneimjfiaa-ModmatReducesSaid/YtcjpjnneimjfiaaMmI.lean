/-
  Reduce of package modmat.
-/
import Derived.Test.YtcjpjnneimjfiaaMmH
import Derived.Test.YtcjpjnneimjfiaaSlI
import Derived.Test.YtcjpjnneimjfiaaNorm
namespace Go.Proofs.Ytcjpjnneimjfiaa
open Go.RowKit
section
variable {p : Nat} [NeZero p]

set_option maxRecDepth 100000 in
theorem redN_lt {p : Nat} (hp : 0 < p) (z : Int) : redN p z < p := by
  unfold redN
  have h1 := Int.emod_nonneg z (show (p : Int) ≠ 0 by omega)
  have h2 := Int.emod_lt_of_pos z (show (0 : Int) < (p : Int) by omega)
  omega
/-- An integer modulo p. -/
def zf (z : Int) : Fin p := ⟨redN p z, redN_lt (Nat.pos_of_ne_zero (NeZero.ne p)) z⟩
/-- A new row of zeros has been laid into its place. -/
def row0 (i : Nat) (M : Mt p) : Mt p := fun j k => if j = i then 0 else M j k
set_option maxRecDepth 100000 in
theorem lay_row {B : Nat} {wr w2 : World} {g G : Nat} {hs : Array Value} {gs : Nat → Nat} {n N i : Nat} {M : Mt p} (h : OwnM B wr g hs gs i N M) (hs2 : hs.size = n) (_ : B ≤ wr.heap.size)
    (hb : Blk w2 G 26 (Array.replicate N (.int .u64 0))) (hG : wr.heap.size ≤ G) (hq : Q wr w2) (hN : N ≤ 8192) (hi : i < n) :
    ∃ hs' gs', OwnM B (w2.setCell ⟨g, i, none⟩ (.slice (some ⟨G, 0, none⟩) N N)) g hs' gs' (i + 1) N (row0 i M) ∧ hs'.size = n ∧ (0 < N → gs' i = G) ∧ hs'[i]? = some (.slice (some ⟨G, 0, none⟩) N N) := by
  have h1 : OwnM B wr g hs gs i N (row0 i M) := h.congr (fun j k hj _ => by unfold row0; rw [if_neg (by omega)])
  have hR : RowO wr.heap.size w2 26 (some ⟨G, 0, none⟩) N N (u64 (row0 i M i)) :=
    ⟨Nat.le_refl _, by omega, fun _ => ⟨G, _, rfl, hG, hb, fun k hk => by unfold u64 row0; rw [if_pos rfl, fzero_val]; simp [hk]⟩⟩
  obtain ⟨gs', h2⟩ := h1.push hR hq (by omega)
  have e : (hs.setIfInBounds i (.slice (some ⟨G, 0, none⟩) N N))[i]? = some (.slice (some ⟨G, 0, none⟩) N N) := by simp [hs2, hi]
  refine ⟨_, gs', h2, by simp [hs2], fun hN0 => ?_, e⟩
  obtain ⟨A, c, e1, _, e2⟩ := h2.row i (by omega)
  rw [e] at e1
  injection e1 with e1
  injection e1 with e1 _ _
  rw [e2 hN0] at e1
  injection e1 with e1
  injection e1 with e1
  exact e1.symm
set_option maxRecDepth 100000 in
theorem blk_ne {w : World} {a b : Nat} {t t' : TypeId} {cs cs' : Array Value} (h : Blk w a t cs) (h' : Blk w b t' cs') (hne : t ≠ t') : a ≠ b := by
  rintro rfl
  unfold Blk at h h'
  rw [h] at h'
  injection h' with h'
  injection h' with _ h'
  exact hne h'
/-- Row i filled up to k. -/
def rowk (i k : Nat) (Z : Nat → Nat → Int) : Mt p := fun j l => if j < i then zf (Z j l) else if l < k then zf (Z j l) else 0

set_option maxRecDepth 100000 in
theorem rowk_0 (i : Nat) (Z : Nat → Nat → Int) (j l : Nat) (h : j < i + 1) : (row0 i (fun i k => (zf (Z i k) : Fin p)) j l) = rowk i 0 Z j l := by
  unfold row0 rowk
  by_cases e : j = i
  · subst e; simp
  · rw [if_neg e, if_pos (by omega)]
set_option maxRecDepth 100000 in
theorem rowk_all (i W : Nat) (Z : Nat → Nat → Int) (j l : Nat) (hl : l < W) : (rowk i W Z j l : Fin p) = zf (Z j l) := by
  unfold rowk; rw [if_pos hl]; split <;> rfl
set_option maxRecDepth 100000 in
theorem rowk_s (i k : Nat) (Z : Nat → Nat → Int) (l : Nat) : (rowk i (k + 1) Z i l : Fin p) = if l = k then zf (Z i k) else rowk i k Z i l := by
  unfold rowk
  simp only [show ¬ i < i from Nat.lt_irrefl i, if_false]
  by_cases e : l = k
  · rw [if_pos (by omega), if_pos e, e]
  · by_cases e2 : l < k
    · rw [if_pos (by omega), if_neg e, if_pos e2]
    · rw [if_neg (by omega), if_neg e, if_neg e2]
set_option maxRecDepth 100000 in
theorem rowk_o (i k k' : Nat) (Z : Nat → Nat → Int) (j l : Nat) (h : j < i) : (rowk i k Z j l : Fin p) = rowk i k' Z j l := by
  unfold rowk; rw [if_pos h, if_pos h]
set_option maxRecDepth 100000 in
/-- One element more. -/
theorem red_round {w1 wx w6 : World} {K G Gi i k W : Nat} {hs ck : Array Value} {gs : Nat → Nat} {Z : Nat → Nat → Int} {v : Value} (h : OwnM w1.heap.size wx G hs gs (i + 1) W (rowk i k Z : Mt p)) (hK : Blk wx K 29 ck)
    (hq : Q w1 wx) (hq6 : Q wx w6) (hk : k < W) (eG : gs i = Gi) (ev : v = .int .u64 ((zf (Z i k) : Fin p) : Nat)) :
    (∃ k1 : Nat, Value.int .i64 ((k : Int) + 1) = .int .i64 k1 ∧ k1 ≤ W ∧ OwnM w1.heap.size (w6.setCell ⟨Gi, k, none⟩ v) G hs gs (i + 1) W (rowk i k1 Z : Mt p) ∧ Blk (w6.setCell ⟨Gi, k, none⟩ v) K 29 ck ∧ Q w1 (w6.setCell ⟨Gi, k, none⟩ v)) ∧
      W - (intOf (Value.int .i64 ((k : Int) + 1))).toNat < W - (intOf (Value.int .i64 (k : Int))).toNat := by
  subst ev eG
  have h6 := h.q hq6
  obtain ⟨hge, _, cs, hb, hc⟩ := h6.own (by omega) i (by omega)
  have hne : K ≠ gs i := blk_ne (hK.q hq6) hb (by decide)
  have hc2 : Cells (cs.setIfInBounds k (.int .u64 ((zf (Z i k) : Fin p) : Nat))) W (rowk i (k + 1) Z i : Nat → Fin p) := Cells.set hc hk (fun j _ => rowk_s i k Z j)
  have h7 := h6.upd (by omega) (show i < i + 1 by omega) ((Upd.refl (gs i) w6).setCell k (.int .u64 ((zf (Z i k) : Fin p) : Nat))) (hb.set k _) hc2
  refine ⟨⟨k + 1, rfl, by omega, h7.congr (fun j l hj _ => ?_), (hK.q hq6).far (by dsimp only; exact hne) _, (hq.trans hq6).setCell hge _⟩, ?_⟩
  · by_cases e : j = i
    · rw [if_pos e, e]
    · rw [if_neg e]; exact rowk_o i k (k + 1) Z j l (by omega)
  · simp only [intOf]; omega
set_option maxHeartbeats 2000000 in
set_option maxRecDepth 100000 in
theorem reduceM_any (hp : Fp p) (v : Value) (n W : Nat) (Z : Nat → Nat → Int) (w : World) (h : MatV w v n W Z) (hn : n ≤ 1024) (hW : W ≤ 1024) :
    Calls Try.prog 43 #[.int .u64 p, v] w (ModQ w n W (fun i k => (zf (Z i k) : Fin p))) := by
  have HP := Lib.hid hp
  obtain ⟨A, c, rfl, hR⟩ := h
  obtain ⟨i0, hi, hz0, hz1, hz2⟩ := info_parts info_row
  obtain ⟨j0, hj, hy0, hy1, hy2⟩ := info_parts info_u64
  have hmk := mk_any 27 44 i0 (.slice none 0 0) 24 Try.underlying27 hi hz0 hz1 hz2 (by omega) rfl (n : Int) n rfl (by omega)
  have hmk2 := mk_any 44 26 j0 (.int .u64 0) 8 Try.underlying44 hj hy0 hy1 hy2 (by omega) rfl (W : Int) W (by omega) (by omega)
  have hcap := hR.cap
  obtain ⟨w1, hw1⟩ : ∃ w1, (w.alloc (.cells #[.int .i64 n, .int .i64 W, .slice A n c] 68)).alloc (.cells #[.int .u64 0, .int .i64 0, .slice none 0 0] 29) = w1 := ⟨_, rfl⟩
  have hq1 : Q w w1 := hw1 ▸ ((Q.refl w).alloc _).alloc _
  have hB1 : Blk w1 w.heap.size 68 #[.int .i64 n, .int .i64 W, .slice A n c] := hw1 ▸ (Blk.new w _ _).alloc _
  have hB2 : Blk w1 (w.heap.size + 1) 29 #[.int .u64 0, .int .i64 0, .slice none 0 0] := hw1 ▸ Blk.new' _ _ _ (by simp)
  obtain ⟨b0, b1, b2⟩ := hB1.three'
  have hl1 := hB1.lt
  have HR := Lib.hid (hR.q hq1)
  have HQ1 := Lib.hid hq1
  have HB1 := Lib.hid hB1
  have HB2 := Lib.hid hB2
  clear hp hR hq1 hB1 hB2
  go_enter Try.func43, Try.ntmps43
  go_upto_region 1 with (fail)
  go_cut [5] (fun s5 wx => ∃ K G, s5 = .pointer (some ⟨K, 0, none⟩) ∧ Blk wx K 29 #[.int .u64 p, .int .i64 W, .slice (some ⟨G, 0, none⟩) n n] ∧ Blk wx G 44 (Array.replicate n (.slice none 0 0)) ∧ K ≠ G ∧ w1.heap.size ≤ G ∧ w1.heap.size ≤ K ∧ Q w1 wx)
  case first =>
    go_region
    all_goals go_wp2_with fail
    all_goals go_meet
    · exact ⟨_, _, rfl, (Blk.new' _ _ _ (by simp)).drew, ((Blk.new w1 _ _).alloc _).drew, by omega, Nat.le_refl _, by omega, (((Q.refl w1).alloc _).alloc _).drew⟩
    · exact ⟨_, _, rfl, ((Blk.new w1 _ _).alloc _).drew, (Blk.new' _ _ _ (by simp)).drew, by omega, by omega, Nat.le_refl _, (((Q.refl w1).alloc _).alloc _).drew⟩
  case rest =>
    obtain ⟨K, G, rfl, hK, hG, hKG, hGw, hKw, hq⟩ := hcut
    clear hmk
    obtain ⟨d0, d1, d2⟩ := (HB1.out.q hq).three'
    have HK := Lib.hid hK
    have HG := Lib.hid hG
    have HQ := Lib.hid hq
    clear hK hG hq hw1 b0 b1 b2
    go_wp2_with fail
    go_loopw [21] (fun iv' wx => ∃ (i : Nat) (hs : Array Value) (gs : Nat → Nat), iv' = .int .i64 i ∧ i ≤ n ∧ hs.size = n ∧ OwnM w1.heap.size wx G hs gs i W (fun i k => (zf (Z i k) : Fin p)) ∧ Blk wx K 29 #[.int .u64 p, .int .i64 W, .slice (some ⟨G, 0, none⟩) n n] ∧ Q w1 wx) (fun iv' _ => n - (intOf iv').toNat)
    case atStart => exact ⟨0, _, _, rfl, Nat.zero_le _, by simp, own_start _ HG.out hGw, HK.out, HQ.out⟩
    case round =>
      clear d0 d1 d2
      obtain ⟨i, hs, gs, rfl, hin, hsz, hO, hK, hq⟩ := hrel
      obtain ⟨d0, d1, d2⟩ := (HB1.out.q hq).three'
      obtain ⟨e0, e1, e2⟩ := hK.three'
      by_cases hlt : i < n
      · obtain ⟨b, o, r, rfl, hb, hc1, hSl⟩ := HR.out.at hlt
        have hc1 := hq.cell hc1
        obtain ⟨B, cb, rfl, hSI⟩ := hSl
        obtain ⟨u, hu⟩ : ∃ u, hs[i]? = some u := ⟨_, Array.getElem?_eq_getElem (by omega)⟩
        have k1 := (hO.head.cell i).trans hu
        have f1 := hO.head.frozen i
        have hgl := hO.head.lt
        have hKl := hK.lt
        have k1a := fun o => ((Q.refl wr).alloc o).cell k1
        have f1a := fun o => (((Q.refl wr).alloc o).frozen (p := ⟨G, i, none⟩) hgl).trans f1
        have hi2 : (i : Int) < (n : Int) := by omega
        obtain ⟨hs', gs', hO2, hs2, hg2, he2⟩ := lay_row hO hsz hq.size (w2 := wr.alloc (.cells (Array.replicate W (.int .u64 0)) 26)) (Blk.new _ _ _) (Nat.le_refl _) ((Q.refl wr).alloc _) (by omega) hlt
        rw [World.setCell_alloc_past _ _ _ _ hgl] at hO2
        obtain ⟨Gi, hGi⟩ : ∃ Gi, wr.heap.size = Gi := ⟨_, rfl⟩
        have hg3 : 0 < W → gs' i = Gi := fun h => (hg2 h).trans hGi
        have he3 : hs'[i]? = some (.slice (some ⟨Gi, 0, none⟩) W W) := by rw [← hGi]; exact he2
        have HG3 := @Lib.hid _ hg3
        have HE3 := Lib.hid he3
        clear hGi hg3 he3
        have HSZ := Lib.hid hsz
        have HO := Lib.hid hO
        have HK2 := Lib.hid hK
        have HQ2 := Lib.hid hq
        have HSI := Lib.hid hSI
        have HO2 := Lib.hid hO2
        have HS2 := Lib.hid hs2
        have HG2 := @Lib.hid _ hg2
        have HE2 := Lib.hid he2
        clear hsz hO hK hq hSI hO2 hs2 hg2 he2 hu
        go_upto_region 5 with (fail)
        go_cut [] (fun wx => wx = ((wr.setCell ⟨G, i, none⟩ (.slice (some ⟨wr.heap.size, 0, none⟩) W W)).alloc (.cells (Array.replicate W (.int .u64 0)) 26)).drew)
        case first =>
          go_region
          all_goals go_wp2_with fail
          all_goals go_meet
          all_goals rfl
        case rest =>
          obtain ⟨w5, hw5⟩ : ∃ w5, ((wr.setCell ⟨G, i, none⟩ (.slice (some ⟨wr.heap.size, 0, none⟩) W W)).alloc (.cells (Array.replicate W (.int .u64 0)) 26)).drew = w5 := ⟨_, rfl⟩
          have hO5 : OwnM w1.heap.size w5 G hs' gs' (i + 1) W (rowk i 0 Z : Mt p) := by
            rw [← hw5]
            exact (HO2.out.q ((Q.refl _).drew)).congr (fun j l hj _ => rowk_0 i Z j l hj)
          have hK5 : Blk w5 K 29 #[.int .u64 p, .int .i64 W, .slice (some ⟨G, 0, none⟩) n n] := by
            rw [← hw5]
            exact ((HK2.out.far (p := ⟨G, i, none⟩) (by dsimp only; exact hKG) _).alloc _).drew
          have hq5 : Q w1 w5 := by
            rw [← hw5]
            exact ((HQ2.out.setCell (by dsimp only; exact hGw) _).alloc _).drew
          have hcut' := hcut
          rw [hw5] at hcut'
          subst hcut'
          have HO5 := Lib.hid hO5
          have HK5 := Lib.hid hK5
          have HQ5 := Lib.hid hq5
          clear hO5 hK5 hq5 hw5 hcut HO HO2 HK2 k1 f1 k1a f1a d0 d1 d2 e0 e1 e2 hmk2
          go_wp2_with fail
          go_loopw [35] (fun kv wx => ∃ k : Nat, kv = .int .i64 k ∧ k ≤ W ∧ OwnM w1.heap.size wx G hs' gs' (i + 1) W (rowk i k Z : Mt p) ∧ Blk wx K 29 #[.int .u64 p, .int .i64 W, .slice (some ⟨G, 0, none⟩) n n] ∧ Q w1 wx) (fun kv _ => W - (intOf kv).toNat)
          case atStart => exact ⟨0, rfl, Nat.zero_le _, HO5.out, HK5.out, HQ5.out⟩
          case round =>
            obtain ⟨k, rfl, hkW, hO, hK, hq⟩ := hrel
            by_cases hk : k < W
            · obtain ⟨b2, o2, ng, B2, d2, l2, rfl, hb2, m0, m1, hIA⟩ := (HSI.out.q hq).at hk
              obtain ⟨_, _, e2⟩ := hK.three'
              have k3 := (hO.head.cell i).trans HE3.out
              have hGi := HG3.out (by omega)
              obtain ⟨_, _, csi, hbi, hxi⟩ := hO.own (by omega) i (by omega)
              rw [hGi] at hbi
              have k4 := (hbi.cell k).trans (hxi k hk)
              have f4 := hbi.frozen k
              have hl2 := hK.lt
              have hl3 := hO.head.lt
              have hl4 := hbi.lt
              have hp0 : 0 < p := by have := HP.out.two; omega
              have hple := HP.out.le
              have hk2 : (k : Int) < (W : Int) := by omega
              have hiv : IntV ((wr.alloc (.cells #[.bool ng, .slice B2 (List.length l2) d2] 73)).drew) (.agg #[.bool ng, .slice B2 (List.length l2) d2]) (Z i k) := ⟨ng, B2, d2, l2, rfl, hIA.q ((Q.refl wr).alloc _).drew⟩
              have HIV := Lib.hid hiv
              have HOI := Lib.hid hO
              have HKI := Lib.hid hK
              have HQI := Lib.hid hq
              have HGI := Lib.hid hGi
              clear hIA hiv hO hK hq hGi hbi hxi
              go_wp2_with fail
              go_region_law (first | (go_simp; go_at_call 67; refine (mod_reduce p _ (Z i k) _ hp0 hple HIV.out).mono ?_; rintro e w6 ⟨rfl, hq6⟩; have hq7 := (((Q.refl wr).alloc _).drew).trans hq6; clear hq6; have e2b := hq7.cell e2; have k3b := hq7.cell k3; have k4b := hq7.cell k4; have f4b := (hq7.frozen (p := ⟨Gi, k, none⟩) hl4).trans f4))
              all_goals
                go_wp2_with fail
                exact red_round HOI.out HKI.out HQI.out hq7 hk HGI.out rfl
            · obtain rfl : W = k := by omega
              have HOI := Lib.hid (hO.congr (M' := fun i k => (zf (Z i k) : Fin p)) (fun j l _ hl => rowk_all i W Z j l hl))
              have HKI := Lib.hid hK
              have HQI := Lib.hid hq
              clear hO hK hq
              go_wp2_with fail
              refine ⟨⟨i + 1, hs', gs', rfl, by omega, HS2.out, HOI.out, HKI.out, HQI.out⟩, ?_⟩
              simp only [intOf]; omega
      · obtain rfl : n = i := by omega
        have hB7 := HB2.out.q hq
        obtain ⟨g0, g1, g2⟩ := hB7.three'
        have f0 := hB7.frozen 0
        have f1 := hB7.frozen 1
        have f2 := hB7.frozen 2
        have hl7 := hB7.lt
        have HO := Lib.hid hO
        have HQ2 := Lib.hid hq
        clear hO hK hq hB7 hmk2
        go_wp2_with fail
        refine bodyPost_ret (v := .agg #[.int .u64 p, .int .i64 W, .slice (some ⟨G, 0, none⟩) n n]) (by simp [results, Try.results43, go_sem, g0, g1, g2]) rfl ?_
        exact mod_end0 (((Upd.refl _ _).setCell _ _).setCell _ _ |>.setCell _ _) (HO.out.rowsO (by omega) (by omega) (Nat.le_refl _)) HQ1.out HQ2.out HB2.out.lt (Nat.le_refl _) (by omega)
end
end Go.Proofs.Ytcjpjnneimjfiaa
