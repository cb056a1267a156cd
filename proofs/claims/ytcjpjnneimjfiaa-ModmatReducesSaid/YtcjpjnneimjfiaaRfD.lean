/-
  Sized, Made, Square and Vector.
-/
import Derived.Test.YtcjpjnneimjfiaaRfB
import Derived.Test.YtcjpjnneimjfiaaMmG
namespace Go.Proofs.Ytcjpjnneimjfiaa
open Go.RowKit
section

/-- The argument: rows of uint32. -/
def Rows32 (w : World) (A : Option Addr) (c : Nat) (L : List (List Nat)) : Prop := ∃ ρ, Sc w A L.length c ρ ∧ ∀ i l, L[i]? = some l → ∃ A' c', ρ i = .slice A' l.length c' ∧ Lm w A' c' l
set_option maxRecDepth 100000 in
theorem Rows32.q {w w' : World} {A : Option Addr} {c : Nat} {L : List (List Nat)} (h : Rows32 w A c L) (hq : Q w w') : Rows32 w' A c L := by
  obtain ⟨ρ, h1, h2⟩ := h
  exact ⟨ρ, h1.q hq, fun i l e => by
    obtain ⟨A', c', e1, hl⟩ := h2 i l e
    exact ⟨A', c', e1, hl.q hq⟩⟩
set_option maxRecDepth 100000 in
theorem Rows32.at {w : World} {A : Option Addr} {c : Nat} {L : List (List Nat)} (h : Rows32 w A c L) {i : Nat} (hi : i < L.length) :
    ∃ b o l A' c', A = some ⟨b, o, none⟩ ∧ b < w.heap.size ∧ L[i]? = some l ∧ w.cell? ⟨b, o + i, none⟩ = some (.slice A' (List.length l) c') ∧ Lm w A' c' l := by
  obtain ⟨ρ, h1, h2⟩ := h
  obtain ⟨b, o, e, hb, hc⟩ := h1.at hi
  obtain ⟨A', c', e1, hl⟩ := h2 i _ (List.getElem?_eq_getElem hi)
  exact ⟨b, o, _, A', c', e, hb, List.getElem?_eq_getElem hi, by rw [hc, e1], hl⟩
set_option maxRecDepth 100000 in
theorem Rows32.cap {w : World} {A : Option Addr} {c : Nat} {L : List (List Nat)} (h : Rows32 w A c L) : L.length ≤ c := by obtain ⟨ρ, h1, _⟩ := h; exact h1.1
set_option maxRecDepth 100000 in
theorem Rows32.len {w : World} {A : Option Addr} {c : Nat} {L : List (List Nat)} (h : Rows32 w A c L) : L.length ≤ 140737488355328 := by obtain ⟨ρ, h1, _⟩ := h; exact h1.2.1
def RawV (w : World) (v : Value) (P C : Nat) (L : List (List Nat)) : Prop := ∃ A c, v = .agg #[.int .u8 (P : Int), .int .u8 (C : Int), .slice A L.length c] ∧ Rows32 w A c L
set_option maxRecDepth 100000 in
theorem RawV.q {w w' : World} {v : Value} {P C : Nat} {L : List (List Nat)} (h : RawV w v P C L) (hq : Q w w') : RawV w' v P C L := by
  obtain ⟨A, c, e, hr⟩ := h
  exact ⟨A, c, e, hr.q hq⟩
variable {p : Nat} [NeZero p]
/-- A row of numbers as elements; what is missing is 0. -/
def rowF (l : List Nat) : Nat → Fin p := fun k => Fin.ofNat p (l.getD k 0)
def szM (L : List (List Nat)) : Mt p := fun i => rowF (L.getD i [])
set_option maxRecDepth 100000 in
theorem ofNat0 : (Fin.ofNat p 0 : Fin p) = 0 := rfl
/-- The row, filled up to k. -/
def szk (l : List Nat) (k : Nat) : Nat → Fin p := fun j => if j < k then rowF l j else 0
set_option maxRecDepth 100000 in
theorem szk_s (l : List Nat) (k j : Nat) : (szk l (k + 1) j : Fin p) = if j = k then rowF l k else szk l k j := by
  unfold szk
  by_cases e : j = k
  · rw [if_pos (by omega), if_pos e, e]
  · by_cases e2 : j < k
    · rw [if_pos (by omega), if_neg e, if_pos e2]
    · rw [if_neg (by omega), if_neg e, if_neg e2]
set_option maxRecDepth 100000 in
theorem szk_end (l : List Nat) {k : Nat} (h : l.length ≤ k) (j : Nat) : (szk l k j : Fin p) = rowF l j := by
  unfold szk
  by_cases e : j < k
  · rw [if_pos e]
  · rw [if_neg e]; unfold rowF
    rw [List.getD_eq_getElem?_getD, List.getElem?_eq_none (by omega)]; rfl
set_option maxRecDepth 100000 in
/-- One element of the new row. -/
theorem sz_round {w wr : World} {G cols k : Nat} {cs : Array Value} {l : List Nat} {x : Nat} {z : Value} (hb : Blk wr G 26 cs) (hc : Cells cs cols (szk l k : Nat → Fin p)) (hq : Below G w wr) (hk : k < cols) (hx : l[k]? = some x) (e : z = .int .u64 ((x % p : Nat) : Int)) :
    (∃ (k1 : Nat) (cs : Array Value), Value.int .i64 ((k : Int) + 1) = .int .i64 k1 ∧ k1 ≤ cols ∧ Blk (wr.setCell ⟨G, k, none⟩ z) G 26 cs ∧ Cells cs cols (szk l k1 : Nat → Fin p) ∧ Below G w (wr.setCell ⟨G, k, none⟩ z)) ∧
      cols - (intOf (Value.int .i64 ((k : Int) + 1))).toNat < cols - (intOf (Value.int .i64 (k : Int))).toNat := by
  have e2 : z = .int .u64 (((rowF l k : Fin p) : Nat) : Int) := by
    rw [e]; unfold rowF
    rw [List.getD_eq_getElem?_getD, hx]; rfl
  subst e2
  refine ⟨⟨k + 1, _, rfl, by omega, hb.set k _, hc.set hk (fun j _ => szk_s l k j), Below.setCell hq (Nat.le_refl _) _⟩, ?_⟩
  simp only [intOf]; omega
set_option maxHeartbeats 2000000 in
set_option maxRecDepth 100000 in
theorem vector_any (hp : Fp p) (va : Value) (l : List Nat) (n : Nat) (w : World) (A : Option Addr) (c : Nat) (hv : va = .slice A l.length c) (hl : Lm w A c l) (hn : n ≤ 4096) :
    Calls Try.prog 30 #[va, .int .u64 p, .int .i64 n] w (RowQ w n (rowF l : Nat → Fin p)) := by
  subst hv
  obtain ⟨j0, hj, hy0, hy1, hy2⟩ := info_parts info_u64
  have hmk2 := mk_any 44 26 j0 (.int .u64 0) 8 Try.underlying44 hj hy0 hy1 hy2 (by omega) rfl (n : Int) n rfl (by omega)
  have hcap := hl.cap
  have hlen := hl.len
  have hp0 : 0 < p := by have := hp.two; omega
  have hpb : ((p : Int) == 0) = false := by rw [beq_eq_false_iff_ne]; omega
  have HP := Lib.hid hp
  have HL := Lib.hid hl
  clear hp hl
  go_enter Try.func30, Try.ntmps30
  go_wp2_with fail
  clear hmk2
  go_loopw [8] (fun iv' wr => ∃ (k : Nat) (cs : Array Value), iv' = .int .i64 k ∧ k ≤ n ∧ Blk wr w.heap.size 26 cs ∧ Cells cs n (szk l k : Nat → Fin p) ∧ Below w.heap.size w wr) (fun iv' _ => n - (intOf iv').toNat)
  case atStart => exact ⟨0, _, rfl, Nat.zero_le _, Blk.new _ _ _, fun j hj => by show _ = some (Value.int .u64 (((0 : Fin p) : Nat) : Int)); rw [fzero_val]; simp [hj], (Q.refl w).alloc _⟩
  case round =>
    obtain ⟨k, cs, rfl, hk, hb, hc, hq⟩ := hrel
    by_cases h1 : k < n
    · by_cases h2 : k < l.length
      · obtain ⟨b, o, x, rfl, hb1, hx, hx2, hcx⟩ := (HL.out.q hq).at h2
        have k1 := hc.cell hb h1 rfl
        have f1 := hb.frozen k
        have HB := @Lib.hid _ hb
        have HC := @Lib.hid _ hc
        have HQ := Lib.hid hq
        have HX := Lib.hid hx
        clear hb hc hq hx
        go_wp2_with fail
        exact sz_round HB.out HC.out HQ.out h1 HX.out rfl
      · have HB := @Lib.hid _ hb
        have HC := @Lib.hid _ hc
        have HQ := Lib.hid hq
        clear hb hc hq
        go_wp2_with fail
        go_ret
        exact ⟨_, _, rfl, ⟨Nat.le_refl _, by omega, fun _ => ⟨_, cs, rfl, Nat.le_refl _, HB.out, fun j hj => by rw [HC.out j hj, szk_end l (by omega)]; rfl⟩⟩, HQ.out⟩
    · have HB := @Lib.hid _ hb
      have HC := @Lib.hid _ hc
      have HQ := Lib.hid hq
      clear hb hc hq
      go_wp2_with fail
      go_ret
      exact ⟨_, _, rfl, ⟨Nat.le_refl _, by omega, fun _ => ⟨_, cs, rfl, Nat.le_refl _, HB.out, fun j hj => by rw [HC.out j hj]; unfold szk; rw [if_pos (by omega)]; rfl⟩⟩, HQ.out⟩

set_option maxHeartbeats 2000000 in
set_option maxRecDepth 100000 in
theorem sized_any (hp : Fp p) (v : Value) (P C : Nat) (L : List (List Nat)) (rows cols : Nat) (w : World) (h : RawV w v P C L) (hP : prN P = p) (hP2 : P < 256) (hr : rows ≤ 1024) (hc : cols ≤ 1024) :
    Calls Try.prog 33 #[v, .int .i64 rows, .int .i64 cols] w (ModQ w rows cols (szM L : Mt p)) := by
  obtain ⟨A, c, rfl, hR⟩ := h
  obtain ⟨i0, hi, hz0, hz1, hz2⟩ := info_parts info_row
  obtain ⟨j0, hj, hy0, hy1, hy2⟩ := info_parts info_u64
  have hmk2 := mk_any 44 26 j0 (.int .u64 0) 8 Try.underlying44 hj hy0 hy1 hy2 (by omega) rfl (cols : Int) cols rfl (by omega)
  have hcap := hR.cap
  have hlen := hR.len
  have hp0 : 0 < p := by have := hp.two; omega
  have hpb : ((p : Int) == 0) = false := by rw [beq_eq_false_iff_ne]; omega
  obtain ⟨w1, hw1⟩ : ∃ w1, (w.alloc (.cells #[.int .u8 P, .int .u8 C, .slice A L.length c] 24)).alloc (.cells #[.int .u64 0, .int .i64 0, .slice none 0 0] 29) = w1 := ⟨_, rfl⟩
  have hq1 : Q w w1 := hw1 ▸ ((Q.refl w).alloc _).alloc _
  have hB1 : Blk w1 w.heap.size 24 #[.int .u8 P, .int .u8 C, .slice A L.length c] := hw1 ▸ (Blk.new w _ _).alloc _
  have hB2 : Blk w1 (w.heap.size + 1) 29 #[.int .u64 0, .int .i64 0, .slice none 0 0] := hw1 ▸ Blk.new' _ _ _ (by simp)
  obtain ⟨b0, b1, b2⟩ := hB1.three'
  have HR := Lib.hid (hR.q hq1)
  have HQ1 := Lib.hid hq1
  have HB1 := Lib.hid hB1
  have HB2 := Lib.hid hB2
  have HP := Lib.hid hp
  have HPP := Lib.hid hP
  clear hp hR hq1 hB1 hB2 hP
  go_enter Try.func33, Try.ntmps33
  go_wp2_with fail
  clear hw1
  refine (madeP P _ hP2).mono ?_
  rintro e w2 ⟨rfl, hq2⟩
  rw [HPP.out]
  have HQ2 := Lib.hid hq2
  clear hq2 b0 b1 b2
  go_wp2_with fail
  go_loopw [9] (fun iv' wr => ∃ (i : Nat) (A2 : Option Addr) (c2 : Nat) (ρ : Nat → Value), iv' = .int .i64 i ∧ i ≤ rows ∧ Bld w2 wr w2.heap.size p cols i A2 c2 cols ρ (szM L : Mt p)) (fun iv' _ => rows - (intOf iv').toNat)
  case atStart => exact ⟨0, none, 0, fun _ => .slice none 0 0, rfl, Nat.zero_le _, Bld.start (Blk.new _ _ _) ((Q.refl _).alloc _) (Nat.le_refl _)⟩
  case round =>
    obtain ⟨i, A2, c2, ρ, rfl, hir, hB⟩ := hrel
    have HBL := Lib.hid hB
    clear hB
    by_cases hlt : i < rows
    · obtain ⟨G, hG⟩ : ∃ G, wr.heap.size = G := ⟨_, rfl⟩
      have HG := Lib.hid hG
      have hqw : ∀ wx, Below G wr wx → Q wr wx := fun wx h => by rw [← hG] at h; exact h
      have HQW := @Lib.hid _ hqw
      have hKG : w2.heap.size < G := by rw [← hG]; exact HBL.out.lt
      clear hG hqw
      go_wp2_with fail
      rw [HG.out]
      go_loopw [11] (fun kv wx => ∃ (k : Nat) (cs : Array Value), kv = .int .i64 k ∧ k ≤ cols ∧ Blk wx G 26 cs ∧ Cells cs cols (szk (L.getD i []) k : Nat → Fin p) ∧ Below G wr wx) (fun kv _ => cols - (intOf kv).toNat)
      case atStart => exact ⟨0, _, rfl, Nat.zero_le _, Blk.new' _ _ _ HG.out, fun j hj => by show _ = some (Value.int .u64 (((0 : Fin p) : Nat) : Int)); rw [fzero_val]; simp [hj], HG.out ▸ (Q.refl wr).alloc _⟩
      case round =>
        obtain ⟨k, cs, rfl, hk, hb, hc, hq⟩ := hrel
        obtain ⟨b0, b1, b2⟩ := (HB1.out.q ((HQ2.out.trans HBL.out.q).trans (HQW.out _ hq))).three'
        have HB := @Lib.hid _ hb
        have HC := @Lib.hid _ hc
        have HQ := Lib.hid hq
        have HRW := Lib.hid (HR.out.q ((HQ2.out.trans HBL.out.q).trans (HQW.out _ hq)))
        clear hb hc hq
        by_cases h1 : k < cols
        · by_cases h2 : i < L.length
          · obtain ⟨b, o, l, A', c', rfl, hbo, hl, hcl, hLm⟩ := HRW.out.at h2
            have hlD : L.getD i [] = l := by rw [List.getD_eq_getElem?_getD, hl]; rfl
            have hcap2 := hLm.cap
            have hlen2 := hLm.len
            have HLD := Lib.hid hlD
            have HLM := Lib.hid hLm
            clear hl hlD hLm
            by_cases h3 : k < l.length
            · obtain ⟨b', o', x, rfl, hb1, hx, hx2, hcx⟩ := HLM.out.at h3
              have k1 := HC.out.cell HB.out h1 rfl
              have f1 := HB.out.frozen k
              have HX := Lib.hid hx
              clear hx
              go_wp2_with fail
              exact sz_round HB.out HC.out HQ.out h1 (by rw [HLD.out]; exact HX.out) rfl
            · obtain ⟨k0, k1, k2⟩ := (HBL.out.move (HQW.out _ HQ.out)).box.three'
              have f2 := (HBL.out.move (HQW.out _ HQ.out)).box.frozen 2
              have hKl := (HBL.out.move (HQW.out _ HQ.out)).lt
              have hbw := HB.out.lt
              go_wp2_with (at_builtin; go_must (refine wpList_app1g rfl _ _ 27 rfl (w2.heap.size + 1) 44 i0 (.slice none 0 0) 24 Try.underlying27 hi hz0 hz1 hz2 rfl _ i (tab ρ i) rfl (HBL.out.move (HQW.out _ HQ.out)).own _ rfl rfl (by omega) (by decide) (by omega) ?_); intro A8 c8 w4 hown8 hg8; have hb8 := HBL.out.grown ((HQW.out _ HQ.out).alloc _) hg8; have k2c := hb8.cell 2; have f2c := hb8.frozen 2; have hl4 := hb8.lt)
              exact bld_round HBL.out ((HQW.out _ HQ.out).alloc _) ⟨Nat.le_refl _, by omega, fun _ => ⟨G, cs, rfl, by omega, HB.out.alloc _, fun j hj => by rw [HC.out j hj]; exact congrArg (fun x : Fin p => some (Value.int .u64 ((x : Nat) : Int))) (by unfold szM; rw [HLD.out]; exact szk_end (p := p) l (by omega) j)⟩⟩ hown8 hg8 hb8 hlt
          · obtain ⟨k0, k1, k2⟩ := (HBL.out.move (HQW.out _ HQ.out)).box.three'
            have f2 := (HBL.out.move (HQW.out _ HQ.out)).box.frozen 2
            have hKl := (HBL.out.move (HQW.out _ HQ.out)).lt
            have hbw := HB.out.lt
            go_wp2_with (at_builtin; go_must (refine wpList_app1g rfl _ _ 27 rfl (w2.heap.size + 1) 44 i0 (.slice none 0 0) 24 Try.underlying27 hi hz0 hz1 hz2 rfl _ i (tab ρ i) rfl (HBL.out.move (HQW.out _ HQ.out)).own _ rfl rfl (by omega) (by decide) (by omega) ?_); intro A8 c8 w4 hown8 hg8; have hb8 := HBL.out.grown ((HQW.out _ HQ.out).alloc _) hg8; have k2c := hb8.cell 2; have f2c := hb8.frozen 2; have hl4 := hb8.lt)
            exact bld_round HBL.out ((HQW.out _ HQ.out).alloc _) ⟨Nat.le_refl _, by omega, fun _ => ⟨G, cs, rfl, by omega, HB.out.alloc _, fun j hj => by rw [HC.out j hj]; exact congrArg (fun x : Fin p => some (Value.int .u64 ((x : Nat) : Int))) (by
              have e : L.getD i [] = [] := by rw [List.getD_eq_getElem?_getD, List.getElem?_eq_none (by omega)]; rfl
              unfold szM; rw [e]; exact szk_end (p := p) [] (Nat.zero_le _) j)⟩⟩ hown8 hg8 hb8 hlt
        · obtain ⟨k0, k1, k2⟩ := (HBL.out.move (HQW.out _ HQ.out)).box.three'
          have f2 := (HBL.out.move (HQW.out _ HQ.out)).box.frozen 2
          have hKl := (HBL.out.move (HQW.out _ HQ.out)).lt
          have hbw := HB.out.lt
          go_wp2_with (at_builtin; go_must (refine wpList_app1g rfl _ _ 27 rfl (w2.heap.size + 1) 44 i0 (.slice none 0 0) 24 Try.underlying27 hi hz0 hz1 hz2 rfl _ i (tab ρ i) rfl (HBL.out.move (HQW.out _ HQ.out)).own _ rfl rfl (by omega) (by decide) (by omega) ?_); intro A8 c8 w4 hown8 hg8; have hb8 := HBL.out.grown ((HQW.out _ HQ.out).alloc _) hg8; have k2c := hb8.cell 2; have f2c := hb8.frozen 2; have hl4 := hb8.lt)
          exact bld_round HBL.out ((HQW.out _ HQ.out).alloc _) ⟨Nat.le_refl _, by omega, fun _ => ⟨G, cs, rfl, by omega, HB.out.alloc _, fun j hj => by rw [HC.out j hj]; exact congrArg (fun x : Fin p => some (Value.int .u64 ((x : Nat) : Int))) (by unfold szM szk; rw [if_pos (by omega)])⟩⟩ hown8 hg8 hb8 hlt
    · obtain rfl : rows = i := by omega
      have hq7 := HQ2.out.trans HBL.out.q
      have hB7 := HB2.out.q hq7
      obtain ⟨e0, e1, e2⟩ := hB7.three'
      obtain ⟨k0, k1, k2⟩ := HBL.out.box.three'
      have f0 := hB7.frozen 0
      have f1 := hB7.frozen 1
      have f2 := hB7.frozen 2
      have hl7 := hB7.lt
      have HQ7 := Lib.hid hq7
      clear hq7 hB7
      go_wp2_with fail
      refine bodyPost_ret (v := .agg #[.int .u64 p, .int .i64 cols, .slice A2 rows c2]) (by simp [results, Try.results33, go_sem, e0, e1, e2]) rfl ?_
      exact mod_end0 (((Upd.refl _ _).setCell _ _).setCell _ _ |>.setCell _ _) (HBL.out.rowsO (by omega)) HQ1.out HQ7.out HB2.out.lt (Nat.le_trans HQ2.out.size (by omega)) (by omega)
end
end Go.Proofs.Ytcjpjnneimjfiaa
