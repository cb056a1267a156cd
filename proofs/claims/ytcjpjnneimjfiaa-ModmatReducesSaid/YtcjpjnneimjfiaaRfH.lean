/-
  Copied and With.
-/
import Derived.Test.YtcjpjnneimjfiaaRfE
namespace Go.Proofs.Ytcjpjnneimjfiaa
open Go.RowKit
section
variable {P : Program} {w : World}
set_option maxRecDepth 100000 in
/-- append of a slice to a new empty one, in a region that draws its order. -/
theorem step_copy {ops : Array Oper} {o : Oper} {a : Act} {K : Act → World → Prop} {R : Exit → Act → World → Prop} {E : Prop} (hgd : o.guard = none) (s x : Operand) (t : TypeId)
    (ho : o.op = .call { callee := .builtin .append, args := #[s, x], argTypes := #[t, t] })
    (e : TypeId) (i : TypeInfo) (z : Value) (bytes : Nat) (ht : P.underlying t = some (.slice e)) (hi : P.info? e = some i) (hz : i.zero = some z)
    (hsize : i.size = 1) (hby : i.bytes = bytes) (hzs : z.cells.size = 1)
    (hs : a.eval s = .slice (some ⟨w.heap.size, 0, none⟩) 0 0)
    (φ : Nat → Value) (A : Option Addr) (m c : Nat) (hx : a.eval x = .slice A m c) (hA : Sc w A m c φ)
    (h1 : ∀ k, (φ k).oneCell' = true) (hm : m ≤ 1099511627776) (hb8 : bytes ≤ 24)
    (h : ∀ A' c' w', RowO w.heap.size w' e A' m c' φ → Q w w' → K (a.put o.dst (.slice A' m c')) w') :
    if Region.wanted o (yielded ops a.tmps) = true then Oper.wp P o a (w.alloc (.cells #[] e)) K R else E := by
  have hb24 : (0 + m) * bytes ≤ 140737488355328 := by
    rw [Nat.zero_add]
    have := Nat.mul_le_mul_left m hb8
    omega
  have hA' : Sc (w.alloc (.cells #[] e)) A m c φ := hA.q ((Q.refl w).alloc _)
  refine step_app hgd s x t ho w.heap.size e i z bytes ht hi hz hsize hby hzs _ 0 [] hs (own_new w e w.heap.size _ rfl (Nat.le_refl _)) A m c (tab φ m) hx (tab_len _ _) (fun hl => hA'.news hl) (fun u hu => ?_) (by unfold maxLen; omega) hb24 (by simp) ?_
  · obtain ⟨j, hj⟩ := List.mem_iff_getElem?.1 hu
    rw [(tab_some hj).2]; exact h1 _
  · intro A' c' w' hown hg
    rw [Nat.zero_add] at hown ⊢
    rw [List.nil_append] at hown
    obtain ⟨A3, c3, e3, hR⟩ := own_rowO hown rfl (by omega)
    injection e3 with e3 _ e4
    subst e3 e4
    exact h _ _ _ hR (grown_q ((Q.refl w).alloc _) hg (fun k e => by
      have e' : some w.heap.size = some k := e
      injection e' with e'
      omega))
end
section
variable {p : Nat}
/-- Rows of the call's own, and room behind them. -/
def OwnR (base : Nat) (w : World) (A : Option Addr) (n c W : Nat) (ρ : Nat → Value) (M : Nat → Nat → Fin p) : Prop :=
  w.ownsRow base 44 1 (.slice A n c) n (tab ρ n) ∧ ∀ i, i < n → ∃ A' c', ρ i = .slice A' W c' ∧ RowO base w 26 A' W c' (u64 (M i))
set_option maxRecDepth 100000 in
theorem OwnR.rowsO {base : Nat} {w : World} {A : Option Addr} {n c W : Nat} {ρ : Nat → Value} {M : Nat → Nat → Fin p} (h : OwnR base w A n c W ρ M) (hi : n ≤ 140737488355328) : RowsO base w A n c W M := by
  refine ⟨ρ, ?_, h.2⟩
  obtain ⟨A', c', e, hr⟩ := own_rowO h.1 rfl hi
  injection e with e1 _ e2
  subst e1 e2
  exact hr
set_option maxRecDepth 100000 in
theorem ownsRow_mono {w : World} {base base' t : Nat} {v : Value} {n : Nat} {xs : List Value} (h : w.ownsRow base t 1 v n xs) (e : base' ≤ base) : w.ownsRow base' t 1 v n xs := by
  rcases h with ⟨h1, h2 | ⟨g, cap, cur, e1, hb, h3⟩⟩
  · exact ⟨h1, .inl h2⟩
  · exact ⟨h1, .inr ⟨g, cap, cur, e1, Nat.le_trans e hb, h3⟩⟩
section
variable {base base' : Nat} {w w' w2a w3 : World} {A A' A2 : Option Addr} {n c W c' c2 : Nat} {ρ : Nat → Value} {M M' : Nat → Nat → Fin p} {x : Nat → Fin p}
set_option maxRecDepth 100000 in
theorem OwnR.q (h : OwnR base w A n c W ρ M) (hq : Q w w') : OwnR base w' A n c W ρ M :=
  ⟨ownsRow_q h.1 hq, fun i hi => by
    obtain ⟨A', c', e, hr⟩ := h.2 i hi
    exact ⟨A', c', e, hr.q hq⟩⟩
set_option maxRecDepth 100000 in
theorem OwnR.mono (h : OwnR base w A n c W ρ M) (e : base' ≤ base) : OwnR base' w A n c W ρ M :=
  ⟨ownsRow_mono h.1 e, fun i hi => by
    obtain ⟨A', c', e1, hr⟩ := h.2 i hi
    exact ⟨A', c', e1, hr.mono e⟩⟩
set_option maxRecDepth 100000 in
theorem OwnR.away (h : OwnR base w A n c W ρ M) {k : Nat} (hu : Upd k w w') (hk : k < base) : OwnR base w' A n c W ρ M :=
  ⟨ownsRow_of_block h.1 (fun g hg _ => hu.block g (by omega)), fun i hi => by
    obtain ⟨A', c', e1, hr⟩ := h.2 i hi
    exact ⟨A', c', e1, hr.away hu hk⟩⟩
set_option maxRecDepth 100000 in
theorem OwnR.congr (h : OwnR base w A n c W ρ M) (e : ∀ k l, k < n → l < W → M k l = M' k l) : OwnR base w A n c W ρ M' :=
  ⟨h.1, fun k hk => by
    obtain ⟨A, c, e1, hr⟩ := h.2 k hk
    exact ⟨A, c, e1, hr.congr (fun l hl => by unfold u64; rw [e k l hk hl])⟩⟩
set_option maxRecDepth 100000 in
/-- One row more. -/
theorem OwnR.push (h : OwnR base w A n c W ρ M) (hq : Q w w2a) (hR : RowO base w2a 26 A' W c' (u64 x))
    (hown : w3.ownsRow base 44 1 (.slice A2 (n + 1) c2) (n + 1) (tab ρ n ++ [.slice A' W c'])) (hg : w2a.grownBy w3 (Value.slice A n c).ownBlock) :
    OwnR base w3 A2 (n + 1) c2 W (fun k => if k = n then .slice A' W c' else ρ k) (fun j => if j = n then x else M j) := by
  have h2 := h.q hq
  have hrow : ∀ {A3 : Option Addr} {c3 : Nat} {φ : Nat → Value}, RowO base w2a 26 A3 W c3 φ → RowO base w3 26 A3 W c3 φ := fun {A3 c3 φ} hr =>
    ⟨hr.1, hr.2.1, fun hl => by
      obtain ⟨g, cs, e, h1, hb, hc⟩ := hr.2.2 hl
      refine ⟨g, cs, e, h1, ?_, hc⟩
      refine (hg.block g hb.lt ?_).trans hb
      intro e2
      rcases h2.1.2 with ⟨e3, _⟩ | ⟨g', cap, cur, e3, h3, hh, _⟩
      · rw [e3] at e2; cases e2
      · rw [e3] at e2
        injection e2 with e2
        have e4 : g = g' := e2
        subst e4
        unfold Blk at hb
        rw [hh] at hb
        injection hb with hb
        injection hb with _ hb
        exact absurd hb (by decide)⟩
  refine ⟨?_, fun k hk => ?_⟩
  · have e : tab (fun k => if k = n then Value.slice A' W c' else ρ k) (n + 1) = tab ρ n ++ [.slice A' W c'] := by
      rw [← tab_snoc, if_pos rfl, tab_congr (ψ := ρ) (fun k hk => by rw [if_neg (by omega)])]
    rw [e]
    exact hown
  · by_cases e : k = n
    · subst e
      exact ⟨A', c', by dsimp only; rw [if_pos rfl], by dsimp only; rw [if_pos rfl]; exact hrow hR⟩
    · obtain ⟨A3, c3, e3, hr⟩ := h2.2 k (by omega)
      exact ⟨A3, c3, by dsimp only; rw [if_neg e]; exact e3, by dsimp only; rw [if_neg e]; exact hrow hr⟩
set_option maxRecDepth 100000 in
/-- A block of another kind lies still under the append. -/
theorem OwnR.grown (h : OwnR base w A n c W ρ M) (hq : Q w w2a) (hg : w2a.grownBy w3 (Value.slice A n c).ownBlock) {K t : Nat} {cs : Array Value} (hb : Blk w2a K t cs) (ht : t ≠ 44) : Blk w3 K t cs := by
  refine hb.grown hg (fun e => ?_)
  rcases (ownsRow_q h.1 hq).2 with ⟨e3, _⟩ | ⟨g', cap, cur, e3, h3, hh, _⟩
  · rw [e3] at e; cases e
  · rw [e3] at e
    injection e with e
    have e4 : K = g' := e
    subst e4
    unfold Blk at hb
    rw [hh] at hb
    injection hb with hb
    injection hb with _ hb
    exact ht hb.symm
set_option maxRecDepth 100000 in
/-- What lay ahead of the rows lies there still. -/
theorem OwnR.grow_q (h : OwnR base w A n c W ρ M) {w1 : World} (h1 : Q w1 w) (hq : Q w w2a) (hg : w2a.grownBy w3 (Value.slice A n c).ownBlock) (hb : w1.heap.size ≤ base) : Q w1 w3 :=
  grown_q (h1.trans hq) hg (fun k e => by
    have := ((ownsRow_q h.1 hq).lt k e).1
    omega)
end
set_option maxRecDepth 100000 in
theorem Bld.ownR {w5 wr : World} {K P C i : Nat} {A : Option Addr} {c N : Nat} {ρ : Nat → Value} {M : Nat → Nat → Fin p} (h : Bld w5 wr K P C i A c N ρ M) : OwnR (K + 1) wr A i c N ρ M := ⟨h.own, h.row⟩
def ModG (w : World) (n W : Nat) (M : Mt p) (e : Ending) (w' : World) : Prop := ∃ A c ρ, e = .returned (.agg #[.int .u64 (p : Int), .int .i64 (W : Int), .slice A n c]) ∧ OwnR w.heap.size w' A n c W ρ M ∧ Q w w'
set_option maxRecDepth 100000 in
theorem ModG.modQ {w : World} {n W : Nat} {M : Mt p} {e : Ending} {w' : World} (h : ModG w n W M e w') (hn : n ≤ 4096) : ModQ w n W M e w' := by
  obtain ⟨A, c, ρ, rfl, h1, h2⟩ := h
  exact ⟨_, rfl, ⟨A, c, rfl, h1.rowsO (by omega)⟩, h2⟩
set_option maxRecDepth 100000 in
theorem own_end0 {w w1 w6 w7 : World} {B base n W c : Nat} {A : Option Addr} {ρ : Nat → Value} {M : Mt p} (hu : Upd B w6 w7) (hR : OwnR base w6 A n c W ρ M) (hq : Q w w1) (hq6 : Q w1 w6) (hB : B < w1.heap.size) (hb : w1.heap.size ≤ base) (hBw : w.heap.size ≤ B) :
    ModG w n W M (.returned (.agg #[.int .u64 (p : Int), .int .i64 (W : Int), .slice A n c])) w7 :=
  ⟨A, c, ρ, rfl, (hR.away hu (by omega)).mono (Nat.le_trans hq.size hb), Below.trans (hq.trans hq6) (hu.below hBw)⟩
set_option maxHeartbeats 2000000 in
set_option maxRecDepth 100000 in
theorem copied_own {p : Nat} (v : Value) (n W : Nat) (M : Mt p) (w : World) (h : ModV w v n W M) (hn : n ≤ 4096) (hW : W ≤ 4096) :
    Calls Try.prog 13 #[v] w (ModG w n W M) := by
  obtain ⟨i0, hi, hz0, hz1, hz2⟩ := info_parts info_row
  obtain ⟨j0, hj, hy0, hy1, hy2⟩ := info_parts info_u64
  obtain ⟨A, c, w1, rfl, hw1, HM, HB, HB2, HQ1, hcap, b0, b1, b2⟩ := modbox2 h
  have hR := HM.out.rows_of
  have HR := Lib.hid hR
  clear h hR
  go_enter Try.func13, Try.ntmps13
  go_wp2_with fail
  clear hw1 b0 b1 b2
  go_loopw [4] (fun iv' wr => ∃ (k : Nat) (A2 : Option Addr) (c2 : Nat) (ρ : Nat → Value), iv' = .int .i64 k ∧ k ≤ n ∧ Bld w1 wr w1.heap.size p W k A2 c2 W ρ M) (fun iv' _ => n - (intOf iv').toNat)
  case atStart => exact ⟨0, none, 0, fun _ => .slice none 0 0, rfl, Nat.zero_le _, Bld.start (Blk.new _ _ _) ((Q.refl _).alloc _) (Nat.le_refl _)⟩
  case round =>
    obtain ⟨k, A2, c2, ρ, rfl, hkn, hB⟩ := hrel
    obtain ⟨b0, b1, b2⟩ := (HB.out.q hB.q).three'
    obtain ⟨k0, k1, k2⟩ := hB.box.three'
    have HBL := Lib.hid hB
    clear hB
    by_cases hlt : k < n
    · obtain ⟨b, o, r, rfl, hb, hc, hS⟩ := (HR.out.q HBL.out.q).at hlt
      obtain ⟨Ar, cr, rfl, hS⟩ := hS
      have hi2 : (k : Int) < (n : Int) := by omega
      have HS := Lib.hid hS
      have hl := HBL.out.lt
      clear hS
      go_wp2_with fail
      have ka := fun o => ((Q.refl wr).alloc o).cell k2
      have kb := fun o => ((Q.refl wr).alloc o).cell b2
      have kc := fun o => ((Q.refl wr).alloc o).cell hc
      go_region_law (first | (refine step_copy (by rfl) _ _ _ (by rfl) 26 j0 (.int .u64 0) 8 Try.underlying44 hj hy0 hy1 hy2 rfl (by rfl) (Go.Proofs.Ytcjpjnneimjfiaa.u64 (M k)) Ar W cr (by rfl) (HS.out.q (Q.refl wr).drew) (fun _ => rfl) (by omega) (by decide) ?_; intro A7 c7 w3 hR7 hq7; have hq8 := (Q.refl wr).drew.trans hq7; have k2b := hq8.cell k2; have k2d := fun o => (hq8.alloc o).cell k2) | (refine step_app1 (by rfl) _ _ _ (by rfl) (w1.heap.size + 1) 44 i0 (.slice none 0 0) 24 Try.underlying27 hi hz0 hz1 hz2 rfl _ k (tab ρ k) (by rfl) (ownsRow_q HBL.out.own (hq8.alloc _)) _ (by rfl) (.slice A7 W c7) (Blk.new _ _ _) rfl (by omega) (by decide) (by simp; have := hq8.size; omega) ?_; intro A8 c8 w4 hown8 hg8; have hb8 := HBL.out.grown (hq8.alloc _) hg8; have k2c := hb8.cell 2; have f2c := hb8.frozen 2; have hl4 := hb8.lt))
      all_goals
        go_wp2_with fail
        exact bld_round HBL.out (hq8.alloc _) ((hR7.mono (by exact hl)).q ((Q.refl _).alloc _)) hown8 hg8 hb8 hlt
    · obtain rfl : n = k := by omega
      have hq7 := HBL.out.q
      have hB7 := HB2.out.q hq7
      obtain ⟨e0, e1, e2⟩ := hB7.three'
      have f0 := hB7.frozen 0
      have f1 := hB7.frozen 1
      have f2 := hB7.frozen 2
      have hl7 := hB7.lt
      have HQ7 := Lib.hid hq7
      clear hq7 hB7
      go_wp2_with fail
      refine bodyPost_ret (v := .agg #[.int .u64 p, .int .i64 W, .slice A2 n c2]) (by simp [results, Try.results13, go_sem, e0, e1, e2]) rfl ?_
      exact own_end0 (((Upd.refl _ _).setCell _ _).setCell _ _ |>.setCell _ _) HBL.out.ownR HQ1.out HQ7.out HB2.out.lt (by omega) (by omega)
set_option maxRecDepth 100000 in
theorem copied_any {p : Nat} (v : Value) (n W : Nat) (M : Mt p) (w : World) (h : ModV w v n W M) (hn : n ≤ 4096) (hW : W ≤ 4096) :
    Calls Try.prog 13 #[v] w (ModQ w n W M) := (copied_own v n W M w h hn hW).mono fun _ _ h => h.modQ hn
end
end Go.Proofs.Ytcjpjnneimjfiaa
