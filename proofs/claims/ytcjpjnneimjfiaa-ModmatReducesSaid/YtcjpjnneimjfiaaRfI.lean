/-
  torsionref07.Rref: what its memory holds.
-/
import Derived.Test.YtcjpjnneimjfiaaChg
namespace Go.Proofs.Ytcjpjnneimjfiaa
open Go.RowKit
set_option maxRecDepth 100000 in
/-- A block of another kind lies still under an append. -/
theorem blk_grown {base t t' n K : Nat} {v : Value} {xs : List Value} {w w3 : World} {cs : Array Value} (h : w.ownsRow base t 1 v n xs) (hg : w.grownBy w3 v.ownBlock) (hb : Blk w K t' cs) (ht : t' ≠ t) : Blk w3 K t' cs := by
  refine hb.grown hg (fun e => ?_)
  rcases h.2 with ⟨e3, _⟩ | ⟨g', cap, cur, e3, h3, hh, _⟩
  · rw [e3] at e; cases e
  · rw [e3] at e
    injection e with e
    have e4 : K = g' := e
    subst e4
    unfold Blk at hb
    rw [hh] at hb
    injection hb with hb
    injection hb with _ hb
    exact ht hb.symm
set_option maxRecDepth 100000 in
theorem RowO.grown {base b2 t t' n m c : Nat} {v : Value} {xs : List Value} {w w3 : World} {A : Option Addr} {φ : Nat → Value} (h : RowO b2 w t' A m c φ) (ho : w.ownsRow base t 1 v n xs) (hg : w.grownBy w3 v.ownBlock) (ht : t' ≠ t) : RowO b2 w3 t' A m c φ :=
  ⟨h.1, h.2.1, fun hl => by
    obtain ⟨g, cs, e, h1, hb, hc⟩ := h.2.2 hl
    exact ⟨g, cs, e, h1, blk_grown ho hg hb ht, hc⟩⟩
section
variable {p : Nat}
set_option maxRecDepth 100000 in
theorem RowsO.grown {base b2 t n m c W : Nat} {v : Value} {xs : List Value} {w w3 : World} {A : Option Addr} {M : Mt p} (h : RowsO b2 w A m c W M) (ho : w.ownsRow base t 1 v n xs) (hg : w.grownBy w3 v.ownBlock) (h1 : 44 ≠ t) (h2 : 26 ≠ t) : RowsO b2 w3 A m c W M := by
  obtain ⟨ρ, hR, hr⟩ := h
  exact ⟨ρ, hR.grown ho hg h1, fun i hi => by
    obtain ⟨A', c', e, h3⟩ := hr i hi
    exact ⟨A', c', e, h3.grown ho hg h2⟩⟩
set_option maxRecDepth 100000 in
theorem RowsO.take {b n m c W : Nat} {w : World} {A : Option Addr} {M : Mt p} (h : RowsO b w A n c W M) (hm : m ≤ n) : RowsO b w A m c W M := by
  obtain ⟨ρ, hR, hr⟩ := h
  refine ⟨ρ, ⟨by have := hR.1; omega, by have := hR.2.1; omega, fun hl => ?_⟩, fun i hi => hr i (by omega)⟩
  obtain ⟨g, cs, e, h1, hb, hc⟩ := hR.2.2 (by omega)
  exact ⟨g, cs, e, h1, hb, fun k hk => hc k (by omega)⟩
set_option maxRecDepth 100000 in
theorem ChS.mv {w1 w5 w6 : World} {B n W c2 : Nat} {A : Option Addr} {M : Mt p} (h : ChS w1 w5 B n W A c2 M) (hq : Q w5 w6) : ChS w1 w6 B n W A c2 M := ⟨h.box.q hq, h.rows.q hq, h.q.trans hq, h.bg⟩
set_option maxRecDepth 100000 in
theorem ChS.congr {w1 w5 : World} {B n W c2 : Nat} {A : Option Addr} {M M' : Mt p} (h : ChS w1 w5 B n W A c2 M) (e : ∀ i k, i < n → k < W → M i k = M' i k) : ChS w1 w5 B n W A c2 M' := ⟨h.box, h.rows.congr e, h.q, h.bg⟩
/-- The rest of the rows and the pivots so far. -/
structure RrS (w1 wr : World) (B n W : Nat) (A : Option Addr) (c2 k0 : Nat) (X : Mt p) (vp : Value) (r : Nat) (pv : Nat → Nat) : Prop where
  cs : ChS w1 wr B n W A c2 X
  piv : wr.ownsRow k0 3 1 vp r (tab (i64s pv) r)
  gk : ∀ g, A = some ⟨g, 0, none⟩ → 0 < n → g < k0
  kl : w1.heap.size ≤ k0
  ks : k0 ≤ wr.heap.size
section
variable {w1 wr w6 w3 : World} {B n W c2 k0 r : Nat} {A : Option Addr} {X Y : Mt p} {vp : Value} {pv : Nat → Nat}
set_option maxRecDepth 100000 in
theorem RrS.q (h : RrS w1 wr B n W A c2 k0 X vp r pv) (hq : Q wr w6) : RrS w1 w6 B n W A c2 k0 X vp r pv := ⟨h.cs.mv hq, ownsRow_q h.piv hq, h.gk, h.kl, Nat.le_trans h.ks hq.size⟩
set_option maxRecDepth 100000 in
theorem RrS.congr (h : RrS w1 wr B n W A c2 k0 X vp r pv) (e : ∀ i k, i < n → k < W → X i k = Y i k) : RrS w1 wr B n W A c2 k0 Y vp r pv := ⟨h.cs.congr e, h.piv, h.gk, h.kl, h.ks⟩
set_option maxRecDepth 100000 in
theorem RrS.open (h : RrS w1 wr B n W A c2 k0 X vp r pv) (hn : 0 < n) : ∃ g cs, A = some ⟨g, 0, none⟩ ∧ w1.heap.size ≤ g ∧ n ≤ c2 ∧ Blk wr g 44 cs ∧ ∀ i, i < n → ∃ A' c', cs[i]? = some (.slice A' W c') ∧ RowO w1.heap.size wr 26 A' W c' (u64 (X i)) := rows_open h.cs.rows hn
set_option maxRecDepth 100000 in
/-- One row anew. -/
theorem RrS.row {g i c' : Nat} {A' : Option Addr} {x : Nat → Fin p} (h : RrS w1 wr B n W (some ⟨g, 0, none⟩) c2 k0 X vp r pv) (hn : n ≤ 4096) (hq : Q wr w6) (hi : i < n) (hR : RowO wr.heap.size w6 26 A' W c' (u64 x)) :
    RrS w1 (w6.setCell ⟨g, i, none⟩ (.slice A' W c')) B n W (some ⟨g, 0, none⟩) c2 k0 (fun j => if j = i then x else X j) vp r pv := by
  obtain ⟨g', cs, e, h1, h2, h3, h4⟩ := h.open (by omega)
  injection e with e
  injection e with e
  subst e
  have hu := (Upd.refl g w6).setCell i (.slice A' W c')
  refine ⟨chs_row h.cs h1 h3 h2 hn h4 hq hi hR, ownsRow_of_block (ownsRow_q h.piv hq) (fun g' hg _ => hu.block g' (by have := h.gk g rfl (by omega); omega)), h.gk, h.kl, ?_⟩
  have := h.ks; have := hq.size; have := hu.size; omega
set_option maxRecDepth 100000 in
/-- Two rows change places. -/
theorem RrS.swap {g i k : Nat} {cs : Array Value} {vi vk : Value} (h : RrS w1 wr B n W (some ⟨g, 0, none⟩) c2 k0 X vp r pv) (hn : n ≤ 4096) (hb : Blk wr g 44 cs) (hq : Q wr w6) (hi : i < n) (hk : k < n) (ei : cs[i]? = some vi) (ek : cs[k]? = some vk) :
    RrS w1 ((w6.setCell ⟨g, i, none⟩ vk).setCell ⟨g, k, none⟩ vi) B n W (some ⟨g, 0, none⟩) c2 k0 (swp i k X) vp r pv := by
  obtain ⟨g', cs', e, h1, h2, h3, h4⟩ := h.open (by omega)
  injection e with e
  injection e with e
  subst e
  have e2 : cs' = cs := by
    unfold Blk at h3 hb
    rw [hb] at h3
    injection h3 with h3
    injection h3 with h3
    exact h3.symm
  subst e2
  have hu := ((Upd.refl g w6).setCell i vk).setCell k vi
  refine ⟨chs_swap h.cs h1 h3 h2 hn h4 hq hi hk ei ek, ownsRow_of_block (ownsRow_q h.piv hq) (fun g' hg _ => hu.block g' (by have := h.gk g rfl (by omega); omega)), h.gk, h.kl, ?_⟩
  have := h.ks; have := hq.size; have := hu.size; omega
set_option maxRecDepth 100000 in
/-- One pivot more. -/
theorem RrS.push (h : RrS w1 wr B n W A c2 k0 X vp r pv) (hq : Q wr w6) {v2 : Value} {pv2 : Nat → Nat} {c : Nat} (hown : w3.ownsRow k0 3 1 v2 (r + 1) (tab (i64s pv) r ++ [.int .i64 ((c : Nat) : Int)])) (hg : w6.grownBy w3 vp.ownBlock) (e1 : ∀ i, i < r → pv2 i = pv i) (e2 : pv2 r = c) :
    RrS w1 w3 B n W A c2 k0 X v2 (r + 1) pv2 := by
  have h6 := h.q hq
  have hq3 : Q w1 w3 := grown_q h6.cs.q hg (fun k e => by have := (h6.piv.lt k e).1; have := h.kl; omega)
  refine ⟨⟨blk_grown h6.piv hg h6.cs.box (by decide), h6.cs.rows.grown h6.piv hg (by decide) (by decide), hq3, h6.cs.bg⟩, ?_, h.gk, h.kl, ?_⟩
  · rw [← tab_snoc, tab_congr (ψ := i64s pv) (fun k hk => by unfold i64s; rw [e1 k hk])]
    have e3 : i64s pv2 r = .int .i64 ((c : Nat) : Int) := by unfold i64s; rw [e2]
    rw [e3]
    exact hown
  · have := h6.ks; have := hg.size; omega
end
/-- The rows up to i have been cleared. -/
def elz (r c i : Nat) (Y : Mt p) [NeZero p] : Mt p := fun j => if j < i ∧ j ≠ r then fun l => Y j l + (0 - Y j c) * Y r l else Y j
end
section
variable {p : Nat} [NeZero p]
set_option maxRecDepth 100000 in
theorem elz_0 (r c : Nat) (Y : Mt p) : elz r c 0 Y = Y := by
  funext j; unfold elz; rw [if_neg (by omega)]
set_option maxRecDepth 100000 in
theorem elz_i (r c i : Nat) (Y : Mt p) : elz r c i Y i = Y i := by unfold elz; rw [if_neg (by omega)]
set_option maxRecDepth 100000 in
theorem elz_r (r c i : Nat) (Y : Mt p) : elz r c i Y r = Y r := by unfold elz; rw [if_neg (by omega)]
set_option maxRecDepth 100000 in
theorem elz_skip (r c : Nat) (Y : Mt p) : elz r c r Y = elz r c (r + 1) Y := by
  funext j; unfold elz
  by_cases h : j < r ∧ j ≠ r
  · rw [if_pos h, if_pos (by omega)]
  · rw [if_neg h, if_neg (by omega)]
set_option maxRecDepth 100000 in
theorem elz_step {r c i : Nat} {Y : Mt p} (h : i ≠ r) : (fun j => if j = i then (fun l => Y i l + (0 - Y i c) * Y r l) else elz r c i Y j) = elz r c (i + 1) Y := by
  funext j; unfold elz
  by_cases e : j = i
  · subst e; rw [if_pos rfl, if_pos (by omega)]
  · rw [if_neg e]
    by_cases h : j < i ∧ j ≠ r
    · rw [if_pos h, if_pos (by omega)]
    · rw [if_neg h, if_neg (by omega)]
set_option maxRecDepth 100000 in
theorem elz_all {r c n : Nat} {u : Fin p} {X : Mt p} {j l : Nat} (h : j < n) : elz r c n (fun j => if j = r then fun k => u * X r k else X j) j l = prw r c u X j l := by
  unfold elz prw elm scl
  by_cases e : j = r
  · subst e; rw [if_neg (by omega)]; simp; grind
  · rw [if_pos ⟨h, e⟩]; simp [e]; grind
end
end Go.Proofs.Ytcjpjnneimjfiaa
