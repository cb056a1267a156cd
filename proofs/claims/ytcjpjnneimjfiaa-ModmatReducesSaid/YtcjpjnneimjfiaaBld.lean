/-
  A matrix in a variable of its own, its rows appended one by one.
-/
import Derived.Test.YtcjpjnneimjfiaaStep
import Derived.Test.YtcjpjnneimjfiaaMmF
namespace Go.Proofs.Ytcjpjnneimjfiaa
open Go.RowKit
section
variable {p : Nat}

/-- Block K is a Mod of i rows of N numbers so far; all that it holds has been made behind it. -/
structure Bld (w5 wr : World) (K P C i : Nat) (A : Option Addr) (c N : Nat) (ρ : Nat → Value) (M : Nat → Nat → Fin p) : Prop where
  box : Blk wr K 29 #[.int .u64 (P : Int), .int .i64 (C : Int), .slice A i c]
  own : wr.ownsRow (K + 1) 44 1 (.slice A i c) i (tab ρ i)
  row : ∀ k, k < i → ∃ A c, ρ k = .slice A N c ∧ RowO (K + 1) wr 26 A N c (u64 (M k))
  q : Q w5 wr
  le : w5.heap.size ≤ K
section
variable {w5 wr w2 w2a w3 w4 : World} {K P C i : Nat} {A : Option Addr} {c N : Nat} {ρ : Nat → Value} {M M' : Nat → Nat → Fin p}
set_option maxRecDepth 100000 in
theorem Bld.move (h : Bld w5 wr K P C i A c N ρ M) (hq : Q wr w2) : Bld w5 w2 K P C i A c N ρ M :=
  ⟨h.box.q hq, ownsRow_q h.own hq, fun k hk => by
    obtain ⟨A, c, e, hr⟩ := h.row k hk
    exact ⟨A, c, e, hr.q hq⟩, h.q.trans hq, h.le⟩
set_option maxRecDepth 100000 in
theorem Bld.congr (h : Bld w5 wr K P C i A c N ρ M) (e : ∀ k l, k < i → l < N → M k l = M' k l) : Bld w5 wr K P C i A c N ρ M' :=
  ⟨h.box, h.own, fun k hk => by
    obtain ⟨A, c, e1, hr⟩ := h.row k hk
    exact ⟨A, c, e1, hr.congr (fun l hl => by unfold u64; rw [e k l hk hl])⟩, h.q, h.le⟩
set_option maxRecDepth 100000 in
theorem Bld.start (hb : Blk wr K 29 #[.int .u64 (P : Int), .int .i64 (C : Int), .slice none 0 0]) (hq : Q w5 wr) (hle : w5.heap.size ≤ K) : Bld w5 wr K P C 0 none 0 N ρ M :=
  ⟨hb, ⟨rfl, .inl ⟨rfl, rfl⟩⟩, fun k hk => by omega, hq, hle⟩
set_option maxRecDepth 100000 in
theorem Bld.lt (h : Bld w5 wr K P C i A c N ρ M) : K < wr.heap.size := h.box.lt
set_option maxRecDepth 100000 in
/-- The box behind an append to its rows. -/
theorem Bld.grown (h : Bld w5 wr K P C i A c N ρ M) (hq : Q wr w2a) (hg : w2a.grownBy w3 (Value.slice A i c).ownBlock) : Blk w3 K 29 #[.int .u64 (P : Int), .int .i64 (C : Int), .slice A i c] :=
  (h.box.q hq).grown hg (fun e => by have := (h.own.lt K e.symm).1; omega)
set_option maxRecDepth 100000 in
/-- One row more. -/
theorem Bld.push (h : Bld w5 wr K P C i A c N ρ M) (hq : Q wr w2a) {A' : Option Addr} {c' : Nat} (hR : RowO (K + 1) w2a 26 A' N c' (u64 (M i))) {A2 : Option Addr} {c2 : Nat}
    (hown : w3.ownsRow (K + 1) 44 1 (.slice A2 (i + 1) c2) (i + 1) (tab ρ i ++ [.slice A' N c'])) (hg : w2a.grownBy w3 (Value.slice A i c).ownBlock) (hu : Upd K w3 w4)
    (hbox : Blk w4 K 29 #[.int .u64 (P : Int), .int .i64 (C : Int), .slice A2 (i + 1) c2]) :
    ∃ ρ', Bld w5 w4 K P C (i + 1) A2 c2 N ρ' M := by
  have h2 := h.move hq
  have hrow : ∀ {A3 : Option Addr} {c3 : Nat} {φ : Nat → Value}, RowO (K + 1) w2a 26 A3 N c3 φ → RowO (K + 1) w4 26 A3 N c3 φ := fun {A3 c3 φ} hr =>
    ⟨hr.1, hr.2.1, fun hl => by
      obtain ⟨g, cs, e, h1, hb, hc⟩ := hr.2.2 hl
      refine ⟨g, cs, e, h1, hu.blk ?_ (by omega), hc⟩
      refine (hg.block g hb.lt ?_).trans hb
      intro e2
      rcases h2.own.2 with ⟨e3, _⟩ | ⟨g', cap, cur, e3, h3, hh, _⟩
      · rw [e3] at e2; cases e2
      · rw [e3] at e2
        injection e2 with e2
        have e4 : g = g' := e2
        subst e4
        unfold Blk at hb
        rw [hh] at hb
        injection hb with hb
        injection hb with _ hb
        exact absurd hb (by decide)⟩
  refine ⟨fun k => if k = i then .slice A' N c' else ρ k, hbox, ?_, fun k hk => ?_, ?_, h.le⟩
  · have e : tab (fun k => if k = i then Value.slice A' N c' else ρ k) (i + 1) = tab ρ i ++ [.slice A' N c'] := by
      rw [← tab_snoc, if_pos rfl, tab_congr (ψ := ρ) (fun k hk => by rw [if_neg (by omega)])]
    rw [e]
    exact ownsRow_of_block hown (fun g hg _ => hu.block g (by omega))
  · by_cases e : k = i
    · subst e
      exact ⟨A', c', by rw [if_pos rfl], hrow hR⟩
    · obtain ⟨A3, c3, e3, hr⟩ := h2.row k (by omega)
      exact ⟨A3, c3, by rw [if_neg e]; exact e3, hrow hr⟩
  · have hq1 : Q w5 w2a := h.q.trans hq
    have hq2 : Q w5 w3 := grown_q hq1 hg (fun k e => by
      have := (h2.own.lt k e).1
      have := h.le
      omega)
    exact Below.trans hq2 (hu.below h.le)
set_option maxRecDepth 100000 in
theorem Bld.rows (h : Bld w5 wr K P C i A c N ρ M) (hi : i ≤ 140737488355328) : Rows64 wr A i c N M := by
  refine ⟨ρ, ?_, fun k hk => ?_⟩
  · obtain ⟨A', c', e, hr⟩ := own_rowO h.own rfl hi
    injection e with e1 _ e2
    subst e1 e2
    exact hr.sc
  · obtain ⟨A', c', e, hr⟩ := h.row k hk
    exact ⟨A', c', e, hr.sc⟩
set_option maxRecDepth 100000 in
theorem Bld.rowsO (h : Bld w5 wr K P C i A c N ρ M) (hi : i ≤ 140737488355328) : RowsO (K + 1) wr A i c N M := by
  refine ⟨ρ, ?_, fun k hk => h.row k hk⟩
  obtain ⟨A', c', e, hr⟩ := own_rowO h.own rfl hi
  injection e with e1 _ e2
  subst e1 e2
  exact hr
end
end
end Go.Proofs.Ytcjpjnneimjfiaa
