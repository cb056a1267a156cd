/-
  Slices of integers, matrices of integers.
-/
import Derived.Test.YtcjpjnneimjfiaaSl
import Derived.Test.YtcjpjnneimjfiaaInt
namespace Go.Proofs.Ytcjpjnneimjfiaa
open Go.RowKit

/-- A slice of n integers that begins at A with capacity c; an integer takes two cells. -/
def SlI (w : World) (A : Option Addr) (n c : Nat) (Z : Nat → Int) : Prop :=
  n ≤ c ∧ n ≤ 1099511627776 ∧ (0 < n → ∃ b o, A = some ⟨b, o, none⟩ ∧ b < w.heap.size ∧ ∀ k, k < n → ∃ c0 c1, w.cell? ⟨b, o + k * 2, none⟩ = some c0 ∧ w.cell? ⟨b, o + k * 2 + 1, none⟩ = some c1 ∧ IntV w (.agg #[c0, c1]) (Z k))
/-- The same of a value. -/
def SlIV (w : World) (v : Value) (n : Nat) (Z : Nat → Int) : Prop := ∃ A c, v = .slice A n c ∧ SlI w A n c Z
/-- Rows of integers. -/
def RowsI (w : World) (A : Option Addr) (n c W : Nat) (Z : Nat → Nat → Int) : Prop := ∃ ρ, Sc w A n c ρ ∧ ∀ i, i < n → SlIV w (ρ i) W (Z i)
/-- A value of type Mat: n rows of W integers. -/
def MatV (w : World) (v : Value) (n W : Nat) (Z : Nat → Nat → Int) : Prop := ∃ A c, v = .agg #[.int .i64 (n : Int), .int .i64 (W : Int), .slice A n c] ∧ RowsI w A n c W Z
section
variable {w w' : World} {A : Option Addr} {n c W : Nat} {v : Value}
set_option maxRecDepth 100000 in
theorem SlI.q {Z : Nat → Int} (h : SlI w A n c Z) (hq : Q w w') : SlI w' A n c Z :=
  ⟨h.1, h.2.1, fun hl => by
    obtain ⟨b, o, e, hb, hc⟩ := h.2.2 hl
    refine ⟨b, o, e, Nat.lt_of_lt_of_le hb hq.size, fun k hk => ?_⟩
    obtain ⟨c0, c1, h0, h1, hv⟩ := hc k hk
    exact ⟨c0, c1, hq.cell h0, hq.cell h1, hv.q hq⟩⟩
set_option maxRecDepth 100000 in
theorem SlIV.q {Z : Nat → Int} (h : SlIV w v n Z) (hq : Q w w') : SlIV w' v n Z := by
  obtain ⟨A, c, e, hs⟩ := h
  exact ⟨A, c, e, hs.q hq⟩
set_option maxRecDepth 100000 in
theorem SlI.at {Z : Nat → Int} (h : SlI w A n c Z) {k : Nat} (hk : k < n) : ∃ b o ng B d l, A = some ⟨b, o, none⟩ ∧ b < w.heap.size ∧ w.cell? ⟨b, o + k * 2, none⟩ = some (.bool ng) ∧ w.cell? ⟨b, o + k * 2 + 1, none⟩ = some (.slice B (List.length l) d) ∧ IntA w ng B d l (Z k) := by
  obtain ⟨b, o, e, hb, hc⟩ := h.2.2 (by omega)
  obtain ⟨c0, c1, h0, h1, ng, B, d, l, e2, hi⟩ := hc k hk
  injection e2 with e2
  have e3 : c0 = .bool ng := by have := congrArg (fun a => a[0]?) e2; simpa using this
  have e4 : c1 = .slice B l.length d := by have := congrArg (fun a => a[1]?) e2; simpa using this
  subst e3 e4
  exact ⟨b, o, ng, B, d, l, e, hb, h0, h1, hi⟩
set_option maxRecDepth 100000 in
theorem RowsI.q {Z : Nat → Nat → Int} (h : RowsI w A n c W Z) (hq : Q w w') : RowsI w' A n c W Z := by
  obtain ⟨ρ, h1, h2⟩ := h
  exact ⟨ρ, h1.q hq, fun i hi => (h2 i hi).q hq⟩
set_option maxRecDepth 100000 in
theorem RowsI.at {Z : Nat → Nat → Int} (h : RowsI w A n c W Z) {i : Nat} (hi : i < n) :
    ∃ b o r, A = some ⟨b, o, none⟩ ∧ b < w.heap.size ∧ w.cell? ⟨b, o + i, none⟩ = some r ∧ SlIV w r W (Z i) := by
  obtain ⟨ρ, h1, h2⟩ := h
  obtain ⟨b, o, e, hb, hc⟩ := h1.at hi
  exact ⟨b, o, ρ i, e, hb, hc, h2 i hi⟩
set_option maxRecDepth 100000 in
theorem RowsI.cap {Z : Nat → Nat → Int} (h : RowsI w A n c W Z) : n ≤ c := by obtain ⟨ρ, h1, _⟩ := h; exact h1.1
set_option maxRecDepth 100000 in
theorem MatV.q {Z : Nat → Nat → Int} (h : MatV w v n W Z) (hq : Q w w') : MatV w' v n W Z := by
  obtain ⟨A, c, e, hr⟩ := h
  exact ⟨A, c, e, hr.q hq⟩
end
end Go.Proofs.Ytcjpjnneimjfiaa
