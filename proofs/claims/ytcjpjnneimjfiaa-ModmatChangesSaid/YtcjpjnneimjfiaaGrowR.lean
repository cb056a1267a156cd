/-
  What a call that makes a row, a matrix or a number says to a region that draws its order.
-/
import Derived.Test.YtcjpjnneimjfiaaRfB
import Derived.Test.YtcjpjnneimjfiaaGrow
import Derived.Test.YtcjpjnneimjfiaaStep
namespace Go.Proofs.Ytcjpjnneimjfiaa
open Go.RowKit
section
variable {p : Nat} [NeZero p]
/-- A value that is a new row. -/
def RowY (b n : Nat) (x : Nat → Fin p) (v : Value) (w : World) : Prop := ∃ A c, v = .slice A n c ∧ RowO b w 26 A n c (u64 x)
set_option maxRecDepth 100000 in
theorem RowY.keep {p : Nat} {b n : Nat} {x : Nat → Fin p} (v : Value) (w w' : World) (h : RowY b n x v w) (hq : Q w w') : RowY b n x v w' := by
  obtain ⟨A, c, e, h⟩ := h
  exact ⟨A, c, e, h.q hq⟩
set_option maxRecDepth 100000 in
theorem rowq_y {p : Nat} {w0 w : World} {n : Nat} {x : Nat → Fin p} {V : Value → World → Prop} (hq : Q w0 w) (hV : ∀ v w', Q w w' → RowY w0.heap.size n x v w' → V v w') {e : Ending} {w' : World} (h : RowQ w n x e w') :
    ∃ v, e = .returned v ∧ Q w w' ∧ V v w' := by
  obtain ⟨A, c, rfl, h1, h2⟩ := h
  exact ⟨_, rfl, h2, hV _ _ h2 ⟨A, c, rfl, h1.mono hq.size⟩⟩
/-- A value that is a new box of one cell, as append wants it. -/
def BoxY (t : TypeId) (u : Value) (v : Value) (w : World) : Prop := ∃ B, v = .slice (some ⟨B, 0, none⟩) 1 1 ∧ Blk w B t #[u]
set_option maxRecDepth 100000 in
theorem BoxY.keep {t : TypeId} {u : Value} (v : Value) (w w' : World) (h : BoxY t u v w) (hq : Q w w') : BoxY t u v w' := by
  obtain ⟨B, e, h⟩ := h
  exact ⟨B, e, h.q hq⟩
set_option maxRecDepth 100000 in
theorem BoxY.new (t : TypeId) (u : Value) (w : World) : BoxY t u (.slice (some ⟨w.heap.size, 0, none⟩) 1 1) (w.alloc (.cells #[u] t)) := ⟨_, rfl, Blk.new w t #[u]⟩
set_option maxRecDepth 100000 in
/-- append of the one element that a block of one cell holds, in a list of operations. -/
theorem wpList_app1b {P : Program} {w : World} {ops : Array Oper} {rest : List Oper} {o : Oper} {a : Act} {R : Exit → Act → World → Prop} (hgd : o.guard = none) (s x : Operand) (t : TypeId)
    (ho : o.op = .call { callee := .builtin .append, args := #[s, x], argTypes := #[t, t] })
    (base : Nat) (e : TypeId) (i : TypeInfo) (z : Value) (bytes : Nat) (ht : P.underlying t = some (.slice e)) (hi : P.info? e = some i) (hz : i.zero = some z)
    (hsize : i.size = 1) (hby : i.bytes = bytes) (hzs : z.cells.size = 1)
    (v : Value) (n : Nat) (xs : List Value) (hs : a.eval s = v) (hown : w.ownsRow base e 1 v n xs)
    (B : Nat) (hx : a.eval x = .slice (some ⟨B, 0, none⟩) 1 1) (u : Value) (hB : Blk w B e #[u]) (hu : u.oneCell' = true) (hn : n ≤ 1099511627776) (hb8 : bytes ≤ 24) (hbase : base ≤ w.heap.size)
    (h : ∀ A' c' w', w'.ownsRow base e 1 (.slice A' (n + 1) c') (n + 1) (xs ++ [u]) → w.grownBy w' v.ownBlock → wpList P ops R rest (a.put o.dst (.slice A' (n + 1) c')) w') :
    wpList P ops R (o :: rest) a w := by
  refine wpList_plain hgd fun K hK => ?_
  have h1 := step_app1 (ops := ops) (K := K) (R := R) (E := False) hgd s x t ho base e i z bytes ht hi hz hsize hby hzs v n xs hs hown B hx u hB hu hn hb8 hbase (fun A' c' w' h1 h2 => hK _ _ (h A' c' w' h1 h2))
  rw [if_pos (show Region.wanted o (yielded ops a.tmps) = true by simp [Region.wanted, hgd])] at h1
  exact h1
end
end Go.Proofs.Ytcjpjnneimjfiaa
