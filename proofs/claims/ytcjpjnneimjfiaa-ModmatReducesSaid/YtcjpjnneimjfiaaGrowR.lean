/-
  What a call that makes a row, a matrix or a number says to a region that draws its order.
-/
import Derived.Test.YtcjpjnneimjfiaaRfB
import Derived.Test.YtcjpjnneimjfiaaGrow
import Derived.Test.YtcjpjnneimjfiaaStep
import Derived.ArgAppend
namespace Go.Proofs.Ytcjpjnneimjfiaa
open Go.RowKit
section
variable {p : Nat} [NeZero p]
/-- A value that is a new row. -/
def RowY (b n : Nat) (x : Nat → Fin p) (v : Value) (w : World) : Prop := ∃ A c, v = .slice A n c ∧ RowO b w 26 A n c (u64 x)
set_option maxRecDepth 100000 in
theorem RowY.keep {p : Nat} {b n : Nat} {x : Nat → Fin p} (v : Value) (w w' : World) (h : RowY b n x v w) (hq : Q w w') : RowY b n x v w' := by
  obtain ⟨A, c, e, h⟩ := h
  exact ⟨A, c, e, h.q hq⟩
set_option maxRecDepth 100000 in
theorem rowq_y {p : Nat} {w0 w : World} {n : Nat} {x : Nat → Fin p} {V : Value → World → Prop} (hq : Q w0 w) (hV : ∀ v w', Q w w' → RowY w0.heap.size n x v w' → V v w') {e : Ending} {w' : World} (h : RowQ w n x e w') :
    ∃ v, e = .returned v ∧ Q w w' ∧ V v w' := by
  obtain ⟨A, c, rfl, h1, h2⟩ := h
  exact ⟨_, rfl, h2, hV _ _ h2 ⟨A, c, rfl, h1.mono hq.size⟩⟩
/-- A value that is a new box of one cell, as append wants it. -/
def BoxY (t : TypeId) (u : Value) (v : Value) (w : World) : Prop := ∃ B, v = .slice (some ⟨B, 0, none⟩) 1 1 ∧ Blk w B t #[u]
set_option maxRecDepth 100000 in
theorem BoxY.keep {t : TypeId} {u : Value} (v : Value) (w w' : World) (h : BoxY t u v w) (hq : Q w w') : BoxY t u v w' := by
  obtain ⟨B, e, h⟩ := h
  exact ⟨B, e, h.q hq⟩
set_option maxRecDepth 100000 in
theorem BoxY.new (t : TypeId) (u : Value) (w : World) : BoxY t u (.slice (some ⟨w.heap.size, 0, none⟩) 1 1) (w.alloc (.cells #[u] t)) := ⟨_, rfl, Blk.new w t #[u]⟩
set_option maxRecDepth 100000 in
/-- append of the one element that a block of one cell holds, in a list of operations. -/
theorem wpList_app1b {P : Program} {w : World} {ops : Array Oper} {rest : List Oper} {o : Oper} {a : Act} {R : Exit → Act → World → Prop} (hgd : o.guard = none) (s x : Operand) (t : TypeId)
    (ho : o.op = .call { callee := .builtin .append, args := #[s, x], argTypes := #[t, t] })
    (base : Nat) (e : TypeId) (i : TypeInfo) (z : Value) (bytes : Nat) (ht : P.underlying t = some (.slice e)) (hi : P.info? e = some i) (hz : i.zero = some z)
    (hsize : i.size = 1) (hby : i.bytes = bytes) (hzs : z.cells.size = 1)
    (v : Value) (n : Nat) (xs : List Value) (hs : a.eval s = v) (hown : w.ownsRow base e 1 v n xs)
    (B : Nat) (hx : a.eval x = .slice (some ⟨B, 0, none⟩) 1 1) (u : Value) (hB : Blk w B e #[u]) (hu : u.oneCell' = true) (hn : n ≤ 1099511627776) (hb8 : bytes ≤ 24) (hbase : base ≤ w.heap.size)
    (h : ∀ A' c' w', w'.ownsRow base e 1 (.slice A' (n + 1) c') (n + 1) (xs ++ [u]) → w.grownBy w' v.ownBlock → wpList P ops R rest (a.put o.dst (.slice A' (n + 1) c')) w') :
    wpList P ops R (o :: rest) a w := by
  refine wpList_plain hgd fun K hK => ?_
  have h1 := step_app1 (ops := ops) (K := K) (R := R) (E := False) hgd s x t ho base e i z bytes ht hi hz hsize hby hzs v n xs hs hown B hx u hB hu hn hb8 hbase (fun A' c' w' h1 h2 => hK _ _ (h A' c' w' h1 h2))
  rw [if_pos (show Region.wanted o (yielded ops a.tmps) = true by simp [Region.wanted, hgd])] at h1
  exact h1
/-- A value that reads as a matrix; a number. -/
def ModY (n W : Nat) (M : Nat → Nat → Fin p) (v : Value) (w : World) : Prop := ModV w v n W M
set_option maxRecDepth 100000 in
theorem ModY.keep {p : Nat} {n W : Nat} {M : Nat → Nat → Fin p} (v : Value) (w w' : World) (h : ModY n W M v w) (hq : Q w w') : ModY n W M v w' := ModV.q h hq
def NumY (z : Int) (v : Value) (_ : World) : Prop := v = .int .i64 z
set_option maxRecDepth 100000 in
theorem NumY.keep {z : Int} (v : Value) (w w' : World) (h : NumY z v w) (_ : Q w w') : NumY z v w' := h
/-- A new empty row. -/
def NewY (t : TypeId) (v : Value) (w : World) : Prop := ∃ B, v = .slice (some ⟨B, 0, none⟩) 0 0 ∧ Blk w B t #[]
set_option maxRecDepth 100000 in
theorem NewY.keep {t : TypeId} (v : Value) (w w' : World) (h : NewY t v w) (hq : Q w w') : NewY t v w' := by
  obtain ⟨B, e, h⟩ := h
  exact ⟨B, e, h.q hq⟩
set_option maxRecDepth 100000 in
theorem NewY.new (t : TypeId) (w : World) : NewY t (.slice (some ⟨w.heap.size, 0, none⟩) 0 0) (w.alloc (.cells #[] t)) := ⟨_, rfl, Blk.new w t #[]⟩
set_option maxRecDepth 100000 in
theorem q_of_grown {w w' : World} (h : w.grownBy w' none) : Q w w' := grown_q (Q.refl w) h (fun k e => by cases e)
set_option maxRecDepth 100000 in
/-- append of a slice to a new empty one: what it yields. -/
theorem grow_copy {P : Program} {w : World} {o : Oper} {a : Act} {V : Value → World → Prop} (s x : Operand) (t : TypeId)
    (ho : o.op = .call { callee := .builtin .append, args := #[s, x], argTypes := #[t, t] })
    (e : TypeId) (i : TypeInfo) (z : Value) (bytes : Nat) (ht : P.underlying t = some (.slice e)) (hi : P.info? e = some i) (hz : i.zero = some z)
    (hsize : i.size = 1) (hby : i.bytes = bytes) (hzs : z.cells.size = 1)
    (B : Nat) (hs : a.eval s = .slice (some ⟨B, 0, none⟩) 0 0) (base : Nat) (hbase : base ≤ w.heap.size)
    (φ : Nat → Value) (A : Option Addr) (m c : Nat) (hx : a.eval x = .slice A m c) (hA : Sc w A m c φ) (hm : m ≤ 1099511627776) (hb8 : bytes ≤ 24)
    (h : ∀ A' c' w', RowO base w' e A' m c' φ → Q w w' → V (.slice A' m c') w') : growUpon P w V ((execOp a.eval o).run P w) := by
  have hrun : ∃ v' w', (Builtin.append_ #[t, t] o.type #[.slice (some ⟨B, 0, none⟩) 0 0, .slice A m c]).run P w = .ok v' w' ∧ Q w w' ∧ ∃ A' c', v' = .slice A' m c' ∧ RowO base w' e A' m c' φ := by
    rcases Nat.eq_zero_or_pos m with h0 | h0
    · subst h0
      refine ⟨.slice (some ⟨B, 0, none⟩) 0 0, w, ?_, Q.refl w, _, _, rfl, Nat.le_refl _, by omega, fun h => by omega⟩
      cases A <;> simp [Builtin.append_, run_underlying ht, sizeOf, typeInfo, hi, Builtin.lenOf, Builtin.firstCells, storeCells, loadCells, loadCellsFrom]
    · obtain ⟨b, off, rfl, _, hc⟩ := hA.open h0
      have hb24 : (0 + m) * bytes ≤ 140737488355328 := by
        rw [Nat.zero_add]
        have := Nat.mul_le_mul_left m hb8
        omega
      obtain ⟨v', w', hr, hown, hg⟩ := run_append_arg_grows (P := P) (w := w) t o.type e i z 1 bytes ht hi hz hsize hby hzs (by decide) ⟨B, 0, none⟩ 0 0 [] rfl (fun j u h => by simp at h) ⟨b, off, none⟩ m c (tab φ m) (by rw [tab_len]; omega)
        (fun j u hu => by
          obtain ⟨hj, rfl⟩ := tab_some hu
          have := hc j hj
          unfold Addr.add
          split
          · rename_i h0; subst h0; simpa using this
          · exact this) (by omega) (by unfold maxLen; omega) hb24
      rw [Nat.zero_add, List.nil_append] at hown
      obtain ⟨A3, c3, rfl, hR⟩ := own_rowO hown rfl (by omega)
      exact ⟨_, w', hr, q_of_grown hg, A3, c3, rfl, hR.mono hbase⟩
  obtain ⟨v', w', hr, hq, A', c', rfl, hR⟩ := hrun
  unfold execOp
  simp only [ho, resolve, invoke, builtin, Sem.run_bind, Sem.run_pure, Result.andThen_ok, List.map_toArray, List.map_cons, List.map_nil, hs, hx, hr]
  exact ⟨hq, h _ _ _ hR hq⟩
end
end Go.Proofs.Ytcjpjnneimjfiaa
