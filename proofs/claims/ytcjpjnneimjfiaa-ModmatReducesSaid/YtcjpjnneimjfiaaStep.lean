/-
  append at a step of a region that draws its order.
-/
import Derived.Test.YtcjpjnneimjfiaaSl
import Derived.Deep.RegionLaw
namespace Go.Proofs.Ytcjpjnneimjfiaa
open Go.RowKit

section
variable {P : Program} {w : World}
set_option maxRecDepth 100000 in
theorem step_app {ops : Array Oper} {o : Oper} {a : Act} {K : Act → World → Prop} {R : Exit → Act → World → Prop} {E : Prop} (hgd : o.guard = none) (s x : Operand) (t : TypeId)
    (ho : o.op = .call { callee := .builtin .append, args := #[s, x], argTypes := #[t, t] })
    (base : Nat) (e : TypeId) (i : TypeInfo) (z : Value) (bytes : Nat) (ht : P.underlying t = some (.slice e)) (hi : P.info? e = some i) (hz : i.zero = some z)
    (hsize : i.size = 1) (hby : i.bytes = bytes) (hzs : z.cells.size = 1)
    (v : Value) (n : Nat) (xs : List Value) (hs : a.eval s = v) (hown : w.ownsRow base e 1 v n xs)
    (A : Option Addr) (m c : Nat) (news : List Value) (hx : a.eval x = .slice A m c) (hl : news.length = m)
    (hnews : 0 < m → ∃ b o, A = some ⟨b, o, none⟩ ∧ ∀ j u, news[j]? = some u → w.cell? ⟨b, o + j, none⟩ = some u)
    (h1 : ∀ u ∈ news, u.oneCell' = true) (h63 : n + m ≤ maxLen) (hbytes : (n + m) * bytes ≤ 140737488355328) (hbase : base ≤ w.heap.size)
    (h : ∀ A' c' w', w'.ownsRow base e 1 (.slice A' (n + m) c') (n + m) (xs ++ news) → w.grownBy w' v.ownBlock → K (a.put o.dst (.slice A' (n + m) c')) w') :
    if Region.wanted o (yielded ops a.tmps) = true then Oper.wp P o a w K R else E := by
  have hw : Region.wanted o (yielded ops a.tmps) = true := by simp [Region.wanted, hgd]
  rw [if_pos hw]
  obtain ⟨v', w', hrun, h2, h3, _⟩ := run_app (P := P) base t o.type e i z bytes ht hi hz hsize hby hzs v n xs hown A m c news hl hnews h1 h63 hbytes hbase
  unfold Oper.wp execOp
  simp only [ho, resolve, invoke, builtin, Sem.run_bind, Sem.run_pure, Result.andThen_ok, List.map_toArray, List.map_cons, List.map_nil, hs, hx, hrun]
  obtain ⟨A', c', rfl, _⟩ := own_shape h2
  exact h A' c' w' h2 h3
set_option maxRecDepth 100000 in
/-- append of the one element that a block of one cell holds. -/
theorem step_app1 {ops : Array Oper} {o : Oper} {a : Act} {K : Act → World → Prop} {R : Exit → Act → World → Prop} {E : Prop} (hgd : o.guard = none) (s x : Operand) (t : TypeId)
    (ho : o.op = .call { callee := .builtin .append, args := #[s, x], argTypes := #[t, t] })
    (base : Nat) (e : TypeId) (i : TypeInfo) (z : Value) (bytes : Nat) (ht : P.underlying t = some (.slice e)) (hi : P.info? e = some i) (hz : i.zero = some z)
    (hsize : i.size = 1) (hby : i.bytes = bytes) (hzs : z.cells.size = 1)
    (v : Value) (n : Nat) (xs : List Value) (hs : a.eval s = v) (hown : w.ownsRow base e 1 v n xs)
    (B : Nat) (hx : a.eval x = .slice (some ⟨B, 0, none⟩) 1 1) (u : Value) (hB : Blk w B e #[u]) (hu : u.oneCell' = true) (hn : n ≤ 1099511627776) (hb8 : bytes ≤ 24) (hbase : base ≤ w.heap.size)
    (h : ∀ A' c' w', w'.ownsRow base e 1 (.slice A' (n + 1) c') (n + 1) (xs ++ [u]) → w.grownBy w' v.ownBlock → K (a.put o.dst (.slice A' (n + 1) c')) w') :
    if Region.wanted o (yielded ops a.tmps) = true then Oper.wp P o a w K R else E := by
  have hb24 : (n + 1) * bytes ≤ 140737488355328 := by
    have := Nat.mul_le_mul_left (n + 1) hb8
    omega
  refine step_app hgd s x t ho base e i z bytes ht hi hz hsize hby hzs v n xs hs hown (some ⟨B, 0, none⟩) 1 1 [u] hx rfl (fun _ => ⟨B, 0, rfl, fun j y hj => ?_⟩) (by simpa using hu) (by unfold maxLen; omega) hb24 hbase h
  rw [hB.cell, Nat.zero_add]
  simpa using hj
set_option maxRecDepth 100000 in
/-- append of one element, in a plain region. -/
theorem wpList_app1g {w0 : World} {ops : Array Oper} {rest : List Oper} {o : Oper} {a : Act} {R : Exit → Act → World → Prop} (hgd : o.guard = none) (s x : Operand) (t : TypeId)
    (ho : o.op = .call { callee := .builtin .append, args := #[s, x], argTypes := #[t, t] })
    (base : Nat) (e : TypeId) (i : TypeInfo) (z : Value) (bytes : Nat) (ht : P.underlying t = some (.slice e)) (hi : P.info? e = some i) (hz : i.zero = some z)
    (hsize : i.size = 1) (hby : i.bytes = bytes) (hzs : z.cells.size = 1)
    (v : Value) (n : Nat) (xs : List Value) (hs : a.eval s = v) (hown : w0.ownsRow base e 1 v n xs) (u : Value)
    (hx : a.eval x = .slice (some ⟨w0.heap.size, 0, none⟩) 1 1) (hu : u.oneCell' = true) (hn : n ≤ 1099511627776) (hb8 : bytes ≤ 24) (hbase : base ≤ w0.heap.size)
    (h : ∀ A c w', w'.ownsRow base e 1 (.slice A (n + 1) c) (n + 1) (xs ++ [u]) → (w0.alloc (.cells #[u] e)).grownBy w' v.ownBlock → wpList P ops R rest (a.put o.dst (.slice A (n + 1) c)) w') :
    wpList P ops R (o :: rest) a (w0.alloc (.cells #[u] e)) := by
  have hc : ∀ j x, [u][j]? = some x → (w0.alloc (.cells #[u] e)).cell? ⟨w0.heap.size, 0 + j, none⟩ = some x := by
    intro j x hj
    have hB := Blk.new w0 e #[u]
    rw [hB.cell]
    rw [Nat.zero_add]
    simpa using hj
  have hb24 : (n + 1) * bytes ≤ 140737488355328 := by
    have := Nat.mul_le_mul_left (n + 1) hb8
    omega
  refine wpList_app hgd s x t ho base e i z bytes ht hi hz hsize hby hzs v n xs hs (hown.alloc _) (some ⟨w0.heap.size, 0, none⟩) 1 1 [u] hx rfl (fun _ => ⟨_, _, rfl, hc⟩) (by simpa using hu) (by unfold maxLen; omega) hb24 (by simp; omega) ?_
  intro v' w' hown' hg _
  obtain ⟨A, c, rfl, _⟩ := own_shape hown'
  exact h A c w' hown' hg
end
end Go.Proofs.Ytcjpjnneimjfiaa
