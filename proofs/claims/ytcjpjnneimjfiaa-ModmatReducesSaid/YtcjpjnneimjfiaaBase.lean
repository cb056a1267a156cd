/-
  Words for memory that all contracts of this seat use: what a call leaves as it was, and slices that read as lists.
-/
import Derived.Test.YtcjpjnneimjfiaaRows
import Derived.WalkKit
import Derived.Outline
import Derived.WalkSpells
import Derived.WalkLawsBesides
import Derived.Lib.Hide
import Derived.Deep.QuietTactic
import Derived.BigQuiet
import Derived.Maps.AppendAt
import Derived.Deep.AppendLies
import Derived.Deep.Draws
import Derived.Laws.BitsAllLaws
namespace Go.Proofs.Ytcjpjnneimjfiaa
open Go.RowKit

/-- Everything that lay in `w` lies in `w'` as it lay. -/
def Q (w w' : World) : Prop := Below w.heap.size w w'

section
variable {a b c w w' : World}
set_option maxRecDepth 100000 in
theorem Q.refl (w : World) : Q w w := Below.refl _ _
set_option maxRecDepth 100000 in
theorem Q.trans (h : Q a b) (k : Q b c) : Q a c := Below.trans h (k.mono h.size)
set_option maxRecDepth 100000 in
theorem Q.below (h : Q a b) : Below a.heap.size a b := h
set_option maxRecDepth 100000 in
theorem Q.of {B : Nat} (h : Below B a b) (hB : a.heap.size ≤ B) : Q a b := h.mono hB
set_option maxRecDepth 100000 in
theorem Q.size (h : Q a b) : a.heap.size ≤ b.heap.size := Below.size h
set_option maxRecDepth 100000 in
theorem Q.drew (h : Q a b) : Q a b.drew := Below.drew h
set_option maxRecDepth 100000 in
theorem Q.drewN (h : Q a b) (n : Nat) : Q a (b.drewN n) := below_drewN h n
set_option maxRecDepth 100000 in
theorem Q.alloc (h : Q a b) (o : Obj) : Q a (b.alloc o) := Below.alloc h h.size o
set_option maxRecDepth 100000 in
theorem Q.setCell (h : Q a b) {p : Addr} (hp : a.heap.size ≤ p.block) (u : Value) : Q a (b.setCell p u) := Below.setCell h hp u
set_option maxRecDepth 100000 in
theorem Q.block (h : Q a b) {k : Nat} (hk : k < a.heap.size) : b.heap[k]? = a.heap[k]? := Below.block h k hk
set_option maxRecDepth 100000 in
theorem lt_of_cell {p : Addr} {v : Value} (h : w.cell? p = some v) : p.block < w.heap.size := by
  rcases Nat.lt_or_ge p.block w.heap.size with hlt | hge
  · exact hlt
  · simp [World.cell?, Array.getElem?_eq_none hge] at h
set_option maxRecDepth 100000 in
theorem Q.cell (h : Q a b) {p : Addr} {v : Value} (hc : a.cell? p = some v) : b.cell? p = some v := (Below.cell h (lt_of_cell hc)).trans hc
set_option maxRecDepth 100000 in
theorem Q.frozen (h : Q a b) {p : Addr} (hp : p.block < a.heap.size) : b.frozen? p = a.frozen? p := Below.frozen h hp
end

set_option maxRecDepth 100000 in
theorem ret_bool {a b : Bool} (h : a = b) : Ending.returned (.bool a) = .returned (.bool b) := by rw [h]
set_option maxRecDepth 100000 in
theorem ret_int {k : IntKind} {a b : Int} (h : a = b) : Ending.returned (.int k a) = .returned (.int k b) := by rw [h]
set_option maxRecDepth 100000 in
theorem drews_two (w : World) (a b : Nat) : ∃ n, (w.drewN a).drewN b = w.drewN n := ⟨_, World.drewN_drewN _ _ _⟩
set_option maxRecDepth 100000 in
theorem drews_three (w : World) (a b c : Nat) : ∃ n, ((w.drewN a).drewN b).drewN c = w.drewN n := ⟨a + b + c, by simp only [World.drewN_drewN]⟩
set_option maxRecDepth 100000 in
theorem Q.drews {a b w : World} (h : Q a b) (hd : ∃ n, w = b.drewN n) : Q a w := by obtain ⟨n, rfl⟩ := hd; exact h.drewN n

/-- Block `g` is just the cells `cs` of element type `t`; none is frozen. -/
def Blk (w : World) (g : Nat) (t : TypeId) (cs : Array Value) : Prop := w.heap[g]? = some (.cells cs t (0, 0))
section
variable {w w' : World} {g : Nat} {t : TypeId} {cs : Array Value}
set_option maxRecDepth 100000 in
theorem Blk.lt (h : Blk w g t cs) : g < w.heap.size := (Array.getElem?_eq_some_iff.1 h).1
set_option maxRecDepth 100000 in
theorem Blk.cell (h : Blk w g t cs) (i : Nat) : w.cell? ⟨g, i, none⟩ = cs[i]? := by
  unfold Blk at h; simp [World.cell?, h]
set_option maxRecDepth 100000 in
theorem Blk.frozen (h : Blk w g t cs) (i : Nat) : w.frozen? ⟨g, i, none⟩ = false := by
  unfold Blk at h; simp [World.frozen?, h]
set_option maxRecDepth 100000 in
theorem Blk.new (w : World) (t : TypeId) (cs : Array Value) : Blk (w.alloc (.cells cs t)) w.heap.size t cs := by
  exact heap_alloc_new w _
set_option maxRecDepth 100000 in
theorem Blk.new' (w : World) (t : TypeId) (cs : Array Value) {k : Nat} (hk : w.heap.size = k) : Blk (w.alloc (.cells cs t)) k t cs := hk ▸ Blk.new w t cs
set_option maxRecDepth 100000 in
theorem Blk.drew (h : Blk w g t cs) : Blk w.drew g t cs := h
set_option maxRecDepth 100000 in
theorem Blk.drewN (h : Blk w g t cs) (n : Nat) : Blk (w.drewN n) g t cs := h
set_option maxRecDepth 100000 in
theorem Blk.alloc (h : Blk w g t cs) (o : Obj) : Blk (w.alloc o) g t cs := (Below.heap_alloc w o g h.lt).trans h
set_option maxRecDepth 100000 in
theorem Blk.set (h : Blk w g t cs) (i : Nat) (u : Value) : Blk (w.setCell ⟨g, i, none⟩ u) g t (cs.setIfInBounds i u) := by
  unfold Blk at h ⊢
  simp [World.setCell, Array.getElem?_modify, h]
set_option maxRecDepth 100000 in
theorem Blk.far (h : Blk w g t cs) {p : Addr} (hp : g ≠ p.block) (u : Value) : Blk (w.setCell p u) g t cs := (Below.heap_setCell w p u g hp).trans h
set_option maxRecDepth 100000 in
theorem Blk.grown {row : Option Nat} (h : Blk w g t cs) (hb : w.grownBy w' row) (hg : some g ≠ row) : Blk w' g t cs := (hb.block g h.lt hg).trans h
set_option maxRecDepth 100000 in
theorem Blk.q (h : Blk w g t cs) (hq : Q w w') : Blk w' g t cs := (hq.block h.lt).trans h
end

/-- The numbers of a slice of uint32 that begins at `A` with capacity `c`. -/
def Lm (w : World) (A : Option Addr) (c : Nat) (l : List Nat) : Prop :=
  l.length ≤ c ∧ l.length ≤ 140737488355328 ∧ (∀ x ∈ l, x < 4294967296) ∧
  (0 < l.length → ∃ b o, A = some ⟨b, o, none⟩ ∧ b < w.heap.size ∧ ∀ i (h : i < l.length), w.cell? ⟨b, o + i, none⟩ = some (.int .u32 (l[i] : Nat)))

/-- The cells of such a slice. -/
def u32s (l : List Nat) : List Value := l.map fun x => .int .u32 (x : Nat)

section
variable {w w' : World} {A : Option Addr} {c : Nat} {l : List Nat}
set_option maxRecDepth 100000 in
theorem Lm.nil (w : World) (A : Option Addr) (c : Nat) : Lm w A c [] := ⟨by simp, by simp, by simp, by simp⟩
set_option maxRecDepth 100000 in
theorem Lm.q (h : Lm w A c l) (hq : Q w w') : Lm w' A c l :=
  ⟨h.1, h.2.1, h.2.2.1, fun hl => by
    obtain ⟨b, o, e, hb, hc⟩ := h.2.2.2 hl
    exact ⟨b, o, e, Nat.lt_of_lt_of_le hb hq.size, fun i hi => hq.cell (hc i hi)⟩⟩
set_option maxRecDepth 100000 in
theorem Lm.take (h : Lm w A c l) (n : Nat) {c' : Nat} (h1 : (l.take n).length ≤ c') : Lm w A c' (l.take n) :=
  ⟨h1, Nat.le_trans (by rw [List.length_take]; omega) h.2.1, fun x hx => h.2.2.1 x (List.mem_of_mem_take hx), fun hl => by
    obtain ⟨b, o, e, hb, hc⟩ := h.2.2.2 (by simp at hl; omega)
    exact ⟨b, o, e, hb, fun i hi => by simp at hi ⊢; exact hc i (by omega)⟩⟩
set_option maxRecDepth 100000 in
/-- One number of the slice, by a name of its own. -/
theorem Lm.at (h : Lm w A c l) {k : Nat} (hk : k < l.length) : ∃ b o x, A = some ⟨b, o, none⟩ ∧ b < w.heap.size ∧ l[k]? = some x ∧ x < 4294967296 ∧ w.cell? ⟨b, o + k, none⟩ = some (.int .u32 (x : Nat)) := by
  obtain ⟨b, o, e, hb, hc⟩ := h.2.2.2 (by omega)
  exact ⟨b, o, l[k], e, hb, List.getElem?_eq_getElem hk, h.2.2.1 _ (List.getElem_mem hk), hc k hk⟩
set_option maxRecDepth 100000 in
/-- A store into a box that holds no uint32 leaves the slice. -/
theorem Lm.box (h : Lm w A c l) {B : Nat} {t : TypeId} {cs : Array Value} (hB : Blk w B t cs) (hn : ∀ (j : Nat) (x : Int), cs[j]? ≠ some (Value.int .u32 x)) (i : Nat) (u : Value) : Lm (w.setCell ⟨B, i, none⟩ u) A c l :=
  ⟨h.1, h.2.1, h.2.2.1, fun hl => by
    obtain ⟨b, o, e, hb, hc⟩ := h.2.2.2 hl
    have hne : b ≠ B := by
      rintro rfl
      have := hc 0 hl
      rw [hB.cell] at this
      exact hn _ _ this
    exact ⟨b, o, e, by simpa [World.setCell] using hb, fun i' hi => by
      rw [World.cell?_of_block (Below.heap_setCell w ⟨B, i, none⟩ u b hne)]; exact hc i' hi⟩⟩
set_option maxRecDepth 100000 in
theorem Lm.len (h : Lm w A c l) : l.length ≤ 140737488355328 := h.2.1
set_option maxRecDepth 100000 in
theorem Lm.cap (h : Lm w A c l) : l.length ≤ c := h.1
set_option maxRecDepth 100000 in
theorem Lm.lt (h : Lm w A c l) : ∀ x ∈ l, x < 4294967296 := h.2.2.1
set_option maxRecDepth 100000 in
/-- The cells, as an append wants them. -/
theorem Lm.news (h : Lm w A c l) : 0 < l.length → ∃ b o, A = some ⟨b, o, none⟩ ∧ ∀ j u, (u32s l)[j]? = some u → w.cell? ⟨b, o + j, none⟩ = some u := fun hl => by
  obtain ⟨b, o, e, _, hc⟩ := h.2.2.2 hl
  refine ⟨b, o, e, fun j u hu => ?_⟩
  unfold u32s at hu
  rw [List.getElem?_map] at hu
  have hj : j < l.length := by
    rcases Nat.lt_or_ge j l.length with g | g
    · exact g
    · rw [List.getElem?_eq_none g] at hu; cases hu
  rw [List.getElem?_eq_getElem hj] at hu
  injection hu with hu
  exact hu ▸ hc j hj
set_option maxRecDepth 100000 in
theorem Lm.newsq (h : Lm w A c l) {n : Nat} (hn : l.length = n) (hq : Q w w') : 0 < n → ∃ b o, A = some ⟨b, o, none⟩ ∧ ∀ j u, (u32s l)[j]? = some u → w'.cell? ⟨b, o + j, none⟩ = some u := by
  subst hn; exact (h.q hq).news
set_option maxRecDepth 100000 in
theorem own_lm {base e : Nat} {v : Value} {n : Nat} (h : w.ownsRow base e 1 v n (u32s l)) (hl : ∀ x ∈ l, x < 4294967296) (hn : n ≤ 140737488355328) :
    ∃ A c, v = .slice A n c ∧ n = l.length ∧ Lm w A c l := by
  have hlen : n = l.length := by have := h.1; simp [u32s] at this; omega
  rcases h.2 with ⟨rfl, h0⟩ | ⟨g, cap, cur, rfl, hb, hh, hnc, hm, hs, ht⟩
  · exact ⟨none, 0, by rw [h0], hlen, ⟨by omega, by omega, hl, fun h => by omega⟩⟩
  · refine ⟨_, cap, rfl, hlen, ⟨by omega, by omega, hl, fun _ => ⟨g, 0, rfl, (Array.getElem?_eq_some_iff.1 hh).1, fun i hi => ?_⟩⟩⟩
    have := h.cellAt i (by omega)
    rw [Nat.zero_add, this]
    simp [u32s, hi]
set_option maxRecDepth 100000 in
theorem oneCell_u32s (l : List Nat) : ∀ u ∈ u32s l, u.oneCell' = true := by
  intro u hu
  unfold u32s at hu
  obtain ⟨x, _, rfl⟩ := List.mem_map.1 hu
  rfl
end

section
variable {P : Program} {w : World}
set_option maxRecDepth 100000 in
/-- append onto a row of the call's own, elements of one cell; the source may be nil or empty. -/
theorem run_app (base : Nat) (t ty e : TypeId) (i : TypeInfo) (z : Value) (bytes : Nat) (ht : P.underlying t = some (.slice e)) (hi : P.info? e = some i) (hz : i.zero = some z)
    (hsize : i.size = 1) (hby : i.bytes = bytes) (hzs : z.cells.size = 1)
    (v : Value) (n : Nat) (xs : List Value) (hown : w.ownsRow base e 1 v n xs)
    (A : Option Addr) (m c : Nat) (news : List Value) (hl : news.length = m) (hnews : 0 < m → ∃ b o, A = some ⟨b, o, none⟩ ∧ ∀ j u, news[j]? = some u → w.cell? ⟨b, o + j, none⟩ = some u)
    (h1 : ∀ u ∈ news, u.oneCell' = true) (h63 : n + m ≤ maxLen) (hbytes : (n + m) * bytes ≤ 140737488355328) (hbase : base ≤ w.heap.size) :
    ∃ v' w', (Builtin.append_ #[t, t] ty #[v, .slice A m c]).run P w = .ok v' w' ∧ w'.ownsRow base e 1 v' (n + m) (xs ++ news) ∧ w.grownBy w' v.ownBlock ∧
      (v'.ownBlock = v.ownBlock ∨ v'.ownBlock = some w.heap.size) := by
  rcases A with _ | ad
  · have hm : m = 0 := by
      rcases Nat.eq_zero_or_pos m with h0 | h0
      · exact h0
      · obtain ⟨_, _, h, _⟩ := hnews h0
        cases h
    subst hm
    obtain rfl : news = [] := List.eq_nil_of_length_eq_zero hl
    refine ⟨v, w, ?_, by simpa using hown, World.grownBy.refl w _, .inl rfl⟩
    rcases hown.2 with ⟨rfl, rfl⟩ | ⟨g, cap, cur, rfl, _, _, hnc, _⟩
    · simp [Builtin.append_, run_underlying ht, sizeOf, typeInfo, hi, Builtin.lenOf, Builtin.firstCells]
    · simp [Builtin.append_, run_underlying ht, sizeOf, typeInfo, hi, Builtin.lenOf, Builtin.firstCells, hnc, storeCells]
  · have hcells : ∀ j u, news[j]? = some u → w.cell? (ad.add j) = some u := by
      intro j u hu
      have hj : j < m := by
        rcases Nat.lt_or_ge j news.length with g | g
        · omega
        · rw [List.getElem?_eq_none g] at hu; cases hu
      obtain ⟨b, o, h, hc⟩ := hnews (by omega)
      injection h with h
      subst h
      have := hc j u hu
      unfold Addr.add
      split
      · rename_i h0; subst h0; simpa using this
      · exact this
    obtain ⟨v', w', hrun, h2, h3, _, h5⟩ := run_append_own_at (P := P) w base t ty e i z 1 bytes ht hi hz hsize hby hzs (by decide) v n xs hown ad m c news (by omega) hcells h1 h63 hbytes hbase
    exact ⟨v', w', hrun, h2, h3, h5⟩

set_option maxRecDepth 100000 in
theorem wpList_app {ops : Array Oper} {rest : List Oper} {o : Oper} {a : Act} {Q : Exit → Act → World → Prop} (hgd : o.guard = none) (s x : Operand) (t : TypeId)
    (ho : o.op = .call { callee := .builtin .append, args := #[s, x], argTypes := #[t, t] })
    (base : Nat) (e : TypeId) (i : TypeInfo) (z : Value) (bytes : Nat) (ht : P.underlying t = some (.slice e)) (hi : P.info? e = some i) (hz : i.zero = some z)
    (hsize : i.size = 1) (hby : i.bytes = bytes) (hzs : z.cells.size = 1)
    (v : Value) (n : Nat) (xs : List Value) (hs : a.eval s = v) (hown : w.ownsRow base e 1 v n xs)
    (A : Option Addr) (m c : Nat) (news : List Value) (hx : a.eval x = .slice A m c) (hl : news.length = m)
    (hnews : 0 < m → ∃ b o, A = some ⟨b, o, none⟩ ∧ ∀ j u, news[j]? = some u → w.cell? ⟨b, o + j, none⟩ = some u)
    (h1 : ∀ u ∈ news, u.oneCell' = true) (h63 : n + m ≤ maxLen) (hbytes : (n + m) * bytes ≤ 140737488355328) (hbase : base ≤ w.heap.size)
    (h : ∀ v' w', w'.ownsRow base e 1 v' (n + m) (xs ++ news) → w.grownBy w' v.ownBlock → (v'.ownBlock = v.ownBlock ∨ v'.ownBlock = some w.heap.size) → wpList P ops Q rest (a.put o.dst v') w') :
    wpList P ops Q (o :: rest) a w := by
  refine wpList_plain hgd fun K hK => ?_
  obtain ⟨v', w', hrun, h2, h3, h4⟩ := run_app (P := P) base t o.type e i z bytes ht hi hz hsize hby hzs v n xs hown A m c news hl hnews h1 h63 hbytes hbase
  unfold Oper.wp execOp
  simp only [ho, resolve, invoke, builtin, Sem.run_bind, Sem.run_pure, Result.andThen_ok, List.map_toArray, List.map_cons, List.map_nil, hs, hx, hrun]
  exact hK _ _ (h v' w' h2 h3 h4)
end

set_option maxRecDepth 100000 in
theorem own_new (w : World) (e base k : Nat) (hk : w.heap.size = k) (hb : base ≤ k) : (w.alloc (.cells #[] e)).ownsRow base e 1 (.slice (some ⟨k, 0, none⟩) 0 0) 0 [] := by
  subst hk; exact World.ownsRow_made w #[] 0 hb (by decide) rfl
set_option maxRecDepth 100000 in
theorem own_shape {w : World} {base e : Nat} {v : Value} {n : Nat} {xs : List Value} (h : w.ownsRow base e 1 v n xs) : ∃ A c, v = .slice A n c ∧ (A = none ∨ ∃ g, A = some ⟨g, 0, none⟩ ∧ base ≤ g) := by
  rcases h.2 with ⟨rfl, rfl⟩ | ⟨g, cap, cur, rfl, hb, _⟩
  · exact ⟨none, 0, rfl, .inl rfl⟩
  · exact ⟨_, cap, rfl, .inr ⟨g, rfl, hb⟩⟩

set_option maxRecDepth 100000 in
/-- append of one element onto a row of the call's own: what lies below the row's base stays. -/
theorem wpList_app1 {P : Program} {w0 : World} {ops : Array Oper} {rest : List Oper} {o : Oper} {a : Act} {R : Exit → Act → World → Prop} (hgd : o.guard = none) (s x : Operand) (t : TypeId)
    (ho : o.op = .call { callee := .builtin .append, args := #[s, x], argTypes := #[t, t] })
    (base : Nat) (e : TypeId) (i : TypeInfo) (z : Value) (bytes : Nat) (ht : P.underlying t = some (.slice e)) (hi : P.info? e = some i) (hz : i.zero = some z)
    (hsize : i.size = 1) (hby : i.bytes = bytes) (hzs : z.cells.size = 1)
    (v : Value) (n : Nat) (xs : List Value) (hs : a.eval s = v) (hown : w0.ownsRow base e 1 v n xs) (u : Value)
    (hx : a.eval x = .slice (some ⟨w0.heap.size, 0, none⟩) 1 1) (hu : u.oneCell' = true) (hn : n ≤ 1099511627776) (hb8 : bytes ≤ 24) (hbase : base ≤ w0.heap.size)
    (h : ∀ A c w', w'.ownsRow base e 1 (.slice A (n + 1) c) (n + 1) (xs ++ [u]) → Below base w0 w' → w0.heap.size ≤ w'.heap.size → wpList P ops R rest (a.put o.dst (.slice A (n + 1) c)) w') :
    wpList P ops R (o :: rest) a (w0.alloc (.cells #[u] e)) := by
  have hc : ∀ j x, [u][j]? = some x → (w0.alloc (.cells #[u] e)).cell? ⟨w0.heap.size, 0 + j, none⟩ = some x := by
    intro j x hj
    have hB := Blk.new w0 e #[u]
    rw [hB.cell]
    rw [Nat.zero_add]
    simpa using hj
  have hb24 : (n + 1) * bytes ≤ 140737488355328 := by
    have := Nat.mul_le_mul_left (n + 1) hb8
    omega
  refine wpList_app hgd s x t ho base e i z bytes ht hi hz hsize hby hzs v n xs hs (hown.alloc _) (some ⟨w0.heap.size, 0, none⟩) 1 1 [u] hx rfl (fun _ => ⟨_, _, rfl, hc⟩) (by simpa using hu) (by unfold maxLen; omega) hb24 (by simp; omega) ?_
  intro v' w' hown' hg _
  obtain ⟨A, c, rfl, _⟩ := own_shape hown'
  refine h A c w' hown' ?_ (by have := hg.size; simp at this; omega)
  refine ((Below.refl base w0).alloc hbase _).grown hg (by simp; omega) (fun k e => ?_)
  exact (hown.lt k e).1

/-- An integer's value: a sign and the slice of its limbs. -/
def IntL (w : World) (v : Value) (neg : Bool) (l : List Nat) : Prop := ∃ A c, v = .agg #[.bool neg, .slice A l.length c] ∧ Lm w A c l
set_option maxRecDepth 100000 in
theorem IntL.q {w w' : World} {v : Value} {neg : Bool} {l : List Nat} (h : IntL w v neg l) (hq : Q w w') : IntL w' v neg l := by
  obtain ⟨A, c, e, hl⟩ := h
  exact ⟨A, c, e, hl.q hq⟩
set_option maxRecDepth 100000 in
/-- The end of a function that returns an integer: its result lies in the box B. -/
theorem int_end {w w1 : World} {B t : Nat} {b0 : Bool} {A0 A : Option Addr} {n0 c0 c n : Nat} {l : List Nat} (hB : Blk w1 B t #[.bool b0, .slice A0 n0 c0]) (hq : Q w w1) (hw : w.heap.size ≤ B) (h : Lm w1 A c l) (hn : l.length = n) (neg : Bool) :
    IntL ((w1.setCell ⟨B, 0, none⟩ (.bool neg)).setCell ⟨B, 1, none⟩ (.slice A n c)) (.agg #[.bool neg, .slice A n c]) neg l ∧
      Q w ((w1.setCell ⟨B, 0, none⟩ (.bool neg)).setCell ⟨B, 1, none⟩ (.slice A n c)) := by
  subst hn
  have n1 : ∀ (b1 : Bool) (j : Nat) (x : Int), (#[Value.bool b1, .slice A0 n0 c0] : Array Value)[j]? ≠ some (Value.int .u32 x) := by
    intro b1 j x
    match j with
    | 0 => simp
    | 1 => simp
    | j + 2 => simp
  refine ⟨⟨A, c, rfl, (h.box hB (n1 _) _ _).box (hB.set 0 _) (n1 neg) _ _⟩, (hq.setCell hw _).setCell hw _⟩
set_option maxRecDepth 100000 in
theorem grown_q {a w w' : World} {row : Option Nat} (hq : Q a w) (hg : w.grownBy w' row) (hr : ∀ k, row = some k → a.heap.size ≤ k) : Q a w' :=
  Below.grown hq hg hq.size hr

set_option maxRecDepth 100000 in
theorem info_u32 : (Try.prog.info? 49).map (fun i => (i.zero, i.size, i.bytes)) = some (some (.int .u32 0), 1, 4) := by kernel_rfl

end Go.Proofs.Ytcjpjnneimjfiaa
