/-
  What holds while reduce runs; clear of a row of zeros.
-/
import Derived.Test.YtcjpjnneimjfiaaMmB
import Derived.Laws.CopyRow
namespace Go.Proofs.Ytcjpjnneimjfiaa
open Go.RowKit

set_option maxRecDepth 100000 in
theorem ownsRow_of_block {w w' : World} {base t : Nat} {v : Value} {n : Nat} {xs : List Value} (h : w.ownsRow base t 1 v n xs) (hb : ∀ g, base ≤ g → g < w.heap.size → w'.heap[g]? = w.heap[g]?) : w'.ownsRow base t 1 v n xs := by
  refine ⟨h.1, ?_⟩
  rcases h.2 with ⟨rfl, h0⟩ | ⟨g, cap, cur, rfl, h1, h2, h3⟩
  · exact .inl ⟨rfl, h0⟩
  · exact .inr ⟨g, cap, cur, rfl, h1, by rw [hb g h1 (Array.getElem?_eq_some_iff.1 h2).1]; exact h2, h3⟩
set_option maxRecDepth 100000 in
theorem ownsRow_q {w w' : World} {base t : Nat} {v : Value} {n : Nat} {xs : List Value} (h : w.ownsRow base t 1 v n xs) (hq : Q w w') : w'.ownsRow base t 1 v n xs :=
  ownsRow_of_block h (fun _ _ hg => hq.block hg)

set_option maxRecDepth 100000 in
theorem Cells.cell {p : Nat} {w : World} {g t n k : Nat} {cs : Array Value} {x : Nat → Fin p} (h : Cells cs n x) (hb : Blk w g t cs) (hk : k < n) {z : Fin p} (e : x k = z) : w.cell? ⟨g, k, none⟩ = some (.int .u64 ((z : Nat) : Int)) := by
  rw [hb.cell, h k hk, e]
set_option maxRecDepth 100000 in
theorem Cells.sc {p : Nat} {w : World} {g t n c : Nat} {cs : Array Value} {x : Nat → Fin p} (h : Cells cs n x) (hb : Blk w g t cs) (hc : n ≤ c) (hn : n ≤ 4096) : Sc w (some ⟨g, 0, none⟩) n c (u64 x) :=
  ⟨hc, by omega, fun _ => ⟨g, 0, rfl, hb.lt, fun k hk => by rw [Nat.zero_add, hb.cell, h k hk]; rfl⟩⟩
/-- Pivots as cells. -/
def i64s (pv : Nat → Nat) : Nat → Value := fun i => .int .i64 ((pv i : Nat) : Int)
section
variable {p : Nat}
/-- The rows are the call's own and older than w; the pivots are a row made behind w. -/
structure RedS (base : Nat) (w wr : World) (g : Nat) (hs : Array Value) (gs : Nat → Nat) (n W : Nat) (M : Nat → Nat → Fin p) (v : Value) (r : Nat) (pv : Nat → Nat) : Prop where
  own : OwnM base wr g hs gs n W M
  ltg : g < w.heap.size
  lt : 0 < W → ∀ i, i < n → gs i < w.heap.size
  piv : wr.ownsRow w.heap.size 3 1 v r (tab (i64s pv) r)
  bel : Below base w wr
  le : base ≤ w.heap.size
section
variable {base : Nat} {w wr w2 : World} {g : Nat} {hs : Array Value} {gs : Nat → Nat} {n W : Nat} {M M' : Nat → Nat → Fin p} {v : Value} {r : Nat} {pv : Nat → Nat}
set_option maxRecDepth 100000 in
theorem RedS.size (h : RedS base w wr g hs gs n W M v r pv) : w.heap.size ≤ wr.heap.size := h.bel.size
set_option maxRecDepth 100000 in
theorem RedS.q (h : RedS base w wr g hs gs n W M v r pv) (hq : Q wr w2) : RedS base w w2 g hs gs n W M v r pv :=
  ⟨h.own.q hq, h.ltg, h.lt, ownsRow_q h.piv hq, h.bel.trans (hq.mono (Nat.le_trans h.le h.size)), h.le⟩
set_option maxRecDepth 100000 in
theorem RedS.congr (h : RedS base w wr g hs gs n W M v r pv) (e : ∀ i k, i < n → k < W → M i k = M' i k) : RedS base w wr g hs gs n W M' v r pv :=
  ⟨h.own.congr e, h.ltg, h.lt, h.piv, h.bel, h.le⟩
set_option maxRecDepth 100000 in
theorem RedS.row (h : RedS base w wr g hs gs n W M v r pv) (hW : 0 < W) {i : Nat} (hi : i < n) (hu : Upd (gs i) wr w2) {cs : Array Value} (hb : Blk w2 (gs i) 26 cs) {x : Nat → Fin p} (hc : Cells cs W x) :
    RedS base w w2 g hs gs n W (fun j => if j = i then x else M j) v r pv :=
  ⟨h.own.upd hW hi hu hb hc, h.ltg, h.lt, ownsRow_of_block h.piv (fun k hk _ => hu.block k (by have := h.lt hW i hi; omega)), h.bel.trans (hu.below (h.own.own hW i hi).1), h.le⟩
set_option maxRecDepth 100000 in
theorem RedS.swap (h : RedS base w wr g hs gs n W M v r pv) {a t : Nat} (ha : a < n) (ht : t < n) (hne : a ≠ t) {va vt : Value} (ea : hs[a]? = some va) (et : hs[t]? = some vt) :
    ∃ hs' gs', RedS base w ((wr.setCell ⟨g, a, none⟩ vt).setCell ⟨g, t, none⟩ va).drew g hs' gs' n W (swp a t M) v r pv := by
  have la : a < hs.size := (Array.getElem?_eq_some_iff.1 ea).1
  have lt : t < hs.size := (Array.getElem?_eq_some_iff.1 et).1
  have hu : Upd g wr ((wr.setCell ⟨g, a, none⟩ vt).setCell ⟨g, t, none⟩ va).drew := (((Upd.refl g wr).setCell a vt).setCell t va).drew
  have hb : Blk ((wr.setCell ⟨g, a, none⟩ vt).setCell ⟨g, t, none⟩ va).drew g 44 ((hs.setIfInBounds a vt).setIfInBounds t va) := ((h.own.head.set a vt).set t va).drew
  refine ⟨_, _, h.own.swap ha ht hne ea et hb hu ?_ ?_ ?_, h.ltg, fun hW i hi => ?_, ownsRow_of_block h.piv (fun k hk _ => hu.block k (by have := h.ltg; omega)), h.bel.trans (hu.below h.own.bg), h.le⟩
  · rw [Array.getElem?_setIfInBounds_ne (Ne.symm hne)]; simp [la]
  · simp [lt]
  · intro i h1 h2
    rw [Array.getElem?_setIfInBounds_ne (Ne.symm h2), Array.getElem?_setIfInBounds_ne (Ne.symm h1)]
  · split
    · exact h.lt hW t ht
    · split
      · exact h.lt hW a ha
      · exact h.lt hW i hi
set_option maxRecDepth 100000 in
theorem RedS.push (h : RedS base w wr g hs gs n W M v r pv) {v2 : Value} {pv2 : Nat → Nat} {c : Nat} (hown : w2.ownsRow w.heap.size 3 1 v2 (r + 1) (tab (i64s pv) r ++ [.int .i64 ((c : Nat) : Int)])) (hb : Below w.heap.size wr w2) (e1 : ∀ i, i < r → pv2 i = pv i) (e2 : pv2 r = c) :
    RedS base w w2 g hs gs n W M v2 (r + 1) pv2 := by
  have hh : ∀ k, k < w.heap.size → w2.heap[k]? = wr.heap[k]? := fun k hk => hb.block k hk
  refine ⟨⟨(hh g h.ltg).trans h.own.head, h.own.bg, h.own.row, fun hW i hi => ?_, h.own.inj⟩, h.ltg, h.lt, ?_, h.bel.trans (hb.mono h.le), h.le⟩
  · obtain ⟨a, b, cs, hb1, hc⟩ := h.own.own hW i hi
    exact ⟨a, b, cs, (hh _ (h.lt hW i hi)).trans hb1, hc⟩
  · rw [← tab_snoc, show i64s pv2 r = .int .i64 ((c : Nat) : Int) by unfold i64s; rw [e2], tab_congr (ψ := i64s pv) (fun k hk => by unfold i64s; rw [e1 k hk])]
    exact hown
set_option maxRecDepth 100000 in
/-- The cells of row i. -/
theorem RedS.at (h : RedS base w wr g hs gs n W M v r pv) {i : Nat} (hi : i < n) (hW : 0 < W) : ∃ c cs, W ≤ c ∧ hs[i]? = some (.slice (some ⟨gs i, 0, none⟩) W c) ∧ wr.cell? ⟨g, i, none⟩ = some (.slice (some ⟨gs i, 0, none⟩) W c) ∧ gs i ≠ g ∧ Blk wr (gs i) 26 cs ∧ Cells cs W (M i) := by
  obtain ⟨A, c, e, hc, hA⟩ := h.own.row i hi
  obtain ⟨_, b, cs, hb, hcs⟩ := h.own.own hW i hi
  obtain rfl := hA hW
  exact ⟨c, cs, hc, e, by rw [h.own.head.cell]; exact e, b, hb, hcs⟩
end
end

section
variable {p : Nat} [NeZero p]
/-- Row r with its first k elements scaled. -/
def sclk (r : Nat) (u : Fin p) (k : Nat) (Y : Mt p) : Mt p := fun j => if j = r then (fun l => if l < k then Y r l * u else Y r l) else Y j
set_option maxRecDepth 100000 in
theorem sclk_0 {p : Nat} (r : Nat) (u : Fin p) (Y : Mt p) : sclk r u 0 Y = Y := by
  funext j l; unfold sclk; grind
set_option maxRecDepth 100000 in
theorem sclk_all {p : Nat} {r : Nat} {u : Fin p} {Y : Mt p} {W j l : Nat} (hl : l < W) : sclk r u W Y j l = scl r u Y j l := by
  unfold sclk scl
  by_cases h : j = r
  · subst h; simp [hl]
  · simp [h]
set_option maxRecDepth 100000 in
theorem sclk_at {p : Nat} (r : Nat) (u : Fin p) (k : Nat) (Y : Mt p) : sclk r u k Y r k = Y r k := by
  unfold sclk; grind
set_option maxRecDepth 100000 in
theorem scl_close {p : Nat} {base : Nat} {w wr : World} {g : Nat} {hs : Array Value} {gs : Nat → Nat} {n W : Nat} {Y : Mt p} {v : Value} {r q : Nat} {pv : Nat → Nat} {u : Fin p} {k : Nat} {cs : Array Value} {z : Value}
    (h : RedS base w wr g hs gs n W (sclk r u k Y) v q pv) (hW : k < W) (hr : r < n) (hb : Blk wr (gs r) 26 cs) (hc : Cells cs W (sclk r u k Y r)) (e : z = .int .u64 ((Y r k * u : Fin p) : Nat)) :
    (∃ k1 : Nat, Value.int .i64 ((k : Int) + 1) = .int .i64 k1 ∧ k1 ≤ W ∧ RedS base w (wr.setCell ⟨gs r, k, none⟩ z).drew g hs gs n W (sclk r u k1 Y) v q pv) ∧
      W - (intOf (Value.int .i64 ((k : Int) + 1))).toNat < W - (intOf (Value.int .i64 (k : Int))).toNat := by
  subst e
  have hc2 : Cells (cs.setIfInBounds k (.int .u64 ((Y r k * u : Fin p) : Nat))) W (sclk r u (k + 1) Y r) := hc.set hW (fun j _ => by unfold sclk; simp only [if_true]; grind)
  have h2 := h.row (by omega) hr (((Upd.refl (gs r) wr).setCell k (.int .u64 ((Y r k * u : Fin p) : Nat))).drew) ((hb.set k _).drew) hc2
  refine ⟨⟨k + 1, rfl, by omega, h2.congr (fun i l _ _ => by
    by_cases e : i = r
    · rw [if_pos e, e]
    · rw [if_neg e]; unfold sclk; rw [if_neg e, if_neg e])⟩, ?_⟩
  simp only [intOf]; omega
/-- The rows before i with their multiples of row r taken away. -/
def elmk (r c i : Nat) (Y : Mt p) : Mt p := fun j => if j < i then elm r (fun i => Y i c) Y j else Y j
set_option maxRecDepth 100000 in
theorem elmk_0 {p : Nat} (r c : Nat) (Y : Mt p) : elmk r c 0 Y = Y := by
  funext j l; unfold elmk; grind
set_option maxRecDepth 100000 in
theorem elmk_skip {r c i : Nat} {Y : Mt p} (h : i = r ∨ Y i c = 0) (j l : Nat) : elmk r c i Y j l = elmk r c (i + 1) Y j l := by
  unfold elmk
  by_cases e : j = i
  · subst e
    rw [if_neg (by omega), if_pos (by omega)]
    unfold elm
    rcases h with h | h
    · rw [if_pos h]
    · dsimp only; rw [h]; grind
  · by_cases e2 : j < i
    · rw [if_pos e2, if_pos (by omega)]
    · rw [if_neg e2, if_neg (by omega)]
set_option maxRecDepth 100000 in
theorem elmk_i {p : Nat} (r c i : Nat) (Y : Mt p) : elmk r c i Y i = Y i := by unfold elmk; rw [if_neg (by omega)]
set_option maxRecDepth 100000 in
theorem elmk_r {p : Nat} (r c i : Nat) (Y : Mt p) : elmk r c i Y r = Y r := by
  funext l; unfold elmk elm; split <;> simp
set_option maxRecDepth 100000 in
theorem elmk_step {p : Nat} {r c i : Nat} {Y : Mt p} (h : i ≠ r) (j : Nat) : elmk r c (i + 1) Y j = if j = i then (fun l => Y i l - Y i c * Y r l) else elmk r c i Y j := by
  funext l; unfold elmk
  by_cases e : j = i
  · subst e; rw [if_pos (by omega), if_pos rfl]; unfold elm; rw [if_neg h]
  · rw [if_neg e]
    by_cases e2 : j < i
    · rw [if_pos e2, if_pos (by omega)]
    · rw [if_neg e2, if_neg (by omega)]
set_option maxRecDepth 100000 in
theorem elmk_all {p : Nat} {r c n : Nat} {Y : Mt p} {j l : Nat} (h : j < n) : elmk r c n Y j l = elm r (fun i => Y i c) Y j l := by
  unfold elmk; rw [if_pos h]
set_option maxRecDepth 100000 in
theorem elm_close {p : Nat} {base : Nat} {w wr w2 : World} {g : Nat} {hs : Array Value} {gs : Nat → Nat} {n W : Nat} {Y : Mt p} {v : Value} {r q : Nat} {pv : Nat → Nat} {c i : Nat} {cs : Array Value}
    (h : RedS base w wr g hs gs n W (elmk r c i Y) v q pv) (hW : 0 < W) (hi : i < n) (hir : i ≠ r) (hu : Upd (gs i) wr w2) (hb : Blk w2 (gs i) 26 cs) (hc : Cells cs W (fun l => Y i l - Y i c * Y r l)) :
    (∃ i1 : Nat, Value.int .i64 ((i : Int) + 1) = .int .i64 i1 ∧ i1 ≤ n ∧ RedS base w w2 g hs gs n W (elmk r c i1 Y) v q pv) ∧
      n - (intOf (Value.int .i64 ((i : Int) + 1))).toNat < n - (intOf (Value.int .i64 (i : Int))).toNat := by
  have h2 := h.row hW hi hu hb hc
  refine ⟨⟨i + 1, rfl, by omega, h2.congr (fun j l _ _ => by rw [elmk_step hir])⟩, ?_⟩
  simp only [intOf]; omega
end

set_option maxRecDepth 100000 in
/-- clear of cells that are zeros already. -/
theorem wpList_clear0 {ops : Array Oper} {rest : List Oper} {o : Oper} {a : Act} {w : World} {R : Exit → Act → World → Prop} (hgd : o.guard = none) (s : Operand)
    (ho : o.op = .call { callee := .builtin .clear, args := #[s], argTypes := #[44] }) (hd : o.dst = none)
    (A : Option Addr) (n c : Nat) (hs : a.eval s = .slice A n c) (h0 : 0 < n → ∃ g cs, A = some ⟨g, 0, none⟩ ∧ Blk w g 26 cs ∧ ∀ k, k < n → cs[k]? = some (.int .u64 0))
    (h : wpList Try.prog ops R rest a w) :
    wpList Try.prog ops R (o :: rest) a w := by
  refine wpList_plain hgd fun K hK => ?_
  have hrun : (Builtin.clear_ #[44] o.type #[.slice A n c]).run Try.prog w = .ok (.tuple #[]) w := by
    rcases Nat.eq_zero_or_pos n with hn | hn
    · subst hn
      cases A <;> simp [Builtin.clear_, run_underlying Try.underlying44]
    · obtain ⟨g, cs, rfl, hb, hc⟩ := h0 hn
      obtain ⟨m, rfl⟩ : ∃ m, n = m + 1 := ⟨n - 1, by omega⟩
      have hz : (zeroValue 26).run Try.prog w = .ok (.int .u64 0) w := by kernel_rfl
      have hl : (Builtin.zeroCells (Value.int .u64 0).cells (m + 1)).toList = List.replicate (m + 1) (.int .u64 0) := by
        rw [show Builtin.zeroCells (Value.int .u64 0).cells (m + 1) = madeCells #[Value.int .u64 0] (m + 1) from by unfold Builtin.zeroCells madeCells; simp [Value.cells]]
        exact toList_madeCells_one _ _
      have hsz : m + 1 ≤ cs.size := (Array.getElem?_eq_some_iff.1 (hc m (by omega))).1
      have hst := run_storeCells_at (P := Try.prog) g 0 26 (List.replicate (m + 1) (.int .u64 0)) 0 cs w hb (by simp; omega) (by intro v hv; rw [List.eq_of_mem_replicate hv]; rfl)
      have he : (cs.toList.take (0 + 0) ++ List.replicate (m + 1) (Value.int .u64 0) ++ cs.toList.drop (0 + 0 + (List.replicate (m + 1) (Value.int .u64 0)).length)).toArray = cs := by
        apply Array.ext'
        apply List.ext_getElem?
        intro j
        simp only [Nat.add_zero, List.take_zero, List.nil_append, List.length_replicate, Nat.zero_add]
        rcases Nat.lt_or_ge j (m + 1) with g2 | g2
        · rw [List.getElem?_append_left (by simp; omega), List.getElem?_replicate, if_pos g2, Array.getElem?_toList, hc j g2]
        · rw [List.getElem?_append_right (by simp; omega), List.getElem?_drop, List.length_replicate, Array.getElem?_toList, Array.getElem?_toList, show m + 1 + (j - (m + 1)) = j by omega]
      rw [he, setRow_self w g cs _ _ hb] at hst
      simp [Builtin.clear_, run_underlying Try.underlying44, hz, hl, hst]
  unfold Oper.wp execOp
  simp only [ho, resolve, invoke, builtin, Sem.run_bind, Sem.run_pure, Result.andThen_ok, List.map_toArray, List.map_cons, List.map_nil, hs, hrun]
  refine hK _ _ ?_
  simp only [Act.put, hd]
  exact h
end Go.Proofs.Ytcjpjnneimjfiaa
