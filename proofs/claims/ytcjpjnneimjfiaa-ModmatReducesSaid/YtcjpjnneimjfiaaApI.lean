/-
  Rows of integers that appends have gathered.
-/
import Derived.Test.YtcjpjnneimjfiaaApK
import Derived.Test.YtcjpjnneimjfiaaSlI
import Derived.Test.YtcjpjnneimjfiaaRfI
namespace Go.Proofs.Ytcjpjnneimjfiaa
open Go.RowKit
/-- No number of 32 bits. -/
def no32 (u : Value) : Prop := ∀ x : Int, u ≠ .int .u32 x
set_option maxRecDepth 100000 in
theorem Lm.grown {w w' : World} {A : Option Addr} {c : Nat} {l : List Nat} {v : Value} (h : Lm w A c l) (hg : w.grownBy w' v.ownBlock) (hno : AllOk w v no32) : Lm w' A c l :=
  ⟨h.1, h.2.1, h.2.2.1, fun hl => by
    obtain ⟨b, o, e, hb, hc⟩ := h.2.2.2 hl
    have hne : some b ≠ v.ownBlock := by
      intro e2
      have h0 := hc 0 hl
      have hlt := hb
      cases hh : w.heap[b]? with
      | none => rw [Array.getElem?_eq_none_iff] at hh; omega
      | some ob =>
        have h0' := h0
        unfold World.cell? at h0'
        simp only [hh] at h0'
        cases ob with
        | cells cs t fz =>
          have hm : cs[o + 0]? = some (.int .u32 (l[0] : Nat)) := by simpa using h0'
          have := hno b cs t fz e2.symm hh _ (Array.mem_toList_iff.2 (Array.mem_of_getElem? hm))
          exact this _ rfl
        | _ => simp at h0'
    exact ⟨b, o, e, Nat.lt_of_lt_of_le hb hg.size, fun i hi => (World.cell?_of_block (a := ⟨b, o + i, none⟩) (hg.block b hb hne)).trans (hc i hi)⟩⟩
set_option maxRecDepth 100000 in
theorem IntA.grown {w w' : World} {ng : Bool} {A : Option Addr} {c : Nat} {l : List Nat} {z : Int} {v : Value} (h : IntA w ng A c l z) (hg : w.grownBy w' v.ownBlock) (hno : AllOk w v no32) : IntA w' ng A c l z := ⟨h.1.grown hg hno, h.2⟩
/-- What an element of a row of integers is made of. -/
def Elt : Type := Bool × Option Addr × Nat × List Nat
def elA (x : Elt) : Value := .bool x.1
def elB (x : Elt) : Value := .slice x.2.1 x.2.2.2.length x.2.2.1
def tab2 (E : Nat → Elt) (n : Nat) : List Value := (List.range n).flatMap fun k => [elA (E k), elB (E k)]
set_option maxRecDepth 100000 in
theorem tab2_snoc (E : Nat → Elt) (n : Nat) : tab2 E (n + 1) = tab2 E n ++ [elA (E n), elB (E n)] := by simp [tab2, List.range_succ]
set_option maxRecDepth 100000 in
theorem tab2_congr {E F : Nat → Elt} {n : Nat} (h : ∀ k, k < n → E k = F k) : tab2 E n = tab2 F n := by
  induction n with
  | zero => rfl
  | succ n ih => rw [tab2_snoc, tab2_snoc, ih (fun k hk => h k (by omega)), h n (by omega)]
set_option maxRecDepth 100000 in
theorem tab2_len (E : Nat → Elt) (n : Nat) : (tab2 E n).length = n * 2 := by
  induction n with
  | zero => rfl
  | succ n ih => rw [tab2_snoc, List.length_append, ih]; simp; omega
set_option maxRecDepth 100000 in
theorem tab2_at {E : Nat → Elt} {n k : Nat} (h : k < n) : (tab2 E n)[k * 2]? = some (elA (E k)) ∧ (tab2 E n)[k * 2 + 1]? = some (elB (E k)) := by
  induction n with
  | zero => omega
  | succ n ih =>
    rw [tab2_snoc]
    rcases Nat.lt_or_ge k n with g | g
    · obtain ⟨h1, h2⟩ := ih g
      rw [List.getElem?_append_left (by rw [tab2_len]; omega), List.getElem?_append_left (by rw [tab2_len]; omega)]
      exact ⟨h1, h2⟩
    · obtain rfl : k = n := by omega
      rw [List.getElem?_append_right (by rw [tab2_len]; omega), List.getElem?_append_right (by rw [tab2_len]; omega), tab2_len]
      simp
/-- A row of integers of the call's own, and room behind it. -/
structure OwnI (base : Nat) (w : World) (A : Option Addr) (n c : Nat) (E : Nat → Elt) (Z : Nat → Int) : Prop where
  own : w.ownsRow base 73 2 (.slice A n c) n (tab2 E n)
  ok : AllOk w (.slice A n c) no32
  el : ∀ k, k < n → IntA w (E k).1 (E k).2.1 (E k).2.2.1 (E k).2.2.2 (Z k)
section
variable {base base' : Nat} {w w' w1 w3 : World} {A A' : Option Addr} {n c c' : Nat} {E : Nat → Elt} {Z : Nat → Int}
set_option maxRecDepth 100000 in
theorem own_lt {t s : Nat} {v : Value} {xs : List Value} (h : w.ownsRow base t s v n xs) : ∀ g, v.ownBlock = some g → base ≤ g ∧ g < w.heap.size := by
  intro g e
  rcases h.2 with ⟨rfl, _⟩ | ⟨g', cap, cur, rfl, hb, hh, _⟩
  · cases e
  · injection e with e
    have e' : g' = g := e
    subst e'
    exact ⟨hb, (Array.getElem?_eq_some_iff.1 hh).1⟩
set_option maxRecDepth 100000 in
theorem own2_q {t s : Nat} {v : Value} {xs : List Value} (h : w.ownsRow base t s v n xs) (hq : Q w w') : w'.ownsRow base t s v n xs := by
  rcases h with ⟨h1, h2 | ⟨g, cap, cur, e1, hb, hh, h3⟩⟩
  · exact ⟨h1, .inl h2⟩
  · exact ⟨h1, .inr ⟨g, cap, cur, e1, hb, (hq.block (Array.getElem?_eq_some_iff.1 hh).1).trans hh, h3⟩⟩
set_option maxRecDepth 100000 in
theorem OwnI.q (h : OwnI base w A n c E Z) (hq : Q w w') : OwnI base w' A n c E Z :=
  ⟨own2_q h.own hq, h.ok.q (fun g e => (own_lt h.own g e).2) hq, fun k hk => (h.el k hk).q hq⟩
set_option maxRecDepth 100000 in
theorem OwnI.start (w : World) (E : Nat → Elt) (Z : Nat → Int) : OwnI w.heap.size (w.alloc (.cells #[] 73)) (some ⟨w.heap.size, 0, none⟩) 0 0 E Z := by
  have hb : (w.alloc (.cells #[] 73)).heap[w.heap.size]? = some (.cells #[] 73 (0, 0)) := Blk.new w _ _
  refine ⟨⟨rfl, .inr ⟨w.heap.size, 0, #[], rfl, Nat.le_refl _, hb, Nat.le_refl _, by decide, rfl, rfl⟩⟩, fun g cs t fz e hh u hu => ?_, fun k hk => by omega⟩
  injection e with e
  have e' : w.heap.size = g := e
  subst e'
  rw [hb] at hh
  injection hh with hh
  injection hh with hh
  subst hh
  simp at hu
set_option maxRecDepth 100000 in
/-- One integer more. -/
theorem OwnI.push (h : OwnI base w A n c E Z) (hq : Q w w1) {x : Elt} (hx : IntA w1 x.1 x.2.1 x.2.2.1 x.2.2.2 (Z n))
    (hown : w3.ownsRow base 73 2 (.slice A' (n + 1) c') (n + 1) (tab2 E n ++ [elA x, elB x])) (hg : w1.grownBy w3 (Value.slice A n c).ownBlock) (hok : AllOk w3 (.slice A' (n + 1) c') no32) :
    OwnI base w3 A' (n + 1) c' (fun k => if k = n then x else E k) Z := by
  have h1 := h.q hq
  refine ⟨?_, hok, fun k hk => ?_⟩
  · have e : tab2 (fun k => if k = n then x else E k) (n + 1) = tab2 E n ++ [elA x, elB x] := by
      rw [tab2_snoc, if_pos rfl, tab2_congr (F := E) (fun k hk => by rw [if_neg (by omega)])]
    rw [e]; exact hown
  · by_cases e : k = n
    · subst e
      simp only [if_true]
      exact hx.grown hg h1.ok
    · simp only [if_neg e]
      exact (h1.el k (by omega)).grown hg h1.ok
/-- The row as it lies in memory: its block is one of integers. -/
def RowI (base : Nat) (w : World) (A : Option Addr) (n c : Nat) (Z : Nat → Int) : Prop :=
  n ≤ c ∧ n ≤ 1099511627776 ∧ ∃ E : Nat → Elt, (0 < n → ∃ g cs, A = some ⟨g, 0, none⟩ ∧ base ≤ g ∧ Blk w g 73 cs ∧ ∀ k, k < n → cs[k * 2]? = some (elA (E k)) ∧ cs[k * 2 + 1]? = some (elB (E k))) ∧ ∀ k, k < n → IntA w (E k).1 (E k).2.1 (E k).2.2.1 (E k).2.2.2 (Z k)
set_option maxRecDepth 100000 in
theorem OwnI.row (h : OwnI base w A n c E Z) (hn : n ≤ 1099511627776) : RowI base w A n c Z := by
  rcases h.own.2 with ⟨e, h0⟩ | ⟨g, cap, cur, e, hb, hh, hnc, _, hs, ht⟩
  · injection e with e1 e2 e3
    subst e1 e3
    exact ⟨by omega, hn, E, fun h => by omega, h.el⟩
  · injection e with e1 e2 e3
    subst e1 e3
    refine ⟨hnc, hn, E, fun _ => ⟨g, cur, rfl, hb, hh, fun k hk => ?_⟩, h.el⟩
    obtain ⟨a1, a2⟩ := tab2_at (E := E) hk
    rw [← ht, List.getElem?_take, if_pos (by omega), Array.getElem?_toList] at a1 a2
    exact ⟨a1, a2⟩
set_option maxRecDepth 100000 in
theorem RowI.q (h : RowI base w A n c Z) (hq : Q w w') : RowI base w' A n c Z := by
  obtain ⟨h1, h2, E, h3, h4⟩ := h
  exact ⟨h1, h2, E, fun hl => by
    obtain ⟨g, cs, e, hb, hk, hc⟩ := h3 hl
    exact ⟨g, cs, e, hb, hk.q hq, hc⟩, fun k hk => (h4 k hk).q hq⟩
set_option maxRecDepth 100000 in
theorem RowI.mono (h : RowI base w A n c Z) (e : base' ≤ base) : RowI base' w A n c Z := by
  obtain ⟨h1, h2, E, h3, h4⟩ := h
  exact ⟨h1, h2, E, fun hl => by
    obtain ⟨g, cs, e1, hb, hk, hc⟩ := h3 hl
    exact ⟨g, cs, e1, Nat.le_trans e hb, hk, hc⟩, h4⟩
set_option maxRecDepth 100000 in
/-- It lies still under an append to a row of another kind. -/
theorem RowI.grown {b2 t s m : Nat} {v : Value} {xs : List Value} (h : RowI base w A n c Z) (ho : w.ownsRow b2 t s v m xs) (hg : w.grownBy w3 v.ownBlock) (hok : AllOk w v no32) (ht : 73 ≠ t) : RowI base w3 A n c Z := by
  obtain ⟨h1, h2, E, h3, h4⟩ := h
  refine ⟨h1, h2, E, fun hl => ?_, fun k hk => (h4 k hk).grown hg hok⟩
  obtain ⟨g, cs, e, hb, hk, hc⟩ := h3 hl
  refine ⟨g, cs, e, hb, hk.grown hg (fun e2 => ?_), hc⟩
  rcases ho.2 with ⟨e3, _⟩ | ⟨g', cap, cur, e3, _, hh, _⟩
  · rw [e3] at e2; cases e2
  · rw [e3] at e2
    injection e2 with e2
    have e4 : g = g' := e2
    subst e4
    unfold Blk at hk
    rw [hh] at hk
    injection hk with hk
    injection hk with _ hk
    exact ht hk.symm
set_option maxRecDepth 100000 in
/-- It lies still under a store into a block of another kind. -/
theorem RowI.store {B t i : Nat} {u : Value} {bs : Array Value} (h : RowI base w A n c Z) (hB : Blk w B t bs) (ht : 73 ≠ t) (hno : ∀ (j : Nat) (x : Int), bs[j]? ≠ some (Value.int .u32 x)) : RowI base (w.setCell ⟨B, i, none⟩ u) A n c Z := by
  obtain ⟨h1, h2, E, h3, h4⟩ := h
  refine ⟨h1, h2, E, fun hl => ?_, fun k hk => ⟨(h4 k hk).1.box hB hno i u, (h4 k hk).2⟩⟩
  obtain ⟨g, cs, e, hb, hk, hc⟩ := h3 hl
  exact ⟨g, cs, e, hb, hk.far (p := ⟨B, i, none⟩) (blk_ne hk hB ht) u, hc⟩
set_option maxRecDepth 100000 in
theorem RowI.sli (h : RowI base w A n c Z) : SlI w A n c Z := by
  obtain ⟨h1, h2, E, h3, h4⟩ := h
  refine ⟨h1, h2, fun hl => ?_⟩
  obtain ⟨g, cs, e, _, hb, hc⟩ := h3 hl
  refine ⟨g, 0, e, hb.lt, fun k hk => ?_⟩
  obtain ⟨a1, a2⟩ := hc k hk
  refine ⟨elA (E k), elB (E k), by rw [Nat.zero_add, hb.cell]; exact a1, by rw [Nat.zero_add, hb.cell]; exact a2, (E k).1, (E k).2.1, (E k).2.2.1, (E k).2.2.2, rfl, h4 k hk⟩
set_option maxRecDepth 100000 in
theorem info_Int : (Try.prog.info? 73).map (fun i => (i.zero, i.size, i.bytes)) = some (some (.agg #[.bool false, .slice none 0 0]), 2, 32) := by kernel_rfl
set_option maxRecDepth 100000 in
theorem info_rowI : (Try.prog.info? 71).map (fun i => (i.zero, i.size, i.bytes)) = some (some (.slice none 0 0), 1, 24) := by kernel_rfl
set_option maxRecDepth 100000 in
/-- append of one integer onto a row of the call's own. -/
theorem wpList_appI {ops : Array Oper} {rest : List Oper} {o : Oper} {a : Act} {R : Exit → Act → World → Prop} (hgd : o.guard = none) (s x : Operand)
    (ho : o.op = .call { callee := .builtin .append, args := #[s, x], argTypes := #[71, 71] })
    (hs : a.eval s = .slice A n c) (h : OwnI base w A n c E Z) (hq : Q w w1) {y : Elt} (hy : IntA w1 y.1 y.2.1 y.2.2.1 y.2.2.2 (Z n)) (B : Nat) (hx : a.eval x = .slice (some ⟨B, 0, none⟩) 1 1) (hB : Blk w1 B 73 #[elA y, elB y]) (hn : n ≤ 1099511627776) (hbase : base ≤ w.heap.size)
    (hK : ∀ A' c' w3 E', OwnI base w3 A' (n + 1) c' E' Z → w1.grownBy w3 (Value.slice A n c).ownBlock → wpList Try.prog ops R rest (a.put o.dst (.slice A' (n + 1) c')) w3) :
    wpList Try.prog ops R (o :: rest) a w1 := by
  obtain ⟨i, hi, hz0, hz1, hz2⟩ := info_parts info_Int
  refine wpList_plain hgd fun K hK' => ?_
  have h1 := h.q hq
  have hnews : ∀ j u, [elA y, elB y][j]? = some u → w1.cell? ((⟨B, 0, none⟩ : Addr).add j) = some u := by
    intro j u hj
    have e : (⟨B, 0, none⟩ : Addr).add j = ⟨B, j, none⟩ := by
      unfold Addr.add
      split
      · rename_i h0; subst h0; rfl
      · simp
    rw [e, hB.cell]
    simpa using hj
  obtain ⟨v', w3, hr, h2, h3, h4⟩ := run_app_ok (P := Try.prog) no32 base 71 o.type 73 i _ 2 32 Try.underlying71 hi hz0 hz1 hz2 rfl (by decide) (fun u hu => by
      have hu' : u = .bool false ∨ u = .slice none 0 0 := by simpa [Value.cells] using hu
      rcases hu' with rfl | rfl <;> (intro x hx; cases hx)) (.slice A n c) n (tab2 E n) h1.own h1.ok ⟨B, 0, none⟩ 1 1 [elA y, elB y] rfl hnews (fun u hu => by
      have hu' : u = elA y ∨ u = elB y := by simpa using hu
      rcases hu' with rfl | rfl <;> rfl) (fun u hu => by
      have hu' : u = elA y ∨ u = elB y := by simpa using hu
      rcases hu' with rfl | rfl <;> (intro x hx; cases hx)) (by unfold maxLen; omega) (by omega) (Nat.le_trans hbase hq.size)
  obtain ⟨A', c', rfl⟩ : ∃ A' c', v' = .slice A' (n + 1) c' := by
    rcases h2.2 with ⟨rfl, h0⟩ | ⟨g, cap, cur, rfl, _⟩
    · omega
    · exact ⟨_, _, rfl⟩
  unfold Oper.wp execOp
  simp only [ho, resolve, invoke, builtin, Sem.run_bind, Sem.run_pure, Result.andThen_ok, List.map_toArray, List.map_cons, List.map_nil, hs, hx, hr]
  exact hK' _ _ (hK A' c' w3 _ (h.push hq hy h2 h3 h4) h3)
set_option maxRecDepth 100000 in
theorem blk_grown' {b2 t t' s m K : Nat} {v : Value} {xs : List Value} {cs : Array Value} (h : w.ownsRow b2 t s v m xs) (hg : w.grownBy w3 v.ownBlock) (hb : Blk w K t' cs) (ht : t' ≠ t) : Blk w3 K t' cs := by
  refine hb.grown hg (fun e => ?_)
  rcases h.2 with ⟨e3, _⟩ | ⟨g', cap, cur, e3, h3, hh, _⟩
  · rw [e3] at e; cases e
  · rw [e3] at e
    injection e with e
    have e4 : K = g' := e
    subst e4
    unfold Blk at hb
    rw [hh] at hb
    injection hb with hb
    injection hb with _ hb
    exact ht hb.symm
/-- Rows of integers of the call's own, in a Mat of its own. -/
structure BldI (w5 wr : World) (K P C i : Nat) (A : Option Addr) (c W : Nat) (ρ : Nat → Value) (Z : Nat → Nat → Int) : Prop where
  box : Blk wr K 68 #[.int .i64 (P : Int), .int .i64 (C : Int), .slice A i c]
  own : wr.ownsRow (K + 1) 71 1 (.slice A i c) i (tab ρ i)
  ok : AllOk wr (.slice A i c) no32
  row : ∀ k, k < i → ∃ A c, ρ k = .slice A W c ∧ RowI (K + 1) wr A W c (Z k)
  q : Q w5 wr
  le : w5.heap.size ≤ K
set_option maxRecDepth 100000 in
theorem BldI.start {w5 wr : World} {K P C W : Nat} {ρ : Nat → Value} {Z : Nat → Nat → Int} (hb : Blk wr K 68 #[.int .i64 (P : Int), .int .i64 (C : Int), .slice none 0 0]) (hq : Q w5 wr) (hle : w5.heap.size ≤ K) : BldI w5 wr K P C 0 none 0 W ρ Z :=
  ⟨hb, ⟨rfl, .inl ⟨rfl, rfl⟩⟩, fun g cs t fz e => (by cases e), fun k hk => by omega, hq, hle⟩
set_option maxRecDepth 100000 in
theorem BldI.move {w5 wr w2 : World} {K P C i W c : Nat} {A : Option Addr} {ρ : Nat → Value} {Z : Nat → Nat → Int} (h : BldI w5 wr K P C i A c W ρ Z) (hq : Q wr w2) : BldI w5 w2 K P C i A c W ρ Z :=
  ⟨h.box.q hq, own2_q h.own hq, h.ok.q (fun g e => (own_lt h.own g e).2) hq, fun k hk => by
    obtain ⟨A, c, e, hr⟩ := h.row k hk
    exact ⟨A, c, e, hr.q hq⟩, h.q.trans hq, h.le⟩
set_option maxRecDepth 100000 in
/-- append of one row onto the rows. -/
theorem wpList_appR {w5 wr w2 : World} {K P C i W cc cr : Nat} {AA Ar : Option Addr} {ρ : Nat → Value} {Y : Nat → Nat → Int} {ops : Array Oper} {rest : List Oper} {o : Oper} {a : Act} {R : Exit → Act → World → Prop} (hgd : o.guard = none) (s x : Operand)
    (ho : o.op = .call { callee := .builtin .append, args := #[s, x], argTypes := #[66, 66] })
    (h : BldI w5 wr K P C i AA cc W ρ Y) (hs : a.eval s = .slice AA i cc) (hq : Q wr w2) (hr : RowI (K + 1) w2 Ar W cr (Y i)) (B : Nat) (hx : a.eval x = .slice (some ⟨B, 0, none⟩) 1 1) (hB : Blk w2 B 71 #[.slice Ar W cr]) (hn : i ≤ 1099511627776)
    (hK : ∀ A' c' w3, Blk w3 K 68 #[.int .i64 (P : Int), .int .i64 (C : Int), .slice AA i cc] → (∃ ρ', BldI w5 (w3.setCell ⟨K, 2, none⟩ (.slice A' (i + 1) c')) K P C (i + 1) A' c' W ρ' Y) → wpList Try.prog ops R rest (a.put o.dst (.slice A' (i + 1) c')) w3) :
    wpList Try.prog ops R (o :: rest) a w2 := by
  obtain ⟨i0, hi, hz0, hz1, hz2⟩ := info_parts info_rowI
  refine wpList_plain hgd fun K' hK' => ?_
  have h1 := h.move hq
  have hnews : ∀ j u, [Value.slice Ar W cr][j]? = some u → w2.cell? ((⟨B, 0, none⟩ : Addr).add j) = some u := by
    intro j u hj
    have e : (⟨B, 0, none⟩ : Addr).add j = ⟨B, j, none⟩ := by
      unfold Addr.add
      split
      · rename_i h0; subst h0; rfl
      · simp
    rw [e, hB.cell]
    simpa using hj
  obtain ⟨v', w3, hrun, h2, h3, h4⟩ := run_app_ok (P := Try.prog) no32 (K + 1) 66 o.type 71 i0 _ 1 24 Try.underlying66 hi hz0 hz1 hz2 rfl (by decide) (fun u hu => by
      have hu' : u = .slice none 0 0 := by simpa [Value.cells] using hu
      subst hu'; intro x hx; cases hx) (.slice AA i cc) i (tab ρ i) h1.own h1.ok ⟨B, 0, none⟩ 1 1 [.slice Ar W cr] rfl hnews (fun u hu => by
      have hu' : u = .slice Ar W cr := by simpa using hu
      subst hu'; rfl) (fun u hu => by
      have hu' : u = .slice Ar W cr := by simpa using hu
      subst hu'; intro x hx; cases hx) (by unfold maxLen; omega) (by omega) (by have := h1.box.lt; omega)
  obtain ⟨A', c', rfl⟩ : ∃ A' c', v' = .slice A' (i + 1) c' := by
    rcases h2.2 with ⟨rfl, h0⟩ | ⟨g, cap, cur, rfl, _⟩
    · omega
    · exact ⟨_, _, rfl⟩
  have hb3 : Blk w3 K 68 #[.int .i64 (P : Int), .int .i64 (C : Int), .slice AA i cc] := blk_grown' h1.own h3 h1.box (by decide)
  unfold Oper.wp execOp
  simp only [ho, resolve, invoke, builtin, Sem.run_bind, Sem.run_pure, Result.andThen_ok, List.map_toArray, List.map_cons, List.map_nil, hs, hx, hrun]
  refine hK' _ _ (hK A' c' w3 hb3 ⟨fun k => if k = i then .slice Ar W cr else ρ k, hb3.set 2 _, ?_, ?_, fun k hk => ?_, ?_, h.le⟩)
  · have e : tab (fun k => if k = i then Value.slice Ar W cr else ρ k) (i + 1) = tab ρ i ++ [.slice Ar W cr] := by
      rw [← tab_snoc, if_pos rfl, tab_congr (ψ := ρ) (fun k hk => by rw [if_neg (by omega)])]
    rw [e]
    exact ownsRow_of_block h2 (fun g hg _ => Below.heap_setCell _ _ _ _ (by show g ≠ K; omega))
  · intro g cs t fz e hh
    have hgk : g ≠ K := by
      have := (own_lt h2 g e).1
      omega
    exact h4 g cs t fz e ((Below.heap_setCell w3 ⟨K, 2, none⟩ _ g hgk).symm.trans hh)
  · have hno : ∀ (j : Nat) (x : Int), (#[Value.int .i64 (P : Int), .int .i64 (C : Int), .slice AA i cc] : Array Value)[j]? ≠ some (Value.int .u32 x) := by
      intro j x
      match j with
      | 0 => simp
      | 1 => simp
      | 2 => simp
      | j + 3 => simp
    by_cases e : k = i
    · subst e
      exact ⟨Ar, cr, if_pos rfl, ((hr.grown h1.own h3 h1.ok (by decide)).store hb3 (by decide) hno)⟩
    · obtain ⟨A3, c3, e3, hr3⟩ := h1.row k (by omega)
      exact ⟨A3, c3, (if_neg e).trans e3, ((hr3.grown h1.own h3 h1.ok (by decide)).store hb3 (by decide) hno)⟩
  · have hq3 : Q w5 w3 := grown_q h1.q h3 (fun g e => by have := (own_lt h1.own g e).1; have := h.le; omega)
    exact Below.setCell hq3 h.le _
set_option maxRecDepth 100000 in
theorem BldI.rows {w5 wr : World} {K P C i W c : Nat} {A : Option Addr} {ρ : Nat → Value} {Z : Nat → Nat → Int} (h : BldI w5 wr K P C i A c W ρ Z) (hi : i ≤ 140737488355328) : RowsI wr A i c W Z := by
  refine ⟨ρ, ?_, fun k hk => ?_⟩
  · obtain ⟨A', c', e, hr⟩ := own_rowO h.own rfl hi
    injection e with e1 _ e2
    subst e1 e2
    exact hr.sc
  · obtain ⟨A', c', e, hr⟩ := h.row k hk
    exact ⟨A', c', e, hr.sli⟩
set_option maxRecDepth 100000 in
theorem mat_no32 (x y : Int) (A : Option Addr) (n c : Nat) : ∀ (j : Nat) (z : Int), (#[Value.int .i64 x, .int .i64 y, .slice A n c] : Array Value)[j]? ≠ some (Value.int .u32 z) := by
  intro j z
  match j with
  | 0 => simp
  | 1 => simp
  | 2 => simp
  | j + 3 => simp
set_option maxRecDepth 100000 in
/-- A store into a Mat that lies ahead. -/
theorem BldI.store {w5 wr : World} {K P C i W c B k : Nat} {A : Option Addr} {ρ : Nat → Value} {Z : Nat → Nat → Int} {u : Value} {bs : Array Value} (h : BldI w5 wr K P C i A c W ρ Z) (hB : Blk wr B 68 bs) (hK : B < K) (hno : ∀ (j : Nat) (x : Int), bs[j]? ≠ some (Value.int .u32 x)) (hq : Q w5 (wr.setCell ⟨B, k, none⟩ u)) :
    BldI w5 (wr.setCell ⟨B, k, none⟩ u) K P C i A c W ρ Z :=
  ⟨h.box.far (p := ⟨B, k, none⟩) (by show K ≠ B; omega) u, ownsRow_of_block h.own (fun g hg _ => Below.heap_setCell wr ⟨B, k, none⟩ u g (by show g ≠ B; omega)),
   fun g cs t fz e hh => h.ok g cs t fz e ((Below.heap_setCell wr ⟨B, k, none⟩ u g (by have := (own_lt h.own g e).1; show g ≠ B; omega)).symm.trans hh),
   fun k' hk => by
    obtain ⟨A3, c3, e3, hr3⟩ := h.row k' hk
    exact ⟨A3, c3, e3, hr3.store hB (by decide) hno⟩, hq, h.le⟩
def MatQ (w : World) (n W : Nat) (Z : Nat → Nat → Int) (e : Ending) (w' : World) : Prop := ∃ v, e = .returned v ∧ MatV w' v n W Z ∧ Q w w'
end
end Go.Proofs.Ytcjpjnneimjfiaa
