/-
  Slices whose cells are told by a function of the index; rows of the call's own; matrices of such rows.
-/
import Derived.Test.YtcjpjnneimjfiaaFld
namespace Go.Proofs.Ytcjpjnneimjfiaa
open Go.RowKit

/-- The cells of a slice of n elements that begins at A with capacity c. -/
def Sc (w : World) (A : Option Addr) (n c : Nat) (φ : Nat → Value) : Prop :=
  n ≤ c ∧ n ≤ 140737488355328 ∧ (0 < n → ∃ b o, A = some ⟨b, o, none⟩ ∧ b < w.heap.size ∧ ∀ k, k < n → w.cell? ⟨b, o + k, none⟩ = some (φ k))
/-- Value v is a slice of n elements; the k-th cell holds φ k. -/
def Sl (w : World) (v : Value) (n : Nat) (φ : Nat → Value) : Prop := ∃ A c, v = .slice A n c ∧ Sc w A n c φ
section
variable {w w' : World} {A : Option Addr} {n c : Nat} {φ ψ : Nat → Value} {v : Value}
set_option maxRecDepth 100000 in
theorem Sc.q (h : Sc w A n c φ) (hq : Q w w') : Sc w' A n c φ :=
  ⟨h.1, h.2.1, fun hl => by
    obtain ⟨b, o, e, hb, hc⟩ := h.2.2 hl
    exact ⟨b, o, e, Nat.lt_of_lt_of_le hb hq.size, fun i hi => hq.cell (hc i hi)⟩⟩
set_option maxRecDepth 100000 in
theorem Sc.cap (h : Sc w A n c φ) : n ≤ c := h.1
set_option maxRecDepth 100000 in
theorem Sc.len (h : Sc w A n c φ) : n ≤ 140737488355328 := h.2.1
set_option maxRecDepth 100000 in
theorem Sc.open (h : Sc w A n c φ) (hn : 0 < n) : ∃ b o, A = some ⟨b, o, none⟩ ∧ b < w.heap.size ∧ ∀ k, k < n → w.cell? ⟨b, o + k, none⟩ = some (φ k) := h.2.2 hn
set_option maxRecDepth 100000 in
theorem Sc.at (h : Sc w A n c φ) {k : Nat} (hk : k < n) : ∃ b o, A = some ⟨b, o, none⟩ ∧ b < w.heap.size ∧ w.cell? ⟨b, o + k, none⟩ = some (φ k) := by
  obtain ⟨b, o, e, hb, hc⟩ := h.2.2 (by omega)
  exact ⟨b, o, e, hb, hc k hk⟩
set_option maxRecDepth 100000 in
theorem Sc.congr (h : Sc w A n c φ) (e : ∀ k, k < n → φ k = ψ k) : Sc w A n c ψ :=
  ⟨h.1, h.2.1, fun hl => by
    obtain ⟨b, o, e1, hb, hc⟩ := h.2.2 hl
    exact ⟨b, o, e1, hb, fun i hi => by rw [← e i hi]; exact hc i hi⟩⟩
set_option maxRecDepth 100000 in
theorem Sl.q (h : Sl w v n φ) (hq : Q w w') : Sl w' v n φ := by
  obtain ⟨A, c, e, hs⟩ := h
  exact ⟨A, c, e, hs.q hq⟩
set_option maxRecDepth 100000 in
theorem Sl.congr (h : Sl w v n φ) (e : ∀ k, k < n → φ k = ψ k) : Sl w v n ψ := by
  obtain ⟨A, c, e1, hs⟩ := h
  exact ⟨A, c, e1, hs.congr e⟩
set_option maxRecDepth 100000 in
theorem Sl.zero (w : World) (A : Option Addr) (c : Nat) (φ : Nat → Value) : Sl w (.slice A 0 c) 0 φ := ⟨A, c, rfl, Nat.zero_le _, Nat.zero_le _, fun h => by omega⟩
set_option maxRecDepth 100000 in
/-- One element, the slice's value told. -/
theorem Sl.at (h : Sl w v n φ) {k : Nat} (hk : k < n) : ∃ b o c, v = .slice (some ⟨b, o, none⟩) n c ∧ n ≤ c ∧ b < w.heap.size ∧ w.cell? ⟨b, o + k, none⟩ = some (φ k) := by
  obtain ⟨A, c, rfl, hs⟩ := h
  obtain ⟨b, o, rfl, hb, hc⟩ := hs.at hk
  exact ⟨b, o, c, rfl, hs.1, hb, hc⟩
set_option maxRecDepth 100000 in
theorem Sl.form (h : Sl w v n φ) : ∃ A c, v = .slice A n c := by obtain ⟨A, c, e, _⟩ := h; exact ⟨A, c, e⟩
/-- The first n values of φ as a list. -/
def tab (φ : Nat → Value) (n : Nat) : List Value := (List.range n).map φ
set_option maxRecDepth 100000 in
theorem tab_len (φ : Nat → Value) (n : Nat) : (tab φ n).length = n := by simp [tab]
set_option maxRecDepth 100000 in
theorem tab_at {φ : Nat → Value} {n k : Nat} (h : k < n) : (tab φ n)[k]? = some (φ k) := by simp [tab, h]
set_option maxRecDepth 100000 in
theorem tab_some {φ : Nat → Value} {n k : Nat} {u : Value} (h : (tab φ n)[k]? = some u) : k < n ∧ u = φ k := by
  rcases Nat.lt_or_ge k n with g | g
  · rw [tab_at g] at h; injection h with h; exact ⟨g, h.symm⟩
  · rw [List.getElem?_eq_none (by rw [tab_len]; exact g)] at h; cases h
set_option maxRecDepth 100000 in
theorem tab_snoc (φ : Nat → Value) (n : Nat) : tab φ n ++ [φ n] = tab φ (n + 1) := by simp [tab, List.range_succ]
set_option maxRecDepth 100000 in
theorem tab_congr {φ ψ : Nat → Value} {n : Nat} (h : ∀ k, k < n → φ k = ψ k) : tab φ n = tab ψ n := by
  unfold tab; exact List.map_congr_left (fun k hk => h k (List.mem_range.1 hk))
set_option maxRecDepth 100000 in
theorem tab_zero (φ : Nat → Value) : tab φ 0 = [] := rfl
set_option maxRecDepth 100000 in
theorem Sc.news (h : Sc w A n c φ) : 0 < n → ∃ b o, A = some ⟨b, o, none⟩ ∧ ∀ j u, (tab φ n)[j]? = some u → w.cell? ⟨b, o + j, none⟩ = some u := fun hn => by
  obtain ⟨b, o, e, _, hc⟩ := h.2.2 hn
  exact ⟨b, o, e, fun j u hu => by obtain ⟨hj, rfl⟩ := tab_some hu; exact hc j hj⟩

/-- A row of the call's own: it lies at the head of a block from base on. -/
def RowO (base : Nat) (w : World) (t : TypeId) (A : Option Addr) (n c : Nat) (φ : Nat → Value) : Prop :=
  n ≤ c ∧ n ≤ 140737488355328 ∧ (0 < n → ∃ g cs, A = some ⟨g, 0, none⟩ ∧ base ≤ g ∧ Blk w g t cs ∧ ∀ k, k < n → cs[k]? = some (φ k))
set_option maxRecDepth 100000 in
theorem RowO.sc {base t : Nat} (h : RowO base w t A n c φ) : Sc w A n c φ :=
  ⟨h.1, h.2.1, fun hl => by
    obtain ⟨g, cs, e, _, hb, hc⟩ := h.2.2 hl
    exact ⟨g, 0, e, hb.lt, fun k hk => by rw [Nat.zero_add, hb.cell]; exact hc k hk⟩⟩
set_option maxRecDepth 100000 in
theorem RowO.q {base t : Nat} (h : RowO base w t A n c φ) (hq : Q w w') : RowO base w' t A n c φ :=
  ⟨h.1, h.2.1, fun hl => by
    obtain ⟨g, cs, e, h1, hb, hc⟩ := h.2.2 hl
    exact ⟨g, cs, e, h1, hb.q hq, hc⟩⟩
set_option maxRecDepth 100000 in
theorem RowO.congr {base t : Nat} (h : RowO base w t A n c φ) (e : ∀ k, k < n → φ k = ψ k) : RowO base w t A n c ψ :=
  ⟨h.1, h.2.1, fun hl => by
    obtain ⟨g, cs, e1, h1, hb, hc⟩ := h.2.2 hl
    exact ⟨g, cs, e1, h1, hb, fun k hk => by rw [← e k hk]; exact hc k hk⟩⟩
set_option maxRecDepth 100000 in
theorem RowO.mono {base base' t : Nat} (h : RowO base w t A n c φ) (e : base' ≤ base) : RowO base' w t A n c φ :=
  ⟨h.1, h.2.1, fun hl => by
    obtain ⟨g, cs, e1, h1, hb, hc⟩ := h.2.2 hl
    exact ⟨g, cs, e1, Nat.le_trans e h1, hb, hc⟩⟩
set_option maxRecDepth 100000 in
/-- What appends have gathered, as a row. -/
theorem own_rowO {base t : Nat} {v : Value} {m : Nat} (h : w.ownsRow base t 1 v m (tab φ n)) (hm : m = n) (hn : n ≤ 140737488355328) : ∃ A c, v = .slice A n c ∧ RowO base w t A n c φ := by
  subst hm
  rcases h.2 with ⟨rfl, h0⟩ | ⟨g, cap, cur, rfl, hb, hh, hnc, _, hs, ht⟩
  · subst h0; exact ⟨none, 0, rfl, Nat.le_refl _, Nat.zero_le _, fun h => by omega⟩
  · refine ⟨_, cap, rfl, hnc, hn, fun _ => ⟨g, cur, rfl, hb, hh, fun k hk => ?_⟩⟩
    have e := tab_at (φ := φ) hk
    rw [← ht, List.getElem?_take, if_pos (by omega), Array.getElem?_toList] at e
    exact e
end

/-- Only block g has changed, and no new one has been made. -/
structure Upd (g : Nat) (w w' : World) : Prop where
  os : w'.os = w.os
  tape : w'.tape = w.tape
  output : w'.output = w.output
  size : w'.heap.size = w.heap.size
  block : ∀ k, k ≠ g → w'.heap[k]? = w.heap[k]?
section
variable {g : Nat} {w w' w2 : World}
set_option maxRecDepth 100000 in
theorem Upd.refl (g : Nat) (w : World) : Upd g w w := ⟨rfl, rfl, rfl, rfl, fun _ _ => rfl⟩
set_option maxRecDepth 100000 in
theorem Upd.trans (h : Upd g w w') (k : Upd g w' w2) : Upd g w w2 := ⟨k.os.trans h.os, k.tape.trans h.tape, k.output.trans h.output, k.size.trans h.size, fun i hi => (k.block i hi).trans (h.block i hi)⟩
set_option maxRecDepth 100000 in
theorem Upd.drew (h : Upd g w w') : Upd g w w'.drew := ⟨h.os, h.tape, h.output, h.size, h.block⟩
set_option maxRecDepth 100000 in
theorem Upd.drewN (h : Upd g w w') (n : Nat) : Upd g w (w'.drewN n) := ⟨h.os, h.tape, h.output, h.size, h.block⟩
set_option maxRecDepth 100000 in
theorem Upd.setCell (h : Upd g w w') (i : Nat) (u : Value) : Upd g w (w'.setCell ⟨g, i, none⟩ u) :=
  ⟨h.os, h.tape, h.output, by rw [← h.size]; simp [World.setCell], fun k hk => (Below.heap_setCell w' ⟨g, i, none⟩ u k hk).trans (h.block k hk)⟩
set_option maxRecDepth 100000 in
theorem Upd.below (h : Upd g w w') {B : Nat} (hB : B ≤ g) : Below B w w' := ⟨h.os, h.tape, h.output, by rw [h.size]; exact Nat.le_refl _, fun k hk => h.block k (by omega)⟩
set_option maxRecDepth 100000 in
theorem Upd.blk (h : Upd g w w') {k t : Nat} {cs : Array Value} (hb : Blk w k t cs) (hk : k ≠ g) : Blk w' k t cs := (h.block k hk).trans hb
set_option maxRecDepth 100000 in
theorem Upd.cell (h : Upd g w w') {p : Addr} (hp : p.block ≠ g) : w'.cell? p = w.cell? p := World.cell?_of_block (h.block p.block hp)
set_option maxRecDepth 100000 in
theorem Upd.sc (h : Upd g w w') {A : Option Addr} {n c : Nat} {φ : Nat → Value} (hs : Sc w A n c φ) (hne : ∀ b o, A = some ⟨b, o, none⟩ → 0 < n → b ≠ g) : Sc w' A n c φ :=
  ⟨hs.1, hs.2.1, fun hl => by
    obtain ⟨b, o, e, hb, hc⟩ := hs.2.2 hl
    exact ⟨b, o, e, by rw [h.size]; exact hb, fun i hi => (h.cell (p := ⟨b, o + i, none⟩) (hne b o e hl)).trans (hc i hi)⟩⟩
end

section
variable {p : Nat}
/-- Numbers modulo p as cells. -/
def u64 (x : Nat → Fin p) : Nat → Value := fun k => .int .u64 ((x k : Nat) : Int)
set_option maxRecDepth 100000 in
theorem Sl.at64 {w : World} {v : Value} {n : Nat} {x : Nat → Fin p} (h : Sl w v n (u64 x)) {k : Nat} (hk : k < n) : ∃ b o c, v = .slice (some ⟨b, o, none⟩) n c ∧ n ≤ c ∧ b < w.heap.size ∧ w.cell? ⟨b, o + k, none⟩ = some (.int .u64 ((x k : Nat) : Int)) := h.at hk
set_option maxRecDepth 100000 in
theorem Sc.at64 {w : World} {A : Option Addr} {n c : Nat} {x : Nat → Fin p} (h : Sc w A n c (u64 x)) {k : Nat} (hk : k < n) : ∃ b o, A = some ⟨b, o, none⟩ ∧ b < w.heap.size ∧ w.cell? ⟨b, o + k, none⟩ = some (.int .u64 ((x k : Nat) : Int)) := h.at hk
/-- A matrix: its rows, wherever they lie. -/
def Rows64 (w : World) (A : Option Addr) (n c W : Nat) (M : Nat → Nat → Fin p) : Prop := ∃ ρ, Sc w A n c ρ ∧ ∀ i, i < n → Sl w (ρ i) W (u64 (M i))
/-- A value of type Mod: n rows of W numbers modulo p. -/
def ModV (w : World) (v : Value) (n W : Nat) (M : Nat → Nat → Fin p) : Prop := ∃ A c, v = .agg #[.int .u64 (p : Int), .int .i64 (W : Int), .slice A n c] ∧ Rows64 w A n c W M
set_option maxRecDepth 100000 in
theorem Rows64.q {w w' : World} {A : Option Addr} {n c W : Nat} {M : Nat → Nat → Fin p} (h : Rows64 w A n c W M) (hq : Q w w') : Rows64 w' A n c W M := by
  obtain ⟨ρ, h1, h2⟩ := h
  exact ⟨ρ, h1.q hq, fun i hi => (h2 i hi).q hq⟩
set_option maxRecDepth 100000 in
theorem Rows64.congr {w : World} {A : Option Addr} {n c W : Nat} {M M' : Nat → Nat → Fin p} (h : Rows64 w A n c W M) (e : ∀ i k, i < n → k < W → M i k = M' i k) : Rows64 w A n c W M' := by
  obtain ⟨ρ, h1, h2⟩ := h
  exact ⟨ρ, h1, fun i hi => (h2 i hi).congr (fun k hk => by unfold u64; rw [e i k hi hk])⟩
set_option maxRecDepth 100000 in
theorem ModV.q {w w' : World} {v : Value} {n W : Nat} {M : Nat → Nat → Fin p} (h : ModV w v n W M) (hq : Q w w') : ModV w' v n W M := by
  obtain ⟨A, c, e, h1⟩ := h
  exact ⟨A, c, e, h1.q hq⟩
set_option maxRecDepth 100000 in
theorem ModV.congr {w : World} {v : Value} {n W : Nat} {M M' : Nat → Nat → Fin p} (h : ModV w v n W M) (e : ∀ i k, i < n → k < W → M i k = M' i k) : ModV w v n W M' := by
  obtain ⟨A, c, e1, h1⟩ := h
  exact ⟨A, c, e1, h1.congr e⟩
set_option maxRecDepth 100000 in
theorem Rows64.at {w : World} {A : Option Addr} {n c W : Nat} {M : Nat → Nat → Fin p} (h : Rows64 w A n c W M) {i : Nat} (hi : i < n) :
    ∃ b o r, A = some ⟨b, o, none⟩ ∧ b < w.heap.size ∧ w.cell? ⟨b, o + i, none⟩ = some r ∧ Sl w r W (u64 (M i)) := by
  obtain ⟨ρ, h1, h2⟩ := h
  obtain ⟨b, o, e, hb, hc⟩ := h1.at hi
  exact ⟨b, o, ρ i, e, hb, hc, h2 i hi⟩
set_option maxRecDepth 100000 in
theorem Rows64.cap {w : World} {A : Option Addr} {n c W : Nat} {M : Nat → Nat → Fin p} (h : Rows64 w A n c W M) : n ≤ c := by obtain ⟨ρ, h1, _⟩ := h; exact h1.1

/-- Rows of the call's own: block g holds n slices of W numbers, each in a block of its own, gs i. -/
structure OwnM (base : Nat) (w : World) (g : Nat) (hs : Array Value) (gs : Nat → Nat) (n W : Nat) (M : Nat → Nat → Fin p) : Prop where
  head : Blk w g 44 hs
  bg : base ≤ g
  row : ∀ i, i < n → ∃ A c, hs[i]? = some (.slice A W c) ∧ W ≤ c ∧ (0 < W → A = some ⟨gs i, 0, none⟩)
  own : 0 < W → ∀ i, i < n → base ≤ gs i ∧ gs i ≠ g ∧ ∃ cs, Blk w (gs i) 26 cs ∧ ∀ k, k < W → cs[k]? = some (.int .u64 ((M i k : Nat) : Int))
  inj : 0 < W → ∀ i j, i < n → j < n → gs i = gs j → i = j
/-- The same of a slice's value. -/
def OwnV (base : Nat) (w : World) (v : Value) (n W : Nat) (M : Nat → Nat → Fin p) : Prop := ∃ g c hs gs, v = .slice (some ⟨g, 0, none⟩) n c ∧ n ≤ c ∧ OwnM base w g hs gs n W M
section
variable {base : Nat} {w w' : World} {g : Nat} {hs : Array Value} {gs : Nat → Nat} {n W : Nat} {M M' : Nat → Nat → Fin p}
set_option maxRecDepth 100000 in
theorem OwnM.q (h : OwnM base w g hs gs n W M) (hq : Q w w') : OwnM base w' g hs gs n W M :=
  ⟨h.head.q hq, h.bg, h.row, fun hW i hi => by
    obtain ⟨a, b, cs, hb, hc⟩ := h.own hW i hi
    exact ⟨a, b, cs, hb.q hq, hc⟩, h.inj⟩
set_option maxRecDepth 100000 in
theorem OwnM.congr (h : OwnM base w g hs gs n W M) (e : ∀ i k, i < n → k < W → M i k = M' i k) : OwnM base w g hs gs n W M' :=
  ⟨h.head, h.bg, h.row, fun hW i hi => by
    obtain ⟨a, b, cs, hb, hc⟩ := h.own hW i hi
    exact ⟨a, b, cs, hb, fun k hk => by rw [← e i k hi hk]; exact hc k hk⟩, h.inj⟩
set_option maxRecDepth 100000 in
theorem OwnM.mono {base' : Nat} (h : OwnM base w g hs gs n W M) (e : base' ≤ base) : OwnM base' w g hs gs n W M :=
  ⟨h.head, Nat.le_trans e h.bg, h.row, fun hW i hi => by
    obtain ⟨a, b, c⟩ := h.own hW i hi
    exact ⟨Nat.le_trans e a, b, c⟩, h.inj⟩
set_option maxRecDepth 100000 in
/-- A block below the base has been written. -/
theorem OwnM.away (h : OwnM base w g hs gs n W M) {k : Nat} (hu : Upd k w w') (hk : k < base) : OwnM base w' g hs gs n W M :=
  ⟨hu.blk h.head (by have := h.bg; omega), h.bg, h.row, fun hW i hi => by
    obtain ⟨a, b, cs, hb, hc⟩ := h.own hW i hi
    exact ⟨a, b, cs, hu.blk hb (by omega), hc⟩, h.inj⟩
set_option maxRecDepth 100000 in
/-- The first rows. -/
theorem OwnM.take (h : OwnM base w g hs gs n W M) {m : Nat} (hm : m ≤ n) : OwnM base w g hs gs m W M :=
  ⟨h.head, h.bg, fun i hi => h.row i (by omega), fun hW i hi => h.own hW i (by omega), fun hW i j hi hj => h.inj hW i j (by omega) (by omega)⟩
set_option maxRecDepth 100000 in
theorem RowO.away {t : TypeId} {A : Option Addr} {m c : Nat} {φ : Nat → Value} (h : RowO base w t A m c φ) {k : Nat} (hu : Upd k w w') (hk : k < base) : RowO base w' t A m c φ :=
  ⟨h.1, h.2.1, fun hl => by
    obtain ⟨g, cs, e, h1, hb, hc⟩ := h.2.2 hl
    exact ⟨g, cs, e, h1, hu.blk hb (by omega), hc⟩⟩
set_option maxRecDepth 100000 in
/-- One row's block has been written. -/
theorem OwnM.upd (h : OwnM base w g hs gs n W M) (hW : 0 < W) {i : Nat} (hi : i < n) (hu : Upd (gs i) w w') {cs : Array Value} (hb : Blk w' (gs i) 26 cs) {x : Nat → Fin p} (hc : ∀ k, k < W → cs[k]? = some (.int .u64 ((x k : Nat) : Int))) :
    OwnM base w' g hs gs n W (fun j => if j = i then x else M j) := by
  obtain ⟨a, b, _⟩ := h.own hW i hi
  refine ⟨hu.blk h.head (Ne.symm b), h.bg, h.row, fun _ j hj => ?_, h.inj⟩
  by_cases e : j = i
  · subst e; refine ⟨a, b, cs, hb, fun k hk => ?_⟩; rw [if_pos rfl]; exact hc k hk
  · obtain ⟨a2, b2, cs2, hb2, hc2⟩ := h.own hW j hj
    refine ⟨a2, b2, cs2, hu.blk hb2 (fun e2 => e (h.inj hW j i hj hi e2)), fun k hk => ?_⟩
    rw [if_neg e]; exact hc2 k hk
set_option maxRecDepth 100000 in
theorem OwnM.rows (h : OwnM base w g hs gs n W M) (hn : n ≤ 140737488355328) (hW : W ≤ 140737488355328) {c : Nat} (hc : n ≤ c) : Rows64 w (some ⟨g, 0, none⟩) n c W M := by
  refine ⟨fun i => hs[i]?.getD (.int .i64 0), ⟨hc, hn, fun _ => ⟨g, 0, rfl, h.head.lt, fun k hk => ?_⟩⟩, fun i hi => ?_⟩
  · obtain ⟨A, c, e, _⟩ := h.row k hk
    dsimp only
    rw [Nat.zero_add, h.head.cell, e]; rfl
  · obtain ⟨A, c, e, hcc, hA⟩ := h.row i hi
    dsimp only
    rw [e]
    refine ⟨A, c, rfl, hcc, hW, fun h0 => ?_⟩
    obtain ⟨_, _, cs, hb, hcs⟩ := h.own h0 i hi
    refine ⟨gs i, 0, hA h0, hb.lt, fun k hk => ?_⟩
    rw [Nat.zero_add, hb.cell]; exact hcs k hk
set_option maxRecDepth 100000 in
theorem OwnM.below (h : OwnM base w g hs gs n W M) {i : Nat} (hW : 0 < W) (hi : i < n) {B : Nat} (hB : B ≤ base) (hu : Upd (gs i) w w') : Below B w w' := hu.below (Nat.le_trans hB (h.own hW i hi).1)
set_option maxRecDepth 100000 in
/-- Two rows change places. -/
theorem OwnM.swap (h : OwnM base w g hs gs n W M) {r t : Nat} (hr : r < n) (ht : t < n) (hne : r ≠ t) {vr vt : Value} (er : hs[r]? = some vr) (et : hs[t]? = some vt)
    {hs' : Array Value} (hb : Blk w' g 44 hs') (hu : Upd g w w') (e1 : hs'[r]? = some vt) (e2 : hs'[t]? = some vr) (e3 : ∀ i, i ≠ r → i ≠ t → hs'[i]? = hs[i]?) :
    OwnM base w' g hs' (fun i => if i = r then gs t else if i = t then gs r else gs i) n W (swp r t M) := by
  refine ⟨hb, h.bg, fun i hi => ?_, fun hW i hi => ?_, fun hW i j hi hj e => ?_⟩
  · by_cases h1 : i = r
    · subst h1
      obtain ⟨A, c, e, a, b⟩ := h.row t ht
      rw [et] at e
      refine ⟨A, c, by rw [e1]; exact e, a, fun hW => ?_⟩
      rw [if_pos rfl]; exact b hW
    · by_cases h2 : i = t
      · subst h2
        obtain ⟨A, c, e, a, b⟩ := h.row r hr
        rw [er] at e
        refine ⟨A, c, by rw [e2]; exact e, a, fun hW => ?_⟩
        rw [if_neg h1, if_pos rfl]; exact b hW
      · obtain ⟨A, c, e, a, b⟩ := h.row i hi
        refine ⟨A, c, by rw [e3 i h1 h2]; exact e, a, fun hW => ?_⟩
        rw [if_neg h1, if_neg h2]; exact b hW
  · have key : ∀ j, j < n → base ≤ gs j ∧ gs j ≠ g ∧ ∃ cs, Blk w' (gs j) 26 cs ∧ ∀ k, k < W → cs[k]? = some (.int .u64 ((M j k : Nat) : Int)) := fun j hj => by
      obtain ⟨a, b, cs, hb, hc⟩ := h.own hW j hj
      exact ⟨a, b, cs, hu.blk hb b, hc⟩
    unfold swp
    by_cases h1 : i = r
    · simp only [if_pos h1]; exact key t ht
    · by_cases h2 : i = t
      · simp only [if_neg h1, if_pos h2]; exact key r hr
      · simp only [if_neg h1, if_neg h2]; exact key i hi
  · have key := h.inj hW
    by_cases h1 : i = r
    · by_cases h3 : j = r
      · omega
      · by_cases h4 : j = t
        · simp only [if_pos h1, if_neg h3, if_pos h4] at e
          have := key t r ht hr e; omega
        · simp only [if_pos h1, if_neg h3, if_neg h4] at e
          have := key t j ht hj e; omega
    · by_cases h2 : i = t
      · by_cases h3 : j = r
        · simp only [if_neg h1, if_pos h2, if_pos h3] at e
          have := key r t hr ht e; omega
        · by_cases h4 : j = t
          · omega
          · simp only [if_neg h1, if_pos h2, if_neg h3, if_neg h4] at e
            have := key r j hr hj e; omega
      · by_cases h3 : j = r
        · simp only [if_neg h1, if_neg h2, if_pos h3] at e
          have := key i t hi ht e; omega
        · by_cases h4 : j = t
          · simp only [if_neg h1, if_neg h2, if_neg h3, if_pos h4] at e
            have := key i r hi hr e; omega
          · simp only [if_neg h1, if_neg h2, if_neg h3, if_neg h4] at e
            exact key i j hi hj e
set_option maxRecDepth 100000 in
/-- A further row is laid into its place. -/
theorem OwnM.push (h : OwnM base w g hs gs n W M) {A : Option Addr} {c : Nat} (hR : RowO w.heap.size w' 26 A W c (u64 (M n))) (hq : Q w w') (hn : n < hs.size) :
    ∃ gs', OwnM base (w'.setCell ⟨g, n, none⟩ (.slice A W c)) g (hs.setIfInBounds n (.slice A W c)) gs' (n + 1) W M := by
  have hh := h.head.q hq
  rcases Nat.eq_zero_or_pos W with hW | hW
  · subst hW
    refine ⟨gs, hh.set n _, h.bg, fun i hi => ?_, fun h0 => by omega, fun h0 => by omega⟩
    by_cases e : i = n
    · subst e
      exact ⟨A, c, by simp [hn], Nat.zero_le _, fun h0 => by omega⟩
    · obtain ⟨A1, c1, e1, a, b⟩ := h.row i (by omega)
      exact ⟨A1, c1, by rw [Array.getElem?_setIfInBounds_ne (Ne.symm e)]; exact e1, a, b⟩
  · obtain ⟨g1, cs1, eA, hg1, hb1, hc1⟩ := hR.2.2 hW
    have hgl := h.head.lt
    have hlt : ∀ j, j < n → gs j < w.heap.size := fun j hj => by obtain ⟨_, _, cs, hb, _⟩ := h.own hW j hj; exact hb.lt
    refine ⟨fun i => if i = n then g1 else gs i, hh.set n _, h.bg, fun i hi => ?_, fun _ i hi => ?_, fun _ i j hi hj e => ?_⟩
    · by_cases e : i = n
      · subst e
        exact ⟨A, c, by simp [hn], hR.1, fun _ => by rw [if_pos rfl]; exact eA⟩
      · obtain ⟨A1, c1, e1, a, b⟩ := h.row i (by omega)
        exact ⟨A1, c1, by rw [Array.getElem?_setIfInBounds_ne (Ne.symm e)]; exact e1, a, fun h0 => by rw [if_neg e]; exact b h0⟩
    · by_cases e : i = n
      · subst e
        simp only [if_true]
        exact ⟨by have := h.bg; omega, by omega, cs1, hb1.far (by dsimp only; omega) _, fun k hk => hc1 k hk⟩
      · simp only [if_neg e]
        obtain ⟨a, b, cs, hb, hc⟩ := h.own hW i (by omega)
        exact ⟨a, b, cs, (hb.q hq).far b _, hc⟩
    · by_cases e1 : i = n
      · by_cases e2 : j = n
        · omega
        · simp only [if_pos e1, if_neg e2] at e
          have := hlt j (by omega); omega
      · by_cases e2 : j = n
        · simp only [if_neg e1, if_pos e2] at e
          have := hlt i (by omega); omega
        · simp only [if_neg e1, if_neg e2] at e
          exact h.inj hW i j (by omega) (by omega) e
end
end

section
variable {p : Nat}
/-- Rows that have been made behind base. -/
def RowsO (base : Nat) (w : World) (A : Option Addr) (n c W : Nat) (M : Nat → Nat → Fin p) : Prop := ∃ ρ, RowO base w 44 A n c ρ ∧ ∀ i, i < n → ∃ A' c', ρ i = .slice A' W c' ∧ RowO base w 26 A' W c' (u64 (M i))
/-- A Mod that has been made behind base. -/
def ModO (base : Nat) (w : World) (v : Value) (n W : Nat) (M : Nat → Nat → Fin p) : Prop := ∃ A c, v = .agg #[.int .u64 (p : Int), .int .i64 (W : Int), .slice A n c] ∧ RowsO base w A n c W M
section
variable {base base' : Nat} {w w' : World} {A : Option Addr} {n c W : Nat} {M M' : Nat → Nat → Fin p} {v : Value}
set_option maxRecDepth 100000 in
theorem RowsO.rows (h : RowsO base w A n c W M) : Rows64 w A n c W M := by
  obtain ⟨ρ, h1, h2⟩ := h
  exact ⟨ρ, h1.sc, fun i hi => by
    obtain ⟨A', c', e, hr⟩ := h2 i hi
    exact ⟨A', c', e, hr.sc⟩⟩
set_option maxRecDepth 100000 in
theorem RowsO.q (h : RowsO base w A n c W M) (hq : Q w w') : RowsO base w' A n c W M := by
  obtain ⟨ρ, h1, h2⟩ := h
  exact ⟨ρ, h1.q hq, fun i hi => by
    obtain ⟨A', c', e, hr⟩ := h2 i hi
    exact ⟨A', c', e, hr.q hq⟩⟩
set_option maxRecDepth 100000 in
theorem RowsO.mono (h : RowsO base w A n c W M) (e : base' ≤ base) : RowsO base' w A n c W M := by
  obtain ⟨ρ, h1, h2⟩ := h
  exact ⟨ρ, h1.mono e, fun i hi => by
    obtain ⟨A', c', e1, hr⟩ := h2 i hi
    exact ⟨A', c', e1, hr.mono e⟩⟩
set_option maxRecDepth 100000 in
theorem RowsO.away (h : RowsO base w A n c W M) {k : Nat} (hu : Upd k w w') (hk : k < base) : RowsO base w' A n c W M := by
  obtain ⟨ρ, h1, h2⟩ := h
  exact ⟨ρ, h1.away hu hk, fun i hi => by
    obtain ⟨A', c', e1, hr⟩ := h2 i hi
    exact ⟨A', c', e1, hr.away hu hk⟩⟩
set_option maxRecDepth 100000 in
theorem RowsO.congr (h : RowsO base w A n c W M) (e : ∀ i k, i < n → k < W → M i k = M' i k) : RowsO base w A n c W M' := by
  obtain ⟨ρ, h1, h2⟩ := h
  exact ⟨ρ, h1, fun i hi => by
    obtain ⟨A', c', e1, hr⟩ := h2 i hi
    exact ⟨A', c', e1, hr.congr (fun k hk => by unfold u64; rw [e i k hi hk])⟩⟩
set_option maxRecDepth 100000 in
theorem ModO.modv (h : ModO base w v n W M) : ModV w v n W M := by
  obtain ⟨A, c, e, hr⟩ := h
  exact ⟨A, c, e, hr.rows⟩
set_option maxRecDepth 100000 in
theorem ModO.q (h : ModO base w v n W M) (hq : Q w w') : ModO base w' v n W M := by
  obtain ⟨A, c, e, hr⟩ := h
  exact ⟨A, c, e, hr.q hq⟩
set_option maxRecDepth 100000 in
theorem ModO.mono (h : ModO base w v n W M) (e : base' ≤ base) : ModO base' w v n W M := by
  obtain ⟨A, c, e1, hr⟩ := h
  exact ⟨A, c, e1, hr.mono e⟩
set_option maxRecDepth 100000 in
theorem ModO.away (h : ModO base w v n W M) {k : Nat} (hu : Upd k w w') (hk : k < base) : ModO base w' v n W M := by
  obtain ⟨A, c, e1, hr⟩ := h
  exact ⟨A, c, e1, hr.away hu hk⟩
set_option maxRecDepth 100000 in
theorem ModO.congr (h : ModO base w v n W M) (e : ∀ i k, i < n → k < W → M i k = M' i k) : ModO base w v n W M' := by
  obtain ⟨A, c, e1, hr⟩ := h
  exact ⟨A, c, e1, hr.congr e⟩
set_option maxRecDepth 100000 in
theorem OwnM.rowsO {g : Nat} {hs : Array Value} {gs : Nat → Nat} (h : OwnM base w g hs gs n W M) (hn : n ≤ 140737488355328) (hW : W ≤ 140737488355328) (hc : n ≤ c) : RowsO base w (some ⟨g, 0, none⟩) n c W M := by
  refine ⟨fun i => hs[i]?.getD (.int .i64 0), ⟨hc, hn, fun _ => ⟨g, hs, rfl, h.bg, h.head, fun k hk => ?_⟩⟩, fun i hi => ?_⟩
  · obtain ⟨A, c, e, _⟩ := h.row k hk
    dsimp only
    rw [e]; rfl
  · obtain ⟨A, c, e, hcc, hA⟩ := h.row i hi
    dsimp only
    rw [e]
    refine ⟨A, c, rfl, hcc, hW, fun h0 => ?_⟩
    obtain ⟨hb, _, cs, hblk, hcs⟩ := h.own h0 i hi
    exact ⟨gs i, cs, hA h0, hb, hblk, hcs⟩
end
end

set_option maxRecDepth 100000 in
theorem info_u64 : (Try.prog.info? 26).map (fun i => (i.zero, i.size, i.bytes)) = some (some (.int .u64 0), 1, 8) := by kernel_rfl
set_option maxRecDepth 100000 in
theorem info_int : (Try.prog.info? 3).map (fun i => (i.zero, i.size, i.bytes)) = some (some (.int .i64 0), 1, 8) := by kernel_rfl
set_option maxRecDepth 100000 in
theorem info_row : (Try.prog.info? 44).map (fun i => (i.zero, i.size, i.bytes)) = some (some (.slice none 0 0), 1, 24) := by kernel_rfl

set_option maxRecDepth 100000 in
/-- make of n elements of one cell. -/
theorem mk_any (t e : TypeId) (i0 : TypeInfo) (z : Value) (bytes : Nat) (ht : Try.prog.underlying t = some (.slice e)) (hi : Try.prog.info? e = some i0) (hz : i0.zero = some z) (hs : i0.size = 1) (hb : i0.bytes = bytes) (hb2 : bytes ≤ 24) (hzc : z.cells = #[z])
    (N : Int) (n : Nat) (hN : N = (n : Int)) (hn : n ≤ 1099511627776) (w : World) :
    (Instr.makeSlice t (.int .i64 N) (.int .i64 N)).run Try.prog w = .ok (.slice (some ⟨w.heap.size, 0, none⟩) n n) (w.alloc (.cells (Array.replicate n z) e)) := by
  subst hN
  have hm : n * i0.bytes ≤ n * 24 := Nat.mul_le_mul_left _ (by omega)
  have hr := run_make (P := Try.prog) w t e i0 z ht hi hz .i64 .i64 (n : Int) (n : Int) (by omega) (by omega) (by rw [← Int.natCast_mul, Nat.mul_comm]; omega) (by omega)
  rw [hs] at hr
  simp only [Int.toNat_natCast, Nat.mul_one] at hr
  rw [hr]
  congr 2
  congr 1
  apply Array.ext'
  rw [hzc, toList_madeCells_one]
  simp
end Go.Proofs.Ytcjpjnneimjfiaa
