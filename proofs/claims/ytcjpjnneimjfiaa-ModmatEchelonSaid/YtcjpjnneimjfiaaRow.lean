/-
  A block of uint32 that the call itself has made.
-/
import Derived.Test.YtcjpjnneimjfiaaInt3
import Derived.Test.YtcjpjnneimjfiaaNum2
namespace Go.Proofs.Ytcjpjnneimjfiaa
open Go.RowKit

/-- The cells of a row of numbers. -/
def row32 (l : List Nat) : Array Value := (u32s l).toArray
/-- Block g is the row l of uint32. -/
def Row32 (w : World) (g : Nat) (l : List Nat) : Prop := Blk w g 49 (row32 l)
section
variable {w w' : World} {g : Nat} {l : List Nat}
set_option maxRecDepth 100000 in
theorem row32_get {l : List Nat} {i x : Nat} (h : l[i]? = some x) : (row32 l)[i]? = some (Value.int .u32 (x : Nat)) := by
  simp [row32, u32s, h]
set_option maxRecDepth 100000 in
theorem Row32.cell (h : Row32 w g l) {i x : Nat} (hx : l[i]? = some x) : w.cell? ⟨g, i, none⟩ = some (.int .u32 (x : Nat)) := by
  rw [Blk.cell h, row32_get hx]
set_option maxRecDepth 100000 in
theorem Row32.frozen (h : Row32 w g l) (i : Nat) : w.frozen? ⟨g, i, none⟩ = false := Blk.frozen h i
set_option maxRecDepth 100000 in
theorem Row32.lt (h : Row32 w g l) : g < w.heap.size := Blk.lt h
set_option maxRecDepth 100000 in
theorem Row32.q (h : Row32 w g l) (hq : Q w w') : Row32 w' g l := Blk.q h hq
set_option maxRecDepth 100000 in
theorem Row32.drewN (h : Row32 w g l) (n : Nat) : Row32 (w.drewN n) g l := h
set_option maxRecDepth 100000 in
theorem row32_set (l : List Nat) (i v : Nat) (V : Int) (hV : V = (v : Int)) : (row32 l).setIfInBounds i (.int .u32 V) = row32 (l.set i v) := by
  subst hV; simp [row32, u32s, List.map_set]
set_option maxRecDepth 100000 in
theorem Row32.set (h : Row32 w g l) (i v : Nat) {V : Int} (hV : V = (v : Int)) : Row32 (w.setCell ⟨g, i, none⟩ (.int .u32 V)) g (l.set i v) := by
  have := Blk.set h i (.int .u32 V); rwa [row32_set l i v V hV] at this
set_option maxRecDepth 100000 in
theorem Row32.lm (h : Row32 w g l) (hl : Limbs l) (hn : l.length ≤ 140737488355328) {c : Nat} (hc : l.length ≤ c) : Lm w (some ⟨g, 0, none⟩) c l :=
  ⟨hc, hn, hl, fun _ => ⟨g, 0, rfl, h.lt, fun i hi => by rw [Nat.zero_add]; exact h.cell (List.getElem?_eq_getElem hi)⟩⟩
set_option maxRecDepth 100000 in
theorem Row32.make (w : World) (l : List Nat) {k : Nat} (hk : w.heap.size = k) : Row32 (w.alloc (.cells (row32 l) 49)) k l := Blk.new' w _ _ hk
end

set_option maxRecDepth 100000 in
/-- make([]uint32, n). -/
theorem mk32 (N : Int) (n : Nat) (hN : N = (n : Int)) (hn : n ≤ 68719476736) (w : World) :
    (Instr.makeSlice 54 (.int .i64 N) (.int .i64 N)).run Try.prog w = .ok (.slice (some ⟨w.heap.size, 0, none⟩) n n) (w.alloc (.cells (row32 (List.replicate n 0)) 49)) := by
  subst hN
  obtain ⟨i0, hi, hz0, hz1, hz2⟩ := info_parts info_u32
  have hr := run_make (P := Try.prog) w 54 49 i0 (.int .u32 0) Try.underlying54 hi hz0 .i64 .i64 (n : Int) (n : Int) (by omega) (by omega) (by rw [hz2]; omega) (by omega)
  rw [hz1] at hr
  simp only [Int.toNat_natCast, Nat.mul_one] at hr
  rw [hr]
  congr 2
  congr 1
  apply Array.ext'
  rw [show Value.cells (.int .u32 0) = #[.int .u32 0] from rfl, toList_madeCells_one]
  simp [row32, u32s]

end Go.Proofs.Ytcjpjnneimjfiaa
