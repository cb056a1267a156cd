/-
  Arguments that are small arrays of integers, taken apart.
-/
import Derived.Test.YtlipdmbdohpblaaDoorLaw
import Derived.Laws.IdiomArrays
namespace Go.Proofs.YtlipdmbdohpblaaDoor
open Go.ChangeShapes Go.WideShapes Go.ChangeAt Go.RowKit

section
variable {H : Type} {enc : TypeId × Value → H} {P : Program} {W : World} {base : Nat} {sp : Nat → Bool} {t e : TypeId} {k : IntKind} {v : Value} {d : DataW H} {ps : List MemPlace}
theorem open_arr3 (ht : P.underlying t = some (.array 3 e)) (he : P.underlying e = some (.int k)) (hce : P.cellsOf e = 1) (hct : P.cellsOf t = 3)
    (hval : Value.okWide P W .any base t v) (hd : DataW.Trod enc P W 0 sp true t v d ps) :
    ∃ x y z, v = .agg #[.int k x, .int k y, .int k z] ∧ (Lit.int k x).wf = true ∧ (Lit.int k y).wf = true ∧ (Lit.int k z).wf = true := by
  obtain ⟨cs, rfl, hsz, _⟩ : ∃ cs, v = .agg cs ∧ cs.size = P.cellsOf t ∧ Row.okWide P W .any base t cs := by
    simpa [Value.okWide, ht] using hval
  rw [hct] at hsz
  obtain ⟨l⟩ := cs
  match l, hsz with
  | [c0, c1, c2], _ =>
    obtain ⟨fuel, hf⟩ := hd
    obtain ⟨y0, y1, y2, m, _, hy0, hy1, hy2⟩ := trod_array3 ht hce hf
    obtain ⟨x0, e0, _, w0⟩ := DataW.trod_int he hy0
    obtain ⟨x1, e1, _, w1⟩ := DataW.trod_int he hy1
    obtain ⟨x2, e2, _, w2⟩ := DataW.trod_int he hy2
    simp at e0 e1 e2
    subst e0 e1 e2
    exact ⟨x0, x1, x2, rfl, w0, w1, w2⟩
theorem open_arr2 (ht : P.underlying t = some (.array 2 e)) (he : P.underlying e = some (.int k)) (hce : P.cellsOf e = 1) (hct : P.cellsOf t = 2)
    (hval : Value.okWide P W .any base t v) (hd : DataW.Trod enc P W 0 sp true t v d ps) :
    ∃ x y, v = .agg #[.int k x, .int k y] ∧ (Lit.int k x).wf = true ∧ (Lit.int k y).wf = true := by
  obtain ⟨cs, rfl, hsz, _⟩ : ∃ cs, v = .agg cs ∧ cs.size = P.cellsOf t ∧ Row.okWide P W .any base t cs := by
    simpa [Value.okWide, ht] using hval
  rw [hct] at hsz
  obtain ⟨l⟩ := cs
  match l, hsz with
  | [c0, c1], _ =>
    obtain ⟨fuel, hf⟩ := hd
    obtain ⟨xs, m, _, _, _, hl, hel⟩ := DataW.trod_array ht hf
    have h0 := hel 0 (by decide)
    have h1 := hel 1 (by decide)
    match xs, hl with
    | [y0, y1], _ =>
      rw [hce] at h0 h1
      have h0 : DataW.trod enc P W 0 sp true m e [c0] = some y0 := h0
      have h1 : DataW.trod enc P W 0 sp true m e [c1] = some y1 := h1
      obtain ⟨x0, e0, _, w0⟩ := DataW.trod_int he h0
      obtain ⟨x1, e1, _, w1⟩ := DataW.trod_int he h1
      injection e0 with e0
      injection e1 with e1
      subst e0 e1
      exact ⟨x0, x1, rfl, w0, w1⟩
end
end Go.Proofs.YtlipdmbdohpblaaDoor
