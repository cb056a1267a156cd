/-
  An argument of type [][]int8, taken apart.
-/
import Derived.Test.YtcjpjnneimjfiaaOpen7
import Derived.Test.YtcjpjnneimjfiaaIn8
namespace Go.Proofs.Ytcjpjnneimjfiaa
open Go.ChangeShapes Go.WideShapes Go.ChangeAt Go.RowKit

set_option maxRecDepth 100000 in
theorem i8_of_wf {n : Int} (h : (Lit.int .i8 n).wf = true) : -128 ≤ n ∧ n ≤ 127 := by
  simp only [Lit.wf, Bool.and_eq_true, decide_eq_true_eq] at h
  have h1 : (-128 : Int) ≤ n := h.1
  have h2 : n ≤ (127 : Int) := h.2
  exact ⟨h1, h2⟩
set_option maxRecDepth 100000 in
theorem open_i8s {H : Type} {enc : TypeId × Value → H} {W : World} {base : Nat} {v : Value} {d : DataW H} {ps : List MemPlace}
    (hval : Value.okWide Try.prog W .any base 65 v) (hd : DataW.Trod enc Try.prog W 0 (fun _ => true) true 65 v d ps) (hw : ∀ n ∈ d.weights Try.prog 65, n ≤ reachBytes) :
    ∃ A n c len Z, v = .slice A n c ∧ Rows8 W A n c len Z := by
  obtain ⟨A0, n0, c0, rfl⟩ := okWide_slice Try.underlying65 hval
  obtain ⟨fuel, hf⟩ := hd
  have e2 : Try.prog.cellsOf 89 = 1 := by kernel_rfl
  have e3 : Try.prog.cellsOf 90 = 1 := by kernel_rfl
  rcases Go.Deep.open_int_rows Try.underlying65 Try.underlying89 Try.underlying90 e2 e3 hf with ⟨hcs, hx⟩ | ⟨a, len, cap, A, L, Cc, Z, hcs, _, hl, hm, hx, hrow⟩
  · simp [Value.cells] at hcs
    obtain ⟨rfl, rfl, rfl⟩ := hcs
    exact ⟨none, 0, 0, fun _ => 0, fun _ _ => 0, rfl, fun _ => .slice none 0 0, ⟨Nat.le_refl _, by omega, fun h => by omega⟩, fun i h => by omega⟩
  · simp [Value.cells] at hcs
    obtain ⟨rfl, rfl, rfl⟩ := hcs
    simp only [Prod.mk.injEq] at hx
    obtain ⟨rfl, rfl⟩ := hx
    have hb24 : Try.prog.bytesOf 89 = 24 := by kernel_rfl
    have hb1 : Try.prog.bytesOf 90 = 1 := by kernel_rfl
    have hcap : c0 * 24 ≤ 140737488351232 := by
      have := hw (c0 * 24) (by simp [DataW.weights, Try.underlying65, hb24]; omega)
      simpa [reachBytes] using this
    refine ⟨some a, n0, c0, L, fun i k => (Z i).getD k 0, rfl, fun r => .slice (A r) (L r) (Cc r), ⟨hl, by omega, fun h0 => ?_⟩, fun r hr => ⟨A r, Cc r, rfl, ?_, fun k hk => ?_⟩⟩
    · obtain ⟨b', off, spot⟩ := a
      have h00 := (hrow 0 (by omega)).1
      have hspot : spot = none := by simpa [Addr.add] using World.cell?_spot h00
      subst hspot
      refine ⟨b', off, rfl, lt_of_cell h00, fun k hk => ?_⟩
      have h := (hrow k (by omega)).1
      rw [add_plain] at h
      exact h
    · obtain ⟨_, q1, q2, q3, q4, q5, q6⟩ := hrow r (by omega)
      have hreach : Cc r ≤ 140737488351232 := by
        cases hA : A r with
        | none => rw [q5 hA]; omega
        | some a' =>
          have hmem : Cc r ∈ (Go.Deep.intRow (H := H) .i8 (A r) (L r) (Z r)).weights Try.prog 89 := by
            simp [Go.Deep.intRow, hA, DataW.weights, Try.underlying89, hb1, lits, q3]
            omega
          have := hw (Cc r) (by
            simp only [DataW.weights, Try.underlying65]
            refine List.mem_cons_of_mem _ (List.mem_append_left _ ?_)
            exact weights_mem (List.mem_map.2 ⟨r, List.mem_range.2 hr, rfl⟩) hmem)
          simpa [reachBytes] using this
      refine ⟨q1, by omega, fun h0 => ?_⟩
      cases hA : A r with
      | none => have := q5 hA; omega
      | some a' =>
        obtain ⟨b', off, spot⟩ := a'
        have h00 := (q6 _ hA).2 0 (by omega)
        have hspot : spot = none := by simpa [Addr.add] using World.cell?_spot h00
        subst hspot
        refine ⟨b', off, rfl, lt_of_cell h00, fun k hk => ?_⟩
        have h := (q6 _ hA).2 k (by omega)
        rw [add_plain] at h
        exact h
    · obtain ⟨_, q1, q2, q3, q4, q5, q6⟩ := hrow r (by omega)
      have hk2 : k < (Z r).length := by omega
      dsimp only
      rw [List.getD_eq_getElem?_getD, List.getElem?_eq_getElem hk2]
      exact i8_of_wf (q4 _ (List.getElem_mem hk2))
end Go.Proofs.Ytcjpjnneimjfiaa
