/-
  An argument of type Number, taken apart.
-/
import Derived.ChangeSlices
import Derived.ChangeSame
import Derived.Test.YtlipdmbdohpblaaDoorLaw
namespace Go.Proofs.YtlipdmbdohpblaaDoor
open Go.ChangeShapes Go.WideShapes Go.ChangeAt Go.RowKit

theorem open_number {H : Type} {enc : TypeId × Value → H} {W : World} {base : Nat} {v : Value} {d : DataW H} {ps : List MemPlace}
    (hval : Value.okWide Tryd.prog W .any base 32 v) (hd : DataW.Trod enc Tryd.prog W 0 (fun _ => true) true 32 v d ps) (hw : ∀ n ∈ d.weights Tryd.prog 32, n ≤ reachBytes) (hlt : ∀ x ∈ ps, x.block < W.heap.size) :
    ∃ A c l n, v = .agg #[.slice A (List.length l) c, .bool n] ∧ Lm W A c l := by
  obtain ⟨cs, rfl, hsz, _⟩ : ∃ cs, v = .agg cs ∧ cs.size = Tryd.prog.cellsOf 32 ∧ Row.okWide Tryd.prog W .any base 32 cs := by
    simpa [Value.okWide, Tryd.underlying32] using hval
  rw [show Tryd.prog.cellsOf 32 = 2 by kernel_rfl] at hsz
  obtain ⟨l⟩ := cs
  match l, hsz with
  | [v0, v1], _ =>
    obtain ⟨fuel, hf⟩ := hd
    obtain ⟨y0, y1, n, hx, _, h0, h1⟩ := trod_struct2 Tryd.underlying32 hf
    have e0 : Tryd.prog.cellsOf 30 = 1 := by kernel_rfl
    have e1 : Tryd.prog.cellsOf 4 = 1 := by kernel_rfl
    have e2 : Tryd.prog.cellsOf 23 = 1 := by kernel_rfl
    simp only [Prod.mk.injEq] at hx
    obtain ⟨rfl, rfl⟩ := hx
    simp [e0, e1] at h0 h1
    obtain ⟨b, eb, _⟩ := DataW.trod_bool Tryd.underlying4 h1
    simp [Value.cells] at eb
    subst eb
    rcases open_ints Tryd.underlying30 Tryd.underlying23 e2 h0 with ⟨hcs, hx⟩ | ⟨a, len, cap, zs, hcs, _, hl, hm, hz, hx, hcell, hws⟩
    · simp [Value.cells] at hcs
      obtain rfl := hcs
      exact ⟨none, 0, [], b, rfl, Lm.nil _ _ _⟩
    · simp [Value.cells] at hcs
      obtain rfl := hcs
      subst hx
      simp only [if_true] at hz
      have hb4 : Tryd.prog.bytesOf 23 = 4 := by kernel_rfl
      have hreach : cap * 4 ≤ 140737488351232 := by
        have := hw (cap * 4) (by simp [DataW.weights, DataW.weightsEach, Tryd.underlying32, Tryd.underlying30, hb4, lits, hz]; omega)
        simpa [reachBytes] using this
      have hlen : ((zs.take len).map Int.toNat).length = len := by rw [List.length_map, List.length_take]; omega
      have hnat : ∀ z ∈ zs, 0 ≤ z ∧ z < 4294967296 := fun z hz => by
        obtain ⟨m, rfl, hm⟩ := nat_of_wf (hws z hz) rfl
        have hm2 : (m : Int) ≤ 4294967295 := hm
        omega
      refine ⟨some a, cap, (zs.take len).map Int.toNat, b, by rw [hlen], by omega, by omega, ?_, fun hl0 => ?_⟩
      · intro x hx
        obtain ⟨z, hz1, rfl⟩ := List.mem_map.1 hx
        have := hnat z (List.mem_of_mem_take hz1)
        omega
      · obtain ⟨b', off, spot⟩ := a
        have h00 := hcell 0 (by omega)
        have hspot : spot = none := by simpa [Addr.add] using World.cell?_spot h00
        subst hspot
        have hbW : b' < W.heap.size := lt_of_cell h00
        refine ⟨b', off, rfl, hbW, fun i hi => ?_⟩
        have hi2 : i < zs.length := by omega
        have h := hcell i hi2
        rw [add_plain] at h
        rw [h, List.getElem_map, List.getElem_take, List.getD_eq_getElem?_getD, List.getElem?_eq_getElem hi2]
        have := hnat zs[i] (List.getElem_mem hi2)
        simp only [Option.getD_some]
        rw [Int.toNat_of_nonneg this.1]
end Go.Proofs.YtlipdmbdohpblaaDoor
