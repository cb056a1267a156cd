/-
  Arguments of types Raw and Change and slices of numbers, taken apart.
  An argument of type Change, taken apart.
  An argument of type []uint32, taken apart.
-/
import Derived.ChangeSlices
import Derived.ChangeSame
import Derived.Deep.Matrix
import Derived.Deep.Strs
import Derived.Test.YtcjpjnneimjfiaaLaw0
import Derived.Test.YtcjpjnneimjfiaaRfD
import Derived.Lib.SmallJoins
namespace Go.Proofs.Ytcjpjnneimjfiaa
open Go.ChangeShapes Go.WideShapes Go.ChangeAt Go.RowKit

set_option maxRecDepth 100000 in
theorem weights_mem {H : Type} {P : Program} {e : TypeId} {ds : List (DataW H)} {d : DataW H} {n : Nat} (hd : d ∈ ds) (hn : n ∈ d.weights P e) : n ∈ DataW.weightsAll P e ds := by
  induction ds with
  | nil => cases hd
  | cons a r ih =>
    unfold DataW.weightsAll
    rcases List.mem_cons.1 hd with rfl | h
    · exact List.mem_append_left _ hn
    · exact List.mem_append_right _ (ih h)
set_option maxRecDepth 100000 in
/-- Numbers of 32 bits behind an address. -/
theorem lm_of_cells {W : World} {A : Option Addr} {len cap : Nat} {zs : List Int} (hl : len ≤ cap) (hz : zs.length = cap) (hws : ∀ n ∈ zs, (Lit.int .u32 n).wf = true) (hcap : cap * 4 ≤ 140737488351232) (hA : A = none → cap = 0)
    (hcell : ∀ a', A = some a' → ∀ c, c < cap → W.cell? (a'.add c) = some (.int .u32 (zs.getD c 0))) : ∃ l : List Nat, l.length = len ∧ Lm W A cap l := by
  have hlen : ((zs.take len).map Int.toNat).length = len := by rw [List.length_map, List.length_take]; omega
  have hnat : ∀ z ∈ zs, 0 ≤ z ∧ z < 4294967296 := fun z hz => by
    obtain ⟨m, rfl, hm⟩ := nat_of_wf (hws z hz) rfl
    have hm2 : (m : Int) ≤ 4294967295 := hm
    omega
  refine ⟨(zs.take len).map Int.toNat, hlen, by omega, by omega, ?_, fun hl0 => ?_⟩
  · intro x hx
    obtain ⟨z, hz1, rfl⟩ := List.mem_map.1 hx
    have := hnat z (List.mem_of_mem_take hz1)
    omega
  · cases A with
    | none => have := hA rfl; omega
    | some a =>
      obtain ⟨b', off, spot⟩ := a
      have h00 := hcell _ rfl 0 (by omega)
      have hspot : spot = none := by simpa [Addr.add] using World.cell?_spot h00
      subst hspot
      have hbW : b' < W.heap.size := lt_of_cell h00
      refine ⟨b', off, rfl, hbW, fun i hi => ?_⟩
      have hi2 : i < zs.length := by omega
      have h := hcell _ rfl i (by omega)
      rw [add_plain] at h
      rw [h]
      have h3 : ((zs.take len).map Int.toNat)[i] = (zs[i]).toNat := by simp
      rw [h3, List.getD_eq_getElem?_getD, List.getElem?_eq_getElem hi2]
      have := hnat _ (List.getElem_mem hi2)
      simp only [Option.getD_some]
      congr 2
      omega
set_option maxRecDepth 100000 in
theorem open_raw {H : Type} {enc : TypeId × Value → H} {W : World} {base : Nat} {v : Value} {d : DataW H} {ps : List MemPlace}
    (hval : Value.okWide Try.prog W .any base 24 v) (hd : DataW.Trod enc Try.prog W 0 (fun _ => true) true 24 v d ps) (hw : ∀ n ∈ d.weights Try.prog 24, n ≤ reachBytes) :
    ∃ P C L, RawV W v P C L ∧ P < 256 ∧ C < 256 := by
  obtain ⟨cs, rfl, hsz, _⟩ : ∃ cs, v = .agg cs ∧ cs.size = Try.prog.cellsOf 24 ∧ Row.okWide Try.prog W .any base 24 cs := by
    simpa [Value.okWide, Try.underlying24] using hval
  rw [show Try.prog.cellsOf 24 = 3 by kernel_rfl] at hsz
  obtain ⟨l⟩ := cs
  match l, hsz with
  | [v0, v1, v2], _ =>
    obtain ⟨fuel, hf⟩ := hd
    obtain ⟨y0, y1, y2, n, hx, _, h0, h1, h2⟩ := Go.Deep.trod_struct3 Try.underlying24 hf
    have e0 : Try.prog.cellsOf 5 = 1 := by kernel_rfl
    have e1 : Try.prog.cellsOf 22 = 1 := by kernel_rfl
    have e2 : Try.prog.cellsOf 54 = 1 := by kernel_rfl
    have e3 : Try.prog.cellsOf 49 = 1 := by kernel_rfl
    simp only [Prod.mk.injEq] at hx
    obtain ⟨rfl, rfl⟩ := hx
    simp [e0, e1] at h0 h1 h2
    obtain ⟨z0, f0, _, w0⟩ := DataW.trod_int Try.underlying5 h0
    obtain ⟨z1, f1, _, w1⟩ := DataW.trod_int Try.underlying5 h1
    simp [Value.cells] at f0 f1
    subst f0 f1
    obtain ⟨P, rfl, hP⟩ := nat_of_wf w0 rfl
    obtain ⟨C, rfl, hC⟩ := nat_of_wf w1 rfl
    have hP2 : (P : Int) ≤ 255 := hP
    have hC2 : (C : Int) ≤ 255 := hC
    rcases Go.Deep.open_int_rows Try.underlying22 Try.underlying54 Try.underlying49 e2 e3 h2 with ⟨hcs, hx⟩ | ⟨a, len, cap, A, L, Cc, Z, hcs, _, hl, hm, hx, hrow⟩
    · simp [Value.cells] at hcs
      obtain rfl := hcs
      exact ⟨P, C, [], ⟨none, 0, rfl, fun _ => .slice none 0 0, ⟨Nat.le_refl _, by simp, fun h => by simp at h⟩, fun i l h => by simp at h⟩, by omega, by omega⟩
    · simp [Value.cells] at hcs
      obtain rfl := hcs
      subst hx
      have hb24 : Try.prog.bytesOf 54 = 24 := by kernel_rfl
      have hb4 : Try.prog.bytesOf 49 = 4 := by kernel_rfl
      have hcap : cap * 24 ≤ 140737488351232 := by
        have := hw (cap * 24) (by simp [DataW.weights, DataW.weightsEach, Try.underlying24, Try.underlying22, hb24]; omega)
        simpa [reachBytes] using this
      have hlm : ∀ r, r < len → ∃ l : List Nat, l.length = L r ∧ Lm W (A r) (Cc r) l := by
        intro r hr
        obtain ⟨_, q1, q2, q3, q4, q5, q6⟩ := hrow r (by omega)
        refine lm_of_cells q1 q3 q4 ?_ q5 (fun a' ha => (q6 a' ha).2)
        cases hA : A r with
        | none => rw [q5 hA]; omega
        | some a' =>
          have hmem : Cc r * 4 ∈ (Go.Deep.intRow (H := H) .u32 (A r) (L r) (Z r)).weights Try.prog 54 := by
            simp [Go.Deep.intRow, hA, DataW.weights, Try.underlying54, hb4, lits, q3]
            left
            omega
          have := hw (Cc r * 4) (by
            simp only [DataW.weights, DataW.weightsEach, Try.underlying24, Try.underlying22, List.map_cons, List.map_nil, List.append_nil]
            refine List.mem_append_right _ (List.mem_append_right _ (List.mem_cons_of_mem _ (List.mem_append_left _ ?_)))
            exact weights_mem (List.mem_map.2 ⟨r, List.mem_range.2 hr, rfl⟩) hmem)
          simpa [reachBytes] using this
      obtain ⟨F, hF⟩ : ∃ F : Nat → List Nat, ∀ r, r < len → (F r).length = L r ∧ Lm W (A r) (Cc r) (F r) :=
        ⟨fun r => if h : r < len then Classical.choose (hlm r h) else [], fun r hr => by simp only [dif_pos hr]; exact Classical.choose_spec (hlm r hr)⟩
      have hlen : ((List.range len).map F).length = len := by simp
      refine ⟨P, C, (List.range len).map F, ⟨some a, cap, by rw [hlen], fun r => .slice (A r) (L r) (Cc r), ⟨by rw [hlen]; exact hl, by rw [hlen]; omega, fun h0 => ?_⟩, fun i l h => ?_⟩, by omega, by omega⟩
      · rw [hlen] at h0
        obtain ⟨b', off, spot⟩ := a
        have h00 := (hrow 0 (by omega)).1
        have hspot : spot = none := by simpa [Addr.add] using World.cell?_spot h00
        subst hspot
        refine ⟨b', off, rfl, lt_of_cell h00, fun k hk => ?_⟩
        rw [hlen] at hk
        have h := (hrow k (by omega)).1
        rw [add_plain] at h
        exact h
      · have hi : i < len := by
          rcases Nat.lt_or_ge i len with g | g
          · exact g
          · rw [List.getElem?_eq_none (by rw [hlen]; exact g)] at h; cases h
        rw [List.getElem?_map, List.getElem?_range hi] at h
        simp only [Option.map_some, Option.some.injEq] at h
        subst h
        obtain ⟨e1, e2⟩ := hF i hi
        exact ⟨A i, Cc i, by rw [e1], e2⟩
end Go.Proofs.Ytcjpjnneimjfiaa
namespace Go.Proofs.Ytcjpjnneimjfiaa
open Go.ChangeShapes Go.WideShapes Go.ChangeAt Go.RowKit

set_option maxRecDepth 100000 in
theorem open_change {H : Type} {enc : TypeId × Value → H} {W : World} {base : Nat} {v : Value} {d : DataW H} {ps : List MemPlace}
    (hval : Value.okWide Try.prog W .any base 51 v) (hd : DataW.Trod enc Try.prog W 0 (fun _ => true) true 51 v d ps) :
    ∃ a b c f : Nat, v = .agg #[.int .u8 a, .int .u8 b, .int .u8 c, .int .u32 f] ∧ a < 256 ∧ b < 256 ∧ c < 256 ∧ f < 4294967296 := by
  obtain ⟨cs, rfl, hsz, _⟩ : ∃ cs, v = .agg cs ∧ cs.size = Try.prog.cellsOf 51 ∧ Row.okWide Try.prog W .any base 51 cs := by
    simpa [Value.okWide, Try.underlying51] using hval
  rw [show Try.prog.cellsOf 51 = 4 by kernel_rfl] at hsz
  obtain ⟨l⟩ := cs
  match l, hsz with
  | [v0, v1, v2, v3], _ =>
    obtain ⟨fuel, hf⟩ := hd
    obtain ⟨y0, y1, y2, y3, n, hx, _, h0, h1, h2, h3⟩ := Go.Joins.trod_struct4 Try.underlying51 hf
    have e0 : Try.prog.cellsOf 5 = 1 := by kernel_rfl
    have e3 : Try.prog.cellsOf 49 = 1 := by kernel_rfl
    simp only [Prod.mk.injEq] at hx
    obtain ⟨rfl, rfl⟩ := hx
    simp [e0, e3] at h0 h1 h2 h3
    obtain ⟨z0, f0, _, w0⟩ := DataW.trod_int Try.underlying5 h0
    obtain ⟨z1, f1, _, w1⟩ := DataW.trod_int Try.underlying5 h1
    obtain ⟨z2, f2, _, w2⟩ := DataW.trod_int Try.underlying5 h2
    obtain ⟨z3, f3, _, w3⟩ := DataW.trod_int Try.underlying49 h3
    simp [Value.cells] at f0 f1 f2 f3
    subst f0 f1 f2 f3
    obtain ⟨a, rfl, ha⟩ := nat_of_wf w0 rfl
    obtain ⟨b, rfl, hb⟩ := nat_of_wf w1 rfl
    obtain ⟨c, rfl, hc⟩ := nat_of_wf w2 rfl
    obtain ⟨f, rfl, hff⟩ := nat_of_wf w3 rfl
    have ha2 : (a : Int) ≤ 255 := ha
    have hb2 : (b : Int) ≤ 255 := hb
    have hc2 : (c : Int) ≤ 255 := hc
    have hf2 : (f : Int) ≤ 4294967295 := hff
    exact ⟨a, b, c, f, rfl, by omega, by omega, by omega, by omega⟩
end Go.Proofs.Ytcjpjnneimjfiaa
namespace Go.Proofs.Ytcjpjnneimjfiaa
open Go.ChangeShapes Go.WideShapes Go.ChangeAt Go.RowKit

set_option maxRecDepth 100000 in
theorem open_u32s {H : Type} {enc : TypeId × Value → H} {W : World} {base : Nat} {v : Value} {d : DataW H} {ps : List MemPlace}
    (hval : Value.okWide Try.prog W .any base 54 v) (hd : DataW.Trod enc Try.prog W 0 (fun _ => true) true 54 v d ps) (hw : ∀ n ∈ d.weights Try.prog 54, n ≤ reachBytes) :
    ∃ A c l, v = .slice A (List.length l) c ∧ Lm W A c l := by
  obtain ⟨A0, n0, c0, rfl⟩ := okWide_slice Try.underlying54 hval
  obtain ⟨fuel, hf⟩ := hd
  have e2 : Try.prog.cellsOf 49 = 1 := by kernel_rfl
  rcases open_ints Try.underlying54 Try.underlying49 e2 hf with ⟨hcs, hx⟩ | ⟨a, len, cap, zs, hcs, _, hl, hm, hz, hx, hcell, hws⟩
  · simp [Value.cells] at hcs
    obtain ⟨rfl, rfl, rfl⟩ := hcs
    exact ⟨none, 0, [], rfl, Lm.nil _ _ _⟩
  · simp [Value.cells] at hcs
    obtain ⟨rfl, rfl, rfl⟩ := hcs
    simp only [Prod.mk.injEq] at hx
    obtain ⟨rfl, rfl⟩ := hx
    simp only [if_true] at hz
    have hb4 : Try.prog.bytesOf 49 = 4 := by kernel_rfl
    have hreach : c0 * 4 ≤ 140737488351232 := by
      have := hw (c0 * 4) (by simp [DataW.weights, Try.underlying54, hb4, lits, hz]; omega)
      simpa [reachBytes] using this
    obtain ⟨l, h1, h2⟩ := lm_of_cells hl hz hws hreach (A := some a) (W := W) (fun h => by cases h) (fun a' e c hc => by injection e with e; subst e; exact hcell c (by omega))
    exact ⟨some a, c0, l, by rw [h1], h2⟩
end Go.Proofs.Ytcjpjnneimjfiaa
