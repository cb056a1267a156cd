/-
  append onto a row of the call's own, with what holds of every cell of the row.
-/
import Derived.Test.YtcjpjnneimjfiaaBase
namespace Go.Proofs.Ytcjpjnneimjfiaa
open Go.RowKit
section
variable {P : Program} {w : World}
/-- What holds of every cell of the block that a slice of the call's own begins at. -/
def AllOk (w : World) (v : Value) (ok : Value → Prop) : Prop := ∀ g cs t fz, v.ownBlock = some g → w.heap[g]? = some (.cells cs t fz) → ∀ u ∈ cs.toList, ok u
set_option maxRecDepth 100000 in
theorem AllOk.q {v : Value} {ok : Value → Prop} {w w' : World} (h : AllOk w v ok) (hl : ∀ g, v.ownBlock = some g → g < w.heap.size) (hq : Q w w') : AllOk w' v ok := fun g cs t fz e hb => h g cs t fz e ((hq.block (hl g e)).symm.trans hb)
set_option maxRecDepth 100000 in
theorem zero_ok {z : Array Value} {n : Nat} {ok : Value → Prop} (h : ∀ u ∈ z.toList, ok u) : ∀ u ∈ (Builtin.zeroCells z n).toList, ok u := by
  intro u hu
  unfold Builtin.zeroCells at hu
  rw [Array.toList_map, List.mem_map] at hu
  obtain ⟨i, hi, rfl⟩ := hu
  rw [Array.mem_toList_iff, Array.mem_range] at hi
  have hz : 0 < z.size := by
    rcases Nat.eq_zero_or_pos z.size with e | e
    · rw [e, Nat.mul_zero] at hi; omega
    · exact e
  have hlt := Nat.mod_lt i hz
  rw [getElem!_pos z (i % z.size) hlt]
  exact h _ (Array.mem_toList_iff.2 (Array.getElem_mem hlt))
set_option maxRecDepth 100000 in
theorem run_app_ok (ok : Value → Prop) (base : Nat) (t ty e : TypeId) (i : TypeInfo) (z : Value) (size bytes : Nat) (ht : P.underlying t = some (.slice e)) (hi : P.info? e = some i) (hz : i.zero = some z)
    (hsize : i.size = size) (hby : i.bytes = bytes) (hzs : z.cells.size = size) (hsz : 0 < size) (hzo : ∀ u ∈ z.cells.toList, ok u)
    (v : Value) (n : Nat) (xs : List Value) (hown : w.ownsRow base e size v n xs) (hno : AllOk w v ok)
    (a : Addr) (m c : Nat) (news : List Value) (hl : news.length = m * size) (hnews : ∀ j u, news[j]? = some u → w.cell? (a.add j) = some u) (h1 : ∀ u ∈ news, u.oneCell' = true) (hnk : ∀ u ∈ news, ok u)
    (h63 : n + m ≤ maxLen) (hbytes : (n + m) * bytes ≤ 140737488355328) (hbase : base ≤ w.heap.size) :
    ∃ v' w', (Builtin.append_ #[t, t] ty #[v, .slice (some a) m c]).run P w = .ok v' w' ∧ w'.ownsRow base e size v' (n + m) (xs ++ news) ∧ w.grownBy w' v.ownBlock ∧ AllOk w' v' ok := by
  obtain ⟨v', w', hr, h2, h3, h4, h5⟩ := run_append_own_at (P := P) w base t ty e i z size bytes ht hi hz hsize hby hzs hsz v n xs hown a m c news hl hnews h1 h63 hbytes hbase
  refine ⟨v', w', hr, h2, h3, ?_⟩
  subst hsize
  subst hby
  have hsmall : n + m ≤ 9223372036854775807 := by simp only [maxLen] at h63; omega
  rcases hown.2 with ⟨rfl, rfl⟩ | ⟨g, cap, cur, rfl, hbg, hg, hnc, hcm, hcs, htake⟩
  · by_cases hm : m = 0
    · rw [h4.2 ⟨rfl, hm⟩]
      intro g cs t fz e; cases e
    · have hr2 := run_append_nil (P := P) w t ty e i z ht hi hz a m c news hl hnews (by omega) (by omega) (by have hb := hbytes; simp only [Nat.zero_add] at hb; omega)
      rw [hr2] at hr
      injection hr with e1 e2
      subst e1 e2
      intro g cs t fz eg hb
      injection eg with eg
      subst eg
      have hb2 : (w.drew.alloc (.cells (news.toArray ++ Builtin.zeroCells z.cells (grownCap w m 0 e - m)) e)).heap[w.heap.size]? = some (.cells (news.toArray ++ Builtin.zeroCells z.cells (grownCap w m 0 e - m)) e (0, 0)) := heap_alloc_new w.drew _
      rw [hb2] at hb
      injection hb with hb
      injection hb with hb
      subst hb
      intro u hu
      rw [Array.toList_append, List.mem_append] at hu
      rcases hu with hu | hu
      · exact hnk u (by simpa using hu)
      · exact zero_ok hzo u hu
  · by_cases hroom : n + m ≤ cap
    · have hfit : n * i.size + news.length ≤ cur.size := by rw [hl, hcs, ← Nat.add_mul]; exact Nat.mul_le_mul_right _ hroom
      have hr2 := run_append_room (P := P) w t ty e i ht hi g n cap cur hg a m c news hl hnews h1 hroom hfit
      rw [hr2] at hr
      injection hr with e1 e2
      subst e1 e2
      intro g' cs t fz eg hb
      injection eg with eg
      have eg' : g = g' := eg
      subst eg'
      have hb2 := setRow_heap w g cur ((cur.toList.take (n * i.size) ++ news ++ cur.toList.drop (n * i.size + news.length)).toArray) e _ hg
      rw [hb2] at hb
      injection hb with hb
      injection hb with hb
      subst hb
      intro u hu
      have hcur := hno g cur e _ rfl hg
      simp only [List.mem_append] at hu
      rcases hu with (hu | hu) | hu
      · exact hcur u (List.mem_of_mem_take hu)
      · exact hnk u hu
      · exact hcur u (List.mem_of_mem_drop hu)
    · have holds : ∀ j u, xs[j]? = some u → w.cell? ((⟨g, 0, none⟩ : Addr).add j) = some u := hown.cells (g := g) rfl
      have hr2 := run_append_grow (P := P) w t ty e i z ht hi hz ⟨g, 0, none⟩ n cap xs hown.1 holds a m c news hl hnews (by omega) (by omega) (growslice_fits (by omega) hbytes)
      rw [hr2] at hr
      injection hr with e1 e2
      subst e1 e2
      intro g' cs t fz eg hb
      injection eg with eg
      subst eg
      have hb2 : (w.drew.alloc (.cells (xs.toArray ++ news.toArray ++ Builtin.zeroCells z.cells (grownCap w (n + m) cap e - (n + m))) e)).heap[w.heap.size]? = some (.cells (xs.toArray ++ news.toArray ++ Builtin.zeroCells z.cells (grownCap w (n + m) cap e - (n + m))) e (0, 0)) := heap_alloc_new w.drew _
      rw [hb2] at hb
      injection hb with hb
      injection hb with hb
      subst hb
      intro u hu
      have hcur := hno g cur e _ rfl hg
      simp only [Array.toList_append, List.mem_append] at hu
      rcases hu with (hu | hu) | hu
      · rw [← htake] at hu
        exact hcur u (List.mem_of_mem_take (by simpa using hu))
      · exact hnk u (by simpa using hu)
      · exact zero_ok hzo u hu
end
end Go.Proofs.Ytcjpjnneimjfiaa
