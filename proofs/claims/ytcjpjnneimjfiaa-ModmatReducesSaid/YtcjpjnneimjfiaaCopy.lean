/-
  copy of a slice to the head of a row of the call's own.
-/
import Derived.Test.YtcjpjnneimjfiaaSl
import Derived.Laws.CopyOwn
namespace Go.Proofs.Ytcjpjnneimjfiaa
open Go.RowKit

set_option maxRecDepth 100000 in
theorem wpList_copy0 {w : World} {ops : Array Oper} {rest : List Oper} {o : Oper} {a : Act} {R : Exit → Act → World → Prop} (hgd : o.guard = none) (d s : Operand)
    (ho : o.op = .call { callee := .builtin .copy, args := #[d, s], argTypes := #[44, 44] })
    (g dn dc : Nat) (A : Option Addr) (n c : Nat) (φ : Nat → Value) (hd : a.eval d = .slice (some ⟨g, 0, none⟩) dn dc) (hs : a.eval s = .slice A n c)
    (cur : Array Value) (hb : Blk w g 26 cur) (hS : Sc w A n c φ) (h1 : ∀ k, k < n → (φ k).oneCell' = true) (hn : n ≤ dn) (hn2 : dn ≤ cur.size)
    (h : ∀ w' cs, Upd g w w' → Blk w' g 26 cs → (∀ j, j < cur.size → cs[j]? = if j < n then some (φ j) else cur[j]?) → wpList Try.prog ops R rest (a.put o.dst (goInt n)) w') :
    wpList Try.prog ops R (o :: rest) a w := by
  have hu := Try.underlying44
  have hsz : (Try.prog.info? 26).map (·.size) = some 1 := by kernel_rfl
  rcases Nat.eq_zero_or_pos n with h0 | h0
  · subst h0
    refine wpList_copy_nothing hgd d s _ _ ho _ hu hsz _ _ _ _ _ _ hd hs (Nat.zero_min dn) ?_
    exact h w cur (Upd.refl _ _) hb (fun j _ => by rw [if_neg (by omega)])
  · obtain ⟨b, o2, rfl, _, hc⟩ := hS.open h0
    have hm : Nat.min n dn = n := Nat.min_eq_left hn
    have key := wpList_copy_own (P := Try.prog) (Q := R) (w := w) (ops := ops) (rest := rest) hgd d s _ _ ho _ hu hsz g 0 dn dc ⟨b, o2, none⟩ n c hd hs cur _ hb (tab φ n) (by rw [tab_len, hm]) (fun j v hv => by
      obtain ⟨hj, rfl⟩ := tab_some hv
      have := hc j hj
      unfold Addr.add
      split
      · rename_i e; subst e; simpa using this
      · exact this) (by rw [tab_len]; omega) (fun u hu2 => by
      unfold tab at hu2
      obtain ⟨k, hk, rfl⟩ := List.mem_map.1 hu2
      exact h1 k (List.mem_range.1 hk))
    rw [tab_len] at key
    refine key (h _ _ ⟨rfl, rfl, rfl, by simp [World.setRow], fun k hk => setRow_other w g k _ hk⟩ (setRow_heap w g _ _ _ _ hb) (fun j hj => ?_))
    simp only [List.take_zero, List.nil_append, Nat.zero_add, List.getElem?_toArray]
    by_cases e : j < n
    · rw [if_pos e, List.getElem?_append_left (by rw [tab_len]; exact e), tab_at e]
    · rw [if_neg e, List.getElem?_append_right (by rw [tab_len]; omega), tab_len, List.getElem?_drop, Array.getElem?_toList]
      congr 1; omega
end Go.Proofs.Ytcjpjnneimjfiaa
