/-
  torsionlaw07.changed: a change of rows.
-/
import Derived.Test.YtcjpjnneimjfiaaRfH
import Derived.Test.YtcjpjnneimjfiaaMmI
namespace Go.Proofs.Ytcjpjnneimjfiaa
open Go.RowKit
set_option maxRecDepth 100000 in
theorem RowO.far {base t t' k m c : Nat} {w w' : World} {A : Option Addr} {φ : Nat → Value} {cs : Array Value} (h : RowO base w t A m c φ) (hu : Upd k w w') (hb : Blk w k t' cs) (ht : t ≠ t') : RowO base w' t A m c φ :=
  ⟨h.1, h.2.1, fun hl => by
    obtain ⟨g, cs2, e, h1, hb2, hc⟩ := h.2.2 hl
    exact ⟨g, cs2, e, h1, hu.blk hb2 (blk_ne hb2 hb ht), hc⟩⟩
section
variable {p : Nat} [NeZero p]

/-- The changed matrix and its number of rows; f is the factor. -/
def chgN (what n : Nat) : Nat := if n = 0 then n else if what % 4 = 3 then n + 1 else n
def chgM (what I K n : Nat) (f : Fin p) (M : Mt p) : Mt p :=
  if n = 0 then M
  else if what % 4 = 0 then swp (I % n) (K % n) M
  else if what % 4 = 1 then (if f = 0 then M else fun j => if j = I % n then fun k => f * M (I % n) k else M j)
  else if what % 4 = 2 then (if I % n = K % n then M else fun j => if j = I % n then fun k => M (I % n) k + f * M (K % n) k else M j)
  else fun j => if j = n then fun k => M (I % n) k + f * M (K % n) k else M j
set_option maxRecDepth 100000 in
theorem box3_q {w1 w2 : World} (q : Q w1 w2) (x y z : Value) : Q w1 (((w2.setCell ⟨w1.heap.size, 0, none⟩ x).setCell ⟨w1.heap.size, 1, none⟩ y).setCell ⟨w1.heap.size, 2, none⟩ z) :=
  Below.setCell (Below.setCell (Below.setCell q (Nat.le_refl _) _) (Nat.le_refl _) _) (Nat.le_refl _) _
/-- The copy in its box. -/
structure ChS (w1 w5 : World) (B : Nat) (n W : Nat) (A2 : Option Addr) (c2 : Nat) (M : Nat → Nat → Fin p) : Prop where
  box : Blk w5 B 29 #[.int .u64 (p : Int), .int .i64 (W : Int), .slice A2 n c2]
  rows : RowsO w1.heap.size w5 A2 n c2 W M
  q : Q w1 w5
  bg : w1.heap.size ≤ B
set_option maxRecDepth 100000 in
theorem chs_late {p : Nat} {w1 w2 : World} {n W : Nat} {A2 : Option Addr} {c2 : Nat} {M : Mt p} (hR : RowsO w1.drew.heap.size w2 A2 n c2 W M) (hq : Q w1 w2) :
    ChS w1 (w2.alloc (.cells #[.int .u64 (p : Int), .int .i64 (W : Int), .slice A2 n c2] 29)) w2.heap.size n W A2 c2 M :=
  ⟨Blk.new _ _ _, RowsO.q (w := w2) hR ((Q.refl w2).alloc _), hq.alloc _, hq.size⟩
set_option maxRecDepth 100000 in
theorem chs_soon {p : Nat} {w1 w2 : World} {z : Obj} {n W : Nat} {A2 : Option Addr} {c2 : Nat} {M : Mt p} (hR : RowsO (w1.alloc z).drew.heap.size w2 A2 n c2 W M) (hb : Blk w2 w1.heap.size 29 #[.int .u64 0, .int .i64 0, .slice none 0 0]) (hq : Q w1 w2) :
    ChS w1 (((w2.setCell ⟨w1.heap.size, 0, none⟩ (.int .u64 (p : Int))).setCell ⟨w1.heap.size, 1, none⟩ (.int .i64 (W : Int))).setCell ⟨w1.heap.size, 2, none⟩ (.slice A2 n c2)) w1.heap.size n W A2 c2 M := by
  have hz : w1.heap.size < (w1.alloc z).drew.heap.size := by show _ < (w1.alloc z).heap.size; simp
  have hu := ((Upd.refl w1.heap.size w2).setCell 0 (.int .u64 (p : Int))).setCell 1 (.int .i64 (W : Int)) |>.setCell 2 (.slice A2 n c2)
  exact ⟨((hb.set 0 _).set 1 _).set 2 _, (hR.away hu hz).mono (by omega), box3_q hq _ _ _, Nat.le_refl _⟩
set_option maxRecDepth 100000 in
theorem own_late {p : Nat} {w1 w2 : World} {n W W' : Nat} {A2 : Option Addr} {c2 : Nat} {ρ : Nat → Value} {M : Mt p} (hO : OwnR w1.drew.heap.size w2 A2 n c2 W ρ M) :
    OwnR w1.heap.size (w2.alloc (.cells #[.int .u64 (p : Int), .int .i64 (W' : Int), .slice A2 n c2] 29)) A2 n c2 W ρ M :=
  OwnR.q (w := w2) hO ((Q.refl w2).alloc _)
set_option maxRecDepth 100000 in
theorem own_soon {p : Nat} {w1 w2 : World} {z : Obj} {n W W' : Nat} {A2 : Option Addr} {c2 : Nat} {ρ : Nat → Value} {M : Mt p} (hO : OwnR (w1.alloc z).drew.heap.size w2 A2 n c2 W ρ M) :
    OwnR w1.heap.size (((w2.setCell ⟨w1.heap.size, 0, none⟩ (.int .u64 (p : Int))).setCell ⟨w1.heap.size, 1, none⟩ (.int .i64 (W' : Int))).setCell ⟨w1.heap.size, 2, none⟩ (.slice A2 n c2)) A2 n c2 W ρ M := by
  have hz : w1.heap.size < (w1.alloc z).drew.heap.size := by show _ < (w1.alloc z).heap.size; simp
  exact (hO.away ((((Upd.refl w1.heap.size w2).setCell 0 _).setCell 1 _).setCell 2 _) hz).mono (by omega)
set_option maxRecDepth 100000 in
theorem fof_0 {C : Nat} (h : C % p = 0) : (Fin.ofNat p C : Fin p) = 0 := by apply Fin.ext; show C % p = 0 % p; rw [h, Nat.zero_mod]
set_option maxRecDepth 100000 in
theorem fof_n {C : Nat} (h : ¬ C % p = 0) : ¬ (Fin.ofNat p C : Fin p) = 0 := fun e => h ((congrArg Fin.val e).trans (Nat.zero_mod p))
section
variable {what I K n : Nat} {f : Fin p} {M : Mt p}
set_option maxRecDepth 100000 in
theorem chgM_0 (hn : 0 < n) (h : what % 4 = 0) : chgM what I K n f M = swp (I % n) (K % n) M := by unfold chgM; rw [if_neg (by omega), if_pos h]
set_option maxRecDepth 100000 in
theorem chgM_1 (hn : 0 < n) (h : what % 4 = 1) : chgM what I K n f M = (if f = 0 then M else fun j => if j = I % n then fun k => f * M (I % n) k else M j) := by unfold chgM; rw [if_neg (by omega), if_neg (by omega), if_pos h]
set_option maxRecDepth 100000 in
theorem chgM_2 (hn : 0 < n) (h : what % 4 = 2) : chgM what I K n f M = (if I % n = K % n then M else fun j => if j = I % n then fun k => M (I % n) k + f * M (K % n) k else M j) := by unfold chgM; rw [if_neg (by omega), if_neg (by omega), if_neg (by omega), if_pos h]
set_option maxRecDepth 100000 in
theorem chgM_3 (hn : 0 < n) (h : what % 4 = 3) : chgM what I K n f M = (fun j => if j = n then fun k => M (I % n) k + f * M (K % n) k else M j) := by unfold chgM; rw [if_neg (by omega), if_neg (by omega), if_neg (by omega), if_neg (by omega)]
end
set_option maxRecDepth 100000 in
theorem chgN_0 {what n : Nat} (h : what % 4 = 0) : chgN what n = n := by unfold chgN; by_cases e : n = 0 <;> simp [e, h]
set_option maxRecDepth 100000 in
theorem chgN_1 {what n : Nat} (h : what % 4 = 1) : chgN what n = n := by unfold chgN; by_cases e : n = 0 <;> simp [e, h]
set_option maxRecDepth 100000 in
theorem chgN_2 {what n : Nat} (h : what % 4 = 2) : chgN what n = n := by unfold chgN; by_cases e : n = 0 <;> simp [e, h]
set_option maxRecDepth 100000 in
theorem chgN_3 {what n : Nat} (hn : 0 < n) (h : what % 4 = 3) : chgN what n = n + 1 := by unfold chgN; rw [if_neg (by omega), if_pos h]
set_option maxRecDepth 100000 in
/-- The rows' block, opened. -/
theorem rows_open {p : Nat} {base : Nat} {w : World} {A : Option Addr} {n c W : Nat} {M : Nat → Nat → Fin p} (h : RowsO base w A n c W M) (hn : 0 < n) :
    ∃ g cs, A = some ⟨g, 0, none⟩ ∧ base ≤ g ∧ n ≤ c ∧ Blk w g 44 cs ∧ ∀ i, i < n → ∃ A' c', cs[i]? = some (.slice A' W c') ∧ RowO base w 26 A' W c' (u64 (M i)) := by
  obtain ⟨ρ, hR, hr⟩ := h
  obtain ⟨g, cs, e, h1, hb, hc⟩ := hR.2.2 hn
  exact ⟨g, cs, e, h1, hR.1, hb, fun i hi => by
    obtain ⟨A', c', e1, h2⟩ := hr i hi
    exact ⟨A', c', by rw [hc i hi, e1], h2⟩⟩
set_option maxRecDepth 100000 in
/-- The rows' block has been written: its new cells are rows too. -/
theorem rows_made {p : Nat} {base g : Nat} {w w' : World} {n c W : Nat} {cs cs' : Array Value} {M : Nat → Nat → Fin p} (hu : Upd g w w') (hg : base ≤ g) (hb : Blk w g 44 cs) (hb' : Blk w' g 44 cs') (hc : n ≤ c) (hn : n ≤ 4096)
    (hr : ∀ i, i < n → ∃ A' c', cs'[i]? = some (.slice A' W c') ∧ RowO base w 26 A' W c' (u64 (M i))) : RowsO base w' (some ⟨g, 0, none⟩) n c W M := by
  refine ⟨fun i => cs'[i]?.getD (.int .i64 0), ⟨hc, by omega, fun _ => ⟨g, cs', rfl, hg, hb', fun k hk => ?_⟩⟩, fun i hi => ?_⟩
  · obtain ⟨A', c', e, _⟩ := hr k hk
    dsimp only
    rw [e]; rfl
  · obtain ⟨A', c', e, h1⟩ := hr i hi
    dsimp only
    rw [e]
    refine ⟨A', c', rfl, h1.1, h1.2.1, fun hl => ?_⟩
    obtain ⟨g2, cs2, e2, h2, h3, h4⟩ := h1.2.2 hl
    refine ⟨g2, cs2, e2, h2, hu.blk h3 (fun e3 => ?_), h4⟩
    subst e3
    unfold Blk at h3 hb
    rw [hb] at h3
    injection h3 with h3
    injection h3 with _ h3
    exact absurd h3 (by decide)
def ModR (w : World) (n W : Nat) (M : Mt p) (e : Ending) (w' : World) : Prop := ∃ v, e = .returned v ∧ ModV w' v n W M ∧ Q w w'
set_option maxRecDepth 100000 in
/-- One row anew. -/
theorem chs_row {p : Nat} {w1 w5 w6 : World} {B n W g c2 i c' : Nat} {cs : Array Value} {A' : Option Addr} {M : Mt p} {x : Nat → Fin p} (h : ChS w1 w5 B n W (some ⟨g, 0, none⟩) c2 M) (hg : w1.heap.size ≤ g) (hb : Blk w5 g 44 cs) (hc : n ≤ c2) (hn : n ≤ 4096)
    (hr : ∀ i, i < n → ∃ A' c', cs[i]? = some (.slice A' W c') ∧ RowO w1.heap.size w5 26 A' W c' (u64 (M i))) (hq : Q w5 w6) (hi : i < n) (hR : RowO w5.heap.size w6 26 A' W c' (u64 x)) :
    ChS w1 (w6.setCell ⟨g, i, none⟩ (.slice A' W c')) B n W (some ⟨g, 0, none⟩) c2 (fun j => if j = i then x else M j) := by
  have hu := (Upd.refl g w6).setCell i (.slice A' W c')
  have hsz : i < cs.size := by
    obtain ⟨_, _, e, _⟩ := hr i hi
    exact (Array.getElem?_eq_some_iff.1 e).1
  refine ⟨hu.blk (h.box.q hq) (blk_ne h.box hb (by decide)), rows_made hu hg (hb.q hq) ((hb.q hq).set i _) hc hn (fun j hj => ?_), Below.setCell (h.q.trans hq) hg _, h.bg⟩
  by_cases e : j = i
  · subst e
    refine ⟨A', c', by simp [hsz], ?_⟩
    rw [if_pos rfl]; exact hR.mono h.q.size
  · obtain ⟨A3, c3, e3, h3⟩ := hr j hj
    refine ⟨A3, c3, by rw [Array.getElem?_setIfInBounds_ne (fun h => e h.symm)]; exact e3, ?_⟩
    rw [if_neg e]; exact h3.q hq
set_option maxRecDepth 100000 in
theorem RowsO.far {p : Nat} {base t' k n c W : Nat} {w w' : World} {A : Option Addr} {cs : Array Value} {M : Mt p} (h : RowsO base w A n c W M) (hu : Upd k w w') (hb : Blk w k t' cs) (h1 : 44 ≠ t') (h2 : 26 ≠ t') : RowsO base w' A n c W M := by
  obtain ⟨ρ, hR, hr⟩ := h
  exact ⟨ρ, hR.far hu hb h1, fun i hi => by
    obtain ⟨A', c', e, h3⟩ := hr i hi
    exact ⟨A', c', e, h3.far hu hb h2⟩⟩
set_option maxRecDepth 100000 in
/-- Two rows change places. -/
theorem chs_swap {p : Nat} {w1 w5 w6 : World} {B n W g c2 i k : Nat} {cs : Array Value} {vi vk : Value} {M : Mt p} (h : ChS w1 w5 B n W (some ⟨g, 0, none⟩) c2 M) (hg : w1.heap.size ≤ g) (hb : Blk w5 g 44 cs) (hc : n ≤ c2) (hn : n ≤ 4096)
    (hr : ∀ i, i < n → ∃ A' c', cs[i]? = some (.slice A' W c') ∧ RowO w1.heap.size w5 26 A' W c' (u64 (M i))) (hq : Q w5 w6) (hi : i < n) (hk : k < n) (ei : cs[i]? = some vi) (ek : cs[k]? = some vk) :
    ChS w1 ((w6.setCell ⟨g, i, none⟩ vk).setCell ⟨g, k, none⟩ vi) B n W (some ⟨g, 0, none⟩) c2 (swp i k M) := by
  have hu := ((Upd.refl g w6).setCell i vk).setCell k vi
  have hi2 : i < cs.size := (Array.getElem?_eq_some_iff.1 ei).1
  have hk2 : k < cs.size := (Array.getElem?_eq_some_iff.1 ek).1
  refine ⟨hu.blk (h.box.q hq) (blk_ne h.box hb (by decide)), rows_made hu hg (hb.q hq) (((hb.q hq).set i _).set k _) hc hn (fun j hj => ?_), Below.setCell (Below.setCell (h.q.trans hq) hg _) hg _, h.bg⟩
  unfold swp
  by_cases e1 : j = k
  · subst e1
    obtain ⟨A3, c3, e3, h3⟩ := hr i hi
    rw [e3] at ei
    injection ei with ei
    refine ⟨A3, c3, by rw [← ei]; simp [hk2], ?_⟩
    by_cases e2 : j = i
    · subst e2; rw [if_pos rfl]; exact h3.q hq
    · rw [if_neg e2, if_pos rfl]; exact h3.q hq
  · by_cases e2 : j = i
    · subst e2
      obtain ⟨A3, c3, e3, h3⟩ := hr k hk
      rw [e3] at ek
      injection ek with ek
      refine ⟨A3, c3, by rw [← ek, Array.getElem?_setIfInBounds_ne (fun h => e1 h.symm)]; simp [hi2], ?_⟩
      rw [if_pos rfl]; exact h3.q hq
    · obtain ⟨A3, c3, e3, h3⟩ := hr j hj
      refine ⟨A3, c3, by rw [Array.getElem?_setIfInBounds_ne (fun h => e1 h.symm), Array.getElem?_setIfInBounds_ne (fun h => e2 h.symm)]; exact e3, ?_⟩
      rw [if_neg e2, if_neg e1]; exact h3.q hq
set_option maxRecDepth 100000 in
/-- One row more. -/
theorem chs_push {p : Nat} {w1 w5 w6 w7 : World} {B n W c2 c6 c8 : Nat} {A A6 A8 : Option Addr} {ρ : Nat → Value} {M : Mt p} {x : Nat → Fin p} (h : ChS w1 w5 B n W A c2 M) (hO : OwnR w1.heap.size w5 A n c2 W ρ M) (hn : n ≤ 4096) (hq : Q w5 w6) (hR : RowO w5.heap.size w6 26 A6 W c6 (u64 x))
    (hown : w7.ownsRow w1.heap.size 44 1 (.slice A8 (n + 1) c8) (n + 1) (tab ρ n ++ [.slice A6 W c6])) (hg : w6.grownBy w7 (Value.slice A n c2).ownBlock) :
    Blk w7 B 29 #[.int .u64 (p : Int), .int .i64 (W : Int), .slice A n c2] ∧
    ChS w1 (w7.setCell ⟨B, 2, none⟩ (.slice A8 (n + 1) c8)) B (n + 1) W A8 c8 (fun j => if j = n then x else M j) := by
  have hb := hO.grown hq hg (h.box.q hq) (by decide)
  have hO2 := hO.push hq (hR.mono h.q.size) hown hg
  refine ⟨hb, hb.set 2 _, (hO2.rowsO (by omega)).far ((Upd.refl B w7).setCell 2 _) hb (by decide) (by decide), Below.setCell (hO.grow_q h.q hq hg (Nat.le_refl _)) h.bg _, h.bg⟩
set_option maxRecDepth 100000 in
theorem chg_end {p : Nat} {w w1 w6 w7 : World} {B0 n W c : Nat} {A : Option Addr} {M : Mt p} (hu : Upd B0 w6 w7) (hR : RowsO w1.heap.size w6 A n c W M) (hq : Q w w1) (hq6 : Q w1 w6) (hB : B0 < w1.heap.size) (hBw : w.heap.size ≤ B0) :
    ModR w n W M (.returned (.agg #[.int .u64 (p : Int), .int .i64 (W : Int), .slice A n c])) w7 :=
  ⟨_, rfl, ⟨A, c, rfl, (hR.away hu hB).rows⟩, Below.trans (hq.trans hq6) (hu.below hBw)⟩
end
end Go.Proofs.Ytcjpjnneimjfiaa
