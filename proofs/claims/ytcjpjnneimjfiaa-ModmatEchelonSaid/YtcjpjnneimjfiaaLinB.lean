/-
  The reduction of a matrix modulo p to reduced row echelon form, column by column, and what holds behind each column; in plain Lean.
-/
import Derived.Test.YtcjpjnneimjfiaaLinA
namespace Go.Proofs.Ytcjpjnneimjfiaa
section
variable {p : Nat} [NeZero p]

def swp (r t : Nat) (X : Mt p) : Mt p := fun i => if i = r then X t else if i = t then X r else X i
def scl (r : Nat) (u : Fin p) (X : Mt p) : Mt p := fun i k => if i = r then X i k * u else X i k
def elm (r : Nat) (a : Nat → Fin p) (X : Mt p) : Mt p := fun i k => if i = r then X i k else X i k - a i * X r k

theorem mul0 (a : Fin p) : a * 0 = 0 := by grind
theorem zmul (a : Fin p) : 0 * a = 0 := by grind
theorem mul1 (a : Fin p) : a * 1 = a := by grind
theorem onemul (a : Fin p) : 1 * a = a := by grind

theorem Eqv.swp {n r t : Nat} (m : Mt p) (hr : r < n) (ht : t < n) : ∃ E E', Eqv n m (swp r t m) E E' := by
  refine ⟨_, _, Eqv.op m (Ytcjpjnneimjfiaa.swp r t) (Ytcjpjnneimjfiaa.swp r t) ?_ ?_ ?_ ?_ ?_ ?_⟩
  · intro X Y i k hi; unfold mm Ytcjpjnneimjfiaa.swp; grind
  · intro X Y i k hi; unfold mm Ytcjpjnneimjfiaa.swp; grind
  · intro X Y h i k hi; unfold Ytcjpjnneimjfiaa.swp; grind
  · intro X Y h i k hi; unfold Ytcjpjnneimjfiaa.swp; grind
  · intro X i k hi; unfold Ytcjpjnneimjfiaa.swp; grind
  · intro X i k hi; unfold Ytcjpjnneimjfiaa.swp; grind
theorem mm_scl (n r : Nat) (u : Fin p) (X Y : Mt p) (i k : Nat) : mm n (scl r u X) Y i k = scl r u (mm n X Y) i k := by
  unfold mm scl
  by_cases h : i = r
  · simp only [if_pos h]; rw [← sm_mulr]; exact sm_congr (fun j _ => by grind)
  · simp only [if_neg h]
theorem mm_elm (n r : Nat) (a : Nat → Fin p) (X Y : Mt p) (i k : Nat) : mm n (elm r a X) Y i k = elm r a (mm n X Y) i k := by
  unfold mm elm
  by_cases h : i = r
  · simp only [if_pos h]
  · simp only [if_neg h]; rw [← sm_mul, ← sm_sub]; exact sm_congr (fun j _ => by grind)
theorem Eqv.scl {n r : Nat} {u v : Fin p} (m : Mt p) (h : u * v = 1) : ∃ E E', Eqv n m (scl r u m) E E' := by
  refine ⟨_, _, Eqv.op m (Ytcjpjnneimjfiaa.scl r u) (Ytcjpjnneimjfiaa.scl r v) (fun X Y i k _ => mm_scl _ _ _ _ _ _ _) (fun X Y i k _ => mm_scl _ _ _ _ _ _ _) ?_ ?_ ?_ ?_⟩
  · intro X Y h i k hi; unfold Ytcjpjnneimjfiaa.scl; rw [h i k hi]
  · intro X Y h i k hi; unfold Ytcjpjnneimjfiaa.scl; rw [h i k hi]
  · intro X i k hi; unfold Ytcjpjnneimjfiaa.scl; grind
  · intro X i k hi; unfold Ytcjpjnneimjfiaa.scl; grind
theorem Eqv.elm {n r : Nat} (a : Nat → Fin p) (m : Mt p) (hr : r < n) : ∃ E E', Eqv n m (elm r a m) E E' := by
  refine ⟨_, _, Eqv.op m (Ytcjpjnneimjfiaa.elm r a) (Ytcjpjnneimjfiaa.elm r (fun i => 0 - a i)) (fun X Y i k _ => mm_elm _ _ _ _ _ _ _) (fun X Y i k _ => mm_elm _ _ _ _ _ _ _) ?_ ?_ ?_ ?_⟩
  · intro X Y h i k hi; unfold Ytcjpjnneimjfiaa.elm; rw [h i k hi, h r k hr]
  · intro X Y h i k hi; unfold Ytcjpjnneimjfiaa.elm; rw [h i k hi, h r k hr]
  · intro X i k hi; unfold Ytcjpjnneimjfiaa.elm; grind
  · intro X i k hi; unfold Ytcjpjnneimjfiaa.elm; grind

/-- The first row from i on, of f rows, with an element other than 0 in column c; i + f if there is none. -/
def fnd (X : Mt p) (c : Nat) (f : Nat) : Nat → Nat := Nat.rec (fun i => i) (fun _ g i => if X i c = 0 then g (i + 1) else i) f
theorem fnd_0 (X : Mt p) (c i : Nat) : fnd X c 0 i = i := rfl
theorem fnd_s (X : Mt p) (c f i : Nat) : fnd X c (f + 1) i = if X i c = 0 then fnd X c f (i + 1) else i := rfl
theorem fnd_spec (X : Mt p) (c : Nat) : ∀ f i, i ≤ fnd X c f i ∧ fnd X c f i ≤ i + f ∧ (∀ j, i ≤ j → j < fnd X c f i → X j c = 0) ∧ (fnd X c f i < i + f → X (fnd X c f i) c ≠ 0) := by
  intro f
  induction f with
  | zero => intro i; rw [fnd_0]; exact ⟨Nat.le_refl _, Nat.le_refl _, fun j h1 h2 => by omega, fun h => by omega⟩
  | succ f ih =>
    intro i
    rw [fnd_s]
    by_cases h : X i c = 0
    · rw [if_pos h]
      obtain ⟨h1, h2, h3, h4⟩ := ih (i + 1)
      refine ⟨by omega, by omega, fun j a b => ?_, fun a => h4 (by omega)⟩
      rcases Nat.lt_or_ge i j with g | g
      · exact h3 j g b
      · obtain rfl : j = i := by omega
        exact h
    · rw [if_neg h]
      exact ⟨Nat.le_refl _, by omega, fun j a b => by omega, fun _ => h⟩
theorem fnd_eq {X : Mt p} {c f i t : Nat} (h1 : i ≤ t) (h2 : t ≤ i + f) (h3 : ∀ j, i ≤ j → j < t → X j c = 0) (h4 : t < i + f → X t c ≠ 0) : fnd X c f i = t := by
  obtain ⟨g1, g2, g3, g4⟩ := fnd_spec X c f i
  rcases Nat.lt_trichotomy (fnd X c f i) t with g | g | g
  · exact absurd (h3 _ g1 g) (g4 (by omega))
  · exact g
  · exact absurd (g3 _ h1 g) (h4 (by omega))

structure St (p : Nat) where
  M : Nat → Nat → Fin p
  r : Nat
  pv : Nat → Nat
  dt : Fin p

variable (iv : Fin p → Fin p)
/-- The row r scaled, then subtracted from the others. -/
def prw (r c : Nat) (u : Fin p) (X : Mt p) : Mt p := elm r (fun i => scl r u X i c) (scl r u X)
/-- One column. -/
def stp (n c : Nat) (s : St p) : St p :=
  if fnd s.M c (n - s.r) s.r < n then
    { M := prw s.r c (iv (s.M (fnd s.M c (n - s.r) s.r) c)) (swp s.r (fnd s.M c (n - s.r) s.r) s.M), r := s.r + 1, pv := fun i => if i = s.r then c else s.pv i,
      dt := (if fnd s.M c (n - s.r) s.r = s.r then s.dt else 0 - s.dt) * s.M (fnd s.M c (n - s.r) s.r) c }
  else s
def run (n c : Nat) (s : St p) : St p := Nat.rec s (fun c s => stp iv n c s) c
theorem run_0 (n : Nat) (s : St p) : run iv n 0 s = s := rfl
theorem run_s (n c : Nat) (s : St p) : run iv n (c + 1) s = stp iv n c (run iv n c s) := rfl
def ini (m : Mt p) : St p := { M := m, r := 0, pv := fun _ => 0, dt := 1 }

/-- What a determinant of n rows does under the row operations. -/
structure DetLike (n : Nat) (D : Mt p → Fin p) : Prop where
  swap : ∀ X r t, r < n → t < n → r ≠ t → D (swp r t X) = 0 - D X
  scale : ∀ X r u, r < n → D (scl r u X) = D X * u
  elim : ∀ X r a, r < n → D (elm r a X) = D X

/-- What holds behind the first c columns. -/
structure Inv (n c : Nat) (m : Mt p) (s : St p) : Prop where
  rn : s.r ≤ n
  rc : s.r ≤ c
  lt : ∀ i, i < s.r → s.pv i < c
  mono : ∀ i j, i < j → j < s.r → s.pv i < s.pv j
  one : ∀ i, i < s.r → s.M i (s.pv i) = 1
  col : ∀ i j, i < s.r → j < n → j ≠ i → s.M j (s.pv i) = 0
  lead : ∀ i k, i < s.r → k < s.pv i → s.M i k = 0
  zero : ∀ i k, s.r ≤ i → i < n → k < c → s.M i k = 0
  eqv : ∃ E E', Eqv n m s.M E E'
  det : ∀ D, DetLike n D → D m = s.dt * D s.M

theorem Inv.init (n : Nat) (m : Mt p) : Inv n 0 m (ini m) where
  rn := Nat.zero_le _
  rc := Nat.zero_le _
  lt := fun _ h => absurd h (Nat.not_lt_zero _)
  mono := fun _ _ _ h => absurd h (Nat.not_lt_zero _)
  one := fun _ h => absurd h (Nat.not_lt_zero _)
  col := fun _ _ h => absurd h (Nat.not_lt_zero _)
  lead := fun _ _ h => absurd h (Nat.not_lt_zero _)
  zero := fun _ _ _ _ h => absurd h (Nat.not_lt_zero _)
  eqv := ⟨_, _, Eqv.refl n m⟩
  det := fun _ _ => (onemul _).symm

theorem swp_self {p : Nat} (r : Nat) (X : Mt p) : swp r r X = X := by
  funext i; unfold swp; grind

variable {iv}
theorem Inv.step (hiv : ∀ a : Fin p, a ≠ 0 → a * iv a = 1) {n c : Nat} {m : Mt p} {s : St p} (h : Inv n c m s) : Inv n (c + 1) m (stp iv n c s) := by
  obtain ⟨g1, g2, g3, g4⟩ := fnd_spec s.M c (n - s.r) s.r
  have hrn := h.rn
  unfold stp
  by_cases ht : fnd s.M c (n - s.r) s.r < n
  · rw [if_pos ht]
    generalize fnd s.M c (n - s.r) s.r = t at *
    have hne := g4 (by omega)
    have hu := hiv _ hne
    generalize hU : iv (s.M t c) = u at *
    have hrn' : s.r < n := by omega
    -- the row that is exchanged into place has zeros ahead of the column
    have z1 : ∀ k, k < c → s.M t k = 0 := fun k hk => h.zero t k g1 ht hk
    have ent : ∀ i k, prw s.r c u (swp s.r t s.M) i k = if i = s.r then s.M t k * u else swp s.r t s.M i k - swp s.r t s.M i c * (s.M t k * u) := by
      intro i k
      by_cases hi : i = s.r
      · subst hi; simp [prw, elm, scl, swp]
      · simp [prw, elm, scl, swp, hi]
    have low : ∀ i, i < s.r → swp s.r t s.M i = s.M i := by
      intro i hi; unfold swp; rw [if_neg (by omega), if_neg (by omega)]
    have high : ∀ i k, s.r < i → i < n → k < c → swp s.r t s.M i k = 0 := by
      intro i k hi hn hk
      unfold swp
      rw [if_neg (by omega)]
      by_cases he : i = t
      · rw [if_pos he]; exact h.zero _ _ (Nat.le_refl _) hrn' hk
      · rw [if_neg he]; exact h.zero _ _ (by omega) hn hk
    refine ⟨by simp; omega, by simp; exact h.rc, ?_, ?_, ?_, ?_, ?_, ?_, ?_, ?_⟩
    · intro i hi
      dsimp only at hi ⊢
      by_cases he : i = s.r
      · rw [if_pos he]; omega
      · rw [if_neg he]; have := h.lt i (by omega); omega
    · intro i j hij hj
      dsimp only at hj ⊢
      by_cases he : j = s.r
      · rw [if_pos he, if_neg (by omega)]; exact h.lt i (by omega)
      · rw [if_neg he, if_neg (by omega)]; exact h.mono i j hij (by omega)
    · intro i hi
      dsimp only at hi ⊢
      rw [ent]
      by_cases he : i = s.r
      · rw [if_pos he, if_pos he]; exact hu
      · rw [if_neg he, if_neg he, low i (by omega), z1 _ (h.lt i (by omega)), h.one i (by omega)]; grind
    · intro i j hi hj hji
      dsimp only at hi ⊢
      rw [ent]
      by_cases he : i = s.r
      · rw [if_pos he, if_neg (by omega), hu]; grind
      · rw [if_neg he, z1 _ (h.lt i (by omega))]
        by_cases hjr : j = s.r
        · rw [if_pos hjr]; grind
        · rw [if_neg hjr]
          have : swp s.r t s.M j (s.pv i) = 0 := by
            rcases Nat.lt_or_ge j s.r with hl | hl
            · rw [low j hl]; exact h.col i j (by omega) hj hji
            · exact high j _ (by omega) hj (h.lt i (by omega))
          rw [this]; grind
    · intro i k hi hk
      dsimp only at hi hk ⊢
      rw [ent]
      by_cases he : i = s.r
      · rw [if_pos he] at hk ⊢; rw [z1 k hk]; grind
      · rw [if_neg he] at hk ⊢
        have := h.lt i (by omega)
        rw [low i (by omega), h.lead i k (by omega) hk, z1 k (by omega)]; grind
    · intro i k hi hn hk
      dsimp only at hi ⊢
      rw [ent, if_neg (by omega)]
      rcases Nat.lt_or_ge k c with hl | hl
      · rw [high i k (by omega) hn hl, z1 k hl]; grind
      · obtain rfl : k = c := by omega
        rw [hu]; grind
    · obtain ⟨E, E', e1⟩ := h.eqv
      obtain ⟨F, F', e2⟩ := Eqv.swp s.M hrn' ht
      obtain ⟨G, G', e3⟩ := Eqv.scl (n := n) (r := s.r) (swp s.r t s.M) (show u * s.M t c = 1 by grind)
      obtain ⟨K, K', e4⟩ := Eqv.elm (fun i => scl s.r u (swp s.r t s.M) i c) (scl s.r u (swp s.r t s.M)) hrn'
      exact ⟨_, _, ((e1.trans e2).trans e3).trans e4⟩
    · intro D hD
      dsimp only
      unfold prw
      rw [hD.elim _ _ _ hrn', hD.scale _ _ _ hrn', h.det D hD]
      by_cases he : t = s.r
      · rw [if_pos he, he, swp_self, ← he]; grind
      · rw [if_neg he, hD.swap _ _ _ hrn' ht (Ne.symm he)]; grind
  · rw [if_neg ht]
    have he : fnd s.M c (n - s.r) s.r = n := by omega
    rw [he] at g3
    refine ⟨h.rn, by have := h.rc; omega, fun i hi => by have := h.lt i hi; omega, h.mono, h.one, h.col, h.lead, ?_, h.eqv, h.det⟩
    intro i k hi hn hk
    rcases Nat.lt_or_ge k c with hl | hl
    · exact h.zero i k hi hn hl
    · obtain rfl : k = c := by omega
      exact g3 i hi hn
theorem run_inv (hiv : ∀ a : Fin p, a ≠ 0 → a * iv a = 1) (n c : Nat) (m : Mt p) : Inv n c m (run iv n c (ini m)) := by
  induction c with
  | zero => exact Inv.init n m
  | succ c ih => rw [run_s]; exact ih.step hiv
end
end Go.Proofs.Ytcjpjnneimjfiaa
