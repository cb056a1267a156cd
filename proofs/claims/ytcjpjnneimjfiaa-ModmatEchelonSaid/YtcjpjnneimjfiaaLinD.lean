/-
  The identity beside a matrix: left kernels, solutions, the rank of the transpose; in plain Lean.
-/
import Derived.Test.YtcjpjnneimjfiaaLinC
namespace Go.Proofs.Ytcjpjnneimjfiaa
section
variable {p : Nat} [NeZero p]

/-- The form shows each row of the matrix by its elements in the pivot columns. -/
theorem Inv.shown {n c : Nat} {m : Mt p} {s : St p} (h : Inv n c m s) {i k : Nat} (hi : i < n) (hk : k < c) : m i k = comb s.r (fun t => m i (s.pv t)) s.M k := by
  obtain ⟨x, hx⟩ := h.down hi
  rw [hx k hk]
  exact comb_congr (fun t ht => by rw [hx _ (h.lt t ht), comb_pivot h.isR ht]) (fun _ _ => rfl)

/-- The matrix m of cols columns with the identity beside it. -/
def bsd (cols : Nat) (m : Mt p) : Mt p := fun i k => if k < cols then m i k else idm i (k - cols)
/-- The right half. -/
def rgt (cols : Nat) (M : Mt p) : Mt p := fun i k => M i (cols + k)
theorem bsd_l {cols : Nat} (m : Mt p) {i k : Nat} (h : k < cols) : bsd cols m i k = m i k := if_pos h
theorem bsd_r {cols : Nat} (m : Mt p) (i k : Nat) : bsd cols m i (cols + k) = idm i k := by
  unfold bsd; rw [if_neg (by omega)]; congr 1; omega

/-- What the reduction of the wide matrix gives: the right half is invertible, and brings the left half to its form. -/
structure Wide (n cols : Nat) (m : Mt p) (s : St p) (E' : Mt p) : Prop where
  fwd : ∀ i k, i < n → k < cols → s.M i k = comb n (rgt cols s.M i) m k
  bwd : ∀ i k, i < n → k < cols → m i k = comb n (E' i) s.M k
  inv1 : ∀ i k, i < n → k < n → comb n (rgt cols s.M i) E' k = idm i k
  inv2 : ∀ i k, i < n → k < n → comb n (E' i) (rgt cols s.M) k = idm i k
theorem Inv.wide {n cols : Nat} {m : Mt p} {s : St p} (h : Inv n cols (bsd cols m) s) : ∃ E', Wide n cols m s E' := by
  obtain ⟨E, E', e1, e2, e3, e4⟩ := h.eqv
  have eE : ∀ i k, i < n → k < n → rgt cols s.M i k = E i k := by
    intro i k hi hk
    unfold rgt
    rw [e1 i _ hi]
    unfold mm
    rw [show (fun j => E i j * bsd cols m j (cols + k)) = (fun j => E i j * idm j k) from funext fun j => by rw [bsd_r]]
    exact mm_idr E i hk
  refine ⟨E', fun i k hi hk => ?_, fun i k hi hk => ?_, fun i k hi hk => ?_, fun i k hi hk => ?_⟩
  · rw [e1 i k hi]; exact mm_congr (fun j hj => (eE i j hi hj).symm) (fun j _ => bsd_l m hk)
  · rw [← bsd_l m hk, e2 i k hi]; rfl
  · rw [← e3 i k hi hk]; exact mm_congr (fun j hj => eE i j hi hj) (fun _ _ => rfl)
  · rw [← e4 i k hi hk]; exact mm_congr (fun _ _ => rfl) (fun j hj => eE j k hj hk)

/-- The rows behind the pivots, their right half. -/
def ker (cols r : Nat) (M : Mt p) : Mt p := fun i k => M (r + i) (cols + k)
theorem ker_kills {n cols : Nat} {m : Mt p} {s : St p} {E' : Mt p} (h : Inv n cols (bsd cols m) s) (g : Wide n cols m s E') {i k : Nat} (hi : i < n - s.r) (hk : k < cols) : comb n (ker cols s.r s.M i) m k = 0 := by
  rw [← h.zero (s.r + i) k (by omega) (by omega) hk, g.fwd _ _ (by omega) hk]; rfl
theorem sp_kills {n cols r : Nat} {m a : Mt p} (ha : ∀ i k, i < r → k < cols → comb n (a i) m k = 0) {v : Nat → Fin p} (hv : InSp r n a v) {k : Nat} (hk : k < cols) : comb n v m k = 0 := by
  obtain ⟨x, hx⟩ := hv
  have : comb n v m k = comb r x (fun i k => comb n (a i) m k) k := by
    rw [comb_comb]; exact comb_congr (fun j hj => hx j hj) (fun _ _ => rfl)
  rw [this]
  exact sm_zero (fun i hi => by dsimp only; rw [ha i k hi hk]; exact mul0 _)
theorem ker_all {n cols : Nat} {m : Mt p} {s : St p} {E' : Mt p} (h : Inv n cols (bsd cols m) s) (g : Wide n cols m s E') {v : Nat → Fin p} (hv : ∀ k, k < cols → comb n v m k = 0) : InSp (n - s.r) n (ker cols s.r s.M) v := by
  obtain ⟨y, hy⟩ : ∃ y : Nat → Fin p, y = fun i => comb n v E' i := ⟨_, rfl⟩
  have e1 : ∀ k, k < n → v k = comb n y (rgt cols s.M) k := by
    intro k hk
    rw [hy]
    show v k = comb n (fun j => comb n v E' j) (rgt cols s.M) k
    rw [← comb_comb]
    exact (mm_idr (fun _ => v) 0 hk).symm.trans (comb_congr (fun _ _ => rfl) (fun i hi => (g.inv2 i k hi hk).symm))
  have e2 : ∀ k, k < cols → comb n y s.M k = 0 := by
    intro k hk
    rw [← hv k hk, hy]
    show comb n (fun j => comb n v E' j) s.M k = _
    rw [← comb_comb]
    exact comb_congr (fun _ _ => rfl) (fun i hi => (g.bwd i k hi hk).symm)
  have e3 : ∀ i, i < s.r → y i = 0 := by
    intro i hi
    have e := e2 _ (h.lt i hi)
    unfold comb at e
    rw [sm_one (show i < n by have := h.rn; omega) (fun j hj hne => by rw [h.col i j hi hj hne]; exact mul0 _), h.one i hi, mul1] at e
    exact e
  refine ⟨fun i => y (s.r + i), fun k hk => ?_⟩
  rw [e1 k hk]
  unfold comb
  obtain ⟨d, hd⟩ : ∃ d, n = s.r + d := ⟨n - s.r, by have := h.rn; omega⟩
  rw [show n - s.r = d by omega]
  conv => lhs; rw [hd]
  rw [sm_split, sm_zero (n := s.r) (fun i hi => by rw [e3 i hi]; exact zmul _)]
  show (0 : Fin p) + sm d (fun i => y (s.r + i) * ker cols s.r s.M i k) = _
  grind
theorem ker_rank (hp : 1 < p) {n cols : Nat} {m : Mt p} {s t : St p} {E' : Mt p} (_ : Inv n cols (bsd cols m) s) (g : Wide n cols m s E') (ht : Inv (n - s.r) n (ker cols s.r s.M) t) : t.r = n - s.r := by
  refine Classical.byContradiction fun hne => ?_
  have hlt : t.r < n - s.r := by have := ht.rn; omega
  obtain ⟨F, F', f1, _, f3, _⟩ := ht.eqv
  obtain ⟨i0, hi0⟩ : ∃ i0, i0 + 1 = n - s.r := ⟨n - s.r - 1, by omega⟩
  have z1 : ∀ k, k < n → comb (n - s.r) (F i0) (ker cols s.r s.M) k = 0 := fun k hk => by
    rw [← ht.zero i0 k (by omega) (by omega) hk, f1 _ _ (by omega)]; rfl
  have z2 : ∀ j, j < n - s.r → F i0 j = 0 := by
    intro j hj
    have e : comb (n - s.r) (F i0) (fun i k => comb n (ker cols s.r s.M i) E' k) (s.r + j) = 0 := by
      rw [comb_comb]
      exact sm_zero (fun i hi => by dsimp only; rw [z1 i hi]; exact zmul _)
    rw [← e]
    have e2 : ∀ i, i < n - s.r → comb n (ker cols s.r s.M i) E' (s.r + j) = idm i j := fun i hi => by
      refine (g.inv1 (s.r + i) (s.r + j) (by omega) (by omega)).trans ?_
      unfold idm
      by_cases hij : i = j
      · rw [if_pos hij, if_pos (by omega)]
      · rw [if_neg hij, if_neg (by omega)]
    exact (mm_idr (n := n - s.r) F i0 hj).symm.trans (sm_congr (fun i hi => by dsimp only; rw [e2 i hi]))
  have e := f3 i0 i0 (by omega) (by omega)
  rw [show mm (n - s.r) F F' i0 i0 = 0 from sm_zero (fun j hj => by rw [z2 j hj]; exact zmul _), show (idm i0 i0 : Fin p) = 1 from if_pos rfl] at e
  exact ne10 hp e.symm

/-- No more than r rows are independent among the combinations of r rows. -/
theorem steinitz (hp : 1 < p) {iv : Fin p → Fin p} (hiv : ∀ a : Fin p, a ≠ 0 → a * iv a = 1) {r r' : Nat} {X Y : Mt p} (h : ∀ i j, i < r' → j < r' → comb r (X i) Y j = idm i j) : r' ≤ r := by
  refine Classical.byContradiction fun hn => ?_
  have hI := run_inv hiv r' r X
  generalize run iv r' r (ini X) = s at hI
  obtain ⟨E, E', e1, _, e3, _⟩ := hI.eqv
  have hr := hI.rc
  obtain ⟨i0, hi0⟩ : ∃ i0, i0 + 1 = r' := ⟨r' - 1, by omega⟩
  have z1 : ∀ k, k < r → comb r' (E i0) X k = 0 := fun k hk => by
    rw [← hI.zero i0 k (by omega) (by omega) hk, e1 _ _ (by omega)]; rfl
  have z2 : ∀ j, j < r' → E i0 j = 0 := by
    intro j hj
    have e : comb r' (E i0) (fun i k => comb r (X i) Y k) j = 0 := by
      rw [comb_comb]
      exact sm_zero (fun i hi => by dsimp only; rw [z1 i hi]; exact zmul _)
    rw [← e]
    exact (mm_idr (n := r') E i0 hj).symm.trans (comb_congr (fun _ _ => rfl) (fun i hi => (h i j hi hj).symm))
  have e := e3 i0 i0 (by omega) (by omega)
  rw [show mm r' E E' i0 i0 = 0 from sm_zero (fun j hj => by rw [z2 j hj]; exact zmul _), show (idm i0 i0 : Fin p) = 1 from if_pos rfl] at e
  exact ne10 hp e.symm

def trp (m : Mt p) : Mt p := fun k i => m i k
theorem rank_trp_le (hp : 1 < p) {iv : Fin p → Fin p} (hiv : ∀ a : Fin p, a ≠ 0 → a * iv a = 1) {n cols : Nat} {m : Mt p} {s t : St p} (h : Inv n cols m s) (g : Inv cols n (trp m) t) : t.r ≤ s.r := by
  have h1 : ∀ k, k < cols → InSp s.r n (fun a i => m i (s.pv a)) (trp m k) := fun k hk =>
    ⟨fun a => s.M a k, fun i hi => by
      show m i k = _
      rw [h.shown hi hk]
      unfold comb
      exact sm_congr (fun a _ => by grind)⟩
  have h2 : ∀ a, a < t.r → InSp s.r n (fun a i => m i (s.pv a)) (t.M a) := fun a ha => (g.up (by have := g.rn; omega)).trans h1
  have h3 : ∃ X : Mt p, ∀ a, a < t.r → ∀ k, k < n → t.M a k = comb s.r (X a) (fun a i => m i (s.pv a)) k := by
    refine ⟨fun i => if h : i < t.r then Classical.choose (h2 i h) else fun _ => 0, fun i hi k hk => ?_⟩
    simp only [dif_pos hi]
    exact Classical.choose_spec (h2 i hi) k hk
  obtain ⟨X, hX⟩ := h3
  refine steinitz hp hiv (X := X) (Y := fun a b => m (t.pv b) (s.pv a)) (fun i j hi hj => ?_)
  refine (hX i hi (t.pv j) (g.lt j hj)).symm.trans ?_
  unfold idm
  by_cases hij : i = j
  · subst hij; rw [if_pos rfl]; exact g.one i hi
  · rw [if_neg hij]; exact g.col j i hj (by have := g.rn; omega) hij
theorem rank_trp (hp : 1 < p) {iv : Fin p → Fin p} (hiv : ∀ a : Fin p, a ≠ 0 → a * iv a = 1) {n cols : Nat} {m : Mt p} {s t : St p} (h : Inv n cols m s) (g : Inv cols n (trp m) t) : t.r = s.r :=
  Nat.le_antisymm (rank_trp_le hp hiv h g) (rank_trp_le hp hiv g h)

/-- What is left of a right side b, with 0 beside it, behind i pivots. -/
def rst (cols i : Nat) (b : Nat → Fin p) (s : St p) : Nat → Fin p := fun k => (if k < cols then b k else 0) - comb i (fun t => b (s.pv t)) s.M k
theorem rst_0 (cols : Nat) (b : Nat → Fin p) (s : St p) (k : Nat) : rst cols 0 b s k = if k < cols then b k else 0 := by
  unfold rst comb; rw [sm_0]; grind
theorem rst_s {n cols : Nat} {m : Mt p} {s : St p} (h : Inv n cols m s) (b : Nat → Fin p) {i : Nat} (hi : i < s.r) (k : Nat) : rst cols (i + 1) b s k = rst cols i b s k - rst cols i b s (s.pv i) * s.M i k := by
  have e : rst cols i b s (s.pv i) = b (s.pv i) := by
    unfold rst
    rw [if_pos (h.lt i hi)]
    have : comb i (fun t => b (s.pv t)) s.M (s.pv i) = 0 := sm_zero (fun j hj => by rw [h.col i j hi (by have := h.rn; omega) (by omega)]; exact mul0 _)
    rw [this]; grind
  rw [e]
  unfold rst comb
  rw [sm_s]; grind
theorem solved_iff {n cols : Nat} {m : Mt p} {s : St p} (h : Inv n cols (bsd cols m) s) (b : Nat → Fin p) : (∀ k, k < cols → rst cols s.r b s k = 0) ↔ InSp n cols m b := by
  have hw : ∀ {v}, InSp n cols (bsd cols m) v ↔ InSp n cols m v := fun {v} =>
    ⟨fun ⟨x, hx⟩ => ⟨x, fun k hk => by rw [hx k hk]; exact comb_congr (fun _ _ => rfl) (fun i _ => bsd_l m hk)⟩,
     fun ⟨x, hx⟩ => ⟨x, fun k hk => by rw [hx k hk]; exact comb_congr (fun _ _ => rfl) (fun i _ => (bsd_l m hk).symm)⟩⟩
  constructor
  · intro e
    rw [← hw]
    refine InSp.trans (n := s.r) (A := s.M) ⟨fun t => b (s.pv t), fun k hk => ?_⟩ (fun i hi => h.up (by have := h.rn; omega))
    have := e k hk
    unfold rst at this
    rw [if_pos hk] at this
    grind
  · intro hb k hk
    obtain ⟨x, hx⟩ := (hw.2 hb).trans (fun i hi => h.down hi)
    unfold rst
    rw [if_pos hk, hx k hk]
    have : comb s.r (fun t => b (s.pv t)) s.M k = comb s.r x s.M k := comb_congr (fun t ht => by rw [hx _ (h.lt t ht), comb_pivot h.isR ht]) (fun _ _ => rfl)
    rw [this]; grind
/-- The solution. -/
theorem solution {n cols : Nat} {m : Mt p} {s : St p} (h : Inv n cols (bsd cols m) s) (b : Nat → Fin p) (e : ∀ k, k < cols → rst cols s.r b s k = 0) {k : Nat} (hk : k < cols) :
    comb n (fun i => 0 - rst cols s.r b s (cols + i)) m k = b k := by
  obtain ⟨E', g⟩ := h.wide
  have e1 : ∀ i, i < n → 0 - rst cols s.r b s (cols + i) = comb s.r (fun t => b (s.pv t)) (rgt cols s.M) i := by
    intro i _
    unfold rst
    rw [if_neg (by omega)]
    show _ = comb s.r (fun t => b (s.pv t)) s.M (cols + i)
    grind
  rw [comb_congr (y := fun i => comb s.r (fun t => b (s.pv t)) (rgt cols s.M) i) (b := m) (fun i hi => e1 i hi) (fun _ _ => rfl), ← comb_comb]
  have e2 := e k hk
  unfold rst at e2
  rw [if_pos hk] at e2
  rw [comb_congr (y := fun t => b (s.pv t)) (b := s.M) (fun _ _ => rfl) (fun i hi => (g.fwd i k (by have := h.rn; omega) hk).symm)]
  grind

/-- The reduction looks at its own columns alone. -/
theorem run_cols (iv : Fin p → Fin p) {n cols : Nat} {m m' : Mt p} (h : ∀ i k, k < cols → m i k = m' i k) : ∀ c, c ≤ cols →
    (run iv n c (ini m)).r = (run iv n c (ini m')).r ∧ (run iv n c (ini m)).pv = (run iv n c (ini m')).pv ∧ (run iv n c (ini m)).dt = (run iv n c (ini m')).dt ∧
      ∀ i k, k < cols → (run iv n c (ini m)).M i k = (run iv n c (ini m')).M i k := by
  intro c
  induction c with
  | zero => intro _; exact ⟨rfl, rfl, rfl, h⟩
  | succ c ih =>
    intro hc
    obtain ⟨a1, a2, a3, a4⟩ := ih (by omega)
    rw [run_s, run_s]
    generalize run iv n c (ini m) = s at *
    generalize run iv n c (ini m') = s' at *
    obtain ⟨M, r, pv, dt⟩ := s
    obtain ⟨M', r', pv', dt'⟩ := s'
    dsimp only at a1 a2 a3 a4
    subst a1 a2 a3
    have ef : ∀ f i, fnd M c f i = fnd M' c f i := by
      intro f
      induction f with
      | zero => intro i; rfl
      | succ f ihf => intro i; rw [fnd_s, fnd_s, a4 i c (by omega), ihf]
    unfold stp
    dsimp only
    rw [ef]
    by_cases ht : fnd M' c (n - r) r < n
    · rw [if_pos ht, if_pos ht]
      dsimp only
      refine ⟨rfl, rfl, by rw [a4 _ c (by omega)], fun i k hk => ?_⟩
      unfold prw elm scl swp
      rw [a4 _ c (by omega)]
      grind
    · rw [if_neg ht, if_neg ht]
      exact ⟨rfl, rfl, rfl, a4⟩
/-- The rows behind the pivots are reduced as a matrix of their own. -/
theorem run_low (iv : Fin p → Fin p) {n cols : Nat} {m : Mt p} (hr : (run iv n cols (ini m)).r ≤ n) : ∀ c,
    (run iv n (cols + c) (ini m)).r = (run iv n cols (ini m)).r + (run iv (n - (run iv n cols (ini m)).r) c (ini (ker cols (run iv n cols (ini m)).r (run iv n cols (ini m)).M))).r ∧
    (∀ i, i < (run iv n cols (ini m)).r → (run iv n (cols + c) (ini m)).pv i = (run iv n cols (ini m)).pv i) ∧
    (∀ i, (run iv n (cols + c) (ini m)).pv ((run iv n cols (ini m)).r + i) = cols + (run iv (n - (run iv n cols (ini m)).r) c (ini (ker cols (run iv n cols (ini m)).r (run iv n cols (ini m)).M))).pv i ∨ (run iv (n - (run iv n cols (ini m)).r) c (ini (ker cols (run iv n cols (ini m)).r (run iv n cols (ini m)).M))).r ≤ i) ∧
    ∀ i k, (run iv n (cols + c) (ini m)).M ((run iv n cols (ini m)).r + i) (cols + k) = (run iv (n - (run iv n cols (ini m)).r) c (ini (ker cols (run iv n cols (ini m)).r (run iv n cols (ini m)).M))).M i k := by
  generalize hS : run iv n cols (ini m) = S at *
  intro c
  induction c with
  | zero => rw [Nat.add_zero, hS]; exact ⟨rfl, fun _ _ => rfl, fun i => .inr (Nat.zero_le _), fun _ _ => rfl⟩
  | succ c ih =>
    rw [← Nat.add_assoc, run_s, run_s]
    generalize run iv n (cols + c) (ini m) = s at *
    generalize run iv (n - S.r) c (ini (ker cols S.r S.M)) = t at *
    obtain ⟨M, r, pv, dt⟩ := s
    obtain ⟨N, q, qv, et⟩ := t
    dsimp only at ih
    obtain ⟨rfl, h1, h2, h3⟩ := ih
    have ef : ∀ f i, fnd M (cols + c) f (S.r + i) = S.r + fnd N c f i := by
      intro f
      induction f with
      | zero => intro i; rfl
      | succ f ihf =>
        intro i
        rw [fnd_s, fnd_s, h3]
        by_cases g : N i c = 0
        · rw [if_pos g, if_pos g]; exact ihf (i + 1)
        · rw [if_neg g, if_neg g]
    have e := ef (n - (S.r + q)) q
    unfold stp
    dsimp only
    rw [e, show n - S.r - q = n - (S.r + q) from by omega]
    generalize fnd N c (n - (S.r + q)) q = t at *
    by_cases ht : t < n - S.r
    · rw [if_pos ht, if_pos (by omega)]
      dsimp only
      refine ⟨by omega, fun i hi => by rw [if_neg (by omega)]; exact h1 i hi, fun i => ?_, fun i k => ?_⟩
      · by_cases hi : i = q
        · left; rw [if_pos hi, if_pos (by omega)]
        · rw [if_neg hi, if_neg (by omega)]
          rcases h2 i with g | g
          · exact .inl g
          · right; omega
      · unfold prw elm scl swp
        rw [h3]
        have e1 : ∀ a b : Nat, (S.r + a = S.r + b) = (a = b) := fun a b => propext ⟨fun h => by omega, fun h => by omega⟩
        simp only [e1, if_true]
        grind
    · rw [if_neg ht, if_neg (by omega)]
      exact ⟨rfl, h1, h2, h3⟩
end
end Go.Proofs.Ytcjpjnneimjfiaa
