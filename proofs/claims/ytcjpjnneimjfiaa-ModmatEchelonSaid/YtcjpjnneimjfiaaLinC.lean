/-
  Reduced row echelon forms: uniqueness, spans, ranks; in plain Lean.
-/
import Derived.Test.YtcjpjnneimjfiaaLinB
namespace Go.Proofs.Ytcjpjnneimjfiaa
section
variable {p : Nat} [NeZero p]

/-- The combination of r rows of a with the coefficients x. -/
def comb (r : Nat) (x : Nat → Fin p) (a : Mt p) (k : Nat) : Fin p := sm r (fun i => x i * a i k)
def InSp (n cols : Nat) (m : Mt p) (v : Nat → Fin p) : Prop := ∃ x : Nat → Fin p, ∀ k, k < cols → v k = comb n x m k

/-- A reduced row echelon form of r rows. -/
structure IsR (cols r : Nat) (pv : Nat → Nat) (a : Mt p) : Prop where
  lt : ∀ i, i < r → pv i < cols
  mono : ∀ i j, i < j → j < r → pv i < pv j
  one : ∀ i, i < r → a i (pv i) = 1
  col : ∀ i j, i < r → j < r → j ≠ i → a j (pv i) = 0
  lead : ∀ i k, i < r → k < pv i → a i k = 0

theorem Inv.isR {n c : Nat} {m : Mt p} {s : St p} (h : Inv n c m s) : IsR c s.r s.pv s.M :=
  ⟨h.lt, h.mono, h.one, fun i j hi hj hne => h.col i j hi (by have := h.rn; omega) hne, h.lead⟩

theorem comb_congr {r : Nat} {x y : Nat → Fin p} {a b : Mt p} {k : Nat} (h1 : ∀ i, i < r → x i = y i) (h2 : ∀ i, i < r → a i k = b i k) : comb r x a k = comb r y b k :=
  sm_congr (fun i hi => by rw [h1 i hi, h2 i hi])
theorem comb_comb (n m : Nat) (x : Nat → Fin p) (A B : Mt p) (k : Nat) : comb n x (fun i k => comb m (A i) B k) k = comb m (fun j => comb n x A j) B k :=
  (mm_assoc m n (fun _ => x) A B 0 k).symm
theorem comb_pivot {cols r i : Nat} {pv : Nat → Nat} {a : Mt p} (h : IsR cols r pv a) (hi : i < r) (x : Nat → Fin p) : comb r x a (pv i) = x i := by
  unfold comb
  rw [sm_one hi (fun j hj hne => by rw [h.col i j hi hj hne]; exact mul0 _), h.one i hi, mul1]
theorem comb_lead {cols r j0 : Nat} {pv : Nat → Nat} {a : Mt p} (h : IsR cols r pv a) {x : Nat → Fin p} (hx : ∀ j, j < j0 → x j = 0) (hj : j0 < r) {k : Nat} (hk : k < pv j0) : comb r x a k = 0 := by
  refine sm_zero (fun j hjr => ?_)
  rcases Nat.lt_or_ge j j0 with g | g
  · rw [hx j g]; exact zmul _
  · have : k < pv j := by
      rcases Nat.lt_or_ge j0 j with g2 | g2
      · have := h.mono j0 j g2 hjr; omega
      · obtain rfl : j = j0 := by omega
        exact hk
    rw [h.lead j k hjr this]; exact mul0 _
theorem least {P : Nat → Prop} (h : ∃ n, P n) : ∃ n, P n ∧ ∀ j, j < n → ¬ P j := by
  obtain ⟨n, hn⟩ := h
  induction n using Nat.strongRecOn with
  | _ n ih =>
    by_cases g : ∃ j, j < n ∧ P j
    · obtain ⟨j, hj, hp⟩ := g; exact ih j hj hp
    · exact ⟨n, hn, fun j hj hp => g ⟨j, hj, hp⟩⟩
theorem ne10 (hp : 1 < p) : (1 : Fin p) ≠ 0 := by
  intro h
  have := congrArg Fin.val h
  rw [show ((1 : Fin p) : Nat) = 1 % p from rfl, show ((0 : Fin p) : Nat) = 0 % p from rfl, Nat.mod_eq_of_lt hp] at this
  simp at this

/-- A row of one form, a combination of the rows of another: its pivot is one of the other's. -/
theorem pivot_in (hp : 1 < p) {cols r s : Nat} {pv qv : Nat → Nat} {a b : Mt p} (ha : IsR cols r pv a) (hb : IsR cols s qv b) {i : Nat} (hi : i < r) (h : InSp s cols b (a i)) : ∃ j, j < s ∧ qv j = pv i := by
  obtain ⟨x, hx⟩ := h
  have h1 := ha.one i hi
  have hpc := ha.lt i hi
  have hex : ∃ j, j < s ∧ x j ≠ 0 := by
    refine Classical.byContradiction fun hn => ?_
    have : a i (pv i) = 0 := by
      rw [hx _ hpc]
      exact sm_zero (fun j hj => by rw [Classical.byContradiction (fun g => hn ⟨j, hj, g⟩ : ¬ ¬ x j = 0)]; exact zmul _)
    rw [h1] at this
    exact ne10 hp this
  obtain ⟨j0, ⟨hj, hx0⟩, hlow⟩ := least hex
  have hz : ∀ j, j < j0 → x j = 0 := fun j hjl => Classical.byContradiction fun g => hlow j hjl ⟨by omega, g⟩
  refine ⟨j0, hj, ?_⟩
  have e1 : a i (qv j0) = x j0 := by rw [hx _ (hb.lt j0 hj), comb_pivot hb hj]
  rcases Nat.lt_trichotomy (qv j0) (pv i) with g | g | g
  · rw [ha.lead i _ hi g] at e1; exact absurd e1.symm hx0
  · exact g
  · have e2 := hx _ hpc
    rw [comb_lead hb hz hj g, h1] at e2
    exact absurd e2 (ne10 hp)

theorem inc_sub {r s : Nat} {pv qv : Nat → Nat} (hp : ∀ i j, i < j → j < r → pv i < pv j) (hq : ∀ i j, i < j → j < s → qv i < qv j) (h : ∀ i, i < r → ∃ j, j < s ∧ qv j = pv i) :
    r ≤ s ∧ (r = s → ∀ i, i < r → pv i = qv i) := by
  have up : ∀ i, i < r → ∀ j, j < s → qv j = pv i → i ≤ j := by
    intro i
    induction i with
    | zero => intro _ j _ _; exact Nat.zero_le _
    | succ i ih =>
      intro hi j hj e
      obtain ⟨j', hj', e'⟩ := h i (by omega)
      have h1 := ih (by omega) j' hj' e'
      have h2 := hp i (i + 1) (by omega) hi
      rcases Nat.lt_trichotomy j j' with g | g | g
      · have := hq j j' g hj'; omega
      · subst g; omega
      · omega
  have le : r ≤ s := by
    rcases Nat.eq_zero_or_pos r with g | g
    · omega
    · obtain ⟨j, hj, e⟩ := h (r - 1) (by omega)
      have := up (r - 1) (by omega) j hj e
      omega
  refine ⟨le, fun e => ?_⟩
  have down : ∀ d i, i + d + 1 = r → ∀ j, j < s → qv j = pv i → j ≤ i := by
    intro d
    induction d with
    | zero => intro i hi j hj _; omega
    | succ d ih =>
      intro i hi j hj ej
      obtain ⟨j', hj', e'⟩ := h (i + 1) (by omega)
      have h1 := ih (i + 1) (by omega) j' hj' e'
      have h2 := hp i (i + 1) (by omega) (by omega)
      rcases Nat.lt_trichotomy j j' with g | g | g
      · omega
      · subst g; omega
      · have := hq j' j g hj; omega
  intro i hi
  obtain ⟨j, hj, ej⟩ := h i hi
  have h1 := up i hi j hj ej
  have h2 := down (r - 1 - i) i (by omega) j hj ej
  obtain rfl : j = i := by omega
  exact ej.symm

/-- Rows of one form in the span of another: not more of them; as many: then the forms are the same. -/
theorem form_sub (hp : 1 < p) {cols r s : Nat} {pv qv : Nat → Nat} {a b : Mt p} (ha : IsR cols r pv a) (hb : IsR cols s qv b) (h : ∀ i, i < r → InSp s cols b (a i)) :
    r ≤ s ∧ (r = s → (∀ i, i < r → pv i = qv i) ∧ ∀ i k, i < r → k < cols → a i k = b i k) := by
  obtain ⟨h1, h2⟩ := inc_sub ha.mono hb.mono (fun i hi => pivot_in hp ha hb hi (h i hi))
  refine ⟨h1, fun e => ⟨h2 e, fun i k hi hk => ?_⟩⟩
  obtain ⟨x, hx⟩ := h i hi
  rw [hx k hk]
  have hxj : ∀ j, j < s → x j = if j = i then 1 else 0 := by
    intro j hj
    have e1 := hx (qv j) (hb.lt j hj)
    rw [comb_pivot hb hj] at e1
    rw [← e1, ← h2 e j (by omega)]
    by_cases g : j = i
    · subst g; rw [if_pos rfl]; exact ha.one j hi
    · rw [if_neg g]; exact ha.col j i (by omega) hi (Ne.symm g)
  unfold comb
  rw [sm_one (show i < s by omega) (fun j hj hne => by rw [hxj j hj, if_neg hne]; exact zmul _), hxj i (by omega), if_pos rfl, onemul]

theorem InSp.trans {n m cols : Nat} {A B : Mt p} {v : Nat → Fin p} (h : InSp n cols A v) (g : ∀ i, i < n → InSp m cols B (A i)) : InSp m cols B v := by
  obtain ⟨x, hx⟩ := h
  have hy : ∃ Y : Mt p, ∀ i, i < n → ∀ k, k < cols → A i k = comb m (Y i) B k := by
    refine ⟨fun i => if h : i < n then Classical.choose (g i h) else fun _ => 0, fun i hi k hk => ?_⟩
    simp only [dif_pos hi]
    exact Classical.choose_spec (g i hi) k hk
  obtain ⟨Y, hY⟩ := hy
  refine ⟨fun j => comb n x Y j, fun k hk => ?_⟩
  rw [hx k hk, ← comb_comb]
  exact comb_congr (fun _ _ => rfl) (fun i hi => hY i hi k hk)
theorem InSp.row {n cols i : Nat} (A : Mt p) (hi : i < n) : InSp n cols A (A i) :=
  ⟨idm i, fun k _ => (mm_idl A k hi).symm⟩
theorem InSp.congr {n cols : Nat} {A : Mt p} {v w : Nat → Fin p} (h : InSp n cols A v) (g : ∀ k, k < cols → v k = w k) : InSp n cols A w := by
  obtain ⟨x, hx⟩ := h
  exact ⟨x, fun k hk => by rw [← g k hk, hx k hk]⟩
theorem sm_tail {r n : Nat} {f : Nat → Fin p} (hr : r ≤ n) (h : ∀ i, r ≤ i → i < n → f i = 0) : sm n f = sm r f := by
  obtain ⟨d, rfl⟩ : ∃ d, n = r + d := ⟨n - r, by omega⟩
  rw [sm_split, sm_zero (n := d) (fun i hi => h (r + i) (by omega) (by omega))]; grind
theorem Inv.down {n c : Nat} {m : Mt p} {s : St p} (h : Inv n c m s) {i : Nat} (hi : i < n) : InSp s.r c s.M (m i) := by
  obtain ⟨E, E', e1, e2, _⟩ := h.eqv
  refine ⟨E' i, fun k hk => ?_⟩
  rw [e2 i k hi]
  exact sm_tail h.rn (fun j hj hn => by rw [h.zero j k hj hn hk]; exact mul0 _)
theorem Inv.up {n c : Nat} {m : Mt p} {s : St p} (h : Inv n c m s) {i : Nat} (hi : i < n) : InSp n c m (s.M i) := by
  obtain ⟨E, E', e1, e2, _⟩ := h.eqv
  exact ⟨E i, fun k _ => e1 i k hi⟩

/-- The same span: the same form. -/
theorem form_same (hp : 1 < p) {n n' c : Nat} {m m' : Mt p} {s s' : St p} (h : Inv n c m s) (h' : Inv n' c m' s') (g : ∀ i, i < n → InSp n' c m' (m i)) (g' : ∀ i, i < n' → InSp n c m (m' i)) :
    s.r = s'.r ∧ (∀ i, i < s.r → s.pv i = s'.pv i) ∧ ∀ i k, i < s.r → k < c → s.M i k = s'.M i k := by
  have e1 : ∀ i, i < s.r → InSp s'.r c s'.M (s.M i) := fun i hi => ((h.up (by have := h.rn; omega)).trans g).trans (fun i hi => h'.down hi)
  have e2 : ∀ i, i < s'.r → InSp s.r c s.M (s'.M i) := fun i hi => ((h'.up (by have := h'.rn; omega)).trans g').trans (fun i hi => h.down hi)
  obtain ⟨a1, a2⟩ := form_sub hp h.isR h'.isR e1
  obtain ⟨b1, _⟩ := form_sub hp h'.isR h.isR e2
  have e : s.r = s'.r := by omega
  exact ⟨e, a2 e⟩
/-- A matrix that is a form already. -/
theorem form_idem (hp : 1 < p) {r c : Nat} {pv : Nat → Nat} {m : Mt p} {s : St p} (h : Inv r c m s) (g : IsR c r pv m) : s.r = r ∧ (∀ i, i < r → s.pv i = pv i) ∧ ∀ i k, i < r → k < c → s.M i k = m i k := by
  have h1 := h.rn
  obtain ⟨a1, a2⟩ := form_sub hp g h.isR (fun i hi => h.down hi)
  have e : s.r = r := by omega
  obtain ⟨b1, b2⟩ := a2 e.symm
  exact ⟨e, fun i hi => (b1 i hi).symm, fun i k hi hk => (b2 i k hi hk).symm⟩

/-- A further row. -/
def wth (n : Nat) (m : Mt p) (v : Nat → Fin p) : Mt p := fun i => if i = n then v else m i
theorem solvable_iff (hp : 1 < p) {n c : Nat} {m : Mt p} {v : Nat → Fin p} {s s' : St p} (h : Inv n c m s) (h' : Inv (n + 1) c (wth n m v) s') : s'.r = s.r ↔ InSp n c m v := by
  have hrow : ∀ i, i < n → InSp (n + 1) c (wth n m v) (m i) := fun i hi => (InSp.row (wth n m v) (show i < n + 1 by omega)).congr (fun k _ => by unfold wth; rw [if_neg (by omega)])
  constructor
  · intro e
    obtain ⟨_, a2⟩ := form_sub hp h.isR h'.isR (fun i hi => ((h.up (by have := h.rn; omega)).trans hrow).trans (fun i hi => h'.down hi))
    obtain ⟨_, b2⟩ := a2 e.symm
    have h1 : InSp s'.r c s'.M v := (h'.down (show n < n + 1 by omega)).congr (fun k _ => by unfold wth; rw [if_pos rfl])
    refine h1.trans (fun i hi => ?_)
    refine (h.up (i := i) (by have := h.rn; omega)).congr (fun k hk => b2 i k (by omega) hk)
  · intro hv
    refine (form_same hp h h' hrow (fun i hi => ?_)).1.symm
    unfold wth
    by_cases e : i = n
    · rw [if_pos e]; exact hv
    · rw [if_neg e]; exact InSp.row m (by omega)
end
end Go.Proofs.Ytcjpjnneimjfiaa
