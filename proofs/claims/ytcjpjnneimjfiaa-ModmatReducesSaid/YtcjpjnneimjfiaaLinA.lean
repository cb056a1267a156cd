/-
  Linear algebra over the numbers modulo p, in plain Lean: sums, products of matrices, invertible combinations of rows.
  The reduction of a matrix modulo p to reduced row echelon form, column by column, and what holds behind each column; in plain Lean.
  Reduced row echelon forms: uniqueness, spans, ranks; in plain Lean.
  The identity beside a matrix: left kernels, solutions, the rank of the transpose; in plain Lean.
  Determinants of at most 4 rows by expansion along the first row; in plain Lean.
-/
namespace Go.Proofs.Ytcjpjnneimjfiaa
section
variable {p : Nat} [NeZero p]
def sm (n : Nat) (f : Nat → Fin p) : Fin p := Nat.rec 0 (fun i s => s + f i) n
theorem sm_0 (f : Nat → Fin p) : sm 0 f = 0 := rfl
theorem sm_s (n : Nat) (f : Nat → Fin p) : sm (n+1) f = sm n f + f n := rfl
theorem sm_congr {n : Nat} {f g : Nat → Fin p} (h : ∀ i, i < n → f i = g i) : sm n f = sm n g := by
  induction n with
  | zero => rfl
  | succ n ih => rw [sm_s, sm_s, ih (fun i hi => h i (by omega)), h n (by omega)]
theorem sm_zero {n : Nat} {f : Nat → Fin p} (h : ∀ i, i < n → f i = 0) : sm n f = 0 := by
  induction n with
  | zero => rfl
  | succ n ih => rw [sm_s, ih (fun i hi => h i (by omega)), h n (by omega)]; grind
theorem sm_add (n : Nat) (f g : Nat → Fin p) : sm n (fun i => f i + g i) = sm n f + sm n g := by
  induction n with
  | zero => simp only [sm_0]; grind
  | succ n ih => simp only [sm_s, ih]; grind
theorem sm_mul (n : Nat) (c : Fin p) (f : Nat → Fin p) : sm n (fun i => c * f i) = c * sm n f := by
  induction n with
  | zero => simp only [sm_0]; grind
  | succ n ih => simp only [sm_s, ih]; grind
theorem sm_mulr (n : Nat) (c : Fin p) (f : Nat → Fin p) : sm n (fun i => f i * c) = sm n f * c := by
  induction n with
  | zero => simp only [sm_0]; grind
  | succ n ih => simp only [sm_s, ih]; grind
theorem sm_sub (n : Nat) (f g : Nat → Fin p) : sm n (fun i => f i - g i) = sm n f - sm n g := by
  induction n with
  | zero => simp only [sm_0]; grind
  | succ n ih => simp only [sm_s, ih]; grind
theorem sm_comm (n m : Nat) (f : Nat → Nat → Fin p) : sm n (fun i => sm m (fun j => f i j)) = sm m (fun j => sm n (fun i => f i j)) := by
  induction n with
  | zero => simp only [sm_0]; exact (sm_zero (fun _ _ => rfl)).symm
  | succ n ih => simp only [sm_s, ih, sm_add]
theorem sm_one {n j : Nat} {f : Nat → Fin p} (hj : j < n) (h : ∀ i, i < n → i ≠ j → f i = 0) : sm n f = f j := by
  induction n with
  | zero => omega
  | succ n ih =>
    rw [sm_s]
    rcases Nat.lt_or_ge j n with g | g
    · rw [ih g (fun i hi => h i (by omega)), h n (by omega) (by omega)]; grind
    · obtain rfl : j = n := by omega
      rw [sm_zero (fun i hi => h i (by omega) (by omega))]; grind
theorem sm_split (a b : Nat) (f : Nat → Fin p) : sm (a + b) f = sm a f + sm b (fun i => f (a + i)) := by
  induction b with
  | zero => simp only [sm_0, Nat.add_zero]; grind
  | succ b ih => rw [← Nat.add_assoc, sm_s, sm_s, ih]; grind

abbrev Mt (p : Nat) := Nat → Nat → Fin p
def mm (n : Nat) (A B : Mt p) : Mt p := fun i k => sm n (fun j => A i j * B j k)
def idm : Mt p := fun i k => if i = k then 1 else 0
theorem mm_assoc (n m : Nat) (A B C : Mt p) (i k : Nat) : mm n (mm m A B) C i k = mm m A (mm n B C) i k := by
  unfold mm
  rw [show (fun j => sm m (fun j_1 => A i j_1 * B j_1 j) * C j k) = (fun j => sm m (fun j_1 => A i j_1 * B j_1 j * C j k)) from funext fun j => (sm_mulr _ _ _).symm]
  rw [sm_comm]
  refine sm_congr (fun j _ => ?_)
  rw [← sm_mul]
  exact sm_congr (fun l _ => by grind)
theorem mm_idl {n i : Nat} (A : Mt p) (k : Nat) (h : i < n) : mm n idm A i k = A i k := by
  unfold mm
  rw [sm_one h (fun j _ hj => by simp only [idm, if_neg (Ne.symm hj)]; grind)]
  simp only [idm, if_true]; grind
theorem mm_idr {n k : Nat} (A : Mt p) (i : Nat) (h : k < n) : mm n A idm i k = A i k := by
  unfold mm
  rw [sm_one h (fun j _ hj => by simp only [idm, if_neg hj]; grind)]
  simp only [idm, if_true]; grind
theorem mm_congr {n i k : Nat} {A B C D : Mt p} (h1 : ∀ j, j < n → A i j = C i j) (h2 : ∀ j, j < n → B j k = D j k) : mm n A B i k = mm n C D i k :=
  sm_congr (fun j hj => by rw [h1 j hj, h2 j hj])

/-- Two matrices of n rows: each is an invertible combination of the other. -/
def Eqv (n : Nat) (m M E E' : Mt p) : Prop :=
  (∀ i k, i < n → M i k = mm n E m i k) ∧ (∀ i k, i < n → m i k = mm n E' M i k) ∧
  (∀ i k, i < n → k < n → mm n E E' i k = idm i k) ∧ (∀ i k, i < n → k < n → mm n E' E i k = idm i k)
theorem Eqv.refl (n : Nat) (m : Mt p) : Eqv n m m idm idm :=
  ⟨fun _ _ h => (mm_idl _ _ h).symm, fun _ _ h => (mm_idl _ _ h).symm, fun _ _ h _ => mm_idl _ _ h, fun _ _ h _ => mm_idl _ _ h⟩
theorem Eqv.trans {n : Nat} {a b c E E' F F' : Mt p} (h : Eqv n a b E E') (g : Eqv n b c F F') : Eqv n a c (mm n F E) (mm n E' F') := by
  obtain ⟨h1, h2, h3, h4⟩ := h
  obtain ⟨g1, g2, g3, g4⟩ := g
  refine ⟨fun i k hi => ?_, fun i k hi => ?_, fun i k hi hk => ?_, fun i k hi hk => ?_⟩
  · rw [g1 i k hi, mm_assoc]; exact mm_congr (fun _ _ => rfl) (fun j hj => h1 j k hj)
  · rw [h2 i k hi, mm_assoc]; exact mm_congr (fun _ _ => rfl) (fun j hj => g2 j k hj)
  · rw [mm_assoc, mm_congr (C := F) (D := F') (fun _ _ => rfl) (fun j hj => ?_), g3 i k hi hk]
    rw [← mm_assoc, mm_congr (C := idm) (D := F') (fun l hl => h3 j l hj hl) (fun _ _ => rfl), mm_idl _ _ hj]
  · rw [mm_assoc, mm_congr (C := E') (D := E) (fun _ _ => rfl) (fun j hj => ?_), h4 i k hi hk]
    rw [← mm_assoc, mm_congr (C := idm) (D := E) (fun l hl => g4 j l hj hl) (fun _ _ => rfl), mm_idl _ _ hj]
/-- A row operation and its inverse. -/
theorem Eqv.op {n : Nat} (m : Mt p) (f g : Mt p → Mt p) (hf : ∀ X Y : Mt p, ∀ i k, i < n → mm n (f X) Y i k = f (mm n X Y) i k) (hg : ∀ X Y : Mt p, ∀ i k, i < n → mm n (g X) Y i k = g (mm n X Y) i k)
    (cf : ∀ X Y : Mt p, (∀ j l, j < n → X j l = Y j l) → ∀ i k, i < n → f X i k = f Y i k) (cg : ∀ X Y : Mt p, (∀ j l, j < n → X j l = Y j l) → ∀ i k, i < n → g X i k = g Y i k)
    (hfg : ∀ X : Mt p, ∀ i k, i < n → f (g X) i k = X i k) (hgf : ∀ X : Mt p, ∀ i k, i < n → g (f X) i k = X i k) : Eqv n m (f m) (f idm) (g idm) := by
  have e1 : ∀ X : Mt p, ∀ i k, i < n → mm n (f idm) X i k = f X i k := fun X i k hi => by rw [hf _ _ _ _ hi]; exact cf _ _ (fun j l hj => mm_idl _ _ hj) i k hi
  have e2 : ∀ X : Mt p, ∀ i k, i < n → mm n (g idm) X i k = g X i k := fun X i k hi => by rw [hg _ _ _ _ hi]; exact cg _ _ (fun j l hj => mm_idl _ _ hj) i k hi
  refine ⟨fun i k hi => (e1 _ _ _ hi).symm, fun i k hi => ?_, fun i k hi hk => ?_, fun i k hi hk => ?_⟩
  · rw [e2 _ _ _ hi, hgf _ _ _ hi]
  · rw [e1 _ _ _ hi, hfg _ _ _ hi]
  · rw [e2 _ _ _ hi, hgf _ _ _ hi]
end
end Go.Proofs.Ytcjpjnneimjfiaa
namespace Go.Proofs.Ytcjpjnneimjfiaa
section
variable {p : Nat} [NeZero p]

def swp (r t : Nat) (X : Mt p) : Mt p := fun i => if i = r then X t else if i = t then X r else X i
def scl (r : Nat) (u : Fin p) (X : Mt p) : Mt p := fun i k => if i = r then X i k * u else X i k
def elm (r : Nat) (a : Nat → Fin p) (X : Mt p) : Mt p := fun i k => if i = r then X i k else X i k - a i * X r k

theorem mul0 (a : Fin p) : a * 0 = 0 := by grind
theorem zmul (a : Fin p) : 0 * a = 0 := by grind
theorem mul1 (a : Fin p) : a * 1 = a := by grind
theorem onemul (a : Fin p) : 1 * a = a := by grind

theorem Eqv.swp {n r t : Nat} (m : Mt p) (hr : r < n) (ht : t < n) : ∃ E E', Eqv n m (swp r t m) E E' := by
  refine ⟨_, _, Eqv.op m (Ytcjpjnneimjfiaa.swp r t) (Ytcjpjnneimjfiaa.swp r t) ?_ ?_ ?_ ?_ ?_ ?_⟩
  · intro X Y i k hi; unfold mm Ytcjpjnneimjfiaa.swp; grind
  · intro X Y i k hi; unfold mm Ytcjpjnneimjfiaa.swp; grind
  · intro X Y h i k hi; unfold Ytcjpjnneimjfiaa.swp; grind
  · intro X Y h i k hi; unfold Ytcjpjnneimjfiaa.swp; grind
  · intro X i k hi; unfold Ytcjpjnneimjfiaa.swp; grind
  · intro X i k hi; unfold Ytcjpjnneimjfiaa.swp; grind
theorem mm_scl (n r : Nat) (u : Fin p) (X Y : Mt p) (i k : Nat) : mm n (scl r u X) Y i k = scl r u (mm n X Y) i k := by
  unfold mm scl
  by_cases h : i = r
  · simp only [if_pos h]; rw [← sm_mulr]; exact sm_congr (fun j _ => by grind)
  · simp only [if_neg h]
theorem mm_elm (n r : Nat) (a : Nat → Fin p) (X Y : Mt p) (i k : Nat) : mm n (elm r a X) Y i k = elm r a (mm n X Y) i k := by
  unfold mm elm
  by_cases h : i = r
  · simp only [if_pos h]
  · simp only [if_neg h]; rw [← sm_mul, ← sm_sub]; exact sm_congr (fun j _ => by grind)
theorem Eqv.scl {n r : Nat} {u v : Fin p} (m : Mt p) (h : u * v = 1) : ∃ E E', Eqv n m (scl r u m) E E' := by
  refine ⟨_, _, Eqv.op m (Ytcjpjnneimjfiaa.scl r u) (Ytcjpjnneimjfiaa.scl r v) (fun X Y i k _ => mm_scl _ _ _ _ _ _ _) (fun X Y i k _ => mm_scl _ _ _ _ _ _ _) ?_ ?_ ?_ ?_⟩
  · intro X Y h i k hi; unfold Ytcjpjnneimjfiaa.scl; rw [h i k hi]
  · intro X Y h i k hi; unfold Ytcjpjnneimjfiaa.scl; rw [h i k hi]
  · intro X i k hi; unfold Ytcjpjnneimjfiaa.scl; grind
  · intro X i k hi; unfold Ytcjpjnneimjfiaa.scl; grind
theorem Eqv.elm {n r : Nat} (a : Nat → Fin p) (m : Mt p) (hr : r < n) : ∃ E E', Eqv n m (elm r a m) E E' := by
  refine ⟨_, _, Eqv.op m (Ytcjpjnneimjfiaa.elm r a) (Ytcjpjnneimjfiaa.elm r (fun i => 0 - a i)) (fun X Y i k _ => mm_elm _ _ _ _ _ _ _) (fun X Y i k _ => mm_elm _ _ _ _ _ _ _) ?_ ?_ ?_ ?_⟩
  · intro X Y h i k hi; unfold Ytcjpjnneimjfiaa.elm; rw [h i k hi, h r k hr]
  · intro X Y h i k hi; unfold Ytcjpjnneimjfiaa.elm; rw [h i k hi, h r k hr]
  · intro X i k hi; unfold Ytcjpjnneimjfiaa.elm; grind
  · intro X i k hi; unfold Ytcjpjnneimjfiaa.elm; grind

/-- The first row from i on, of f rows, with an element other than 0 in column c; i + f if there is none. -/
def fnd (X : Mt p) (c : Nat) (f : Nat) : Nat → Nat := Nat.rec (fun i => i) (fun _ g i => if X i c = 0 then g (i + 1) else i) f
theorem fnd_0 (X : Mt p) (c i : Nat) : fnd X c 0 i = i := rfl
theorem fnd_s (X : Mt p) (c f i : Nat) : fnd X c (f + 1) i = if X i c = 0 then fnd X c f (i + 1) else i := rfl
theorem fnd_spec (X : Mt p) (c : Nat) : ∀ f i, i ≤ fnd X c f i ∧ fnd X c f i ≤ i + f ∧ (∀ j, i ≤ j → j < fnd X c f i → X j c = 0) ∧ (fnd X c f i < i + f → X (fnd X c f i) c ≠ 0) := by
  intro f
  induction f with
  | zero => intro i; rw [fnd_0]; exact ⟨Nat.le_refl _, Nat.le_refl _, fun j h1 h2 => by omega, fun h => by omega⟩
  | succ f ih =>
    intro i
    rw [fnd_s]
    by_cases h : X i c = 0
    · rw [if_pos h]
      obtain ⟨h1, h2, h3, h4⟩ := ih (i + 1)
      refine ⟨by omega, by omega, fun j a b => ?_, fun a => h4 (by omega)⟩
      rcases Nat.lt_or_ge i j with g | g
      · exact h3 j g b
      · obtain rfl : j = i := by omega
        exact h
    · rw [if_neg h]
      exact ⟨Nat.le_refl _, by omega, fun j a b => by omega, fun _ => h⟩
theorem fnd_eq {X : Mt p} {c f i t : Nat} (h1 : i ≤ t) (h2 : t ≤ i + f) (h3 : ∀ j, i ≤ j → j < t → X j c = 0) (h4 : t < i + f → X t c ≠ 0) : fnd X c f i = t := by
  obtain ⟨g1, g2, g3, g4⟩ := fnd_spec X c f i
  rcases Nat.lt_trichotomy (fnd X c f i) t with g | g | g
  · exact absurd (h3 _ g1 g) (g4 (by omega))
  · exact g
  · exact absurd (g3 _ h1 g) (h4 (by omega))

structure St (p : Nat) where
  M : Nat → Nat → Fin p
  r : Nat
  pv : Nat → Nat
  dt : Fin p

variable (iv : Fin p → Fin p)
/-- The row r scaled, then subtracted from the others. -/
def prw (r c : Nat) (u : Fin p) (X : Mt p) : Mt p := elm r (fun i => scl r u X i c) (scl r u X)
/-- One column. -/
def stp (n c : Nat) (s : St p) : St p :=
  if fnd s.M c (n - s.r) s.r < n then
    { M := prw s.r c (iv (s.M (fnd s.M c (n - s.r) s.r) c)) (swp s.r (fnd s.M c (n - s.r) s.r) s.M), r := s.r + 1, pv := fun i => if i = s.r then c else s.pv i,
      dt := (if fnd s.M c (n - s.r) s.r = s.r then s.dt else 0 - s.dt) * s.M (fnd s.M c (n - s.r) s.r) c }
  else s
def run (n c : Nat) (s : St p) : St p := Nat.rec s (fun c s => stp iv n c s) c
theorem run_0 (n : Nat) (s : St p) : run iv n 0 s = s := rfl
theorem run_s (n c : Nat) (s : St p) : run iv n (c + 1) s = stp iv n c (run iv n c s) := rfl
def ini (m : Mt p) : St p := { M := m, r := 0, pv := fun _ => 0, dt := 1 }

/-- What a determinant of n rows does under the row operations. -/
structure DetLike (n : Nat) (D : Mt p → Fin p) : Prop where
  swap : ∀ X r t, r < n → t < n → r ≠ t → D (swp r t X) = 0 - D X
  scale : ∀ X r u, r < n → D (scl r u X) = D X * u
  elim : ∀ X r a, r < n → D (elm r a X) = D X

/-- What holds behind the first c columns. -/
structure Inv (n c : Nat) (m : Mt p) (s : St p) : Prop where
  rn : s.r ≤ n
  rc : s.r ≤ c
  lt : ∀ i, i < s.r → s.pv i < c
  mono : ∀ i j, i < j → j < s.r → s.pv i < s.pv j
  one : ∀ i, i < s.r → s.M i (s.pv i) = 1
  col : ∀ i j, i < s.r → j < n → j ≠ i → s.M j (s.pv i) = 0
  lead : ∀ i k, i < s.r → k < s.pv i → s.M i k = 0
  zero : ∀ i k, s.r ≤ i → i < n → k < c → s.M i k = 0
  eqv : ∃ E E', Eqv n m s.M E E'
  det : ∀ D, DetLike n D → D m = s.dt * D s.M

theorem Inv.init (n : Nat) (m : Mt p) : Inv n 0 m (ini m) where
  rn := Nat.zero_le _
  rc := Nat.zero_le _
  lt := fun _ h => absurd h (Nat.not_lt_zero _)
  mono := fun _ _ _ h => absurd h (Nat.not_lt_zero _)
  one := fun _ h => absurd h (Nat.not_lt_zero _)
  col := fun _ _ h => absurd h (Nat.not_lt_zero _)
  lead := fun _ _ h => absurd h (Nat.not_lt_zero _)
  zero := fun _ _ _ _ h => absurd h (Nat.not_lt_zero _)
  eqv := ⟨_, _, Eqv.refl n m⟩
  det := fun _ _ => (onemul _).symm

theorem swp_self {p : Nat} (r : Nat) (X : Mt p) : swp r r X = X := by
  funext i; unfold swp; grind

variable {iv}
theorem Inv.step (hiv : ∀ a : Fin p, a ≠ 0 → a * iv a = 1) {n c : Nat} {m : Mt p} {s : St p} (h : Inv n c m s) : Inv n (c + 1) m (stp iv n c s) := by
  obtain ⟨g1, g2, g3, g4⟩ := fnd_spec s.M c (n - s.r) s.r
  have hrn := h.rn
  unfold stp
  by_cases ht : fnd s.M c (n - s.r) s.r < n
  · rw [if_pos ht]
    generalize fnd s.M c (n - s.r) s.r = t at *
    have hne := g4 (by omega)
    have hu := hiv _ hne
    generalize hU : iv (s.M t c) = u at *
    have hrn' : s.r < n := by omega
    -- the row that is exchanged into place has zeros ahead of the column
    have z1 : ∀ k, k < c → s.M t k = 0 := fun k hk => h.zero t k g1 ht hk
    have ent : ∀ i k, prw s.r c u (swp s.r t s.M) i k = if i = s.r then s.M t k * u else swp s.r t s.M i k - swp s.r t s.M i c * (s.M t k * u) := by
      intro i k
      by_cases hi : i = s.r
      · subst hi; simp [prw, elm, scl, swp]
      · simp [prw, elm, scl, swp, hi]
    have low : ∀ i, i < s.r → swp s.r t s.M i = s.M i := by
      intro i hi; unfold swp; rw [if_neg (by omega), if_neg (by omega)]
    have high : ∀ i k, s.r < i → i < n → k < c → swp s.r t s.M i k = 0 := by
      intro i k hi hn hk
      unfold swp
      rw [if_neg (by omega)]
      by_cases he : i = t
      · rw [if_pos he]; exact h.zero _ _ (Nat.le_refl _) hrn' hk
      · rw [if_neg he]; exact h.zero _ _ (by omega) hn hk
    refine ⟨by simp; omega, by simp; exact h.rc, ?_, ?_, ?_, ?_, ?_, ?_, ?_, ?_⟩
    · intro i hi
      dsimp only at hi ⊢
      by_cases he : i = s.r
      · rw [if_pos he]; omega
      · rw [if_neg he]; have := h.lt i (by omega); omega
    · intro i j hij hj
      dsimp only at hj ⊢
      by_cases he : j = s.r
      · rw [if_pos he, if_neg (by omega)]; exact h.lt i (by omega)
      · rw [if_neg he, if_neg (by omega)]; exact h.mono i j hij (by omega)
    · intro i hi
      dsimp only at hi ⊢
      rw [ent]
      by_cases he : i = s.r
      · rw [if_pos he, if_pos he]; exact hu
      · rw [if_neg he, if_neg he, low i (by omega), z1 _ (h.lt i (by omega)), h.one i (by omega)]; grind
    · intro i j hi hj hji
      dsimp only at hi ⊢
      rw [ent]
      by_cases he : i = s.r
      · rw [if_pos he, if_neg (by omega), hu]; grind
      · rw [if_neg he, z1 _ (h.lt i (by omega))]
        by_cases hjr : j = s.r
        · rw [if_pos hjr]; grind
        · rw [if_neg hjr]
          have : swp s.r t s.M j (s.pv i) = 0 := by
            rcases Nat.lt_or_ge j s.r with hl | hl
            · rw [low j hl]; exact h.col i j (by omega) hj hji
            · exact high j _ (by omega) hj (h.lt i (by omega))
          rw [this]; grind
    · intro i k hi hk
      dsimp only at hi hk ⊢
      rw [ent]
      by_cases he : i = s.r
      · rw [if_pos he] at hk ⊢; rw [z1 k hk]; grind
      · rw [if_neg he] at hk ⊢
        have := h.lt i (by omega)
        rw [low i (by omega), h.lead i k (by omega) hk, z1 k (by omega)]; grind
    · intro i k hi hn hk
      dsimp only at hi ⊢
      rw [ent, if_neg (by omega)]
      rcases Nat.lt_or_ge k c with hl | hl
      · rw [high i k (by omega) hn hl, z1 k hl]; grind
      · obtain rfl : k = c := by omega
        rw [hu]; grind
    · obtain ⟨E, E', e1⟩ := h.eqv
      obtain ⟨F, F', e2⟩ := Eqv.swp s.M hrn' ht
      obtain ⟨G, G', e3⟩ := Eqv.scl (n := n) (r := s.r) (swp s.r t s.M) (show u * s.M t c = 1 by grind)
      obtain ⟨K, K', e4⟩ := Eqv.elm (fun i => scl s.r u (swp s.r t s.M) i c) (scl s.r u (swp s.r t s.M)) hrn'
      exact ⟨_, _, ((e1.trans e2).trans e3).trans e4⟩
    · intro D hD
      dsimp only
      unfold prw
      rw [hD.elim _ _ _ hrn', hD.scale _ _ _ hrn', h.det D hD]
      by_cases he : t = s.r
      · rw [if_pos he, he, swp_self, ← he]; grind
      · rw [if_neg he, hD.swap _ _ _ hrn' ht (Ne.symm he)]; grind
  · rw [if_neg ht]
    have he : fnd s.M c (n - s.r) s.r = n := by omega
    rw [he] at g3
    refine ⟨h.rn, by have := h.rc; omega, fun i hi => by have := h.lt i hi; omega, h.mono, h.one, h.col, h.lead, ?_, h.eqv, h.det⟩
    intro i k hi hn hk
    rcases Nat.lt_or_ge k c with hl | hl
    · exact h.zero i k hi hn hl
    · obtain rfl : k = c := by omega
      exact g3 i hi hn
theorem run_inv (hiv : ∀ a : Fin p, a ≠ 0 → a * iv a = 1) (n c : Nat) (m : Mt p) : Inv n c m (run iv n c (ini m)) := by
  induction c with
  | zero => exact Inv.init n m
  | succ c ih => rw [run_s]; exact ih.step hiv
end
end Go.Proofs.Ytcjpjnneimjfiaa
namespace Go.Proofs.Ytcjpjnneimjfiaa
section
variable {p : Nat} [NeZero p]

/-- The combination of r rows of a with the coefficients x. -/
def comb (r : Nat) (x : Nat → Fin p) (a : Mt p) (k : Nat) : Fin p := sm r (fun i => x i * a i k)
def InSp (n cols : Nat) (m : Mt p) (v : Nat → Fin p) : Prop := ∃ x : Nat → Fin p, ∀ k, k < cols → v k = comb n x m k

/-- A reduced row echelon form of r rows. -/
structure IsR (cols r : Nat) (pv : Nat → Nat) (a : Mt p) : Prop where
  lt : ∀ i, i < r → pv i < cols
  mono : ∀ i j, i < j → j < r → pv i < pv j
  one : ∀ i, i < r → a i (pv i) = 1
  col : ∀ i j, i < r → j < r → j ≠ i → a j (pv i) = 0
  lead : ∀ i k, i < r → k < pv i → a i k = 0

theorem Inv.isR {n c : Nat} {m : Mt p} {s : St p} (h : Inv n c m s) : IsR c s.r s.pv s.M :=
  ⟨h.lt, h.mono, h.one, fun i j hi hj hne => h.col i j hi (by have := h.rn; omega) hne, h.lead⟩

theorem comb_congr {r : Nat} {x y : Nat → Fin p} {a b : Mt p} {k : Nat} (h1 : ∀ i, i < r → x i = y i) (h2 : ∀ i, i < r → a i k = b i k) : comb r x a k = comb r y b k :=
  sm_congr (fun i hi => by rw [h1 i hi, h2 i hi])
theorem comb_comb (n m : Nat) (x : Nat → Fin p) (A B : Mt p) (k : Nat) : comb n x (fun i k => comb m (A i) B k) k = comb m (fun j => comb n x A j) B k :=
  (mm_assoc m n (fun _ => x) A B 0 k).symm
theorem comb_pivot {cols r i : Nat} {pv : Nat → Nat} {a : Mt p} (h : IsR cols r pv a) (hi : i < r) (x : Nat → Fin p) : comb r x a (pv i) = x i := by
  unfold comb
  rw [sm_one hi (fun j hj hne => by rw [h.col i j hi hj hne]; exact mul0 _), h.one i hi, mul1]
theorem comb_lead {cols r j0 : Nat} {pv : Nat → Nat} {a : Mt p} (h : IsR cols r pv a) {x : Nat → Fin p} (hx : ∀ j, j < j0 → x j = 0) (hj : j0 < r) {k : Nat} (hk : k < pv j0) : comb r x a k = 0 := by
  refine sm_zero (fun j hjr => ?_)
  rcases Nat.lt_or_ge j j0 with g | g
  · rw [hx j g]; exact zmul _
  · have : k < pv j := by
      rcases Nat.lt_or_ge j0 j with g2 | g2
      · have := h.mono j0 j g2 hjr; omega
      · obtain rfl : j = j0 := by omega
        exact hk
    rw [h.lead j k hjr this]; exact mul0 _
theorem least {P : Nat → Prop} (h : ∃ n, P n) : ∃ n, P n ∧ ∀ j, j < n → ¬ P j := by
  obtain ⟨n, hn⟩ := h
  induction n using Nat.strongRecOn with
  | _ n ih =>
    by_cases g : ∃ j, j < n ∧ P j
    · obtain ⟨j, hj, hp⟩ := g; exact ih j hj hp
    · exact ⟨n, hn, fun j hj hp => g ⟨j, hj, hp⟩⟩
theorem ne10 (hp : 1 < p) : (1 : Fin p) ≠ 0 := by
  intro h
  have := congrArg Fin.val h
  rw [show ((1 : Fin p) : Nat) = 1 % p from rfl, show ((0 : Fin p) : Nat) = 0 % p from rfl, Nat.mod_eq_of_lt hp] at this
  simp at this

/-- A row of one form, a combination of the rows of another: its pivot is one of the other's. -/
theorem pivot_in (hp : 1 < p) {cols r s : Nat} {pv qv : Nat → Nat} {a b : Mt p} (ha : IsR cols r pv a) (hb : IsR cols s qv b) {i : Nat} (hi : i < r) (h : InSp s cols b (a i)) : ∃ j, j < s ∧ qv j = pv i := by
  obtain ⟨x, hx⟩ := h
  have h1 := ha.one i hi
  have hpc := ha.lt i hi
  have hex : ∃ j, j < s ∧ x j ≠ 0 := by
    refine Classical.byContradiction fun hn => ?_
    have : a i (pv i) = 0 := by
      rw [hx _ hpc]
      exact sm_zero (fun j hj => by rw [Classical.byContradiction (fun g => hn ⟨j, hj, g⟩ : ¬ ¬ x j = 0)]; exact zmul _)
    rw [h1] at this
    exact ne10 hp this
  obtain ⟨j0, ⟨hj, hx0⟩, hlow⟩ := least hex
  have hz : ∀ j, j < j0 → x j = 0 := fun j hjl => Classical.byContradiction fun g => hlow j hjl ⟨by omega, g⟩
  refine ⟨j0, hj, ?_⟩
  have e1 : a i (qv j0) = x j0 := by rw [hx _ (hb.lt j0 hj), comb_pivot hb hj]
  rcases Nat.lt_trichotomy (qv j0) (pv i) with g | g | g
  · rw [ha.lead i _ hi g] at e1; exact absurd e1.symm hx0
  · exact g
  · have e2 := hx _ hpc
    rw [comb_lead hb hz hj g, h1] at e2
    exact absurd e2 (ne10 hp)

theorem inc_sub {r s : Nat} {pv qv : Nat → Nat} (hp : ∀ i j, i < j → j < r → pv i < pv j) (hq : ∀ i j, i < j → j < s → qv i < qv j) (h : ∀ i, i < r → ∃ j, j < s ∧ qv j = pv i) :
    r ≤ s ∧ (r = s → ∀ i, i < r → pv i = qv i) := by
  have up : ∀ i, i < r → ∀ j, j < s → qv j = pv i → i ≤ j := by
    intro i
    induction i with
    | zero => intro _ j _ _; exact Nat.zero_le _
    | succ i ih =>
      intro hi j hj e
      obtain ⟨j', hj', e'⟩ := h i (by omega)
      have h1 := ih (by omega) j' hj' e'
      have h2 := hp i (i + 1) (by omega) hi
      rcases Nat.lt_trichotomy j j' with g | g | g
      · have := hq j j' g hj'; omega
      · subst g; omega
      · omega
  have le : r ≤ s := by
    rcases Nat.eq_zero_or_pos r with g | g
    · omega
    · obtain ⟨j, hj, e⟩ := h (r - 1) (by omega)
      have := up (r - 1) (by omega) j hj e
      omega
  refine ⟨le, fun e => ?_⟩
  have down : ∀ d i, i + d + 1 = r → ∀ j, j < s → qv j = pv i → j ≤ i := by
    intro d
    induction d with
    | zero => intro i hi j hj _; omega
    | succ d ih =>
      intro i hi j hj ej
      obtain ⟨j', hj', e'⟩ := h (i + 1) (by omega)
      have h1 := ih (i + 1) (by omega) j' hj' e'
      have h2 := hp i (i + 1) (by omega) (by omega)
      rcases Nat.lt_trichotomy j j' with g | g | g
      · omega
      · subst g; omega
      · have := hq j' j g hj; omega
  intro i hi
  obtain ⟨j, hj, ej⟩ := h i hi
  have h1 := up i hi j hj ej
  have h2 := down (r - 1 - i) i (by omega) j hj ej
  obtain rfl : j = i := by omega
  exact ej.symm

/-- Rows of one form in the span of another: not more of them; as many: then the forms are the same. -/
theorem form_sub (hp : 1 < p) {cols r s : Nat} {pv qv : Nat → Nat} {a b : Mt p} (ha : IsR cols r pv a) (hb : IsR cols s qv b) (h : ∀ i, i < r → InSp s cols b (a i)) :
    r ≤ s ∧ (r = s → (∀ i, i < r → pv i = qv i) ∧ ∀ i k, i < r → k < cols → a i k = b i k) := by
  obtain ⟨h1, h2⟩ := inc_sub ha.mono hb.mono (fun i hi => pivot_in hp ha hb hi (h i hi))
  refine ⟨h1, fun e => ⟨h2 e, fun i k hi hk => ?_⟩⟩
  obtain ⟨x, hx⟩ := h i hi
  rw [hx k hk]
  have hxj : ∀ j, j < s → x j = if j = i then 1 else 0 := by
    intro j hj
    have e1 := hx (qv j) (hb.lt j hj)
    rw [comb_pivot hb hj] at e1
    rw [← e1, ← h2 e j (by omega)]
    by_cases g : j = i
    · subst g; rw [if_pos rfl]; exact ha.one j hi
    · rw [if_neg g]; exact ha.col j i (by omega) hi (Ne.symm g)
  unfold comb
  rw [sm_one (show i < s by omega) (fun j hj hne => by rw [hxj j hj, if_neg hne]; exact zmul _), hxj i (by omega), if_pos rfl, onemul]

theorem InSp.trans {n m cols : Nat} {A B : Mt p} {v : Nat → Fin p} (h : InSp n cols A v) (g : ∀ i, i < n → InSp m cols B (A i)) : InSp m cols B v := by
  obtain ⟨x, hx⟩ := h
  have hy : ∃ Y : Mt p, ∀ i, i < n → ∀ k, k < cols → A i k = comb m (Y i) B k := by
    refine ⟨fun i => if h : i < n then Classical.choose (g i h) else fun _ => 0, fun i hi k hk => ?_⟩
    simp only [dif_pos hi]
    exact Classical.choose_spec (g i hi) k hk
  obtain ⟨Y, hY⟩ := hy
  refine ⟨fun j => comb n x Y j, fun k hk => ?_⟩
  rw [hx k hk, ← comb_comb]
  exact comb_congr (fun _ _ => rfl) (fun i hi => hY i hi k hk)
theorem InSp.row {n cols i : Nat} (A : Mt p) (hi : i < n) : InSp n cols A (A i) :=
  ⟨idm i, fun k _ => (mm_idl A k hi).symm⟩
theorem InSp.congr {n cols : Nat} {A : Mt p} {v w : Nat → Fin p} (h : InSp n cols A v) (g : ∀ k, k < cols → v k = w k) : InSp n cols A w := by
  obtain ⟨x, hx⟩ := h
  exact ⟨x, fun k hk => by rw [← g k hk, hx k hk]⟩
theorem sm_tail {r n : Nat} {f : Nat → Fin p} (hr : r ≤ n) (h : ∀ i, r ≤ i → i < n → f i = 0) : sm n f = sm r f := by
  obtain ⟨d, rfl⟩ : ∃ d, n = r + d := ⟨n - r, by omega⟩
  rw [sm_split, sm_zero (n := d) (fun i hi => h (r + i) (by omega) (by omega))]; grind
theorem Inv.down {n c : Nat} {m : Mt p} {s : St p} (h : Inv n c m s) {i : Nat} (hi : i < n) : InSp s.r c s.M (m i) := by
  obtain ⟨E, E', e1, e2, _⟩ := h.eqv
  refine ⟨E' i, fun k hk => ?_⟩
  rw [e2 i k hi]
  exact sm_tail h.rn (fun j hj hn => by rw [h.zero j k hj hn hk]; exact mul0 _)
theorem Inv.up {n c : Nat} {m : Mt p} {s : St p} (h : Inv n c m s) {i : Nat} (hi : i < n) : InSp n c m (s.M i) := by
  obtain ⟨E, E', e1, e2, _⟩ := h.eqv
  exact ⟨E i, fun k _ => e1 i k hi⟩

/-- The same span: the same form. -/
theorem form_same (hp : 1 < p) {n n' c : Nat} {m m' : Mt p} {s s' : St p} (h : Inv n c m s) (h' : Inv n' c m' s') (g : ∀ i, i < n → InSp n' c m' (m i)) (g' : ∀ i, i < n' → InSp n c m (m' i)) :
    s.r = s'.r ∧ (∀ i, i < s.r → s.pv i = s'.pv i) ∧ ∀ i k, i < s.r → k < c → s.M i k = s'.M i k := by
  have e1 : ∀ i, i < s.r → InSp s'.r c s'.M (s.M i) := fun i hi => ((h.up (by have := h.rn; omega)).trans g).trans (fun i hi => h'.down hi)
  have e2 : ∀ i, i < s'.r → InSp s.r c s.M (s'.M i) := fun i hi => ((h'.up (by have := h'.rn; omega)).trans g').trans (fun i hi => h.down hi)
  obtain ⟨a1, a2⟩ := form_sub hp h.isR h'.isR e1
  obtain ⟨b1, _⟩ := form_sub hp h'.isR h.isR e2
  have e : s.r = s'.r := by omega
  exact ⟨e, a2 e⟩
/-- A matrix that is a form already. -/
theorem form_idem (hp : 1 < p) {r c : Nat} {pv : Nat → Nat} {m : Mt p} {s : St p} (h : Inv r c m s) (g : IsR c r pv m) : s.r = r ∧ (∀ i, i < r → s.pv i = pv i) ∧ ∀ i k, i < r → k < c → s.M i k = m i k := by
  have h1 := h.rn
  obtain ⟨a1, a2⟩ := form_sub hp g h.isR (fun i hi => h.down hi)
  have e : s.r = r := by omega
  obtain ⟨b1, b2⟩ := a2 e.symm
  exact ⟨e, fun i hi => (b1 i hi).symm, fun i k hi hk => (b2 i k hi hk).symm⟩

/-- A further row. -/
def wth (n : Nat) (m : Mt p) (v : Nat → Fin p) : Mt p := fun i => if i = n then v else m i
theorem solvable_iff (hp : 1 < p) {n c : Nat} {m : Mt p} {v : Nat → Fin p} {s s' : St p} (h : Inv n c m s) (h' : Inv (n + 1) c (wth n m v) s') : s'.r = s.r ↔ InSp n c m v := by
  have hrow : ∀ i, i < n → InSp (n + 1) c (wth n m v) (m i) := fun i hi => (InSp.row (wth n m v) (show i < n + 1 by omega)).congr (fun k _ => by unfold wth; rw [if_neg (by omega)])
  constructor
  · intro e
    obtain ⟨_, a2⟩ := form_sub hp h.isR h'.isR (fun i hi => ((h.up (by have := h.rn; omega)).trans hrow).trans (fun i hi => h'.down hi))
    obtain ⟨_, b2⟩ := a2 e.symm
    have h1 : InSp s'.r c s'.M v := (h'.down (show n < n + 1 by omega)).congr (fun k _ => by unfold wth; rw [if_pos rfl])
    refine h1.trans (fun i hi => ?_)
    refine (h.up (i := i) (by have := h.rn; omega)).congr (fun k hk => b2 i k (by omega) hk)
  · intro hv
    refine (form_same hp h h' hrow (fun i hi => ?_)).1.symm
    unfold wth
    by_cases e : i = n
    · rw [if_pos e]; exact hv
    · rw [if_neg e]; exact InSp.row m (by omega)
end
end Go.Proofs.Ytcjpjnneimjfiaa
namespace Go.Proofs.Ytcjpjnneimjfiaa
section
variable {p : Nat} [NeZero p]

/-- The form shows each row of the matrix by its elements in the pivot columns. -/
theorem Inv.shown {n c : Nat} {m : Mt p} {s : St p} (h : Inv n c m s) {i k : Nat} (hi : i < n) (hk : k < c) : m i k = comb s.r (fun t => m i (s.pv t)) s.M k := by
  obtain ⟨x, hx⟩ := h.down hi
  rw [hx k hk]
  exact comb_congr (fun t ht => by rw [hx _ (h.lt t ht), comb_pivot h.isR ht]) (fun _ _ => rfl)

/-- The matrix m of cols columns with the identity beside it. -/
def bsd (cols : Nat) (m : Mt p) : Mt p := fun i k => if k < cols then m i k else idm i (k - cols)
/-- The right half. -/
def rgt (cols : Nat) (M : Mt p) : Mt p := fun i k => M i (cols + k)
theorem bsd_l {cols : Nat} (m : Mt p) {i k : Nat} (h : k < cols) : bsd cols m i k = m i k := if_pos h
theorem bsd_r {cols : Nat} (m : Mt p) (i k : Nat) : bsd cols m i (cols + k) = idm i k := by
  unfold bsd; rw [if_neg (by omega)]; congr 1; omega

/-- What the reduction of the wide matrix gives: the right half is invertible, and brings the left half to its form. -/
structure Wide (n cols : Nat) (m : Mt p) (s : St p) (E' : Mt p) : Prop where
  fwd : ∀ i k, i < n → k < cols → s.M i k = comb n (rgt cols s.M i) m k
  bwd : ∀ i k, i < n → k < cols → m i k = comb n (E' i) s.M k
  inv1 : ∀ i k, i < n → k < n → comb n (rgt cols s.M i) E' k = idm i k
  inv2 : ∀ i k, i < n → k < n → comb n (E' i) (rgt cols s.M) k = idm i k
theorem Inv.wide {n cols : Nat} {m : Mt p} {s : St p} (h : Inv n cols (bsd cols m) s) : ∃ E', Wide n cols m s E' := by
  obtain ⟨E, E', e1, e2, e3, e4⟩ := h.eqv
  have eE : ∀ i k, i < n → k < n → rgt cols s.M i k = E i k := by
    intro i k hi hk
    unfold rgt
    rw [e1 i _ hi]
    unfold mm
    rw [show (fun j => E i j * bsd cols m j (cols + k)) = (fun j => E i j * idm j k) from funext fun j => by rw [bsd_r]]
    exact mm_idr E i hk
  refine ⟨E', fun i k hi hk => ?_, fun i k hi hk => ?_, fun i k hi hk => ?_, fun i k hi hk => ?_⟩
  · rw [e1 i k hi]; exact mm_congr (fun j hj => (eE i j hi hj).symm) (fun j _ => bsd_l m hk)
  · rw [← bsd_l m hk, e2 i k hi]; rfl
  · rw [← e3 i k hi hk]; exact mm_congr (fun j hj => eE i j hi hj) (fun _ _ => rfl)
  · rw [← e4 i k hi hk]; exact mm_congr (fun _ _ => rfl) (fun j hj => eE j k hj hk)

/-- The rows behind the pivots, their right half. -/
def ker (cols r : Nat) (M : Mt p) : Mt p := fun i k => M (r + i) (cols + k)
theorem ker_kills {n cols : Nat} {m : Mt p} {s : St p} {E' : Mt p} (h : Inv n cols (bsd cols m) s) (g : Wide n cols m s E') {i k : Nat} (hi : i < n - s.r) (hk : k < cols) : comb n (ker cols s.r s.M i) m k = 0 := by
  rw [← h.zero (s.r + i) k (by omega) (by omega) hk, g.fwd _ _ (by omega) hk]; rfl
theorem sp_kills {n cols r : Nat} {m a : Mt p} (ha : ∀ i k, i < r → k < cols → comb n (a i) m k = 0) {v : Nat → Fin p} (hv : InSp r n a v) {k : Nat} (hk : k < cols) : comb n v m k = 0 := by
  obtain ⟨x, hx⟩ := hv
  have : comb n v m k = comb r x (fun i k => comb n (a i) m k) k := by
    rw [comb_comb]; exact comb_congr (fun j hj => hx j hj) (fun _ _ => rfl)
  rw [this]
  exact sm_zero (fun i hi => by dsimp only; rw [ha i k hi hk]; exact mul0 _)
theorem ker_all {n cols : Nat} {m : Mt p} {s : St p} {E' : Mt p} (h : Inv n cols (bsd cols m) s) (g : Wide n cols m s E') {v : Nat → Fin p} (hv : ∀ k, k < cols → comb n v m k = 0) : InSp (n - s.r) n (ker cols s.r s.M) v := by
  obtain ⟨y, hy⟩ : ∃ y : Nat → Fin p, y = fun i => comb n v E' i := ⟨_, rfl⟩
  have e1 : ∀ k, k < n → v k = comb n y (rgt cols s.M) k := by
    intro k hk
    rw [hy]
    show v k = comb n (fun j => comb n v E' j) (rgt cols s.M) k
    rw [← comb_comb]
    exact (mm_idr (fun _ => v) 0 hk).symm.trans (comb_congr (fun _ _ => rfl) (fun i hi => (g.inv2 i k hi hk).symm))
  have e2 : ∀ k, k < cols → comb n y s.M k = 0 := by
    intro k hk
    rw [← hv k hk, hy]
    show comb n (fun j => comb n v E' j) s.M k = _
    rw [← comb_comb]
    exact comb_congr (fun _ _ => rfl) (fun i hi => (g.bwd i k hi hk).symm)
  have e3 : ∀ i, i < s.r → y i = 0 := by
    intro i hi
    have e := e2 _ (h.lt i hi)
    unfold comb at e
    rw [sm_one (show i < n by have := h.rn; omega) (fun j hj hne => by rw [h.col i j hi hj hne]; exact mul0 _), h.one i hi, mul1] at e
    exact e
  refine ⟨fun i => y (s.r + i), fun k hk => ?_⟩
  rw [e1 k hk]
  unfold comb
  obtain ⟨d, hd⟩ : ∃ d, n = s.r + d := ⟨n - s.r, by have := h.rn; omega⟩
  rw [show n - s.r = d by omega]
  conv => lhs; rw [hd]
  rw [sm_split, sm_zero (n := s.r) (fun i hi => by rw [e3 i hi]; exact zmul _)]
  show (0 : Fin p) + sm d (fun i => y (s.r + i) * ker cols s.r s.M i k) = _
  grind
theorem ker_rank (hp : 1 < p) {n cols : Nat} {m : Mt p} {s t : St p} {E' : Mt p} (_ : Inv n cols (bsd cols m) s) (g : Wide n cols m s E') (ht : Inv (n - s.r) n (ker cols s.r s.M) t) : t.r = n - s.r := by
  refine Classical.byContradiction fun hne => ?_
  have hlt : t.r < n - s.r := by have := ht.rn; omega
  obtain ⟨F, F', f1, _, f3, _⟩ := ht.eqv
  obtain ⟨i0, hi0⟩ : ∃ i0, i0 + 1 = n - s.r := ⟨n - s.r - 1, by omega⟩
  have z1 : ∀ k, k < n → comb (n - s.r) (F i0) (ker cols s.r s.M) k = 0 := fun k hk => by
    rw [← ht.zero i0 k (by omega) (by omega) hk, f1 _ _ (by omega)]; rfl
  have z2 : ∀ j, j < n - s.r → F i0 j = 0 := by
    intro j hj
    have e : comb (n - s.r) (F i0) (fun i k => comb n (ker cols s.r s.M i) E' k) (s.r + j) = 0 := by
      rw [comb_comb]
      exact sm_zero (fun i hi => by dsimp only; rw [z1 i hi]; exact zmul _)
    rw [← e]
    have e2 : ∀ i, i < n - s.r → comb n (ker cols s.r s.M i) E' (s.r + j) = idm i j := fun i hi => by
      refine (g.inv1 (s.r + i) (s.r + j) (by omega) (by omega)).trans ?_
      unfold idm
      by_cases hij : i = j
      · rw [if_pos hij, if_pos (by omega)]
      · rw [if_neg hij, if_neg (by omega)]
    exact (mm_idr (n := n - s.r) F i0 hj).symm.trans (sm_congr (fun i hi => by dsimp only; rw [e2 i hi]))
  have e := f3 i0 i0 (by omega) (by omega)
  rw [show mm (n - s.r) F F' i0 i0 = 0 from sm_zero (fun j hj => by rw [z2 j hj]; exact zmul _), show (idm i0 i0 : Fin p) = 1 from if_pos rfl] at e
  exact ne10 hp e.symm

/-- No more than r rows are independent among the combinations of r rows. -/
theorem steinitz (hp : 1 < p) {iv : Fin p → Fin p} (hiv : ∀ a : Fin p, a ≠ 0 → a * iv a = 1) {r r' : Nat} {X Y : Mt p} (h : ∀ i j, i < r' → j < r' → comb r (X i) Y j = idm i j) : r' ≤ r := by
  refine Classical.byContradiction fun hn => ?_
  have hI := run_inv hiv r' r X
  generalize run iv r' r (ini X) = s at hI
  obtain ⟨E, E', e1, _, e3, _⟩ := hI.eqv
  have hr := hI.rc
  obtain ⟨i0, hi0⟩ : ∃ i0, i0 + 1 = r' := ⟨r' - 1, by omega⟩
  have z1 : ∀ k, k < r → comb r' (E i0) X k = 0 := fun k hk => by
    rw [← hI.zero i0 k (by omega) (by omega) hk, e1 _ _ (by omega)]; rfl
  have z2 : ∀ j, j < r' → E i0 j = 0 := by
    intro j hj
    have e : comb r' (E i0) (fun i k => comb r (X i) Y k) j = 0 := by
      rw [comb_comb]
      exact sm_zero (fun i hi => by dsimp only; rw [z1 i hi]; exact zmul _)
    rw [← e]
    exact (mm_idr (n := r') E i0 hj).symm.trans (comb_congr (fun _ _ => rfl) (fun i hi => (h i j hi hj).symm))
  have e := e3 i0 i0 (by omega) (by omega)
  rw [show mm r' E E' i0 i0 = 0 from sm_zero (fun j hj => by rw [z2 j hj]; exact zmul _), show (idm i0 i0 : Fin p) = 1 from if_pos rfl] at e
  exact ne10 hp e.symm

def trp (m : Mt p) : Mt p := fun k i => m i k
theorem rank_trp_le (hp : 1 < p) {iv : Fin p → Fin p} (hiv : ∀ a : Fin p, a ≠ 0 → a * iv a = 1) {n cols : Nat} {m : Mt p} {s t : St p} (h : Inv n cols m s) (g : Inv cols n (trp m) t) : t.r ≤ s.r := by
  have h1 : ∀ k, k < cols → InSp s.r n (fun a i => m i (s.pv a)) (trp m k) := fun k hk =>
    ⟨fun a => s.M a k, fun i hi => by
      show m i k = _
      rw [h.shown hi hk]
      unfold comb
      exact sm_congr (fun a _ => by grind)⟩
  have h2 : ∀ a, a < t.r → InSp s.r n (fun a i => m i (s.pv a)) (t.M a) := fun a ha => (g.up (by have := g.rn; omega)).trans h1
  have h3 : ∃ X : Mt p, ∀ a, a < t.r → ∀ k, k < n → t.M a k = comb s.r (X a) (fun a i => m i (s.pv a)) k := by
    refine ⟨fun i => if h : i < t.r then Classical.choose (h2 i h) else fun _ => 0, fun i hi k hk => ?_⟩
    simp only [dif_pos hi]
    exact Classical.choose_spec (h2 i hi) k hk
  obtain ⟨X, hX⟩ := h3
  refine steinitz hp hiv (X := X) (Y := fun a b => m (t.pv b) (s.pv a)) (fun i j hi hj => ?_)
  refine (hX i hi (t.pv j) (g.lt j hj)).symm.trans ?_
  unfold idm
  by_cases hij : i = j
  · subst hij; rw [if_pos rfl]; exact g.one i hi
  · rw [if_neg hij]; exact g.col j i hj (by have := g.rn; omega) hij
theorem rank_trp (hp : 1 < p) {iv : Fin p → Fin p} (hiv : ∀ a : Fin p, a ≠ 0 → a * iv a = 1) {n cols : Nat} {m : Mt p} {s t : St p} (h : Inv n cols m s) (g : Inv cols n (trp m) t) : t.r = s.r :=
  Nat.le_antisymm (rank_trp_le hp hiv h g) (rank_trp_le hp hiv g h)

/-- What is left of a right side b, with 0 beside it, behind i pivots. -/
def rst (cols i : Nat) (b : Nat → Fin p) (s : St p) : Nat → Fin p := fun k => (if k < cols then b k else 0) - comb i (fun t => b (s.pv t)) s.M k
theorem rst_0 (cols : Nat) (b : Nat → Fin p) (s : St p) (k : Nat) : rst cols 0 b s k = if k < cols then b k else 0 := by
  unfold rst comb; rw [sm_0]; grind
theorem rst_s {n cols : Nat} {m : Mt p} {s : St p} (h : Inv n cols m s) (b : Nat → Fin p) {i : Nat} (hi : i < s.r) (k : Nat) : rst cols (i + 1) b s k = rst cols i b s k - rst cols i b s (s.pv i) * s.M i k := by
  have e : rst cols i b s (s.pv i) = b (s.pv i) := by
    unfold rst
    rw [if_pos (h.lt i hi)]
    have : comb i (fun t => b (s.pv t)) s.M (s.pv i) = 0 := sm_zero (fun j hj => by rw [h.col i j hi (by have := h.rn; omega) (by omega)]; exact mul0 _)
    rw [this]; grind
  rw [e]
  unfold rst comb
  rw [sm_s]; grind
theorem solved_iff {n cols : Nat} {m : Mt p} {s : St p} (h : Inv n cols (bsd cols m) s) (b : Nat → Fin p) : (∀ k, k < cols → rst cols s.r b s k = 0) ↔ InSp n cols m b := by
  have hw : ∀ {v}, InSp n cols (bsd cols m) v ↔ InSp n cols m v := fun {v} =>
    ⟨fun ⟨x, hx⟩ => ⟨x, fun k hk => by rw [hx k hk]; exact comb_congr (fun _ _ => rfl) (fun i _ => bsd_l m hk)⟩,
     fun ⟨x, hx⟩ => ⟨x, fun k hk => by rw [hx k hk]; exact comb_congr (fun _ _ => rfl) (fun i _ => (bsd_l m hk).symm)⟩⟩
  constructor
  · intro e
    rw [← hw]
    refine InSp.trans (n := s.r) (A := s.M) ⟨fun t => b (s.pv t), fun k hk => ?_⟩ (fun i hi => h.up (by have := h.rn; omega))
    have := e k hk
    unfold rst at this
    rw [if_pos hk] at this
    grind
  · intro hb k hk
    obtain ⟨x, hx⟩ := (hw.2 hb).trans (fun i hi => h.down hi)
    unfold rst
    rw [if_pos hk, hx k hk]
    have : comb s.r (fun t => b (s.pv t)) s.M k = comb s.r x s.M k := comb_congr (fun t ht => by rw [hx _ (h.lt t ht), comb_pivot h.isR ht]) (fun _ _ => rfl)
    rw [this]; grind
/-- The solution. -/
theorem solution {n cols : Nat} {m : Mt p} {s : St p} (h : Inv n cols (bsd cols m) s) (b : Nat → Fin p) (e : ∀ k, k < cols → rst cols s.r b s k = 0) {k : Nat} (hk : k < cols) :
    comb n (fun i => 0 - rst cols s.r b s (cols + i)) m k = b k := by
  obtain ⟨E', g⟩ := h.wide
  have e1 : ∀ i, i < n → 0 - rst cols s.r b s (cols + i) = comb s.r (fun t => b (s.pv t)) (rgt cols s.M) i := by
    intro i _
    unfold rst
    rw [if_neg (by omega)]
    show _ = comb s.r (fun t => b (s.pv t)) s.M (cols + i)
    grind
  rw [comb_congr (y := fun i => comb s.r (fun t => b (s.pv t)) (rgt cols s.M) i) (b := m) (fun i hi => e1 i hi) (fun _ _ => rfl), ← comb_comb]
  have e2 := e k hk
  unfold rst at e2
  rw [if_pos hk] at e2
  rw [comb_congr (y := fun t => b (s.pv t)) (b := s.M) (fun _ _ => rfl) (fun i hi => (g.fwd i k (by have := h.rn; omega) hk).symm)]
  grind

/-- The reduction looks at its own columns alone. -/
theorem run_cols (iv : Fin p → Fin p) {n cols : Nat} {m m' : Mt p} (h : ∀ i k, k < cols → m i k = m' i k) : ∀ c, c ≤ cols →
    (run iv n c (ini m)).r = (run iv n c (ini m')).r ∧ (run iv n c (ini m)).pv = (run iv n c (ini m')).pv ∧ (run iv n c (ini m)).dt = (run iv n c (ini m')).dt ∧
      ∀ i k, k < cols → (run iv n c (ini m)).M i k = (run iv n c (ini m')).M i k := by
  intro c
  induction c with
  | zero => intro _; exact ⟨rfl, rfl, rfl, h⟩
  | succ c ih =>
    intro hc
    obtain ⟨a1, a2, a3, a4⟩ := ih (by omega)
    rw [run_s, run_s]
    generalize run iv n c (ini m) = s at *
    generalize run iv n c (ini m') = s' at *
    obtain ⟨M, r, pv, dt⟩ := s
    obtain ⟨M', r', pv', dt'⟩ := s'
    dsimp only at a1 a2 a3 a4
    subst a1 a2 a3
    have ef : ∀ f i, fnd M c f i = fnd M' c f i := by
      intro f
      induction f with
      | zero => intro i; rfl
      | succ f ihf => intro i; rw [fnd_s, fnd_s, a4 i c (by omega), ihf]
    unfold stp
    dsimp only
    rw [ef]
    by_cases ht : fnd M' c (n - r) r < n
    · rw [if_pos ht, if_pos ht]
      dsimp only
      refine ⟨rfl, rfl, by rw [a4 _ c (by omega)], fun i k hk => ?_⟩
      unfold prw elm scl swp
      rw [a4 _ c (by omega)]
      grind
    · rw [if_neg ht, if_neg ht]
      exact ⟨rfl, rfl, rfl, a4⟩
/-- The rows behind the pivots are reduced as a matrix of their own. -/
theorem run_low (iv : Fin p → Fin p) {n cols : Nat} {m : Mt p} (hr : (run iv n cols (ini m)).r ≤ n) : ∀ c,
    (run iv n (cols + c) (ini m)).r = (run iv n cols (ini m)).r + (run iv (n - (run iv n cols (ini m)).r) c (ini (ker cols (run iv n cols (ini m)).r (run iv n cols (ini m)).M))).r ∧
    (∀ i, i < (run iv n cols (ini m)).r → (run iv n (cols + c) (ini m)).pv i = (run iv n cols (ini m)).pv i) ∧
    (∀ i, (run iv n (cols + c) (ini m)).pv ((run iv n cols (ini m)).r + i) = cols + (run iv (n - (run iv n cols (ini m)).r) c (ini (ker cols (run iv n cols (ini m)).r (run iv n cols (ini m)).M))).pv i ∨ (run iv (n - (run iv n cols (ini m)).r) c (ini (ker cols (run iv n cols (ini m)).r (run iv n cols (ini m)).M))).r ≤ i) ∧
    ∀ i k, (run iv n (cols + c) (ini m)).M ((run iv n cols (ini m)).r + i) (cols + k) = (run iv (n - (run iv n cols (ini m)).r) c (ini (ker cols (run iv n cols (ini m)).r (run iv n cols (ini m)).M))).M i k := by
  generalize hS : run iv n cols (ini m) = S at *
  intro c
  induction c with
  | zero => rw [Nat.add_zero, hS]; exact ⟨rfl, fun _ _ => rfl, fun i => .inr (Nat.zero_le _), fun _ _ => rfl⟩
  | succ c ih =>
    rw [← Nat.add_assoc, run_s, run_s]
    generalize run iv n (cols + c) (ini m) = s at *
    generalize run iv (n - S.r) c (ini (ker cols S.r S.M)) = t at *
    obtain ⟨M, r, pv, dt⟩ := s
    obtain ⟨N, q, qv, et⟩ := t
    dsimp only at ih
    obtain ⟨rfl, h1, h2, h3⟩ := ih
    have ef : ∀ f i, fnd M (cols + c) f (S.r + i) = S.r + fnd N c f i := by
      intro f
      induction f with
      | zero => intro i; rfl
      | succ f ihf =>
        intro i
        rw [fnd_s, fnd_s, h3]
        by_cases g : N i c = 0
        · rw [if_pos g, if_pos g]; exact ihf (i + 1)
        · rw [if_neg g, if_neg g]
    have e := ef (n - (S.r + q)) q
    unfold stp
    dsimp only
    rw [e, show n - S.r - q = n - (S.r + q) from by omega]
    generalize fnd N c (n - (S.r + q)) q = t at *
    by_cases ht : t < n - S.r
    · rw [if_pos ht, if_pos (by omega)]
      dsimp only
      refine ⟨by omega, fun i hi => by rw [if_neg (by omega)]; exact h1 i hi, fun i => ?_, fun i k => ?_⟩
      · by_cases hi : i = q
        · left; rw [if_pos hi, if_pos (by omega)]
        · rw [if_neg hi, if_neg (by omega)]
          rcases h2 i with g | g
          · exact .inl g
          · right; omega
      · unfold prw elm scl swp
        rw [h3]
        have e1 : ∀ a b : Nat, (S.r + a = S.r + b) = (a = b) := fun a b => propext ⟨fun h => by omega, fun h => by omega⟩
        simp only [e1, if_true]
        grind
    · rw [if_neg ht, if_neg (by omega)]
      exact ⟨rfl, h1, h2, h3⟩
end
end Go.Proofs.Ytcjpjnneimjfiaa
namespace Go.Proofs.Ytcjpjnneimjfiaa
section
variable {p : Nat} [NeZero p]

/-- The matrix without its first row and column k. -/
def mnr (k : Nat) (X : Mt p) : Mt p := fun i j => X (i + 1) (if j < k then j else j + 1)
def lap (n : Nat) : Mt p → Fin p := Nat.rec (fun _ => 1) (fun n D X => sm (n + 1) (fun k => if k % 2 = 1 then 0 - D (mnr k X) * X 0 k else D (mnr k X) * X 0 k)) n
theorem lap_0 (X : Mt p) : lap 0 X = 1 := rfl
theorem lap_s (n : Nat) (X : Mt p) : lap (n + 1) X = sm (n + 1) (fun k => if k % 2 = 1 then 0 - lap n (mnr k X) * X 0 k else lap n (mnr k X) * X 0 k) := rfl
theorem lap_1 (X : Mt p) : lap 1 X = X 0 0 := by
  rw [lap_s]; simp [sm_s, sm_0, lap_0]; grind
theorem lap_2 (X : Mt p) : lap 2 X = X 0 0 * X 1 1 - X 0 1 * X 1 0 := by
  rw [lap_s]; simp [sm_s, sm_0, lap_1, mnr]; grind
theorem lap_3 (X : Mt p) : lap 3 X = X 0 0 * (X 1 1 * X 2 2 - X 1 2 * X 2 1) - X 0 1 * (X 1 0 * X 2 2 - X 1 2 * X 2 0) + X 0 2 * (X 1 0 * X 2 1 - X 1 1 * X 2 0) := by
  rw [lap_s]; simp [sm_s, sm_0, lap_2, mnr]; grind
theorem lap_4 (X : Mt p) : lap 4 X =
    X 0 0 * (X 1 1 * (X 2 2 * X 3 3 - X 2 3 * X 3 2) - X 1 2 * (X 2 1 * X 3 3 - X 2 3 * X 3 1) + X 1 3 * (X 2 1 * X 3 2 - X 2 2 * X 3 1))
    - X 0 1 * (X 1 0 * (X 2 2 * X 3 3 - X 2 3 * X 3 2) - X 1 2 * (X 2 0 * X 3 3 - X 2 3 * X 3 0) + X 1 3 * (X 2 0 * X 3 2 - X 2 2 * X 3 0))
    + X 0 2 * (X 1 0 * (X 2 1 * X 3 3 - X 2 3 * X 3 1) - X 1 1 * (X 2 0 * X 3 3 - X 2 3 * X 3 0) + X 1 3 * (X 2 0 * X 3 1 - X 2 1 * X 3 0))
    - X 0 3 * (X 1 0 * (X 2 1 * X 3 2 - X 2 2 * X 3 1) - X 1 1 * (X 2 0 * X 3 2 - X 2 2 * X 3 0) + X 1 2 * (X 2 0 * X 3 1 - X 2 1 * X 3 0)) := by
  rw [lap_s]; simp [sm_s, sm_0, lap_3, mnr]; grind

theorem lt4 {r n : Nat} (h : r < n) (hn : n ≤ 4) : r = 0 ∨ r = 1 ∨ r = 2 ∨ r = 3 := by omega
theorem le4 {n : Nat} (hn : n ≤ 4) : n = 0 ∨ n = 1 ∨ n = 2 ∨ n = 3 ∨ n = 4 := by omega
theorem lap_congr {n : Nat} (hn : n ≤ 4) {X Y : Mt p} (h : ∀ i k, i < n → k < n → X i k = Y i k) : lap n X = lap n Y := by
  rcases le4 hn with rfl | rfl | rfl | rfl | rfl
  · rfl
  · rw [lap_1, lap_1, h 0 0 (by omega) (by omega)]
  · rw [lap_2, lap_2, h 0 0 (by omega) (by omega), h 0 1 (by omega) (by omega), h 1 0 (by omega) (by omega), h 1 1 (by omega) (by omega)]
  · rw [lap_3, lap_3, h 0 0 (by omega) (by omega), h 0 1 (by omega) (by omega), h 0 2 (by omega) (by omega), h 1 0 (by omega) (by omega), h 1 1 (by omega) (by omega), h 1 2 (by omega) (by omega), h 2 0 (by omega) (by omega), h 2 1 (by omega) (by omega), h 2 2 (by omega) (by omega)]
  · rw [lap_4, lap_4, h 0 0 (by omega) (by omega), h 0 1 (by omega) (by omega), h 0 2 (by omega) (by omega), h 0 3 (by omega) (by omega), h 1 0 (by omega) (by omega), h 1 1 (by omega) (by omega), h 1 2 (by omega) (by omega), h 1 3 (by omega) (by omega), h 2 0 (by omega) (by omega), h 2 1 (by omega) (by omega), h 2 2 (by omega) (by omega), h 2 3 (by omega) (by omega), h 3 0 (by omega) (by omega), h 3 1 (by omega) (by omega), h 3 2 (by omega) (by omega), h 3 3 (by omega) (by omega)]
theorem lap_trp {n : Nat} (hn : n ≤ 4) (X : Mt p) : lap n (trp X) = lap n X := by
  rcases le4 hn with rfl | rfl | rfl | rfl | rfl
  · rfl
  · rw [lap_1, lap_1]; rfl
  · rw [lap_2, lap_2]; simp only [trp]; grind
  · rw [lap_3, lap_3]; simp only [trp]; grind
  · rw [lap_4, lap_4]; simp only [trp]; grind
theorem lap_idm {n : Nat} (hn : n ≤ 4) : lap n (idm : Mt p) = 1 := by
  rcases le4 hn with rfl | rfl | rfl | rfl | rfl
  · rfl
  · rw [lap_1]; rfl
  · rw [lap_2]; simp [idm]; grind
  · rw [lap_3]; simp [idm]; grind
  · rw [lap_4]; simp [idm]; grind
theorem lap_row0 {n r : Nat} (hn : n ≤ 4) (hr : r < n) {X : Mt p} (h : ∀ k, k < n → X r k = 0) : lap n X = 0 := by
  rcases le4 hn with rfl | rfl | rfl | rfl | rfl
  · omega
  · rcases lt4 hr (by omega) with rfl | rfl | rfl | rfl <;> first | omega | (rw [lap_1, h 0 (by omega)])
  · rcases lt4 hr (by omega) with rfl | rfl | rfl | rfl <;> first | omega | (rw [lap_2, h 0 (by omega), h 1 (by omega)]; grind)
  · rcases lt4 hr (by omega) with rfl | rfl | rfl | rfl <;> first | omega | (rw [lap_3, h 0 (by omega), h 1 (by omega), h 2 (by omega)]; grind)
  · rcases lt4 hr (by omega) with rfl | rfl | rfl | rfl <;> first | omega | (rw [lap_4, h 0 (by omega), h 1 (by omega), h 2 (by omega), h 3 (by omega)]; grind)
theorem lap_scl {n r : Nat} (hn : n ≤ 4) (hr : r < n) (u : Fin p) (X : Mt p) : lap n (scl r u X) = lap n X * u := by
  rcases le4 hn with rfl | rfl | rfl | rfl | rfl
  · omega
  · rcases lt4 hr (by omega) with rfl | rfl | rfl | rfl <;> first | omega | (rw [lap_1, lap_1]; simp [scl])
  · rcases lt4 hr (by omega) with rfl | rfl | rfl | rfl <;> first | omega | (rw [lap_2, lap_2]; simp [scl]; grind)
  · rcases lt4 hr (by omega) with rfl | rfl | rfl | rfl <;> first | omega | (rw [lap_3, lap_3]; simp [scl]; grind)
  · rcases lt4 hr (by omega) with rfl | rfl | rfl | rfl <;> first | omega | (rw [lap_4, lap_4]; simp [scl]; grind)
theorem lap_swp {n r t : Nat} (hn : n ≤ 4) (hr : r < n) (ht : t < n) (hne : r ≠ t) (X : Mt p) : lap n (swp r t X) = 0 - lap n X := by
  rcases le4 hn with rfl | rfl | rfl | rfl | rfl
  · omega
  · omega
  · rcases lt4 hr (by omega) with rfl | rfl | rfl | rfl <;> rcases lt4 ht (by omega) with rfl | rfl | rfl | rfl <;> first | omega | (rw [lap_2, lap_2]; simp [swp]; grind)
  · rcases lt4 hr (by omega) with rfl | rfl | rfl | rfl <;> rcases lt4 ht (by omega) with rfl | rfl | rfl | rfl <;> first | omega | (rw [lap_3, lap_3]; simp [swp]; grind)
  · rcases lt4 hr (by omega) with rfl | rfl | rfl | rfl <;> rcases lt4 ht (by omega) with rfl | rfl | rfl | rfl <;> first | omega | (rw [lap_4, lap_4]; simp [swp]; grind)
/-- Row j with a multiple of row r taken away. -/
def one_elm (r j : Nat) (a : Fin p) (X : Mt p) : Mt p := fun i k => if i = j then X i k - a * X r k else X i k
theorem lap_one {n r j : Nat} (hn : n ≤ 4) (hr : r < n) (hj : j < n) (hne : r ≠ j) (a : Fin p) (X : Mt p) : lap n (one_elm r j a X) = lap n X := by
  rcases le4 hn with rfl | rfl | rfl | rfl | rfl
  · omega
  · omega
  · rcases lt4 hr (by omega) with rfl | rfl | rfl | rfl <;> rcases lt4 hj (by omega) with rfl | rfl | rfl | rfl <;> first | omega | (rw [lap_2, lap_2]; simp [one_elm]; grind)
  · rcases lt4 hr (by omega) with rfl | rfl | rfl | rfl <;> rcases lt4 hj (by omega) with rfl | rfl | rfl | rfl <;> first | omega | (rw [lap_3, lap_3]; simp [one_elm]; grind)
  · rcases lt4 hr (by omega) with rfl | rfl | rfl | rfl <;> rcases lt4 hj (by omega) with rfl | rfl | rfl | rfl <;> first | omega | (rw [lap_4, lap_4]; simp [one_elm]; grind)
def elm_to (r : Nat) (a : Nat → Fin p) (c : Nat) (X : Mt p) : Mt p := fun i k => if i < c then elm r a X i k else X i k
theorem lap_elm {n r : Nat} (hn : n ≤ 4) (hr : r < n) (a : Nat → Fin p) (X : Mt p) : lap n (elm r a X) = lap n X := by
  have h : ∀ c, c ≤ n → lap n (elm_to r a c X) = lap n X := by
    intro c
    induction c with
    | zero => intro _; exact lap_congr hn (fun i k _ _ => by unfold elm_to; rw [if_neg (by omega)])
    | succ c ih =>
      intro hc
      rw [← ih (by omega)]
      by_cases hcr : c = r
      · exact lap_congr hn (fun i k _ _ => by unfold elm_to elm; grind)
      · rw [← lap_one hn hr (show c < n by omega) (Ne.symm hcr) (a c) (elm_to r a c X)]
        exact lap_congr hn (fun i k _ _ => by unfold elm_to one_elm elm; grind)
  rw [← h n (Nat.le_refl _)]
  exact lap_congr hn (fun i k hi _ => by unfold elm_to; rw [if_pos hi])
theorem lap_like {n : Nat} (hn : n ≤ 4) : DetLike n (lap n : Mt p → Fin p) :=
  ⟨fun X _ _ hr ht hne => lap_swp hn hr ht hne X, fun X _ u hr => lap_scl hn hr u X, fun X _ a hr => lap_elm hn hr a X⟩
/-- The determinant of a product, as a function of the left factor. -/
theorem lap_mul_like {n : Nat} (hn : n ≤ 4) (B : Mt p) : DetLike n (fun A : Mt p => lap n (mm n A B)) := by
  refine ⟨fun X r t hr ht hne => ?_, fun X r u hr => ?_, fun X r a hr => ?_⟩
  · rw [← lap_swp hn hr ht hne]; exact lap_congr hn (fun i k _ _ => by unfold mm swp; grind)
  · rw [← lap_scl hn hr]; exact lap_congr hn (fun i k _ _ => mm_scl _ _ _ _ _ _ _)
  · rw [← lap_elm hn hr a (mm n X B)]; exact lap_congr hn (fun i k _ _ => mm_elm _ _ _ _ _ _ _)

/-- What Det answers. -/
def detOf (n : Nat) (s : St p) : Fin p := if s.r < n then 0 else s.dt
theorem full_idm {n : Nat} {m : Mt p} {s : St p} (h : Inv n n m s) (hr : s.r = n) : ∀ i k, i < n → k < n → s.M i k = idm i k := by
  have hpv : ∀ i, i < n → s.pv i = i := by
    intro i hi
    have e : ∀ j, j < n → j ≤ s.pv j := by
      intro j
      induction j with
      | zero => intro _; exact Nat.zero_le _
      | succ j ih => intro hj; have := ih (by omega); have := h.mono j (j + 1) (by omega) (by omega); omega
    have e2 : ∀ d, ∀ j, j + d + 1 = n → s.pv j ≤ j := by
      intro d
      induction d with
      | zero => intro j hj; have := h.lt j (by omega); omega
      | succ d ih => intro j hj; have := ih (j + 1) (by omega); have := h.mono j (j + 1) (by omega) (by omega); omega
    have := e i hi
    have := e2 (n - 1 - i) i (by omega)
    omega
  intro i k hi hk
  unfold idm
  by_cases e : i = k
  · subst e; rw [if_pos rfl]; have := h.one i (by omega); rwa [hpv i hi] at this
  · rw [if_neg e]; have := h.col k i (by omega) hi e; rwa [hpv k hk] at this
theorem det_like {n : Nat} (hn : n ≤ 4) {m : Mt p} {s : St p} (h : Inv n n m s) {D : Mt p → Fin p} (hD : DetLike n D) (hc : ∀ X Y : Mt p, (∀ i k, i < n → k < n → X i k = Y i k) → D X = D Y)
    (h0 : ∀ X : Mt p, ∀ i, i < n → (∀ k, k < n → X i k = 0) → D X = 0) : D m = detOf n s * D idm := by
  rw [h.det D hD]
  unfold detOf
  have := h.rn
  by_cases hr : s.r < n
  · rw [if_pos hr, h0 s.M (n - 1) (by omega) (fun k hk => h.zero _ k (by omega) (by omega) hk)]; grind
  · rw [if_neg hr, hc _ _ (full_idm h (by omega))]
theorem det_lap {n : Nat} (hn : n ≤ 4) {m : Mt p} {s : St p} (h : Inv n n m s) : detOf n s = lap n m := by
  rw [det_like hn h (lap_like hn) (fun X Y e => lap_congr hn e) (fun X i hi e => lap_row0 hn hi e), lap_idm hn]; grind
theorem lap_mul {n : Nat} (hn : n ≤ 4) {iv : Fin p → Fin p} (hiv : ∀ a : Fin p, a ≠ 0 → a * iv a = 1) (A B : Mt p) : lap n (mm n A B) = lap n A * lap n B := by
  have h := run_inv hiv n n A
  rw [det_like hn h (lap_mul_like hn B) (fun X Y e => lap_congr hn (fun i k hi hk => mm_congr (fun j hj => e i j hi hj) (fun _ _ => rfl)))
    (fun X i hi e => lap_row0 hn hi (fun k hk => sm_zero (fun j hj => by rw [e j hj]; exact zmul _))), det_lap hn h]
  congr 1
  exact lap_congr hn (fun i k hi _ => mm_idl B k hi)
theorem dt_ne (hp : 1 < p) {iv : Fin p → Fin p} (hiv : ∀ a : Fin p, a ≠ 0 → a * iv a = 1) (n c : Nat) (m : Mt p) : (run iv n c (ini m)).dt ≠ 0 := by
  have nz : ∀ a b : Fin p, a ≠ 0 → b ≠ 0 → a * b ≠ 0 := by
    intro a b ha hb h
    have h1 := hiv a ha
    refine hb ?_
    have : iv a * (a * b) = 0 := by rw [h]; grind
    grind
  induction c with
  | zero => exact ne10 hp
  | succ c ih =>
    rw [run_s]
    generalize hS : run iv n c (ini m) = s at *
    have hI : Inv n c m s := hS ▸ run_inv hiv n c m
    obtain ⟨g1, g2, g3, g4⟩ := fnd_spec s.M c (n - s.r) s.r
    have hrn := hI.rn
    unfold stp
    by_cases ht : fnd s.M c (n - s.r) s.r < n
    · rw [if_pos ht]
      dsimp only
      refine nz _ _ ?_ (g4 (by omega))
      split
      · exact ih
      · intro e; exact ih (by grind)
    · rw [if_neg ht]; exact ih
end
end Go.Proofs.Ytcjpjnneimjfiaa
