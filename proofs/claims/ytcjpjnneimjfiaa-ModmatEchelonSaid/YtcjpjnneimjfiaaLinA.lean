/-
  Linear algebra over the numbers modulo p, in plain Lean: sums, products of matrices, invertible combinations of rows.
-/
namespace Go.Proofs.Ytcjpjnneimjfiaa
section
variable {p : Nat} [NeZero p]
def sm (n : Nat) (f : Nat → Fin p) : Fin p := Nat.rec 0 (fun i s => s + f i) n
theorem sm_0 (f : Nat → Fin p) : sm 0 f = 0 := rfl
theorem sm_s (n : Nat) (f : Nat → Fin p) : sm (n+1) f = sm n f + f n := rfl
theorem sm_congr {n : Nat} {f g : Nat → Fin p} (h : ∀ i, i < n → f i = g i) : sm n f = sm n g := by
  induction n with
  | zero => rfl
  | succ n ih => rw [sm_s, sm_s, ih (fun i hi => h i (by omega)), h n (by omega)]
theorem sm_zero {n : Nat} {f : Nat → Fin p} (h : ∀ i, i < n → f i = 0) : sm n f = 0 := by
  induction n with
  | zero => rfl
  | succ n ih => rw [sm_s, ih (fun i hi => h i (by omega)), h n (by omega)]; grind
theorem sm_add (n : Nat) (f g : Nat → Fin p) : sm n (fun i => f i + g i) = sm n f + sm n g := by
  induction n with
  | zero => simp only [sm_0]; grind
  | succ n ih => simp only [sm_s, ih]; grind
theorem sm_mul (n : Nat) (c : Fin p) (f : Nat → Fin p) : sm n (fun i => c * f i) = c * sm n f := by
  induction n with
  | zero => simp only [sm_0]; grind
  | succ n ih => simp only [sm_s, ih]; grind
theorem sm_mulr (n : Nat) (c : Fin p) (f : Nat → Fin p) : sm n (fun i => f i * c) = sm n f * c := by
  induction n with
  | zero => simp only [sm_0]; grind
  | succ n ih => simp only [sm_s, ih]; grind
theorem sm_sub (n : Nat) (f g : Nat → Fin p) : sm n (fun i => f i - g i) = sm n f - sm n g := by
  induction n with
  | zero => simp only [sm_0]; grind
  | succ n ih => simp only [sm_s, ih]; grind
theorem sm_comm (n m : Nat) (f : Nat → Nat → Fin p) : sm n (fun i => sm m (fun j => f i j)) = sm m (fun j => sm n (fun i => f i j)) := by
  induction n with
  | zero => simp only [sm_0]; exact (sm_zero (fun _ _ => rfl)).symm
  | succ n ih => simp only [sm_s, ih, sm_add]
theorem sm_one {n j : Nat} {f : Nat → Fin p} (hj : j < n) (h : ∀ i, i < n → i ≠ j → f i = 0) : sm n f = f j := by
  induction n with
  | zero => omega
  | succ n ih =>
    rw [sm_s]
    rcases Nat.lt_or_ge j n with g | g
    · rw [ih g (fun i hi => h i (by omega)), h n (by omega) (by omega)]; grind
    · obtain rfl : j = n := by omega
      rw [sm_zero (fun i hi => h i (by omega) (by omega))]; grind
theorem sm_split (a b : Nat) (f : Nat → Fin p) : sm (a + b) f = sm a f + sm b (fun i => f (a + i)) := by
  induction b with
  | zero => simp only [sm_0, Nat.add_zero]; grind
  | succ b ih => rw [← Nat.add_assoc, sm_s, sm_s, ih]; grind

abbrev Mt (p : Nat) := Nat → Nat → Fin p
def mm (n : Nat) (A B : Mt p) : Mt p := fun i k => sm n (fun j => A i j * B j k)
def idm : Mt p := fun i k => if i = k then 1 else 0
theorem mm_assoc (n m : Nat) (A B C : Mt p) (i k : Nat) : mm n (mm m A B) C i k = mm m A (mm n B C) i k := by
  unfold mm
  rw [show (fun j => sm m (fun j_1 => A i j_1 * B j_1 j) * C j k) = (fun j => sm m (fun j_1 => A i j_1 * B j_1 j * C j k)) from funext fun j => (sm_mulr _ _ _).symm]
  rw [sm_comm]
  refine sm_congr (fun j _ => ?_)
  rw [← sm_mul]
  exact sm_congr (fun l _ => by grind)
theorem mm_idl {n i : Nat} (A : Mt p) (k : Nat) (h : i < n) : mm n idm A i k = A i k := by
  unfold mm
  rw [sm_one h (fun j _ hj => by simp only [idm, if_neg (Ne.symm hj)]; grind)]
  simp only [idm, if_true]; grind
theorem mm_idr {n k : Nat} (A : Mt p) (i : Nat) (h : k < n) : mm n A idm i k = A i k := by
  unfold mm
  rw [sm_one h (fun j _ hj => by simp only [idm, if_neg hj]; grind)]
  simp only [idm, if_true]; grind
theorem mm_congr {n i k : Nat} {A B C D : Mt p} (h1 : ∀ j, j < n → A i j = C i j) (h2 : ∀ j, j < n → B j k = D j k) : mm n A B i k = mm n C D i k :=
  sm_congr (fun j hj => by rw [h1 j hj, h2 j hj])

/-- Two matrices of n rows: each is an invertible combination of the other. -/
def Eqv (n : Nat) (m M E E' : Mt p) : Prop :=
  (∀ i k, i < n → M i k = mm n E m i k) ∧ (∀ i k, i < n → m i k = mm n E' M i k) ∧
  (∀ i k, i < n → k < n → mm n E E' i k = idm i k) ∧ (∀ i k, i < n → k < n → mm n E' E i k = idm i k)
theorem Eqv.refl (n : Nat) (m : Mt p) : Eqv n m m idm idm :=
  ⟨fun _ _ h => (mm_idl _ _ h).symm, fun _ _ h => (mm_idl _ _ h).symm, fun _ _ h _ => mm_idl _ _ h, fun _ _ h _ => mm_idl _ _ h⟩
theorem Eqv.trans {n : Nat} {a b c E E' F F' : Mt p} (h : Eqv n a b E E') (g : Eqv n b c F F') : Eqv n a c (mm n F E) (mm n E' F') := by
  obtain ⟨h1, h2, h3, h4⟩ := h
  obtain ⟨g1, g2, g3, g4⟩ := g
  refine ⟨fun i k hi => ?_, fun i k hi => ?_, fun i k hi hk => ?_, fun i k hi hk => ?_⟩
  · rw [g1 i k hi, mm_assoc]; exact mm_congr (fun _ _ => rfl) (fun j hj => h1 j k hj)
  · rw [h2 i k hi, mm_assoc]; exact mm_congr (fun _ _ => rfl) (fun j hj => g2 j k hj)
  · rw [mm_assoc, mm_congr (C := F) (D := F') (fun _ _ => rfl) (fun j hj => ?_), g3 i k hi hk]
    rw [← mm_assoc, mm_congr (C := idm) (D := F') (fun l hl => h3 j l hj hl) (fun _ _ => rfl), mm_idl _ _ hj]
  · rw [mm_assoc, mm_congr (C := E') (D := E) (fun _ _ => rfl) (fun j hj => ?_), h4 i k hi hk]
    rw [← mm_assoc, mm_congr (C := idm) (D := E) (fun l hl => g4 j l hj hl) (fun _ _ => rfl), mm_idl _ _ hj]
/-- A row operation and its inverse. -/
theorem Eqv.op {n : Nat} (m : Mt p) (f g : Mt p → Mt p) (hf : ∀ X Y : Mt p, ∀ i k, i < n → mm n (f X) Y i k = f (mm n X Y) i k) (hg : ∀ X Y : Mt p, ∀ i k, i < n → mm n (g X) Y i k = g (mm n X Y) i k)
    (cf : ∀ X Y : Mt p, (∀ j l, j < n → X j l = Y j l) → ∀ i k, i < n → f X i k = f Y i k) (cg : ∀ X Y : Mt p, (∀ j l, j < n → X j l = Y j l) → ∀ i k, i < n → g X i k = g Y i k)
    (hfg : ∀ X : Mt p, ∀ i k, i < n → f (g X) i k = X i k) (hgf : ∀ X : Mt p, ∀ i k, i < n → g (f X) i k = X i k) : Eqv n m (f m) (f idm) (g idm) := by
  have e1 : ∀ X : Mt p, ∀ i k, i < n → mm n (f idm) X i k = f X i k := fun X i k hi => by rw [hf _ _ _ _ hi]; exact cf _ _ (fun j l hj => mm_idl _ _ hj) i k hi
  have e2 : ∀ X : Mt p, ∀ i k, i < n → mm n (g idm) X i k = g X i k := fun X i k hi => by rw [hg _ _ _ _ hi]; exact cg _ _ (fun j l hj => mm_idl _ _ hj) i k hi
  refine ⟨fun i k hi => (e1 _ _ _ hi).symm, fun i k hi => ?_, fun i k hi hk => ?_, fun i k hi hk => ?_⟩
  · rw [e2 _ _ _ hi, hgf _ _ _ hi]
  · rw [e1 _ _ _ hi, hfg _ _ _ hi]
  · rw [e2 _ _ _ hi, hgf _ _ _ hi]
end
end Go.Proofs.Ytcjpjnneimjfiaa
