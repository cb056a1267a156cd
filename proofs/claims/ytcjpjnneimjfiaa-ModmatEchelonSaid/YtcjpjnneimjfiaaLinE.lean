/-
  Determinants of at most 4 rows by expansion along the first row; in plain Lean.
-/
import Derived.Test.YtcjpjnneimjfiaaLinD
namespace Go.Proofs.Ytcjpjnneimjfiaa
section
variable {p : Nat} [NeZero p]

/-- The matrix without its first row and column k. -/
def mnr (k : Nat) (X : Mt p) : Mt p := fun i j => X (i + 1) (if j < k then j else j + 1)
def lap (n : Nat) : Mt p → Fin p := Nat.rec (fun _ => 1) (fun n D X => sm (n + 1) (fun k => if k % 2 = 1 then 0 - D (mnr k X) * X 0 k else D (mnr k X) * X 0 k)) n
theorem lap_0 (X : Mt p) : lap 0 X = 1 := rfl
theorem lap_s (n : Nat) (X : Mt p) : lap (n + 1) X = sm (n + 1) (fun k => if k % 2 = 1 then 0 - lap n (mnr k X) * X 0 k else lap n (mnr k X) * X 0 k) := rfl
theorem lap_1 (X : Mt p) : lap 1 X = X 0 0 := by
  rw [lap_s]; simp [sm_s, sm_0, lap_0]; grind
theorem lap_2 (X : Mt p) : lap 2 X = X 0 0 * X 1 1 - X 0 1 * X 1 0 := by
  rw [lap_s]; simp [sm_s, sm_0, lap_1, mnr]; grind
theorem lap_3 (X : Mt p) : lap 3 X = X 0 0 * (X 1 1 * X 2 2 - X 1 2 * X 2 1) - X 0 1 * (X 1 0 * X 2 2 - X 1 2 * X 2 0) + X 0 2 * (X 1 0 * X 2 1 - X 1 1 * X 2 0) := by
  rw [lap_s]; simp [sm_s, sm_0, lap_2, mnr]; grind
theorem lap_4 (X : Mt p) : lap 4 X =
    X 0 0 * (X 1 1 * (X 2 2 * X 3 3 - X 2 3 * X 3 2) - X 1 2 * (X 2 1 * X 3 3 - X 2 3 * X 3 1) + X 1 3 * (X 2 1 * X 3 2 - X 2 2 * X 3 1))
    - X 0 1 * (X 1 0 * (X 2 2 * X 3 3 - X 2 3 * X 3 2) - X 1 2 * (X 2 0 * X 3 3 - X 2 3 * X 3 0) + X 1 3 * (X 2 0 * X 3 2 - X 2 2 * X 3 0))
    + X 0 2 * (X 1 0 * (X 2 1 * X 3 3 - X 2 3 * X 3 1) - X 1 1 * (X 2 0 * X 3 3 - X 2 3 * X 3 0) + X 1 3 * (X 2 0 * X 3 1 - X 2 1 * X 3 0))
    - X 0 3 * (X 1 0 * (X 2 1 * X 3 2 - X 2 2 * X 3 1) - X 1 1 * (X 2 0 * X 3 2 - X 2 2 * X 3 0) + X 1 2 * (X 2 0 * X 3 1 - X 2 1 * X 3 0)) := by
  rw [lap_s]; simp [sm_s, sm_0, lap_3, mnr]; grind

theorem lt4 {r n : Nat} (h : r < n) (hn : n ≤ 4) : r = 0 ∨ r = 1 ∨ r = 2 ∨ r = 3 := by omega
theorem le4 {n : Nat} (hn : n ≤ 4) : n = 0 ∨ n = 1 ∨ n = 2 ∨ n = 3 ∨ n = 4 := by omega
theorem lap_congr {n : Nat} (hn : n ≤ 4) {X Y : Mt p} (h : ∀ i k, i < n → k < n → X i k = Y i k) : lap n X = lap n Y := by
  rcases le4 hn with rfl | rfl | rfl | rfl | rfl
  · rfl
  · rw [lap_1, lap_1, h 0 0 (by omega) (by omega)]
  · rw [lap_2, lap_2, h 0 0 (by omega) (by omega), h 0 1 (by omega) (by omega), h 1 0 (by omega) (by omega), h 1 1 (by omega) (by omega)]
  · rw [lap_3, lap_3, h 0 0 (by omega) (by omega), h 0 1 (by omega) (by omega), h 0 2 (by omega) (by omega), h 1 0 (by omega) (by omega), h 1 1 (by omega) (by omega), h 1 2 (by omega) (by omega), h 2 0 (by omega) (by omega), h 2 1 (by omega) (by omega), h 2 2 (by omega) (by omega)]
  · rw [lap_4, lap_4, h 0 0 (by omega) (by omega), h 0 1 (by omega) (by omega), h 0 2 (by omega) (by omega), h 0 3 (by omega) (by omega), h 1 0 (by omega) (by omega), h 1 1 (by omega) (by omega), h 1 2 (by omega) (by omega), h 1 3 (by omega) (by omega), h 2 0 (by omega) (by omega), h 2 1 (by omega) (by omega), h 2 2 (by omega) (by omega), h 2 3 (by omega) (by omega), h 3 0 (by omega) (by omega), h 3 1 (by omega) (by omega), h 3 2 (by omega) (by omega), h 3 3 (by omega) (by omega)]
theorem lap_trp {n : Nat} (hn : n ≤ 4) (X : Mt p) : lap n (trp X) = lap n X := by
  rcases le4 hn with rfl | rfl | rfl | rfl | rfl
  · rfl
  · rw [lap_1, lap_1]; rfl
  · rw [lap_2, lap_2]; simp only [trp]; grind
  · rw [lap_3, lap_3]; simp only [trp]; grind
  · rw [lap_4, lap_4]; simp only [trp]; grind
theorem lap_idm {n : Nat} (hn : n ≤ 4) : lap n (idm : Mt p) = 1 := by
  rcases le4 hn with rfl | rfl | rfl | rfl | rfl
  · rfl
  · rw [lap_1]; rfl
  · rw [lap_2]; simp [idm]; grind
  · rw [lap_3]; simp [idm]; grind
  · rw [lap_4]; simp [idm]; grind
theorem lap_row0 {n r : Nat} (hn : n ≤ 4) (hr : r < n) {X : Mt p} (h : ∀ k, k < n → X r k = 0) : lap n X = 0 := by
  rcases le4 hn with rfl | rfl | rfl | rfl | rfl
  · omega
  · rcases lt4 hr (by omega) with rfl | rfl | rfl | rfl <;> first | omega | (rw [lap_1, h 0 (by omega)])
  · rcases lt4 hr (by omega) with rfl | rfl | rfl | rfl <;> first | omega | (rw [lap_2, h 0 (by omega), h 1 (by omega)]; grind)
  · rcases lt4 hr (by omega) with rfl | rfl | rfl | rfl <;> first | omega | (rw [lap_3, h 0 (by omega), h 1 (by omega), h 2 (by omega)]; grind)
  · rcases lt4 hr (by omega) with rfl | rfl | rfl | rfl <;> first | omega | (rw [lap_4, h 0 (by omega), h 1 (by omega), h 2 (by omega), h 3 (by omega)]; grind)
theorem lap_scl {n r : Nat} (hn : n ≤ 4) (hr : r < n) (u : Fin p) (X : Mt p) : lap n (scl r u X) = lap n X * u := by
  rcases le4 hn with rfl | rfl | rfl | rfl | rfl
  · omega
  · rcases lt4 hr (by omega) with rfl | rfl | rfl | rfl <;> first | omega | (rw [lap_1, lap_1]; simp [scl])
  · rcases lt4 hr (by omega) with rfl | rfl | rfl | rfl <;> first | omega | (rw [lap_2, lap_2]; simp [scl]; grind)
  · rcases lt4 hr (by omega) with rfl | rfl | rfl | rfl <;> first | omega | (rw [lap_3, lap_3]; simp [scl]; grind)
  · rcases lt4 hr (by omega) with rfl | rfl | rfl | rfl <;> first | omega | (rw [lap_4, lap_4]; simp [scl]; grind)
theorem lap_swp {n r t : Nat} (hn : n ≤ 4) (hr : r < n) (ht : t < n) (hne : r ≠ t) (X : Mt p) : lap n (swp r t X) = 0 - lap n X := by
  rcases le4 hn with rfl | rfl | rfl | rfl | rfl
  · omega
  · omega
  · rcases lt4 hr (by omega) with rfl | rfl | rfl | rfl <;> rcases lt4 ht (by omega) with rfl | rfl | rfl | rfl <;> first | omega | (rw [lap_2, lap_2]; simp [swp]; grind)
  · rcases lt4 hr (by omega) with rfl | rfl | rfl | rfl <;> rcases lt4 ht (by omega) with rfl | rfl | rfl | rfl <;> first | omega | (rw [lap_3, lap_3]; simp [swp]; grind)
  · rcases lt4 hr (by omega) with rfl | rfl | rfl | rfl <;> rcases lt4 ht (by omega) with rfl | rfl | rfl | rfl <;> first | omega | (rw [lap_4, lap_4]; simp [swp]; grind)
/-- Row j with a multiple of row r taken away. -/
def one_elm (r j : Nat) (a : Fin p) (X : Mt p) : Mt p := fun i k => if i = j then X i k - a * X r k else X i k
theorem lap_one {n r j : Nat} (hn : n ≤ 4) (hr : r < n) (hj : j < n) (hne : r ≠ j) (a : Fin p) (X : Mt p) : lap n (one_elm r j a X) = lap n X := by
  rcases le4 hn with rfl | rfl | rfl | rfl | rfl
  · omega
  · omega
  · rcases lt4 hr (by omega) with rfl | rfl | rfl | rfl <;> rcases lt4 hj (by omega) with rfl | rfl | rfl | rfl <;> first | omega | (rw [lap_2, lap_2]; simp [one_elm]; grind)
  · rcases lt4 hr (by omega) with rfl | rfl | rfl | rfl <;> rcases lt4 hj (by omega) with rfl | rfl | rfl | rfl <;> first | omega | (rw [lap_3, lap_3]; simp [one_elm]; grind)
  · rcases lt4 hr (by omega) with rfl | rfl | rfl | rfl <;> rcases lt4 hj (by omega) with rfl | rfl | rfl | rfl <;> first | omega | (rw [lap_4, lap_4]; simp [one_elm]; grind)
def elm_to (r : Nat) (a : Nat → Fin p) (c : Nat) (X : Mt p) : Mt p := fun i k => if i < c then elm r a X i k else X i k
theorem lap_elm {n r : Nat} (hn : n ≤ 4) (hr : r < n) (a : Nat → Fin p) (X : Mt p) : lap n (elm r a X) = lap n X := by
  have h : ∀ c, c ≤ n → lap n (elm_to r a c X) = lap n X := by
    intro c
    induction c with
    | zero => intro _; exact lap_congr hn (fun i k _ _ => by unfold elm_to; rw [if_neg (by omega)])
    | succ c ih =>
      intro hc
      rw [← ih (by omega)]
      by_cases hcr : c = r
      · exact lap_congr hn (fun i k _ _ => by unfold elm_to elm; grind)
      · rw [← lap_one hn hr (show c < n by omega) (Ne.symm hcr) (a c) (elm_to r a c X)]
        exact lap_congr hn (fun i k _ _ => by unfold elm_to one_elm elm; grind)
  rw [← h n (Nat.le_refl _)]
  exact lap_congr hn (fun i k hi _ => by unfold elm_to; rw [if_pos hi])
theorem lap_like {n : Nat} (hn : n ≤ 4) : DetLike n (lap n : Mt p → Fin p) :=
  ⟨fun X _ _ hr ht hne => lap_swp hn hr ht hne X, fun X _ u hr => lap_scl hn hr u X, fun X _ a hr => lap_elm hn hr a X⟩
/-- The determinant of a product, as a function of the left factor. -/
theorem lap_mul_like {n : Nat} (hn : n ≤ 4) (B : Mt p) : DetLike n (fun A : Mt p => lap n (mm n A B)) := by
  refine ⟨fun X r t hr ht hne => ?_, fun X r u hr => ?_, fun X r a hr => ?_⟩
  · rw [← lap_swp hn hr ht hne]; exact lap_congr hn (fun i k _ _ => by unfold mm swp; grind)
  · rw [← lap_scl hn hr]; exact lap_congr hn (fun i k _ _ => mm_scl _ _ _ _ _ _ _)
  · rw [← lap_elm hn hr a (mm n X B)]; exact lap_congr hn (fun i k _ _ => mm_elm _ _ _ _ _ _ _)

/-- What Det answers. -/
def detOf (n : Nat) (s : St p) : Fin p := if s.r < n then 0 else s.dt
theorem full_idm {n : Nat} {m : Mt p} {s : St p} (h : Inv n n m s) (hr : s.r = n) : ∀ i k, i < n → k < n → s.M i k = idm i k := by
  have hpv : ∀ i, i < n → s.pv i = i := by
    intro i hi
    have e : ∀ j, j < n → j ≤ s.pv j := by
      intro j
      induction j with
      | zero => intro _; exact Nat.zero_le _
      | succ j ih => intro hj; have := ih (by omega); have := h.mono j (j + 1) (by omega) (by omega); omega
    have e2 : ∀ d, ∀ j, j + d + 1 = n → s.pv j ≤ j := by
      intro d
      induction d with
      | zero => intro j hj; have := h.lt j (by omega); omega
      | succ d ih => intro j hj; have := ih (j + 1) (by omega); have := h.mono j (j + 1) (by omega) (by omega); omega
    have := e i hi
    have := e2 (n - 1 - i) i (by omega)
    omega
  intro i k hi hk
  unfold idm
  by_cases e : i = k
  · subst e; rw [if_pos rfl]; have := h.one i (by omega); rwa [hpv i hi] at this
  · rw [if_neg e]; have := h.col k i (by omega) hi e; rwa [hpv k hk] at this
theorem det_like {n : Nat} (hn : n ≤ 4) {m : Mt p} {s : St p} (h : Inv n n m s) {D : Mt p → Fin p} (hD : DetLike n D) (hc : ∀ X Y : Mt p, (∀ i k, i < n → k < n → X i k = Y i k) → D X = D Y)
    (h0 : ∀ X : Mt p, ∀ i, i < n → (∀ k, k < n → X i k = 0) → D X = 0) : D m = detOf n s * D idm := by
  rw [h.det D hD]
  unfold detOf
  have := h.rn
  by_cases hr : s.r < n
  · rw [if_pos hr, h0 s.M (n - 1) (by omega) (fun k hk => h.zero _ k (by omega) (by omega) hk)]; grind
  · rw [if_neg hr, hc _ _ (full_idm h (by omega))]
theorem det_lap {n : Nat} (hn : n ≤ 4) {m : Mt p} {s : St p} (h : Inv n n m s) : detOf n s = lap n m := by
  rw [det_like hn h (lap_like hn) (fun X Y e => lap_congr hn e) (fun X i hi e => lap_row0 hn hi e), lap_idm hn]; grind
theorem lap_mul {n : Nat} (hn : n ≤ 4) {iv : Fin p → Fin p} (hiv : ∀ a : Fin p, a ≠ 0 → a * iv a = 1) (A B : Mt p) : lap n (mm n A B) = lap n A * lap n B := by
  have h := run_inv hiv n n A
  rw [det_like hn h (lap_mul_like hn B) (fun X Y e => lap_congr hn (fun i k hi hk => mm_congr (fun j hj => e i j hi hj) (fun _ _ => rfl)))
    (fun X i hi e => lap_row0 hn hi (fun k hk => sm_zero (fun j hj => by rw [e j hj]; exact zmul _))), det_lap hn h]
  congr 1
  exact lap_congr hn (fun i k hi _ => mm_idl B k hi)
theorem dt_ne (hp : 1 < p) {iv : Fin p → Fin p} (hiv : ∀ a : Fin p, a ≠ 0 → a * iv a = 1) (n c : Nat) (m : Mt p) : (run iv n c (ini m)).dt ≠ 0 := by
  have nz : ∀ a b : Fin p, a ≠ 0 → b ≠ 0 → a * b ≠ 0 := by
    intro a b ha hb h
    have h1 := hiv a ha
    refine hb ?_
    have : iv a * (a * b) = 0 := by rw [h]; grind
    grind
  induction c with
  | zero => exact ne10 hp
  | succ c ih =>
    rw [run_s]
    generalize hS : run iv n c (ini m) = s at *
    have hI : Inv n c m s := hS ▸ run_inv hiv n c m
    obtain ⟨g1, g2, g3, g4⟩ := fnd_spec s.M c (n - s.r) s.r
    have hrn := hI.rn
    unfold stp
    by_cases ht : fnd s.M c (n - s.r) s.r < n
    · rw [if_pos ht]
      dsimp only
      refine nz _ _ ?_ (g4 (by omega))
      split
      · exact ih
      · intro e; exact ih (by grind)
    · rw [if_neg ht]; exact ih
end
end Go.Proofs.Ytcjpjnneimjfiaa
