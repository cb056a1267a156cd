/-
  Plain arithmetic of limbs: products, quotients by one limb.
-/
import Derived.Test.YtcjpjnneimjfiaaNum
namespace Go.Proofs.Ytcjpjnneimjfiaa

theorem val_set {l : List Nat} {j o : Nat} (v : Nat) (h : l[j]? = some o) : val (l.set j v) + 4294967296 ^ j * o = val l + 4294967296 ^ j * v := by
  induction l generalizing j with
  | nil => simp at h
  | cons x r ih =>
    cases j with
    | zero => simp at h; subst h; simp only [List.set_cons_zero, val, Nat.pow_zero, Nat.one_mul]; omega
    | succ j =>
      have h' := ih (j := j) (by simpa using h)
      simp only [List.set_cons_succ, val, Nat.pow_succ]
      have e : 4294967296 * (val (r.set j v) + 4294967296 ^ j * o) = 4294967296 * (val r + 4294967296 ^ j * v) := by rw [h']
      grind
theorem limbs_set {l : List Nat} (h : Limbs l) (j v : Nat) (hv : v < 4294967296) : Limbs (l.set j v) := by
  intro x hx
  rcases List.mem_or_eq_of_mem_set hx with hx | rfl
  · exact h x hx
  · exact hv
theorem val_replicate (n : Nat) : val (List.replicate n 0) = 0 := by
  induction n with
  | zero => rfl
  | succ n ih => simp [List.replicate_succ, val, ih]
theorem limbs_replicate (n : Nat) : Limbs (List.replicate n 0) := by
  intro x hx; rw [List.mem_replicate] at hx; omega

/-- The product so far: i rows are done. -/
def MulO (la lb : List Nat) (n i : Nat) (lo : List Nat) : Prop := lo.length = n ∧ Limbs lo ∧ val lo = val (la.take i) * val lb
/-- In row i, k limbs are done. -/
def MulI (la lb : List Nat) (n i k cy x : Nat) (lo : List Nat) : Prop :=
  lo.length = n ∧ Limbs lo ∧ cy < 4294967296 ∧ val lo + 4294967296 ^ (i + k) * cy = val (la.take i) * val lb + 4294967296 ^ i * x * val (lb.take k)
theorem mul_start (la lb : List Nat) (n : Nat) : MulO la lb n 0 (List.replicate n 0) := ⟨List.length_replicate, limbs_replicate n, by rw [val_replicate]; simp [val]⟩
theorem mul_in {la lb lo : List Nat} {n i : Nat} (h : MulO la lb n i lo) (x : Nat) : MulI la lb n i 0 0 x lo := ⟨h.1, h.2.1, by decide, by simp [h.2.2, val]⟩
theorem mul_step {la lb lo : List Nat} {n i k cy x y o s : Nat} (h : MulI la lb n i k cy x lo) (ho : lo[i + k]? = some o) (hy : lb[k]?.getD 0 = y) (hx : x < 4294967296) (hy2 : y < 4294967296) (hs : s = cy + o + x * y) :
    MulI la lb n i (k + 1) (s / 4294967296) x (lo.set (i + k) (s % 4294967296)) ∧ s < 18446744073709551616 := by
  obtain ⟨h1, h2, h3, h4⟩ := h
  have ho2 : o < 4294967296 := h2 o (List.mem_of_getElem? ho)
  have hxy : x * y ≤ 4294967295 * 4294967295 := Nat.mul_le_mul (by omega) (by omega)
  have hs2 : s < 18446744073709551616 := by omega
  refine ⟨⟨by simp [h1], limbs_set h2 _ _ (Nat.mod_lt _ (by decide)), by omega, ?_⟩, hs2⟩
  have e1 := val_set (s % 4294967296) ho
  rw [val_take_succ, hy]
  have hd := Nat.div_add_mod s 4294967296
  generalize s / 4294967296 = q at hd ⊢
  generalize s % 4294967296 = r at hd e1 ⊢
  have e2 : 4294967296 ^ (i + k) * (4294967296 * q + r) = 4294967296 ^ (i + k) * (cy + o + x * y) := by rw [hd, hs]
  have e3 : 4294967296 ^ (i + (k + 1)) = 4294967296 ^ (i + k) * 4294967296 := by rw [← Nat.add_assoc, Nat.pow_succ]
  have e4 : 4294967296 ^ (i + k) = 4294967296 ^ i * 4294967296 ^ k := Nat.pow_add _ _ _
  rw [e3]
  generalize 4294967296 ^ (i + k) = p at *
  generalize 4294967296 ^ i = pi at *
  generalize 4294967296 ^ k = pk at *
  subst e4
  grind
theorem mul_top {la lb lo : List Nat} {n i cy x : Nat} (ha : Limbs la) (hb : Limbs lb) (h : MulI la lb n i (lb.length + 1) cy x lo) (hx : la[i]? = some x) : cy = 0 := by
  obtain ⟨_, _, _, h4⟩ := h
  rw [List.take_of_length_le (by omega : lb.length ≤ lb.length + 1)] at h4
  have e := val_take_succ la i
  rw [getD_at hx] at e
  have h5 : val lo + 4294967296 ^ (i + (lb.length + 1)) * cy = val (la.take (i + 1)) * val lb := by rw [h4, e, Nat.add_mul]
  have h6 := val_take_lt ha (i + 1)
  have h7 := val_lt hb
  have h8 : val (la.take (i + 1)) * val lb < 4294967296 ^ (i + 1) * 4294967296 ^ lb.length := Nat.mul_lt_mul'' h6 h7
  rw [← Nat.pow_add, show i + 1 + lb.length = i + (lb.length + 1) from by omega] at h8
  rcases Nat.eq_zero_or_pos cy with h | h
  · exact h
  · have := Nat.mul_le_mul_left (4294967296 ^ (i + (lb.length + 1))) h
    omega
theorem mul_out {la lb lo : List Nat} {n i k x : Nat} (h : MulI la lb n i k 0 x lo) (hk : lb.length ≤ k) (hx : la[i]? = some x) : MulO la lb n (i + 1) lo := by
  obtain ⟨h1, h2, _, h4⟩ := h
  refine ⟨h1, h2, ?_⟩
  rw [List.take_of_length_le hk] at h4
  have e := val_take_succ la i
  rw [getD_at hx] at e
  rw [e, Nat.add_mul]
  simpa using h4
theorem mul_end {la lb lo : List Nat} {n : Nat} (h : MulO la lb n la.length lo) : val lo = val la * val lb := by
  have := h.2.2; rwa [List.take_length] at this
theorem sgn_mul (na nb : Bool) (a b : Nat) : sgn (na != nb) (a * b) = sgn na a * sgn nb b := by
  cases na <;> cases nb <;> simp [sgn, Int.natCast_mul, Int.neg_mul, Int.mul_neg]

end Go.Proofs.Ytcjpjnneimjfiaa
