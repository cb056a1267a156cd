/-
  Plain arithmetic of limbs: quotients.
-/
import Derived.Test.YtcjpjnneimjfiaaNum2
namespace Go.Proofs.Ytcjpjnneimjfiaa

/-- Division by one limb: the limbs from k on are done. -/
def ShortR (la : List Nat) (d n k rest : Nat) (lo : List Nat) : Prop := lo.length = n ∧ Limbs lo ∧ rest < d ∧ val (lo.drop k) * d + rest = val (la.drop k)
theorem short_start (la : List Nat) {d n : Nat} (hd : 0 < d) (hn : la.length = n) : ShortR la d n n 0 (List.replicate n 0) :=
  ⟨List.length_replicate, limbs_replicate n, hd, by rw [List.drop_of_length_le (by simp), List.drop_of_length_le (by omega)]; simp [val]⟩
theorem drop_set_lt {l : List Nat} {k : Nat} (v : Nat) (hk : k < l.length) : val ((l.set k v).drop k) = v + 4294967296 * val (l.drop (k + 1)) := by
  have h : (l.set k v)[k]? = some v := by simp [hk]
  rw [val_drop h, List.drop_set]
  simp
theorem short_step {la lo : List Nat} {d n k rest x s : Nat} (h : ShortR la d n (k + 1) rest lo) (hx : la[k]? = some x) (hk : k < n) (hx2 : x < 4294967296) (hd : d < 4294967296) (hs : s = rest * 4294967296 + x) :
    ShortR la d n k (s % d) (lo.set k (s / d)) ∧ s < 2 ^ 64 ∧ s / d < 4294967296 := by
  obtain ⟨h1, h2, h3, h4⟩ := h
  have hq : s / d < 4294967296 := by
    rw [Nat.div_lt_iff_lt_mul (by omega)]
    have : (rest + 1) * 4294967296 ≤ d * 4294967296 := Nat.mul_le_mul_right _ h3
    omega
  refine ⟨⟨by simp [h1], limbs_set h2 _ _ hq, Nat.mod_lt _ (by omega), ?_⟩, by omega, hq⟩
  rw [drop_set_lt _ (by omega), val_drop hx, ← h4]
  have hdm := Nat.div_add_mod s d
  generalize s / d = q at hdm ⊢
  generalize s % d = r at hdm ⊢
  grind
theorem short_end {la lo : List Nat} {d n rest : Nat} (h : ShortR la d n 0 rest lo) : val lo = val la / d ∧ rest = val la % d := by
  obtain ⟨h1, h2, h3, h4⟩ := h
  simp only [List.drop_zero] at h4
  have h5 := Nat.div_add_mod (val la) d
  have h6 : val la = d * val lo + rest := by rw [Nat.mul_comm]; omega
  constructor
  · rw [h6, Nat.mul_add_div (by omega), Nat.div_eq_of_lt h3]; rfl
  · rw [h6, Nat.mul_add_mod, Nat.mod_eq_of_lt h3]

end Go.Proofs.Ytcjpjnneimjfiaa
