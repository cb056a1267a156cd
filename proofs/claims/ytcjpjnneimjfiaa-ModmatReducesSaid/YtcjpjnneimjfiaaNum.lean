/-
  Plain arithmetic of limbs: no program in sight.
  Plain arithmetic of limbs: products, quotients by one limb.
  Plain arithmetic of limbs: quotients.
-/
import Derived.Test.YtcjpjnneimjfiaaRows
namespace Go.Proofs.Ytcjpjnneimjfiaa

/-- The number with the given limbs, the least significant one first. -/
def val : List Nat → Nat
  | [] => 0
  | x :: r => x + 4294967296 * val r

/-- All limbs are below 2^32. -/
def Limbs (l : List Nat) : Prop := ∀ x ∈ l, x < 4294967296
/-- No leading zero. -/
def Canon (l : List Nat) : Prop := l.getLast? ≠ some 0

/-- The limbs without leading zeros. -/
def trim : List Nat → List Nat
  | [] => []
  | x :: r => if x = 0 ∧ trim r = [] then [] else x :: trim r

theorem val_append (a b : List Nat) : val (a ++ b) = val a + 4294967296 ^ a.length * val b := by
  induction a with
  | nil => simp [val]
  | cons x r ih =>
    simp only [List.cons_append, val, ih, List.length_cons, Nat.pow_succ]
    rw [Nat.mul_add, ← Nat.mul_assoc, Nat.mul_comm 4294967296 (4294967296 ^ r.length)]
    omega
theorem val_trim (l : List Nat) : val (trim l) = val l := by
  induction l with
  | nil => rfl
  | cons x r ih =>
    unfold trim
    split
    · rename_i h
      rw [h.2] at ih
      simp only [val] at ih ⊢
      rw [← ih, h.1]
    · simp only [val, ih]
theorem trim_limbs {l : List Nat} (h : Limbs l) : Limbs (trim l) := by
  induction l with
  | nil => exact h
  | cons x r ih =>
    unfold trim
    split
    · intro y hy; cases hy
    · intro y hy
      rcases List.mem_cons.1 hy with rfl | hy
      · exact h _ (by simp)
      · exact ih (fun z hz => h z (by simp [hz])) y hy
theorem trim_canon (l : List Nat) : Canon (trim l) := by
  induction l with
  | nil => simp [trim, Canon]
  | cons x r ih =>
    unfold trim
    split
    · simp [Canon]
    · rename_i h
      unfold Canon at ih ⊢
      cases e : trim r with
      | nil => simp only [e, and_true] at h; simpa using h
      | cons y s => rw [e] at ih; simpa using ih
theorem trim_snoc_zero (l : List Nat) : trim (l ++ [0]) = trim l := by
  induction l with
  | nil => simp [trim]
  | cons x r ih => simp only [List.cons_append, trim, ih]
theorem trim_of_canon {l : List Nat} (h : Canon l) : trim l = l := by
  induction l with
  | nil => rfl
  | cons x r ih =>
    unfold trim
    cases r with
    | nil => simp [Canon] at h; simp [trim, h]
    | cons y s =>
      have h' : Canon (y :: s) := by unfold Canon at h ⊢; simpa using h
      rw [ih h']
      simp
theorem trim_length_le (l : List Nat) : (trim l).length ≤ l.length := by
  induction l with
  | nil => simp [trim]
  | cons x r ih => unfold trim; split <;> simp; omega

theorem val_lt {l : List Nat} (h : Limbs l) : val l < 4294967296 ^ l.length := by
  induction l with
  | nil => simp [val]
  | cons x r ih =>
    have h1 := ih (fun z hz => h z (by simp [hz]))
    have h2 := h x (by simp)
    simp only [val, List.length_cons, Nat.pow_succ]
    omega
theorem val_pos_of_canon {l : List Nat} (h : Canon l) (hn : l ≠ []) : 4294967296 ^ (l.length - 1) ≤ val l := by
  induction l with
  | nil => exact absurd rfl hn
  | cons x r ih =>
    cases r with
    | nil =>
      simp [Canon] at h
      simp [val]; omega
    | cons y s =>
      have h' : Canon (y :: s) := by unfold Canon at h ⊢; simpa using h
      have := ih h' (by simp)
      simp only [List.length_cons, Nat.add_sub_cancel] at this ⊢
      rw [Nat.pow_succ]
      simp only [val] at this ⊢
      omega
theorem canon_length {l : List Nat} (h : Canon l) {n : Nat} (hv : val l < 4294967296 ^ n) : l.length ≤ n := by
  rcases Nat.lt_or_ge n l.length with hlt | hge
  · exfalso
    have h1 := val_pos_of_canon h (by rintro rfl; simp at hlt)
    have h2 : 4294967296 ^ n ≤ 4294967296 ^ (l.length - 1) := Nat.pow_le_pow_right (by decide) (by omega)
    omega
  · exact hge
theorem val_inj {a b : List Nat} (ha : Limbs a) (hb : Limbs b) (hl : a.length = b.length) (h : val a = val b) : a = b := by
  induction a generalizing b with
  | nil => cases b with
    | nil => rfl
    | cons y s => simp at hl
  | cons x r ih => cases b with
    | nil => simp at hl
    | cons y s =>
      have h1 := ha x (by simp)
      have h2 := hb y (by simp)
      simp only [val] at h
      have h3 : val r = val s := by omega
      have h4 : x = y := by omega
      rw [h4, ih (fun z hz => ha z (by simp [hz])) (fun z hz => hb z (by simp [hz])) (by simpa using hl) h3]
theorem canon_inj {a b : List Nat} (ha : Limbs a) (hb : Limbs b) (ca : Canon a) (cb : Canon b) (h : val a = val b) : a = b := by
  have h1 := canon_length cb (h ▸ val_lt ha)
  have h2 := canon_length ca (h ▸ val_lt hb)
  exact val_inj ha hb (by omega) h
theorem val_eq_zero {l : List Nat} (hc : Canon l) (h : val l = 0) : l = [] := by
  rcases List.eq_nil_or_concat l with rfl | ⟨r, x, e⟩
  · rfl
  · exfalso
    have := val_pos_of_canon hc (by rw [e]; simp)
    have h2 : 0 < 4294967296 ^ (l.length - 1) := Nat.pow_pos (by decide)
    omega
theorem take_succ_val (l : List Nat) (k : Nat) (h : k < l.length) : val (l.take (k + 1)) = val (l.take k) + 4294967296 ^ k * l[k] := by
  rw [List.take_succ_eq_append_getElem h, val_append, List.length_take, Nat.min_eq_left (by omega)]
  simp [val]

def sgn (neg : Bool) (n : Nat) : Int := if neg = true then -(n : Int) else n

theorem trim_take_of_zero {l : List Nat} {n : Nat} (hn : n < l.length) (h : l[n]? = some 0) : trim (l.take (n + 1)) = trim (l.take n) := by
  rw [List.take_succ_eq_append_getElem hn, show l[n] = 0 by simpa [List.getElem?_eq_getElem hn] using h, trim_snoc_zero]
theorem trim_take_of_pos {l : List Nat} {n x : Nat} (hn : n < l.length) (h : l[n]? = some x) (hx : x ≠ 0) : trim (l.take (n + 1)) = l.take (n + 1) := by
  apply trim_of_canon
  rw [List.take_succ_eq_append_getElem hn]
  have : l[n] = x := by simpa [List.getElem?_eq_getElem hn] using h
  simp [Canon, this, hx]

theorem val_split {l : List Nat} {k x : Nat} (h : l[k]? = some x) : val l = val (l.take k) + 4294967296 ^ k * (x + 4294967296 * val (l.drop (k + 1))) := by
  have hk : k < l.length := by
    rcases Nat.lt_or_ge k l.length with g | g
    · exact g
    · rw [List.getElem?_eq_none g] at h; cases h
  have hx : l[k] = x := by simpa [List.getElem?_eq_getElem hk] using h
  have e : l = l.take k ++ (x :: l.drop (k + 1)) := by rw [← hx, List.getElem_cons_drop, List.take_append_drop]
  have h2 := val_append (l.take k) (x :: l.drop (k + 1))
  rw [← e, List.length_take, Nat.min_eq_left (by omega)] at h2
  exact h2
theorem limbs_take {l : List Nat} (h : Limbs l) (k : Nat) : Limbs (l.take k) := fun x hx => h x (List.mem_of_mem_take hx)
theorem limbs_drop {l : List Nat} (h : Limbs l) (k : Nat) : Limbs (l.drop k) := fun x hx => h x (List.mem_of_mem_drop hx)
theorem val_take_lt {l : List Nat} (h : Limbs l) (k : Nat) : val (l.take k) < 4294967296 ^ k := by
  have h1 := val_lt (limbs_take h k)
  have h2 : 4294967296 ^ (l.take k).length ≤ 4294967296 ^ k := Nat.pow_le_pow_right (by decide) (by rw [List.length_take]; omega)
  omega
/-- Equal above k, less at k: less. -/
theorem val_lt_of_at {a b : List Nat} {k x y : Nat} (ha : Limbs a) (hx : a[k]? = some x) (hy : b[k]? = some y) (hd : a.drop (k + 1) = b.drop (k + 1)) (h : x < y) : val a < val b := by
  rw [val_split hx, val_split hy, hd]
  have h1 := val_take_lt ha k
  have h2 : 4294967296 ^ k * (x + 4294967296 * val (b.drop (k + 1))) + 4294967296 ^ k ≤ 4294967296 ^ k * (y + 4294967296 * val (b.drop (k + 1))) := by
    rw [← Nat.mul_succ]
    exact Nat.mul_le_mul_left _ (by omega)
  omega

/-- What `less` answers: by the lengths, then by the values. -/
def lessB (a b : List Nat) : Bool := if a.length = b.length then decide (val a < val b) else decide (a.length < b.length)
theorem lessB_len {a b : List Nat} (h : a.length ≠ b.length) : lessB a b = decide (a.length < b.length) := by simp [lessB, h]
theorem lessB_at {a b : List Nat} {k x y : Nat} (ha : Limbs a) (hb : Limbs b) (hl : a.length = b.length) (hx : a[k]? = some x) (hy : b[k]? = some y) (hd : a.drop (k + 1) = b.drop (k + 1)) (hne : x ≠ y) : lessB a b = decide (x < y) := by
  rw [lessB, if_pos hl]
  rcases Nat.lt_or_gt_of_ne hne with h | h
  · have := val_lt_of_at ha hx hy hd h; simp [h, this]
  · have := val_lt_of_at hb hy hx hd.symm h
    rw [decide_eq_false (by omega), decide_eq_false (by omega)]
theorem lessB_refl (a : List Nat) : lessB a a = false := by simp [lessB]
theorem lessB_canon {a b : List Nat} (ha : Limbs a) (hb : Limbs b) (ca : Canon a) (cb : Canon b) : lessB a b = decide (val a < val b) := by
  unfold lessB
  split
  · rfl
  · rename_i hne
    rcases Nat.lt_or_gt_of_ne hne with h | h
    · rw [decide_eq_true h]
      have h1 : val a < val b := by
        rcases Nat.lt_or_ge (val a) (val b) with g | g
        · exact g
        · have := canon_length cb (n := a.length) (by have := val_lt ha; omega); omega
      rw [decide_eq_true h1]
    · rw [decide_eq_false (by omega)]
      have h1 : ¬ val a < val b := by
        intro g
        have := canon_length ca (n := b.length) (by have := val_lt hb; omega); omega
      rw [decide_eq_false h1]
theorem drop_step {a b : List Nat} {k x : Nat} (hx : a[k]? = some x) (hy : b[k]? = some x) (hd : a.drop (k + 1) = b.drop (k + 1)) : a.drop k = b.drop k := by
  have hk : k < a.length := by
    rcases Nat.lt_or_ge k a.length with g | g
    · exact g
    · rw [List.getElem?_eq_none g] at hx; cases hx
  have hk' : k < b.length := by
    rcases Nat.lt_or_ge k b.length with g | g
    · exact g
    · rw [List.getElem?_eq_none g] at hy; cases hy
  rw [List.drop_eq_getElem_cons hk, List.drop_eq_getElem_cons hk', hd]
  have e1 : a[k] = x := by simpa [List.getElem?_eq_getElem hk] using hx
  have e2 : b[k] = x := by simpa [List.getElem?_eq_getElem hk'] using hy
  rw [e1, e2]

theorem val_take_succ (l : List Nat) (i : Nat) : val (l.take (i + 1)) = val (l.take i) + 4294967296 ^ i * l[i]?.getD 0 := by
  rcases Nat.lt_or_ge i l.length with h | h
  · rw [take_succ_val l i h, List.getElem?_eq_getElem h]; rfl
  · rw [List.getElem?_eq_none h, List.take_of_length_le h, List.take_of_length_le (by omega)]; simp

/-- The sum so far. -/
def PlusR (la lb : List Nat) (i cy : Nat) (lo : List Nat) : Prop := lo.length = i ∧ Limbs lo ∧ val lo + 4294967296 ^ i * cy = val (la.take i) + val (lb.take i)
theorem plus_start (la lb : List Nat) : PlusR la lb 0 0 [] := ⟨rfl, (fun x hx => by cases hx), by simp [val]⟩
theorem plus_step {la lb lo : List Nat} {i cy x y : Nat} (h : PlusR la lb i cy lo) (hx : la[i]?.getD 0 = x) (hy : lb[i]?.getD 0 = y) :
    PlusR la lb (i + 1) ((cy + x + y) / 4294967296) (lo ++ [(cy + x + y) % 4294967296]) := by
  obtain ⟨h1, h2, h3⟩ := h
  refine ⟨by simp [h1], ?_, ?_⟩
  · intro z hz
    rcases List.mem_append.1 hz with hz | hz
    · exact h2 z hz
    · rw [List.mem_singleton] at hz; subst hz; exact Nat.mod_lt _ (by decide)
  · rw [val_append, val_take_succ, val_take_succ, hx, hy, h1]
    have hd := Nat.div_add_mod (cy + x + y) 4294967296
    generalize (cy + x + y) / 4294967296 = q at hd ⊢
    generalize (cy + x + y) % 4294967296 = r at hd ⊢
    simp only [val, Nat.mul_zero, Nat.add_zero, Nat.pow_succ]
    have e : 4294967296 ^ i * (4294967296 * q + r) = 4294967296 ^ i * (cy + x + y) := by rw [hd]
    rw [Nat.mul_add, Nat.mul_add, Nat.mul_add, ← Nat.mul_assoc] at e
    omega
theorem plus_end {la lb lo : List Nat} {i : Nat} (h : PlusR la lb i 0 lo) (ha : la.length ≤ i) (hb : lb.length ≤ i) : val lo = val la + val lb := by
  obtain ⟨_, _, h3⟩ := h
  rw [List.take_of_length_le ha, List.take_of_length_le hb] at h3
  simpa using h3
theorem getD_at {l : List Nat} {i x : Nat} (h : l[i]? = some x) : l[i]?.getD 0 = x := by rw [h]; rfl
theorem getD_out {l : List Nat} {i : Nat} (h : l.length ≤ i) : l[i]?.getD 0 = 0 := by rw [List.getElem?_eq_none h]; rfl

/-- The difference so far. -/
def MinusR (la lb : List Nat) (i bo : Nat) (lo : List Nat) : Prop := lo.length = i ∧ Limbs lo ∧ val lo + val (lb.take i) = val (la.take i) + 4294967296 ^ i * bo
theorem minus_start (la lb : List Nat) : MinusR la lb 0 0 [] := ⟨rfl, (fun x hx => by cases hx), by simp [val]⟩
theorem minus_step {la lb lo : List Nat} {i bo x y D bo2 : Nat} (h : MinusR la lb i bo lo) (hx : la[i]?.getD 0 = x) (hy : lb[i]?.getD 0 = y) (hD : D < 4294967296) (e : D + bo + y = x + 4294967296 * bo2) :
    MinusR la lb (i + 1) bo2 (lo ++ [D]) := by
  obtain ⟨h1, h2, h3⟩ := h
  refine ⟨by simp [h1], ?_, ?_⟩
  · intro z hz
    rcases List.mem_append.1 hz with hz | hz
    · exact h2 z hz
    · rw [List.mem_singleton] at hz; subst hz; exact hD
  · rw [val_append, val_take_succ, val_take_succ, hx, hy, h1]
    simp only [val, Nat.mul_zero, Nat.add_zero, Nat.pow_succ]
    have e2 : 4294967296 ^ i * (D + bo + y) = 4294967296 ^ i * (x + 4294967296 * bo2) := by rw [e]
    rw [Nat.mul_add, Nat.mul_add, Nat.mul_add, ← Nat.mul_assoc] at e2
    omega
theorem minus_end {la lb lo : List Nat} {i bo : Nat} (h : MinusR la lb i bo lo) (ha : la.length = i) (hb : lb.length ≤ i) (hv : val lb ≤ val la) : val lo = val la - val lb := by
  obtain ⟨h1, h2, h3⟩ := h
  rw [List.take_of_length_le hb, List.take_of_length_le (by omega : la.length ≤ i)] at h3
  have h4 := val_lt h2
  rw [h1] at h4
  have h5 : bo = 0 := by
    rcases Nat.eq_zero_or_pos bo with h | h
    · exact h
    · have := Nat.mul_le_mul_left (4294967296 ^ i) h
      omega
  subst h5
  omega

theorem sgn_add_same {na : Bool} {a b c : Nat} (h : c = a + b) : sgn na c = sgn na a + sgn na b := by
  subst h; cases na <;> simp [sgn] <;> omega
theorem sgn_add_lt {na nb : Bool} {a b c : Nat} (hn : na ≠ nb) (hl : a ≤ b) (h : c = b - a) : sgn nb c = sgn na a + sgn nb b := by
  subst h; cases na <;> cases nb <;> simp [sgn] at hn ⊢ <;> omega
theorem sgn_add_ge {na nb : Bool} {a b c : Nat} (hn : na ≠ nb) (hl : b ≤ a) (h : c = a - b) : sgn na c = sgn na a + sgn nb b := by
  subst h; cases na <;> cases nb <;> simp [sgn] at hn ⊢ <;> omega
theorem lessB_true {a b : List Nat} (ha : Limbs a) (hb : Limbs b) (ca : Canon a) (cb : Canon b) (h : lessB a b = true) : val a < val b := by
  rw [lessB_canon ha hb ca cb] at h; simpa using h
theorem lessB_false {a b : List Nat} (ha : Limbs a) (hb : Limbs b) (ca : Canon a) (cb : Canon b) (h : lessB a b = false) : val b ≤ val a := by
  rw [lessB_canon ha hb ca cb] at h; simpa using h
theorem canon_len_le {a b : List Nat} (hb : Limbs b) (ca : Canon a) (h : val a ≤ val b) : a.length ≤ b.length :=
  canon_length ca (Nat.lt_of_le_of_lt h (val_lt hb))

theorem val_drop {l : List Nat} {k x : Nat} (h : l[k]? = some x) : val (l.drop k) = x + 4294967296 * val (l.drop (k + 1)) := by
  have hk : k < l.length := by
    rcases Nat.lt_or_ge k l.length with g | g
    · exact g
    · rw [List.getElem?_eq_none g] at h; cases h
  have hx : l[k] = x := by simpa [List.getElem?_eq_getElem hk] using h
  rw [List.drop_eq_getElem_cons hk, hx]; rfl
theorem val_drop_lt {l : List Nat} (h : Limbs l) (k : Nat) : val (l.drop k) < 4294967296 ^ (l.length - k) := by
  have := val_lt (limbs_drop h k); rwa [List.length_drop] at this

end Go.Proofs.Ytcjpjnneimjfiaa
namespace Go.Proofs.Ytcjpjnneimjfiaa

theorem val_set {l : List Nat} {j o : Nat} (v : Nat) (h : l[j]? = some o) : val (l.set j v) + 4294967296 ^ j * o = val l + 4294967296 ^ j * v := by
  induction l generalizing j with
  | nil => simp at h
  | cons x r ih =>
    cases j with
    | zero => simp at h; subst h; simp only [List.set_cons_zero, val, Nat.pow_zero, Nat.one_mul]; omega
    | succ j =>
      have h' := ih (j := j) (by simpa using h)
      simp only [List.set_cons_succ, val, Nat.pow_succ]
      have e : 4294967296 * (val (r.set j v) + 4294967296 ^ j * o) = 4294967296 * (val r + 4294967296 ^ j * v) := by rw [h']
      grind
theorem limbs_set {l : List Nat} (h : Limbs l) (j v : Nat) (hv : v < 4294967296) : Limbs (l.set j v) := by
  intro x hx
  rcases List.mem_or_eq_of_mem_set hx with hx | rfl
  · exact h x hx
  · exact hv
theorem val_replicate (n : Nat) : val (List.replicate n 0) = 0 := by
  induction n with
  | zero => rfl
  | succ n ih => simp [List.replicate_succ, val, ih]
theorem limbs_replicate (n : Nat) : Limbs (List.replicate n 0) := by
  intro x hx; rw [List.mem_replicate] at hx; omega

/-- The product so far: i rows are done. -/
def MulO (la lb : List Nat) (n i : Nat) (lo : List Nat) : Prop := lo.length = n ∧ Limbs lo ∧ val lo = val (la.take i) * val lb
/-- In row i, k limbs are done. -/
def MulI (la lb : List Nat) (n i k cy x : Nat) (lo : List Nat) : Prop :=
  lo.length = n ∧ Limbs lo ∧ cy < 4294967296 ∧ val lo + 4294967296 ^ (i + k) * cy = val (la.take i) * val lb + 4294967296 ^ i * x * val (lb.take k)
theorem mul_start (la lb : List Nat) (n : Nat) : MulO la lb n 0 (List.replicate n 0) := ⟨List.length_replicate, limbs_replicate n, by rw [val_replicate]; simp [val]⟩
theorem mul_in {la lb lo : List Nat} {n i : Nat} (h : MulO la lb n i lo) (x : Nat) : MulI la lb n i 0 0 x lo := ⟨h.1, h.2.1, by decide, by simp [h.2.2, val]⟩
theorem mul_step {la lb lo : List Nat} {n i k cy x y o s : Nat} (h : MulI la lb n i k cy x lo) (ho : lo[i + k]? = some o) (hy : lb[k]?.getD 0 = y) (hx : x < 4294967296) (hy2 : y < 4294967296) (hs : s = cy + o + x * y) :
    MulI la lb n i (k + 1) (s / 4294967296) x (lo.set (i + k) (s % 4294967296)) ∧ s < 18446744073709551616 := by
  obtain ⟨h1, h2, h3, h4⟩ := h
  have ho2 : o < 4294967296 := h2 o (List.mem_of_getElem? ho)
  have hxy : x * y ≤ 4294967295 * 4294967295 := Nat.mul_le_mul (by omega) (by omega)
  have hs2 : s < 18446744073709551616 := by omega
  refine ⟨⟨by simp [h1], limbs_set h2 _ _ (Nat.mod_lt _ (by decide)), by omega, ?_⟩, hs2⟩
  have e1 := val_set (s % 4294967296) ho
  rw [val_take_succ, hy]
  have hd := Nat.div_add_mod s 4294967296
  generalize s / 4294967296 = q at hd ⊢
  generalize s % 4294967296 = r at hd e1 ⊢
  have e2 : 4294967296 ^ (i + k) * (4294967296 * q + r) = 4294967296 ^ (i + k) * (cy + o + x * y) := by rw [hd, hs]
  have e3 : 4294967296 ^ (i + (k + 1)) = 4294967296 ^ (i + k) * 4294967296 := by rw [← Nat.add_assoc, Nat.pow_succ]
  have e4 : 4294967296 ^ (i + k) = 4294967296 ^ i * 4294967296 ^ k := Nat.pow_add _ _ _
  rw [e3]
  generalize 4294967296 ^ (i + k) = p at *
  generalize 4294967296 ^ i = pi at *
  generalize 4294967296 ^ k = pk at *
  subst e4
  grind
theorem mul_top {la lb lo : List Nat} {n i cy x : Nat} (ha : Limbs la) (hb : Limbs lb) (h : MulI la lb n i (lb.length + 1) cy x lo) (hx : la[i]? = some x) : cy = 0 := by
  obtain ⟨_, _, _, h4⟩ := h
  rw [List.take_of_length_le (by omega : lb.length ≤ lb.length + 1)] at h4
  have e := val_take_succ la i
  rw [getD_at hx] at e
  have h5 : val lo + 4294967296 ^ (i + (lb.length + 1)) * cy = val (la.take (i + 1)) * val lb := by rw [h4, e, Nat.add_mul]
  have h6 := val_take_lt ha (i + 1)
  have h7 := val_lt hb
  have h8 : val (la.take (i + 1)) * val lb < 4294967296 ^ (i + 1) * 4294967296 ^ lb.length := Nat.mul_lt_mul'' h6 h7
  rw [← Nat.pow_add, show i + 1 + lb.length = i + (lb.length + 1) from by omega] at h8
  rcases Nat.eq_zero_or_pos cy with h | h
  · exact h
  · have := Nat.mul_le_mul_left (4294967296 ^ (i + (lb.length + 1))) h
    omega
theorem mul_out {la lb lo : List Nat} {n i k x : Nat} (h : MulI la lb n i k 0 x lo) (hk : lb.length ≤ k) (hx : la[i]? = some x) : MulO la lb n (i + 1) lo := by
  obtain ⟨h1, h2, _, h4⟩ := h
  refine ⟨h1, h2, ?_⟩
  rw [List.take_of_length_le hk] at h4
  have e := val_take_succ la i
  rw [getD_at hx] at e
  rw [e, Nat.add_mul]
  simpa using h4
theorem mul_end {la lb lo : List Nat} {n : Nat} (h : MulO la lb n la.length lo) : val lo = val la * val lb := by
  have := h.2.2; rwa [List.take_length] at this
theorem sgn_mul (na nb : Bool) (a b : Nat) : sgn (na != nb) (a * b) = sgn na a * sgn nb b := by
  cases na <;> cases nb <;> simp [sgn, Int.natCast_mul, Int.neg_mul, Int.mul_neg]

end Go.Proofs.Ytcjpjnneimjfiaa
namespace Go.Proofs.Ytcjpjnneimjfiaa

/-- Division by one limb: the limbs from k on are done. -/
def ShortR (la : List Nat) (d n k rest : Nat) (lo : List Nat) : Prop := lo.length = n ∧ Limbs lo ∧ rest < d ∧ val (lo.drop k) * d + rest = val (la.drop k)
theorem short_start (la : List Nat) {d n : Nat} (hd : 0 < d) (hn : la.length = n) : ShortR la d n n 0 (List.replicate n 0) :=
  ⟨List.length_replicate, limbs_replicate n, hd, by rw [List.drop_of_length_le (by simp), List.drop_of_length_le (by omega)]; simp [val]⟩
theorem drop_set_lt {l : List Nat} {k : Nat} (v : Nat) (hk : k < l.length) : val ((l.set k v).drop k) = v + 4294967296 * val (l.drop (k + 1)) := by
  have h : (l.set k v)[k]? = some v := by simp [hk]
  rw [val_drop h, List.drop_set]
  simp
theorem short_step {la lo : List Nat} {d n k rest x s : Nat} (h : ShortR la d n (k + 1) rest lo) (hx : la[k]? = some x) (hk : k < n) (hx2 : x < 4294967296) (hd : d < 4294967296) (hs : s = rest * 4294967296 + x) :
    ShortR la d n k (s % d) (lo.set k (s / d)) ∧ s < 2 ^ 64 ∧ s / d < 4294967296 := by
  obtain ⟨h1, h2, h3, h4⟩ := h
  have hq : s / d < 4294967296 := by
    rw [Nat.div_lt_iff_lt_mul (by omega)]
    have : (rest + 1) * 4294967296 ≤ d * 4294967296 := Nat.mul_le_mul_right _ h3
    omega
  refine ⟨⟨by simp [h1], limbs_set h2 _ _ hq, Nat.mod_lt _ (by omega), ?_⟩, by omega, hq⟩
  rw [drop_set_lt _ (by omega), val_drop hx, ← h4]
  have hdm := Nat.div_add_mod s d
  generalize s / d = q at hdm ⊢
  generalize s % d = r at hdm ⊢
  grind
theorem short_end {la lo : List Nat} {d n rest : Nat} (h : ShortR la d n 0 rest lo) : val lo = val la / d ∧ rest = val la % d := by
  obtain ⟨h1, h2, h3, h4⟩ := h
  simp only [List.drop_zero] at h4
  have h5 := Nat.div_add_mod (val la) d
  have h6 : val la = d * val lo + rest := by rw [Nat.mul_comm]; omega
  constructor
  · rw [h6, Nat.mul_add_div (by omega), Nat.div_eq_of_lt h3]; rfl
  · rw [h6, Nat.mul_add_mod, Nat.mod_eq_of_lt h3]

end Go.Proofs.Ytcjpjnneimjfiaa
