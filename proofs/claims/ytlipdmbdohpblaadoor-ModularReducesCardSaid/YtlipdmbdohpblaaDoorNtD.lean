/-
  The checks that no composite number below 2^31 passes the strong test for 2, 3, 5 and 7: three kinds of numbers.
-/
import Derived.Test.YtlipdmbdohpblaaDoorNtC
namespace Go.Proofs.YtlipdmbdohpblaaDoor

/-- Below 2^31, odd, coprime to 210. -/
structure Cand (n : Nat) : Prop where
  three : 3 ≤ n
  lt : n < 2147483648
  odd : n % 2 = 1
  cop : Nat.gcd n 210 = 1
theorem SP.fermat {n : Nat} (h : SP n) (c : Cand n) : 2 ^ (n - 1) % n = 1 ∧ 3 ^ (n - 1) % n = 1 ∧ 5 ^ (n - 1) % n = 1 ∧ 7 ^ (n - 1) % n = 1 :=
  ⟨strongB_fermat c.three c.lt c.odd h.1, strongB_fermat c.three c.lt c.odd h.2.1, strongB_fermat c.three c.lt c.odd h.2.2.1, strongB_fermat c.three c.lt c.odd h.2.2.2⟩
theorem mod_of_mod {a n q : Nat} (hq : 1 < q) (hd : q ∣ n) (h : a % n = 1) : a % q = 1 := by
  have := Nat.mod_mod_of_dvd a hd
  rw [h, Nat.mod_eq_of_lt hq] at this
  exact this.symm
theorem SP.inS {n q : Nat} (h : SP n) (c : Cand n) (hq : 1 < q) (hd : q ∣ n) : InS q (n - 1) := by
  obtain ⟨h2, h3, h5, h7⟩ := h.fermat c
  exact ⟨mod_of_mod hq hd h2, mod_of_mod hq hd h3, mod_of_mod hq hd h5, mod_of_mod hq hd h7⟩
theorem Cand.div {n m : Nat} (c : Cand n) (hd : m ∣ n) : Nat.gcd m 210 = 1 := by
  have h1 : Nat.gcd m 210 ∣ Nat.gcd n 210 := Nat.dvd_gcd (Nat.dvd_trans (Nat.gcd_dvd_left _ _) hd) (Nat.gcd_dvd_right _ _)
  rw [c.cop] at h1
  exact Nat.eq_one_of_dvd_one h1

/-! A factor from 151 to 65536. -/
def lam (q : Nat) : Nat :=
  cond (Bool.and (Nat.beq (Nat.mod (Nat.pred q) 2) 0) (inS q (Nat.div (Nat.pred q) 2)))
    (cond (Bool.and (Nat.beq (Nat.mod (Nat.pred q) 4) 0) (inS q (Nat.div (Nat.pred q) 4))) (Nat.div (Nat.pred q) 4) (Nat.div (Nat.pred q) 2))
    (cond (Bool.and (Nat.beq (Nat.mod (Nat.pred q) 3) 0) (inS q (Nat.div (Nat.pred q) 3))) (Nat.div (Nat.pred q) 3) (Nat.pred q))
noncomputable def candB (q L j : Nat) : Bool := Bool.rec true (chk (Nat.mul q (Nat.succ (Nat.mul L (Nat.succ j))))) (Nat.beq (Nat.gcd (Nat.succ (Nat.mul L (Nat.succ j))) 210) 1)
def primish (q : Nat) : Bool := cond (Nat.ble q 288) (Nat.beq (Nat.gcd q 15015) 1) (Nat.beq (Nat.gcd q oddProd) 1)
noncomputable def runB (q L : Nat) : Bool := Bool.and (Nat.ble 1 L) (Bool.and (ordOK q L) (force (Nat.div (Nat.div 2147483648 q) L) fun N => lin (candB q L) N))
noncomputable def qB (i : Nat) : Bool := force (Nat.succ (Nat.mul 2 i)) fun q => Bool.or (Nat.ble q 150) (Bool.or (Bool.not (primish q)) (force (lam q) fun L => runB q L))
theorem Pr.no_dvd {q : Nat} (h : Pr q) {l : List Nat} {B : Nat} (hl : ∀ p ∈ l, 0 < p ∧ p ≤ B) (hB : B < q) : ¬ q ∣ lprod l := fun hd => by
  obtain ⟨p, hp, hqp⟩ := h.dvd_lprod hd
  have := hl p hp
  have := Nat.le_of_dvd this.1 hqp
  omega
theorem Pr.primish {q : Nat} (h : Pr q) (hq : 150 < q) : primish q = true := by
  unfold Go.Proofs.YtlipdmbdohpblaaDoor.primish
  rcases hb : Nat.ble q 288 with _ | _
  · have hgt : ¬ q ≤ 288 := fun g => by rw [Nat.ble_eq_true_of_le g] at hb; cases hb
    show Nat.beq (Nat.gcd q (lprod primes256.tail)) 1 = true
    rw [h.coprime (h.no_dvd (B := 251) (l := primes256.tail) (fun p hp => by have := primes256_le p (List.mem_of_mem_tail hp); omega) (by omega))]
    rfl
  · show Nat.beq (Nat.gcd q 15015) 1 = true
    rw [h.coprime (a := 15015) (h.no_dvd (B := 13) (l := [3, 5, 7, 11, 13]) (by decide) (by omega))]
    rfl
theorem runB_sound {q L : Nat} (h : runB q L = true) (hq : 150 < q) (hq2 : q ≤ 65536) {n : Nat} (c : Cand n) (hd : q ∣ n) (hne : n ≠ q) : ¬ SP n := by
  intro hs
  unfold runB at h
  rw [force_eq] at h
  simp only [Bool.and_eq_true] at h
  obtain ⟨h1, h2, h4⟩ := h
  have hL0 := Nat.le_of_ble_eq_true h1
  have hmod : (q - 1) % L = 0 := by
    have h5 := h2
    unfold ordOK at h5
    simp only [Bool.and_eq_true, Nat.beq_eq] at h5
    exact h5.1
  have hLq : L ≤ q - 1 := Nat.le_of_dvd (by omega) (Nat.dvd_of_mod_eq_zero hmod)
  obtain ⟨hLd, hLS⟩ := ordOK_sound (by omega) (by omega) (by omega) h2
  have hLn := hLS _ (hs.inS c (by omega) hd)
  obtain ⟨m, rfl⟩ := hd
  have hm0 : 2 ≤ m := by
    have := c.three
    match m, hne with
    | 0, _ => omega
    | 1, hne => exact absurd (Nat.mul_one q) hne
    | m + 2, _ => omega
  have e1 : q * m - 1 = (q - 1) * m + (m - 1) := by
    obtain ⟨r, rfl⟩ : ∃ r, q = r + 1 := ⟨q - 1, by omega⟩
    rw [show r + 1 - 1 = r from by omega, Nat.add_mul, Nat.one_mul]; omega
  have hLm : L ∣ m - 1 := by
    rw [e1] at hLn
    exact (Nat.dvd_add_right (Nat.dvd_trans hLd (Nat.dvd_mul_right _ _))).1 hLn
  obtain ⟨k, hk⟩ := hLm
  have hk0 : 1 ≤ k := by
    rcases Nat.eq_zero_or_pos k with g | g
    · subst g; omega
    · exact g
  have hmq : m ≤ 2147483648 / q := (Nat.le_div_iff_mul_le (by omega)).2 (by have := c.lt; rw [Nat.mul_comm]; omega)
  have hkN : k ≤ 2147483648 / q / L := (Nat.le_div_iff_mul_le (by omega)).2 (by rw [Nat.mul_comm, ← hk]; omega)
  have hkN2 : k ≤ Nat.div (Nat.div 2147483648 q) L := hkN
  have hc := lin_sound h4 (k - 1) (by omega)
  unfold candB at hc
  have em : Nat.succ (Nat.mul L (Nat.succ (k - 1))) = m := by
    show L * (k - 1 + 1) + 1 = m
    rw [show k - 1 + 1 = k from by omega, ← hk]; omega
  rw [em, c.div ⟨q, Nat.mul_comm q m⟩] at hc
  exact chk_sound (n := q * m) hc c.three c.lt c.odd hs
theorem qB_sound {q i : Nat} (hi : q = 2 * i + 1) (h : qB i = true) (hp : Pr q) (hq : 150 < q) (hq2 : q ≤ 65536) {n : Nat} (c : Cand n) (hd : q ∣ n) (hne : n ≠ q) : ¬ SP n := by
  unfold qB at h
  rw [force_eq, show Nat.succ (Nat.mul 2 i) = q from hi.symm, force_eq, hp.primish hq] at h
  simp only [Bool.or_eq_true, Bool.not_true, Bool.false_or] at h
  rcases h with g | g
  · have := Nat.le_of_ble_eq_true g; omega
  · exact runB_sound g hq hq2 c hd hne

/-! A factor above 65536. -/
def prodr (d : Nat) : Nat → Nat := Nat.rec (fun lo => lo) (fun k ih lo => Nat.mul (ih lo) (ih (Nat.add lo (Nat.pow 2 k)))) d
theorem Pr.prodr {q : Nat} (h : Pr q) (d lo : Nat) (hlo : 0 < lo) (hd : q ∣ prodr d lo) : q < lo + 2 ^ d := by
  induction d generalizing lo with
  | zero =>
    have := Nat.le_of_dvd hlo (show q ∣ lo from hd)
    simp; omega
  | succ d ih =>
    rw [Nat.pow_succ]
    rcases h.dvd_mul (a := Go.Proofs.YtlipdmbdohpblaaDoor.prodr d lo) (b := Go.Proofs.YtlipdmbdohpblaaDoor.prodr d (lo + 2 ^ d)) hd with g | g
    · have := ih lo hlo g; omega
    · have := ih (lo + 2 ^ d) (Nat.add_pos_left hlo _) g; omega
def PP : Nat := prodr 16 1
def remP (G : Nat) : Nat := Nat.div G (Nat.gcd G PP)
theorem remP_keep {q G : Nat} (h : Pr q) (hq : 65536 < q) (hd : q ∣ G) : q ∣ remP G := by
  have e : G = G / Nat.gcd G PP * Nat.gcd G PP := (Nat.div_mul_cancel (Nat.gcd_dvd_left G PP)).symm
  rw [e] at hd
  rcases h.dvd_mul hd with g | g
  · exact g
  · have h2 : q ∣ PP := Nat.dvd_trans g (Nat.dvd_trans (Nat.gcd_dvd_right _ _) (Nat.dvd_refl _))
    have := h.prodr 16 1 (by decide) h2
    omega
def g23 (e : Nat) : Nat := Nat.gcd (Nat.pred (Nat.pow 2 e)) (Nat.pred (Nat.pow 3 e))
def g57 (H e : Nat) : Nat := Nat.gcd (Nat.gcd H (Nat.pred (Nat.pow 5 e))) (Nat.pred (Nat.pow 7 e))
noncomputable def chkA (m : Nat) : Bool := force (remP (remP (remP (remP (g23 (Nat.pred m)))))) fun H => Bool.or (Nat.beq H 1) (force (g57 H (Nat.pred m)) fun K =>
  Bool.or (Nat.beq K 1) (Bool.and (Nat.ble K 131072) (Bool.and (Nat.ble 1 K) (Bool.or (Nat.ble 2147483648 (Nat.mul K m)) (chk (Nat.mul K m))))))
noncomputable def mA (m : Nat) : Bool := Bool.or (Nat.ble m 1) (Bool.or (Bool.not (Nat.beq (Nat.gcd m 210) 1)) (force m fun m => chkA m))
theorem mA_sound {m : Nat} (h : mA m = true) (hm : 2 ≤ m) {q : Nat} (hp : Pr q) (hq : 65536 < q) (c : Cand (q * m)) : ¬ SP (q * m) := by
  intro hs
  have hin := hs.inS c (q := q) (by omega) (Nat.dvd_mul_right _ _)
  have e1 : q * m - 1 = (q - 1) * m + (m - 1) := by
    obtain ⟨r, rfl⟩ : ∃ r, q = r + 1 := ⟨q - 1, by omega⟩
    rw [show r + 1 - 1 = r from by omega, Nat.add_mul, Nat.one_mul]; omega
  have red : ∀ b, 2 ≤ b → b ≤ 7 → b ^ (q * m - 1) % q = 1 → q ∣ b ^ (m - 1) - 1 := by
    intro b hb1 hb2 hb
    have hf := hp.fermat_one (a := b) (fun hd => by have := Nat.le_of_dvd (by omega) hd; omega)
    have h1 : 1 % q = 1 := Nat.mod_eq_of_lt (by omega)
    rw [e1, Nat.pow_add, Nat.pow_mul, mulmod (c := 1) (d := b ^ (m - 1)) (one_pow_mod m (by rw [hf, h1])) rfl, Nat.one_mul] at hb
    exact Nat.dvd_of_mod_eq_zero (Nat.sub_mod_eq_zero_of_mod_eq (by rw [hb, h1]))
  have d2 := red 2 (by omega) (by omega) hin.1
  have d3 := red 3 (by omega) (by omega) hin.2.1
  have d5 := red 5 (by omega) (by omega) hin.2.2.1
  have d7 := red 7 (by omega) (by omega) hin.2.2.2
  unfold mA at h
  rw [force_eq, c.div (Nat.dvd_mul_left m q)] at h
  have hbl : Nat.ble m 1 = false := by
    rcases hx : Nat.ble m 1 with _ | _
    · rfl
    · have := Nat.le_of_ble_eq_true hx; omega
  rw [hbl] at h
  have h2 : chkA m = true := h
  unfold chkA at h2
  rw [force_eq, force_eq] at h2
  have hH : q ∣ remP (remP (remP (remP (g23 (Nat.pred m))))) := remP_keep hp hq (remP_keep hp hq (remP_keep hp hq (remP_keep hp hq (Nat.dvd_gcd d2 d3))))
  have hK : q ∣ g57 (remP (remP (remP (remP (g23 (Nat.pred m)))))) (Nat.pred m) := Nat.dvd_gcd (Nat.dvd_gcd hH d5) d7
  simp only [Bool.or_eq_true, Bool.and_eq_true, Nat.beq_eq] at h2
  rcases h2 with g | g | ⟨g1, g0, g2⟩
  · rw [g] at hH
    have := Nat.le_of_dvd (by decide) hH
    omega
  · rw [g] at hK
    have := Nat.le_of_dvd (by decide) hK
    omega
  · have g1' := Nat.le_of_ble_eq_true g1
    have g0' := Nat.le_of_ble_eq_true g0
    generalize g57 (remP (remP (remP (remP (g23 (Nat.pred m)))))) (Nat.pred m) = K at *
    have hKq : K = q := by
      obtain ⟨k, hk⟩ := hK
      have : k = 1 := by
        match k, hk with
        | 0, hk => omega
        | 1, _ => rfl
        | k + 2, hk =>
          have : q * 2 ≤ q * (k + 2) := Nat.mul_le_mul_left _ (by omega)
          omega
      rw [hk, this, Nat.mul_one]
    subst hKq
    rcases g2 with k | k
    · have h3 : 2147483648 ≤ K * m := Nat.le_of_ble_eq_true k
      have := c.lt; omega
    · exact chk_sound (n := K * m) k c.three c.lt c.odd hs

/-! All factors at most 149. -/
def primes150 : List Nat := [11, 13, 17, 19, 23, 29, 31, 37, 41, 43, 47, 53, 59, 61, 67, 71, 73, 79, 83, 89, 97, 101, 103, 107, 109, 113, 127, 131, 137, 139, 149]
noncomputable def dfs (f : Nat) : List Nat → Nat → Bool :=
  Nat.rec (motive := fun _ => List Nat → Nat → Bool) (fun _ _ => false) (fun _ ih ps m =>
    List.rec (motive := fun _ => Bool) true (fun p r go => force (Nat.mul m p) fun n =>
      Bool.rec (motive := fun _ => Bool) (Bool.rec (motive := fun _ => Bool) false (Bool.rec (motive := fun _ => Bool) false go (ih (p :: r) n)) (Bool.rec (motive := fun _ => Bool) (chk n) true (Nat.ble n 150))) true (Nat.ble 2147483648 n)) ps) f
theorem dfs_nil (f m : Nat) : dfs (f + 1) [] m = true := rfl
theorem dfs_cons (f m p : Nat) (r : List Nat) : dfs (f + 1) (p :: r) m = (Nat.ble 2147483648 (m * p) || ((Nat.ble (m * p) 150 || chk (m * p)) && (dfs f (p :: r) (m * p) && dfs (f + 1) r m))) := by
  have h : dfs (f + 1) (p :: r) m = force (Nat.mul m p) fun n =>
      Bool.rec (motive := fun _ => Bool) (Bool.rec (motive := fun _ => Bool) false (Bool.rec (motive := fun _ => Bool) false (dfs (f + 1) r m) (dfs f (p :: r) n)) (Bool.rec (motive := fun _ => Bool) (chk n) true (Nat.ble n 150))) true (Nat.ble 2147483648 n) := rfl
  rw [h, force_eq, show Nat.mul m p = m * p from rfl]
  generalize Nat.ble 2147483648 (m * p) = a
  generalize Nat.ble (m * p) 150 = b
  generalize chk (m * p) = c
  generalize dfs f (p :: r) (m * p) = d
  generalize dfs (f + 1) r m = e
  cases a <;> cases b <;> cases c <;> cases d <;> cases e <;> rfl
theorem dfs_sound (f : Nat) : ∀ (ps : List Nat) (m : Nat), ps.Pairwise (· ≤ ·) → dfs f ps m = true → ∀ t, Cand (m * t) → 150 < m * t → (∀ p, Pr p → p ∣ t → p ∈ ps) → t = 1 ∨ ¬ SP (m * t) := by
  induction f with
  | zero => intro ps m _ h; cases h
  | succ f ih =>
    intro ps
    induction ps with
    | nil =>
      intro m _ _ t c _ hps
      left
      rcases Nat.lt_or_ge t 2 with g | g
      · match t, g with
        | 0, _ => have := c.three; omega
        | 1, _ => rfl
      · obtain ⟨p, hp, hd⟩ := exists_prime t g
        cases hps p hp hd
    | cons p r ihr =>
      intro m hsort h t c hbig hps
      rw [dfs_cons] at h
      simp only [Bool.and_eq_true, Bool.or_eq_true] at h
      have hlt := c.lt
      rcases Nat.lt_or_ge t 2 with g | g
      · left
        match t, g with
        | 0, _ => have := c.three; omega
        | 1, _ => rfl
      · rcases h with hb | ⟨h1, h2, h3⟩
        · exfalso
          have hb' := Nat.le_of_ble_eq_true hb
          obtain ⟨p', hp', hd'⟩ := exists_prime t g
          have hpp : p ≤ p' := by
            rcases List.mem_cons.1 (hps p' hp' hd') with rfl | k
            · exact Nat.le_refl _
            · exact (List.pairwise_cons.1 hsort).1 p' k
          have h1 : p ≤ t := Nat.le_trans hpp (Nat.le_of_dvd (by omega) hd')
          have h2 : m * p ≤ m * t := Nat.mul_le_mul_left _ h1
          omega
        · by_cases hd : p ∣ t
          · obtain ⟨s, rfl⟩ := hd
            have e : m * (p * s) = m * p * s := (Nat.mul_assoc m p s).symm
            rw [e] at c hbig ⊢
            rcases ih (p :: r) (m * p) hsort h2 s c hbig (fun p' hp' hd' => hps p' hp' (Nat.dvd_trans hd' (Nat.dvd_mul_left s p))) with k | k
            · subst k
              right
              rw [Nat.mul_one] at c hbig ⊢
              rcases h1 with g | g
              · have := Nat.le_of_ble_eq_true g; omega
              · exact chk_sound g c.three c.lt c.odd
            · exact .inr k
          · rcases ihr m (List.pairwise_cons.1 hsort).2 h3 t c hbig (fun p' hp' hd' => by
              rcases List.mem_cons.1 (hps p' hp' hd') with rfl | g
              · exact absurd hd' hd
              · exact g) with k | k
            · exact .inl k
            · exact .inr k

end Go.Proofs.YtlipdmbdohpblaaDoor
