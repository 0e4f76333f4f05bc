/-
  What numbers are made of, as the code finds it: plain facts.
-/
namespace Go.Proofs.Ytlfocajlkelnbaa
def PrimeN (n : Nat) : Prop := 2 ≤ n ∧ ∀ d, d ∣ n → d = 1 ∨ d = n
theorem prime_iff (n : Nat) : PrimeN n ↔ 2 ≤ n ∧ ∀ d < n, 2 ≤ d → ¬ d ∣ n := by
  constructor
  · rintro ⟨h1, h2⟩
    refine ⟨h1, fun d hd h3 hdv => ?_⟩
    rcases h2 d hdv with h | h <;> omega
  · rintro ⟨h1, h2⟩
    refine ⟨h1, fun d hdv => ?_⟩
    have hle := Nat.le_of_dvd (by omega) hdv
    have hd0 : 0 < d := Nat.pos_of_dvd_of_pos hdv (by omega)
    rcases Nat.lt_or_ge d n with h | h
    · rcases Nat.lt_or_ge d 2 with h3 | h3
      · left; omega
      · exact absurd hdv (h2 d h h3)
    · right; omega
instance (n : Nat) : Decidable (PrimeN n) := decidable_of_iff _ (prime_iff n).symm
/-- from p on, what n is made of -/
inductive Fac : Nat → Nat → List (Nat × Nat) → Prop
  | done (p n : Nat) (h : n ≤ 1) : Fac p n []
  | hit (p n q k m : Nat) (l : List (Nat × Nat)) (h : 1 < n) (hq : q = if n < p * p then n else p) (hn : n = q ^ (k + 1) * m) (hm : ¬ q ∣ m) (hl : Fac (q + 1) m l) : Fac p n ((q, k + 1) :: l)
  | miss (p n q : Nat) (l : List (Nat × Nat)) (h : 1 < n) (hq : q = if n < p * p then n else p) (hm : ¬ q ∣ n) (hl : Fac (q + 1) n l) : Fac p n l
/-- no number from 2 to below p divides n -/
def Free (p n : Nat) : Prop := ∀ d, 2 ≤ d → d < p → ¬ d ∣ n
theorem Free.le {p n : Nat} (h : Free p n) (hn : 1 < n) : p ≤ n := by
  apply Classical.byContradiction
  intro hl
  exact h n hn (by omega) (Nat.dvd_refl n)
/-- what is tried next -/
theorem Free.next {p n q : Nat} (h : Free p n) (hp : 2 ≤ p) (hn : 1 < n) (hq : q = if n < p * p then n else p) : p ≤ q ∧ q ≤ n ∧ Free q n := by
  have hle := h.le hn
  by_cases hc : n < p * p
  · rw [if_pos hc] at hq
    subst hq
    refine ⟨hle, Nat.le_refl _, fun d h1 h2 hd => ?_⟩
    obtain ⟨e, he⟩ := hd
    rcases Nat.lt_or_ge d p with h3 | h3
    · exact h d h1 h3 ⟨e, he⟩
    · rcases Nat.lt_or_ge e p with h4 | h4
      · have h5 : 2 ≤ e := by
          rcases Nat.lt_or_ge e 2 with h6 | h6
          · have : e = 0 ∨ e = 1 := by omega
            rcases this with rfl | rfl
            · omega
            · omega
          · exact h6
        exact h e h5 h4 ⟨d, by rw [he, Nat.mul_comm]⟩
      · have := Nat.mul_le_mul h3 h4
        omega
  · rw [if_neg hc] at hq
    subst hq
    exact ⟨Nat.le_refl _, hle, h⟩
theorem Free.strip {q n m k : Nat} (h : Free q n) (hn : n = q ^ k * m) (hm : ¬ q ∣ m) : Free (q + 1) m := by
  intro d h1 h2 hd
  by_cases e : d = q
  · subst e; exact hm hd
  · exact h d h1 (by omega) (by rw [hn]; exact Nat.dvd_trans hd (Nat.dvd_mul_left _ _))
theorem strip_ex (q : Nat) (hq : 2 ≤ q) (n : Nat) (hn : 0 < n) : ∃ k m, n = q ^ k * m ∧ ¬ q ∣ m ∧ 0 < m := by
  induction n using Nat.strongRecOn with
  | _ n ih =>
    by_cases hd : q ∣ n
    · obtain ⟨e, he⟩ := hd
      have he0 : 0 < e := by rcases Nat.eq_zero_or_pos e with h | h; subst h; omega; exact h
      have hlt : e < n := by have := Nat.mul_le_mul_right e hq; omega
      obtain ⟨k, m, h1, h2, h3⟩ := ih e hlt he0
      exact ⟨k + 1, m, by rw [he, h1, Nat.pow_succ, Nat.mul_comm (q ^ k) q, Nat.mul_assoc], h2, h3⟩
    · exact ⟨0, n, by simp, hd, hn⟩
theorem fac_total (n : Nat) : ∀ (j p m : Nat), m ≤ n → n + 2 - p ≤ j → 2 ≤ p → 0 < m → Free p m → ∃ l, Fac p m l := by
  intro j
  induction j with
  | zero =>
    intro p m hm hj hp h0 hf
    by_cases h1 : m ≤ 1
    · exact ⟨[], .done _ _ h1⟩
    · have := hf.le (by omega); omega
  | succ j ih =>
    intro p m hm hj hp h0 hf
    by_cases h1 : m ≤ 1
    · exact ⟨[], .done _ _ h1⟩
    · obtain ⟨q, hq⟩ : ∃ q, q = if m < p * p then m else p := ⟨_, rfl⟩
      obtain ⟨h2, h3, h4⟩ := hf.next hp (by omega) hq
      obtain ⟨k, m', e, hnd, hm'⟩ := strip_ex q (by omega) m h0
      have hle : m' ≤ m := by rw [e]; exact Nat.le_mul_of_pos_left _ (Nat.pow_pos (by omega))
      obtain ⟨l, hl⟩ := ih (q + 1) m' (by omega) (by omega) (by omega) hm' (h4.strip e hnd)
      cases k with
      | zero =>
        have : m = m' := by rw [e]; simp
        subst this
        exact ⟨l, .miss p m q l (by omega) hq hnd hl⟩
      | succ k => exact ⟨_, .hit p m q k m' l (by omega) hq e hnd hl⟩
theorem strip_unique {q k k' m m' : Nat} (hq : 2 ≤ q) (h : q ^ k * m = q ^ k' * m') (hm : ¬ q ∣ m) (hm' : ¬ q ∣ m') : k = k' ∧ m = m' := by
  induction k generalizing k' with
  | zero =>
    cases k' with
    | zero => exact ⟨rfl, by simpa using h⟩
    | succ k' => exact absurd ⟨q ^ k' * m', by rw [← Nat.mul_assoc, Nat.mul_comm q, ← Nat.pow_succ]; simpa using h⟩ hm
  | succ k ih =>
    cases k' with
    | zero => exact absurd ⟨q ^ k * m, by rw [← Nat.mul_assoc, Nat.mul_comm q, ← Nat.pow_succ]; simpa using h.symm⟩ hm'
    | succ k' =>
      rw [Nat.pow_succ, Nat.pow_succ, Nat.mul_comm _ q, Nat.mul_comm _ q, Nat.mul_assoc, Nat.mul_assoc] at h
      have := ih (Nat.eq_of_mul_eq_mul_left (by omega) h)
      exact ⟨by omega, this.2⟩
theorem fac_det {p n : Nat} {l l' : List (Nat × Nat)} (h : Fac p n l) (h' : Fac p n l') (hp : 2 ≤ p) : l = l' := by
  induction h generalizing l' with
  | done p n h1 =>
    cases h' with
    | done => rfl
    | hit _ _ q k m l h => omega
    | miss _ _ q l h => omega
  | hit p n q k m l h1 hq hn hm hl ih =>
    have hq2 : 2 ≤ q := by rw [hq]; split <;> omega
    cases h' with
    | done _ _ h => omega
    | hit _ _ q' k' m' l' h2 hq' hn' hm' hl' =>
      have e : q = q' := by rw [hq, hq']
      subst e
      have := strip_unique hq2 (hn.symm.trans hn') hm hm'
      obtain ⟨h3, h4⟩ := this
      have h3 : k = k' := by omega
      subst h3; subst h4
      rw [ih hl' (by omega)]
    | miss _ _ q' l' h2 hq' hm' hl' =>
      have e : q = q' := by rw [hq, hq']
      subst e
      exact absurd ⟨q ^ k * m, by rw [hn, Nat.pow_succ, Nat.mul_comm (q ^ k) q, Nat.mul_assoc]⟩ hm'
  | miss p n q l h1 hq hm hl ih =>
    have hq2 : 2 ≤ q := by rw [hq]; split <;> omega
    cases h' with
    | done _ _ h => omega
    | hit _ _ q' k' m' l' h2 hq' hn' hm' hl' =>
      have e : q = q' := by rw [hq, hq']
      subst e
      exact absurd ⟨q ^ k' * m', by rw [hn', Nat.pow_succ, Nat.mul_comm (q ^ k') q, Nat.mul_assoc]⟩ hm
    | miss _ _ q' l' h2 hq' hm' hl' =>
      have e : q = q' := by rw [hq, hq']
      subst e
      exact ih hl' (by omega)
/-- the first prime is the least divisor -/
theorem fac_head {p n q k : Nat} {l : List (Nat × Nat)} (h : Fac p n ((q, k) :: l)) (hp : 2 ≤ p) (hf : Free p n) : 2 ≤ q ∧ q ∣ n ∧ Free q n := by
  generalize hL : (q, k) :: l = L at h
  induction h with
  | done => cases hL
  | hit p n q' k' m l' h1 hq hn hm hl ih =>
    injection hL with e1 e2
    injection e1 with e1 e3
    subst e1
    obtain ⟨h2, h3, h4⟩ := hf.next hp h1 hq
    exact ⟨by omega, ⟨q ^ k' * m, by rw [hn, Nat.pow_succ, Nat.mul_comm (q ^ k') q, Nat.mul_assoc]⟩, h4⟩
  | miss p n q' l' h1 hq hm hl ih =>
    obtain ⟨h2, h3, h4⟩ := hf.next hp h1 hq
    exact ih (by omega) (h4.strip (k := 0) (by simp) hm) hL
theorem free_two (n : Nat) : Free 2 n := fun d h1 h2 => by omega
theorem head_prime {n q k : Nat} {l : List (Nat × Nat)} (h : Fac 2 n ((q, k) :: l)) (hn : 1 < n) : q = n ↔ PrimeN n := by
  obtain ⟨h1, h2, h3⟩ := fac_head h (Nat.le_refl _) (free_two n)
  constructor
  · rintro rfl
    refine ⟨h1, fun d hd => ?_⟩
    have hle := Nat.le_of_dvd (by omega) hd
    rcases Nat.lt_or_ge d 2 with h4 | h4
    · have : d = 0 ∨ d = 1 := by omega
      rcases this with rfl | rfl
      · obtain ⟨e, he⟩ := hd; omega
      · exact .inl rfl
    · rcases Nat.lt_or_ge d q with h5 | h5
      · exact absurd hd (h3 d h4 h5)
      · right; omega
  · intro hp
    rcases hp.2 q h2 with h4 | h4
    · omega
    · exact h4
theorem fac_ne_nil {p n : Nat} (h : Fac p n []) (hp : 2 ≤ p) (hf : Free p n) (hn : 0 < n) : n = 1 := by
  generalize hL : ([] : List (Nat × Nat)) = L at h
  induction h with
  | done p n h => omega
  | hit => cases hL
  | miss p n q l h1 hq hm hl ih =>
    obtain ⟨h2, h3, h4⟩ := hf.next hp h1 hq
    exact ih (by omega) (h4.strip (k := 0) (by simp) hm) hn hL
end Go.Proofs.Ytlfocajlkelnbaa
