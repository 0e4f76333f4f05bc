/-
  Feistel: plain facts on cycles: periods, their least common multiple, and a bound for it.
-/
namespace Go.Proofs.Ytkhbopdjokicmaa
def it (f : Nat → Nat) : Nat → Nat → Nat
  | 0, x => x
  | k + 1, x => it f k (f x)
theorem it_add (f : Nat → Nat) (a b x : Nat) : it f (a + b) x = it f a (it f b x) := by
  induction b generalizing x with
  | zero => rfl
  | succ b ih => show it f (a + b) (f x) = _; rw [ih]; rfl
theorem it_succ' (f : Nat → Nat) (k x : Nat) : it f (k + 1) x = f (it f k x) := by
  rw [Nat.add_comm, it_add]; rfl
theorem it_mul (f : Nat → Nat) (s x : Nat) (h : it f s x = x) (q : Nat) : it f (s * q) x = x := by
  induction q with
  | zero => rfl
  | succ q ih => rw [Nat.mul_succ, it_add, h, ih]
theorem it_dvd {f : Nat → Nat} {s x n : Nat} (h : it f s x = x) (hd : s ∣ n) : it f n x = x := by
  obtain ⟨q, rfl⟩ := hd; exact it_mul f s x h q
/-- f goes round among the numbers below N -/
structure Perm (N : Nat) (f : Nat → Nat) : Prop where
  lt : ∀ x < N, f x < N
  inj : ∀ x < N, ∀ y < N, f x = f y → x = y
theorem Perm.it_lt {N : Nat} {f : Nat → Nat} (p : Perm N f) (k : Nat) : ∀ x < N, it f k x < N := by
  induction k with
  | zero => intro x h; exact h
  | succ k ih => intro x h; exact ih _ (p.lt x h)
theorem Perm.it_inj {N : Nat} {f : Nat → Nat} (p : Perm N f) (k : Nat) : ∀ x < N, ∀ y < N, it f k x = it f k y → x = y := by
  induction k with
  | zero => intro x _ y _ h; exact h
  | succ k ih => intro x hx y hy h; exact p.inj x hx y hy (ih _ (p.lt x hx) _ (p.lt y hy) h)
/-- how many of the first n are in S -/
def cnt (S : Nat → Bool) : Nat → Nat
  | 0 => 0
  | n + 1 => cnt S n + (if S n then 1 else 0)
theorem cnt_le (S : Nat → Bool) (n : Nat) : cnt S n ≤ n := by
  induction n with
  | zero => exact Nat.le_refl _
  | succ n ih => unfold cnt; split <;> omega
def mark (S : Nat → Bool) (y : Nat) : Nat → Bool := fun i => S i || i == y
theorem cnt_mark_ge (S : Nat → Bool) (y n : Nat) (h : n ≤ y) : cnt (mark S y) n = cnt S n := by
  induction n with
  | zero => rfl
  | succ n ih =>
    unfold cnt
    rw [ih (by omega)]
    have : mark S y n = S n := by unfold mark; have : (n == y) = false := by simp; omega
                                  simp [this]
    rw [this]
theorem cnt_mark (S : Nat → Bool) (y n : Nat) (h : y < n) (hy : S y = false) : cnt (mark S y) n = cnt S n + 1 := by
  induction n with
  | zero => omega
  | succ n ih =>
    unfold cnt
    by_cases e : y = n
    · subst e
      rw [cnt_mark_ge S y y (Nat.le_refl _)]
      have : mark S y y = true := by simp [mark]
      rw [this, hy]; simp
    · rw [ih (by omega)]
      have : mark S y n = S n := by unfold mark; have : (n == y) = false := by simp; omega
                                    simp [this]
      rw [this]; omega
/-- what the walk along one cycle keeps: from x on k steps were marked, from S0 on -/
structure Way (N : Nat) (f : Nat → Nat) (S0 : Nat → Bool) (x k : Nat) (S : Nat → Bool) : Prop where
  mem : ∀ i, S i = true ↔ S0 i = true ∨ ∃ j < k, it f j x = i
  fresh : ∀ j < k, S0 (it f j x) = false
  apart : ∀ i < k, ∀ j < k, it f i x = it f j x → i = j
  count : cnt S N = cnt S0 N + k
theorem Way.start (N : Nat) (f : Nat → Nat) (S0 : Nat → Bool) (x : Nat) : Way N f S0 x 0 S0 :=
  ⟨fun i => ⟨.inl, fun h => h.elim id fun ⟨j, h, _⟩ => absurd h (by omega)⟩, fun j h => absurd h (by omega), fun j h => absurd h (by omega), rfl⟩
theorem Way.step {N : Nat} {f : Nat → Nat} {S0 S : Nat → Bool} {x k : Nat} (p : Perm N f) (hx : x < N) (h : Way N f S0 x k S) (hn : S (it f k x) = false) : Way N f S0 x (k + 1) (mark S (it f k x)) := by
  have hm := h.mem
  have hnot : ¬ (S0 (it f k x) = true ∨ ∃ j < k, it f j x = it f k x) := fun e => by rw [(hm _).2 e] at hn; cases hn
  refine ⟨fun i => ?_, fun j hj => ?_, fun i hi j hj e => ?_, ?_⟩
  · have : mark S (it f k x) i = true ↔ S i = true ∨ i = it f k x := by simp [mark]
    rw [this, hm]
    constructor
    · rintro ((h | ⟨j, hj, e⟩) | rfl)
      · exact .inl h
      · exact .inr ⟨j, by omega, e⟩
      · exact .inr ⟨k, by omega, rfl⟩
    · rintro (h | ⟨j, hj, e⟩)
      · exact .inl (.inl h)
      · by_cases hjk : j = k
        · subst hjk; exact .inr e.symm
        · exact .inl (.inr ⟨j, by omega, e⟩)
  · by_cases hjk : j = k
    · subst hjk
      cases hb : S0 (it f j x)
      · rfl
      · exact absurd (.inl hb) hnot
    · exact h.fresh j (by omega)
  · by_cases hik : i = k
    · subst hik
      by_cases hjk : j = i
      · exact hjk.symm
      · exact absurd (.inr ⟨j, by omega, e.symm⟩) hnot
    · by_cases hjk : j = k
      · subst hjk; exact absurd (.inr ⟨i, by omega, e⟩) hnot
      · exact h.apart i (by omega) j (by omega) e
  · rw [cnt_mark S _ N (p.it_lt k x hx) hn, h.count]; omega
/-- a marked set that is closed both ways -/
def Closed (N : Nat) (f : Nat → Nat) (S : Nat → Bool) : Prop := ∀ i < N, S i = S (f i)
/-- the walk ends where it began -/
theorem Way.round {N : Nat} {f : Nat → Nat} {S0 S : Nat → Bool} {x k : Nat} (p : Perm N f) (hx : x < N) (hc : Closed N f S0) (h : Way N f S0 x k S) (hk : 0 < k) (hn : S (it f k x) = true) : it f k x = x := by
  rcases (h.mem _).1 hn with h0 | ⟨j, hj, e⟩
  · have hf := h.fresh (k - 1) (by omega)
    rw [hc _ (p.it_lt _ x hx), ← it_succ' f, Nat.sub_add_cancel hk, h0] at hf
    cases hf
  · cases j with
    | zero => exact e.symm
    | succ j =>
      have e2 : f (it f j x) = f (it f (k - 1) x) := by rw [← it_succ' f, ← it_succ' f, Nat.sub_add_cancel hk]; exact e
      have := h.apart j (by omega) (k - 1) (by omega) (p.inj _ (p.it_lt _ x hx) _ (p.it_lt _ x hx) e2)
      omega
theorem Way.closed {N : Nat} {f : Nat → Nat} {S0 S : Nat → Bool} {x k : Nat} (p : Perm N f) (hx : x < N) (hc : Closed N f S0) (h : Way N f S0 x k S) (hk : 0 < k) (hr : it f k x = x) : Closed N f S := by
  intro i hi
  have h1 := h.mem i
  have h2 := h.mem (f i)
  have : S i = true ↔ S (f i) = true := by
    rw [h1, h2, ← hc i hi]
    constructor
    · rintro (h | ⟨j, hj, rfl⟩)
      · exact .inl h
      · by_cases hjk : j + 1 = k
        · refine .inr ⟨0, hk, ?_⟩
          show x = _
          rw [← it_succ' f, hjk, hr]
        · exact .inr ⟨j + 1, by omega, it_succ' f j x⟩
    · rintro (h | ⟨j, hj, e⟩)
      · exact .inl h
      · cases j with
        | zero =>
          refine .inr ⟨k - 1, by omega, ?_⟩
          apply p.inj _ (p.it_lt _ x hx) _ hi
          rw [← it_succ' f, Nat.sub_add_cancel hk, hr]; exact e
        | succ j =>
          refine .inr ⟨j, by omega, ?_⟩
          apply p.inj _ (p.it_lt _ x hx) _ hi
          rw [← it_succ' f]; exact e
  cases ha : S i <;> cases hb : S (f i) <;> simp_all
theorem Way.period {N : Nat} {f : Nat → Nat} {S0 S : Nat → Bool} {x k : Nat} (h : Way N f S0 x k S) (hk : 0 < k) (hr : it f k x = x) (d : Nat) (hd : it f d x = x) : k ∣ d := by
  have e : it f (d % k) x = x := by
    have h1 : it f d x = it f (d % k) (it f (k * (d / k)) x) := by rw [← it_add, Nat.mod_add_div]
    rw [it_mul f k x hr] at h1
    rw [← h1]; exact hd
  have := h.apart (d % k) (Nat.mod_lt _ hk) 0 hk e
  exact Nat.dvd_of_mod_eq_zero this
/-- what the sizes met so far come to -/
def wgt (s : Nat) : Nat := if s % 2 = 1 then s else s / 2
def WP (ch : Nat → Bool) : Nat → Nat
  | 0 => 1
  | n + 1 => WP ch n * (if ch (n + 1) then wgt (n + 1) else 1)
def SM (ch : Nat → Bool) : Nat → Nat
  | 0 => 0
  | n + 1 => SM ch n + (if ch (n + 1) then n + 1 else 0)
def pos (s : Nat) : Nat := (wgt s ^ 32).log2 + 1 - 6 * s
def PS : Nat → Nat
  | 0 => 0
  | n + 1 => PS n + pos (n + 1)
theorem wgt_pos (s : Nat) (h : 0 < s) : 0 < wgt s := by unfold wgt; split <;> omega
theorem le_log (a b : Nat) : a ≤ 2 ^ (b + (a.log2 + 1 - b)) :=
  Nat.le_trans (Nat.le_of_lt Nat.lt_log2_self) (Nat.pow_le_pow_right (by decide) (by omega))
theorem wgt_le (s : Nat) : wgt s ^ 32 ≤ 2 ^ (6 * s + pos s) := le_log _ _
theorem WP_le (ch : Nat → Bool) (n : Nat) : WP ch n ^ 32 ≤ 2 ^ (6 * SM ch n + PS n) := by
  induction n with
  | zero => simp [WP, SM, PS]
  | succ n ih =>
    have hw := wgt_le (n + 1)
    unfold WP SM PS
    rw [Nat.mul_pow]
    cases ch (n + 1)
    · simp only [Bool.false_eq_true, if_false, Nat.one_pow, Nat.mul_one, Nat.add_zero]
      exact Nat.le_trans ih (Nat.pow_le_pow_right (by decide) (by omega))
    · simp only [if_true]
      refine Nat.le_trans (Nat.mul_le_mul ih hw) ?_
      rw [← Nat.pow_add]
      exact Nat.pow_le_pow_right (by decide) (by omega)
theorem PS_256 : PS 256 ≤ 443 := by decide +kernel
theorem WP_lt_of (ch : Nat → Bool) (e : Nat) (h2 : 6 * SM ch 256 + PS 256 ≤ e) (he : e < 62 * 32) : WP ch 256 < 2 ^ 62 := by
  have h1 := WP_le ch 256
  have h3 : WP ch 256 ^ 32 ≤ 2 ^ e := Nat.le_trans h1 (Nat.pow_le_pow_right (by decide) h2)
  apply Classical.byContradiction
  intro hn
  have h4 : (2 ^ 62) ^ 32 ≤ WP ch 256 ^ 32 := Nat.pow_le_pow_left (by omega) 32
  rw [← Nat.pow_mul] at h4
  have := (Nat.pow_le_pow_iff_right (by decide : 1 < 2)).1 (Nat.le_trans h4 h3)
  omega
theorem WP_lt (ch : Nat → Bool) (h : SM ch 256 ≤ 256) : WP ch 256 < 2 ^ 62 :=
  WP_lt_of ch (6 * SM ch 256 + PS 256) (Nat.le_refl _) (by have := PS_256; omega)
theorem WP_mark (ch : Nat → Bool) (s n : Nat) (h : ch s = false) (hs : 0 < s) : WP (mark ch s) n = if s ≤ n then WP ch n * wgt s else WP ch n := by
  induction n with
  | zero => rw [if_neg (by omega)]; rfl
  | succ n ih =>
    unfold WP
    rw [ih]
    by_cases e : s = n + 1
    · subst e
      have : mark ch (n + 1) (n + 1) = true := by simp [mark]
      rw [this, h, if_neg (by omega), if_pos (Nat.le_refl _)]; simp
    · have : mark ch s (n + 1) = ch (n + 1) := by unfold mark; have : ((n + 1) == s) = false := by simp; omega
                                                  simp [this]
      rw [this]
      by_cases hl : s ≤ n
      · rw [if_pos hl, if_pos (show s ≤ n + 1 by omega)]
        rw [Nat.mul_assoc, Nat.mul_comm (wgt s), ← Nat.mul_assoc]
      · rw [if_neg hl, if_neg (show ¬ s ≤ n + 1 by omega)]
theorem SM_mark (ch : Nat → Bool) (s n : Nat) (h : ch s = false) (hs : 0 < s) : SM (mark ch s) n = if s ≤ n then SM ch n + s else SM ch n := by
  induction n with
  | zero => rw [if_neg (by omega)]; rfl
  | succ n ih =>
    unfold SM
    rw [ih]
    by_cases e : s = n + 1
    · subst e
      have : mark ch (n + 1) (n + 1) = true := by simp [mark]
      rw [this, h, if_neg (by omega), if_pos (Nat.le_refl _)]; simp
    · have : mark ch s (n + 1) = ch (n + 1) := by unfold mark; have : ((n + 1) == s) = false := by simp; omega
                                                  simp [this]
      rw [this]
      by_cases hl : s ≤ n
      · rw [if_pos hl, if_pos (show s ≤ n + 1 by omega)]; omega
      · rw [if_neg hl, if_neg (show ¬ s ≤ n + 1 by omega)]
/-- what the outer walk keeps: the numbers of S are back behind o steps, no fewer, and o is no great number -/
structure Ord (N : Nat) (f : Nat → Nat) (S : Nat → Bool) (o : Nat) : Prop where
  closed : Closed N f S
  pos : 0 < o
  back : ∀ i < N, S i = true → it f o i = i
  least : ∀ d, (∀ i < N, S i = true → it f d i = i) → o ∣ d
  small : ∃ ch : Nat → Bool, SM ch N ≤ cnt S N ∧ o ∣ 2 * WP ch N ∧ ∀ s, ch s = true → s ∣ o
theorem SM_zero (n : Nat) : SM (fun _ => false) n = 0 := by
  induction n with
  | zero => rfl
  | succ n ih => unfold SM; rw [ih]; rfl
theorem Ord.start (N : Nat) (f : Nat → Nat) : Ord N f (fun _ => false) 1 :=
  ⟨fun _ _ => rfl, Nat.one_pos, fun _ _ h => (by cases h), fun d _ => Nat.one_dvd d, fun _ => false, (by rw [SM_zero]; exact Nat.zero_le _), Nat.one_dvd _, fun _ h => (by cases h)⟩
theorem dvd_wgt (s : Nat) : s ∣ 2 * wgt s := by
  unfold wgt
  split
  · exact Nat.dvd_mul_left _ _
  · have : 2 * (s / 2) = s := by omega
    rw [this]; exact Nat.dvd_refl _
theorem Ord.step {N : Nat} {f : Nat → Nat} {S0 S : Nat → Bool} {o x k : Nat} (p : Perm N f) (hx : x < N) (ho : Ord N f S0 o) (h : Way N f S0 x k S) (hk : 0 < k) (hn : S (it f k x) = true) : Ord N f S (Nat.lcm o k) := by
  have hr := h.round p hx ho.closed hk hn
  refine ⟨h.closed p hx ho.closed hk hr, Nat.lcm_pos ho.pos hk, fun i hi hs => ?_, fun d hd => ?_, ?_⟩
  · rcases (h.mem i).1 hs with h0 | ⟨j, hj, rfl⟩
    · exact it_dvd (ho.back i hi h0) (Nat.dvd_lcm_left _ _)
    · have : it f (Nat.lcm o k) x = x := it_dvd hr (Nat.dvd_lcm_right _ _)
      rw [← it_add, Nat.add_comm, it_add, this]
  · refine Nat.lcm_dvd (ho.least d fun i hi h0 => hd i hi ((h.mem i).2 (.inl h0))) (h.period hk hr d (hd x hx ((h.mem x).2 (.inr ⟨0, hk, rfl⟩))))
  · obtain ⟨ch, h1, h2, h3⟩ := ho.small
    have hkN : k ≤ N := by have := h.count; have := cnt_le S N; omega
    cases hc : ch k
    · refine ⟨mark ch k, ?_, ?_, fun s hs => ?_⟩
      · rw [SM_mark ch k N hc hk, if_pos hkN, h.count]; omega
      · rw [WP_mark ch k N hc hk, if_pos hkN]
        refine Nat.lcm_dvd ?_ ?_
        · exact Nat.dvd_trans h2 ⟨wgt k, by rw [Nat.mul_assoc]⟩
        · exact Nat.dvd_trans (dvd_wgt k) ⟨WP ch N, by rw [Nat.mul_assoc, Nat.mul_comm (wgt k)]⟩
      · have : ch s = true ∨ s = k := by simpa [mark] using hs
        rcases this with h' | rfl
        · exact Nat.dvd_trans (h3 s h') (Nat.dvd_lcm_left _ _)
        · exact Nat.dvd_lcm_right _ _
    · have he : Nat.lcm o k = o := Nat.dvd_antisymm (Nat.lcm_dvd (Nat.dvd_refl _) (h3 k hc)) (Nat.dvd_lcm_left _ _)
      refine ⟨ch, by rw [h.count]; omega, by rw [he]; exact h2, by rw [he]; exact h3⟩
theorem Ord.same {N : Nat} {f : Nat → Nat} {S0 S : Nat → Bool} {o x : Nat} (ho : Ord N f S0 o) (h : Way N f S0 x 0 S) : Ord N f S o := by
  have e : S = S0 := by
    funext i
    have := h.mem i
    have h2 : S i = true ↔ S0 i = true := by rw [this]; exact ⟨fun h => h.elim id fun ⟨j, hj, _⟩ => absurd hj (by omega), .inl⟩
    cases ha : S i <;> cases hb : S0 i <;> simp_all
  subst e; exact ho
theorem WP_pos (ch : Nat → Bool) (n : Nat) : 0 < WP ch n := by
  induction n with
  | zero => exact Nat.one_pos
  | succ n ih => unfold WP; refine Nat.mul_pos ih ?_; split; exact wgt_pos _ (by omega); exact Nat.one_pos
theorem Ord.lt {f : Nat → Nat} {S : Nat → Bool} {o : Nat} (ho : Ord 256 f S o) : o < 9223372036854775808 := by
  obtain ⟨ch, h1, h2, _⟩ := ho.small
  have := WP_lt ch (by have := cnt_le S 256; omega)
  have hp := WP_pos ch 256
  have := Nat.le_of_dvd (by omega) h2
  have e : (2 : Nat) ^ 62 = 4611686018427387904 := rfl
  omega
/-- how the code reckons the least common multiple -/
theorem lcm_code (o s : Nat) (hs : 0 < s) : o / Nat.gcd (o % s) s * s = Nat.lcm o s := by
  have e : Nat.gcd (o % s) s = Nat.gcd o s := by rw [Nat.gcd_comm, Nat.gcd_comm o s, Nat.gcd_rec s o, Nat.gcd_comm]
  rw [e]
  obtain ⟨q, hq⟩ := Nat.gcd_dvd_left o s
  have hg : 0 < Nat.gcd o s := Nat.gcd_pos_of_pos_right _ hs
  have h1 : o / Nat.gcd o s = q := by
    conv => lhs; lhs; rw [hq]
    exact Nat.mul_div_cancel_left _ hg
  rw [h1, Nat.lcm]
  rw [Nat.div_eq_of_eq_mul_right hg]
  conv => lhs; rw [hq]
  rw [Nat.mul_assoc]
end Go.Proofs.Ytkhbopdjokicmaa
