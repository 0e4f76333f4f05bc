/-
  Shift: plain facts on rules of rows of bits: Massey's lemma, the shortest rule, and that it is the only one.
-/
namespace Go.Proofs.Ytcbjdodpgnmhnaa
def xs : Nat → (Nat → Bool) → Bool
  | 0, _ => false
  | n + 1, f => xs n f ^^ f n
theorem xs_congr {n : Nat} {f g : Nat → Bool} (h : ∀ i < n, f i = g i) : xs n f = xs n g := by
  induction n with
  | zero => rfl
  | succ n ih => unfold xs; rw [ih fun i hi => h i (by omega), h n (by omega)]
theorem xs_false {n : Nat} {f : Nat → Bool} (h : ∀ i < n, f i = false) : xs n f = false := by
  induction n with
  | zero => rfl
  | succ n ih => unfold xs; rw [ih fun i hi => h i (by omega), h n (by omega)]; rfl
theorem xs_xor (n : Nat) (f g : Nat → Bool) : xs n (fun i => f i ^^ g i) = (xs n f ^^ xs n g) := by
  induction n with
  | zero => rfl
  | succ n ih => unfold xs; rw [ih]; dsimp only; cases xs n f <;> cases xs n g <;> cases f n <;> cases g n <;> rfl
theorem xs_and (n : Nat) (a : Bool) (f : Nat → Bool) : xs n (fun i => a && f i) = (a && xs n f) := by
  induction n with
  | zero => simp [xs]
  | succ n ih => unfold xs; rw [ih]; cases a <;> simp
theorem xs_swap (m n : Nat) (g : Nat → Nat → Bool) : xs m (fun i => xs n (g i)) = xs n (fun j => xs m (fun i => g i j)) := by
  induction m with
  | zero => rw [xs_false (n := n)]; rfl; intro i _; rfl
  | succ m ih =>
    show (xs m _ ^^ xs n (g m)) = xs n (fun j => (xs m (fun i => g i j) ^^ g m j))
    rw [ih, xs_xor]
theorem xs_add (k m : Nat) (f : Nat → Bool) : xs (k + m) f = (xs k f ^^ xs m (fun i => f (k + i))) := by
  induction m with
  | zero => simp [xs]
  | succ m ih => show (xs (k + m) f ^^ f (k + m)) = _; rw [ih]; simp [xs]
theorem xs_succ' (n : Nat) (f : Nat → Bool) : xs (n + 1) f = (f 0 ^^ xs n (fun i => f (i + 1))) := by
  rw [Nat.add_comm, xs_add]
  have : xs 1 f = f 0 := by simp [xs]
  rw [this]
  congr 1
  exact xs_congr fun i _ => by rw [Nat.add_comm]
theorem xs_wide {n m : Nat} {f : Nat → Bool} (h : n ≤ m) (h0 : ∀ i, n ≤ i → i < m → f i = false) : xs m f = xs n f := by
  obtain ⟨d, rfl⟩ : ∃ d, m = n + d := ⟨m - n, by omega⟩
  rw [xs_add, xs_false (n := d) (f := fun i => f (n + i)) fun i hi => h0 _ (by omega) (by omega)]
  simp
/-- what a polynomial makes of a row at a place -/
def D (c s : Nat → Bool) (n : Nat) : Bool := xs (n + 1) fun i => c i && s (n - i)
theorem D_wide {c s : Nat → Bool} {n m : Nat} (h : n ≤ m) : D c s n = xs (m + 1) fun i => if i ≤ n then c i && s (n - i) else false := by
  rw [xs_wide (n := n + 1) (by omega) fun i hi _ => by rw [if_neg (by omega)]]
  exact xs_congr fun i hi => by rw [if_pos (by omega)]
structure Rule (s c : Nat → Bool) (L N : Nat) : Prop where
  one : c 0 = true
  deg : ∀ i, L < i → c i = false
  fits : ∀ n, L ≤ n → n < N → D c s n = false
theorem Rule.less {s c : Nat → Bool} {L N M : Nat} (h : Rule s c L N) (hM : M ≤ N) : Rule s c L M := ⟨h.one, h.deg, fun n h1 h2 => h.fits n h1 (by omega)⟩
/-- Massey's lemma -/
theorem massey {s c c1 : Nat → Bool} {L L1 n : Nat} (h : Rule s c L n) (hd : D c s n = true) (hL : L ≤ n) (h1 : Rule s c1 L1 (n + 1)) : n + 1 ≤ L + L1 := by
  apply Classical.byContradiction
  intro hn
  have hn : L + L1 ≤ n := by omega
  have e1 : xs (n + 1) (fun i => c i && D c1 s (n - i)) = false := by
    refine xs_false fun i hi => ?_
    by_cases hiL : i ≤ L
    · rw [h1.fits (n - i) (by omega) (by omega)]; simp
    · rw [h.deg i (by omega)]; rfl
  have e2 : xs (n + 1) (fun j => c1 j && D c s (n - j)) = true := by
    rw [xs_succ']
    have : xs n (fun i => c1 (i + 1) && D c s (n - (i + 1))) = false := by
      refine xs_false fun i hi => ?_
      by_cases hiL : i + 1 ≤ L1
      · rw [h.fits (n - (i + 1)) (by omega) (by omega)]; simp
      · rw [h1.deg (i + 1) (by omega)]; rfl
    rw [this, h1.one]
    simpa using hd
  have e3 : xs (n + 1) (fun i => c i && D c1 s (n - i)) = xs (n + 1) (fun j => c1 j && D c s (n - j)) := by
    have a1 : xs (n + 1) (fun i => c i && D c1 s (n - i)) = xs (n + 1) fun i => xs (n + 1) fun j => if i + j ≤ n then c i && (c1 j && s (n - i - j)) else false := by
      refine xs_congr fun i hi => ?_
      rw [D_wide (m := n) (by omega), ← xs_and]
      refine xs_congr fun j hj => ?_
      by_cases hij : j ≤ n - i
      · rw [if_pos hij, if_pos (by omega)]
      · rw [if_neg hij, if_neg (by omega)]; simp
    have a2 : xs (n + 1) (fun j => c1 j && D c s (n - j)) = xs (n + 1) fun j => xs (n + 1) fun i => if i + j ≤ n then c i && (c1 j && s (n - i - j)) else false := by
      refine xs_congr fun j hj => ?_
      rw [D_wide (m := n) (by omega), ← xs_and]
      refine xs_congr fun i hi => ?_
      by_cases hij : i ≤ n - j
      · rw [if_pos hij, if_pos (by omega), show n - j - i = n - i - j by omega]
        cases c i <;> cases c1 j <;> rfl
      · rw [if_neg hij, if_neg (by omega)]; simp
    rw [a1, a2, xs_swap]
  rw [e1, e2] at e3
  cases e3
/-- c and b moved up by k -/
def plus (c b : Nat → Bool) (k : Nat) : Nat → Bool := fun i => c i ^^ (decide (k ≤ i) && b (i - k))
theorem D_plus (c b s : Nat → Bool) (k n : Nat) : D (plus c b k) s n = (D c s n ^^ (decide (k ≤ n) && D b s (n - k))) := by
  unfold D plus
  have e : ∀ i, ((c i ^^ (decide (k ≤ i) && b (i - k))) && s (n - i)) = ((c i && s (n - i)) ^^ (decide (k ≤ i) && b (i - k) && s (n - i))) := by
    intro i; cases c i <;> cases (decide (k ≤ i) && b (i - k)) <;> cases s (n - i) <;> rfl
  rw [xs_congr fun i _ => e i, xs_xor]
  congr 1
  by_cases hk : k ≤ n
  · obtain ⟨m, rfl⟩ : ∃ m, n = k + m := ⟨n - k, by omega⟩
    rw [show k + m + 1 = k + (m + 1) by omega, xs_add, xs_false (n := k) fun i hi => ?_]
    · have : decide (k ≤ k + m) = true := by simp
      rw [this, show k + m - k = m by omega]
      simp only [Bool.true_and, Bool.false_bne]
      refine xs_congr fun i hi => ?_
      have : decide (k ≤ k + i) = true := by simp
      rw [this, show k + i - k = i by omega, show k + m - (k + i) = m - i by omega]; simp
    · have : decide (k ≤ i) = false := by simp; omega
      rw [this]; rfl
  · have : decide (k ≤ n) = false := by simp; omega
    rw [this, xs_false fun i hi => ?_]; rfl
    have : decide (k ≤ i) = false := by simp; omega
    rw [this]; rfl
/-- what the walk keeps behind n bits: the rule c of L taps; b, moved up by k, mends it -/
structure Bm (s c b : Nat → Bool) (L k n : Nat) : Prop where
  rule : Rule s c L n
  le : L ≤ n
  least : ∀ c1 L1, Rule s c1 L1 n → L ≤ L1
  kpos : 0 < k
  kle : k ≤ n + 1
  mend : (L = 0 ∧ k = n + 1 ∧ ∀ i, 0 < i → b i = false) ∨ ∃ m Lb, m < n ∧ k = n - m ∧ Lb ≤ m ∧ L = m + 1 - Lb ∧ Rule s b Lb m ∧ D b s m = true
theorem Bm.start (s c : Nat → Bool) (h0 : c 0 = true) (h1 : ∀ i, 0 < i → c i = false) : Bm s c c 0 1 0 :=
  ⟨⟨h0, fun i hi => h1 i hi, fun n _ h => absurd h (by omega)⟩, Nat.le_refl _, fun _ _ _ => Nat.zero_le _, Nat.one_pos, Nat.le_refl _, .inl ⟨rfl, rfl, h1⟩⟩
theorem Bm.fits {s c b : Nat → Bool} {L k n : Nat} (h : Bm s c b L k n) (hd : D c s n = false) : Bm s c b L (k + 1) (n + 1) := by
  refine ⟨⟨h.rule.one, h.rule.deg, fun j h1 h2 => ?_⟩, by have := h.le; omega, fun c1 L1 h1 => h.least c1 L1 (h1.less (by omega)), by omega, by have := h.kle; omega, ?_⟩
  · by_cases hj : j = n
    · subst hj; exact hd
    · exact h.rule.fits j h1 (by omega)
  · rcases h.mend with ⟨h1, h2, h3⟩ | ⟨m, Lb, h1, h2, h3, h4, h5, h6⟩
    · exact .inl ⟨h1, by omega, h3⟩
    · exact .inr ⟨m, Lb, by omega, by omega, h3, h4, h5, h6⟩
theorem Bm.mends {s c b : Nat → Bool} {L k n : Nat} (h : Bm s c b L k n) (hd : D c s n = true) : Rule s (plus c b k) (max L (n + 1 - L)) (n + 1) := by
  have hk := h.kpos
  refine ⟨?_, fun i hi => ?_, fun j h1 h2 => ?_⟩
  · show (c 0 ^^ (decide (k ≤ 0) && b (0 - k))) = true
    have : decide (k ≤ 0) = false := by simp; omega
    rw [this, h.rule.one]; rfl
  · show (c i ^^ (decide (k ≤ i) && b (i - k))) = false
    rw [h.rule.deg i (by omega)]
    by_cases hki : k ≤ i
    · rcases h.mend with ⟨h3, h4, h5⟩ | ⟨m, Lb, h3, h4, h5, h6, h7, h8⟩
      · rw [h5 (i - k) (by omega)]; simp
      · rw [h7.deg (i - k) (by omega)]; simp
    · have : decide (k ≤ i) = false := by simp; omega
      rw [this]; rfl
  · rw [D_plus]
    rcases h.mend with ⟨h3, h4, h5⟩ | ⟨m, Lb, h3, h4, h5, h6, h7, h8⟩
    · omega
    · have hkj : k ≤ j := by omega
      have : decide (k ≤ j) = true := by simp; omega
      rw [this]
      by_cases hj : j = n
      · subst hj
        rw [hd, show j - k = m by omega, h8]; rfl
      · rw [h.rule.fits j (by omega) (by omega), h7.fits (j - k) (by omega) (by omega)]; rfl
theorem Bm.grown {s c b : Nat → Bool} {L k n : Nat} (h : Bm s c b L k n) (hd : D c s n = true) (c1 : Nat → Bool) (L1 : Nat) (h1 : Rule s c1 L1 (n + 1)) : max L (n + 1 - L) ≤ L1 := by
  have a := h.least c1 L1 (h1.less (by omega))
  have b := massey h.rule hd h.le h1
  omega
theorem Bm.short {s c b : Nat → Bool} {L k n : Nat} (h : Bm s c b L k n) (hd : D c s n = true) (hL : 2 * L ≤ n) : Bm s (plus c b k) c (n + 1 - L) 1 (n + 1) := by
  have e : max L (n + 1 - L) = n + 1 - L := by omega
  have hm := h.mends hd
  have hg := h.grown hd
  rw [e] at hm hg
  exact ⟨hm, by omega, hg, Nat.one_pos, by omega, .inr ⟨n, L, by omega, by omega, h.le, rfl, h.rule, hd⟩⟩
theorem Bm.long {s c b : Nat → Bool} {L k n : Nat} (h : Bm s c b L k n) (hd : D c s n = true) (hL : n < 2 * L) : Bm s (plus c b k) b L (k + 1) (n + 1) := by
  have e : max L (n + 1 - L) = L := by omega
  have hm := h.mends hd
  have hg := h.grown hd
  rw [e] at hm hg
  refine ⟨hm, by have := h.le; omega, hg, by omega, by have := h.kle; omega, ?_⟩
  rcases h.mend with ⟨h3, h4, h5⟩ | ⟨m, Lb, h3, h4, h5, h6, h7, h8⟩
  · omega
  · exact .inr ⟨m, Lb, by omega, by omega, h5, h6, h7, h8⟩
/-- the first place from m on where a rule fails -/
theorem first_fail {s c : Nat → Bool} {L N : Nat} (M : Nat) (hM : M ≤ N) (h : Rule s c L M) (hn : ¬ Rule s c L N) : ∃ n, M ≤ n ∧ n < N ∧ Rule s c L n ∧ D c s n = true ∧ L ≤ n := by
  induction N with
  | zero =>
    obtain rfl : M = 0 := by omega
    exact absurd h hn
  | succ N ih =>
    by_cases hMN : M = N + 1
    · subst hMN; exact absurd h hn
    · by_cases hr : Rule s c L N
      · refine ⟨N, by omega, by omega, hr, ?_, ?_⟩
        · cases hd : D c s N
          · exact absurd ⟨hr.one, hr.deg, fun j h1 h2 => if hj : j = N then by subst hj; exact hd else hr.fits j h1 (by omega)⟩ hn
          · rfl
        · apply Classical.byContradiction
          intro hl
          exact hn ⟨hr.one, hr.deg, fun j h1 h2 => by omega⟩
      · obtain ⟨n, h1, h2, h3⟩ := ih (by omega) hr
        exact ⟨n, h1, by omega, h3⟩
theorem least_diff {p : Nat → Bool} (n : Nat) (h : p n = true) : ∃ k, k ≤ n ∧ p k = true ∧ ∀ j < k, p j = false := by
  induction n using Nat.strongRecOn with
  | _ n ih =>
    by_cases he : ∃ j, j < n ∧ p j = true
    · obtain ⟨j, hj, hp⟩ := he
      obtain ⟨k, h1, h2, h3⟩ := ih j hj hp
      exact ⟨k, by omega, h2, h3⟩
    · exact ⟨n, Nat.le_refl _, h, fun j hj => by
        cases hb : p j
        · rfl
        · exact absurd ⟨j, hj, hb⟩ he⟩
/-- a shortest rule of a row at least twice as long is the only one -/
theorem only {s c c1 : Nat → Bool} {L N : Nat} (h : Rule s c L N) (h1 : Rule s c1 L N) (hmin : ∀ c2 L2, Rule s c2 L2 N → L ≤ L2) (hL : 2 * L ≤ N) : ∀ i, c i = c1 i := by
  intro i
  apply Classical.byContradiction
  intro hne
  obtain ⟨k, hk, hpk, hlt⟩ := least_diff (p := fun i => c i ^^ c1 i) i (by cases hc : c i <;> cases hc1 : c1 i <;> simp_all)
  have hk0 : 0 < k := by
    rcases Nat.eq_zero_or_pos k with h0 | h0
    · subst h0; rw [h.one, h1.one] at hpk; cases hpk
    · exact h0
  have hkL : k ≤ L := by
    apply Classical.byContradiction
    intro hl
    rw [h.deg k (by omega), h1.deg k (by omega)] at hpk; cases hpk
  have hD : ∀ n, L ≤ n → n < N → D (fun i => c (i + k) ^^ c1 (i + k)) s (n - k) = false := by
    intro n h2 h3
    have e : plus (fun _ => false) (fun i => c (i + k) ^^ c1 (i + k)) k = fun i => c i ^^ c1 i := by
      funext i
      unfold plus
      by_cases hi : k ≤ i
      · have : decide (k ≤ i) = true := by simp; omega
        simp only [this, Nat.sub_add_cancel hi]; simp
      · have : decide (k ≤ i) = false := by simp; omega
        simp only [this]
        have := hlt i (by omega)
        rw [this]; rfl
    have e2 := D_plus (fun _ => false) (fun i => c (i + k) ^^ c1 (i + k)) s k n
    rw [e] at e2
    have e3 : D (fun i => c i ^^ c1 i) s n = (D c s n ^^ D c1 s n) := by
      unfold D
      rw [← xs_xor]
      exact xs_congr fun i _ => by dsimp only; cases c i <;> cases c1 i <;> cases s (n - i) <;> rfl
    have e4 : D (fun _ => false) s n = false := xs_false fun i _ => rfl
    have : decide (k ≤ n) = true := by simp; omega
    rw [e3, e4, h.fits n h2 h3, h1.fits n h2 h3, this] at e2
    simpa using e2.symm
  have hR : Rule s (fun i => c (i + k) ^^ c1 (i + k)) (L - k) (N - k) := by
    refine ⟨by simpa using hpk, fun i hi => ?_, fun n h2 h3 => ?_⟩
    · show (c (i + k) ^^ c1 (i + k)) = false
      rw [h.deg _ (by omega), h1.deg _ (by omega)]; rfl
    · have := hD (n + k) (by omega) (by omega)
      rwa [Nat.add_sub_cancel] at this
  by_cases hRN : Rule s (fun i => c (i + k) ^^ c1 (i + k)) (L - k) N
  · have := hmin _ _ hRN; omega
  · obtain ⟨n, h2, h3, h4, h5, h6⟩ := first_fail (N - k) (by omega) hR hRN
    have := massey h4 h5 h6 (h.less (M := n + 1) (by omega))
    omega
/-- a shortest rule fails at the next bit: how long the next one is -/
theorem grows {s c c1 : Nat → Bool} {L L1 N : Nat} (h : Rule s c L N) (hmin : ∀ c2 L2, Rule s c2 L2 N → L ≤ L2) (hL : L ≤ N) (hd : D c s N = true)
    (h1 : Rule s c1 L1 (N + 1)) (hmin1 : ∀ c2 L2, Rule s c2 L2 (N + 1) → L1 ≤ L2) (hex : ∃ c2, Rule s c2 (max L (N + 1 - L)) (N + 1)) : L1 = max L (N + 1 - L) := by
  have a := massey h hd hL h1
  have b := hmin _ _ (h1.less (by omega))
  obtain ⟨c2, h2⟩ := hex
  have := hmin1 _ _ h2
  omega
/-- a polynomial in two words -/
def cbit (lo hi : Nat) (i : Nat) : Bool := if i < 64 then lo.testBit i else hi.testBit (i - 64)
theorem testBit_ge {x i : Nat} (hx : x < 18446744073709551616) (h : 64 ≤ i) : x.testBit i = false := by
  apply Nat.testBit_lt_two_pow
  exact Nat.lt_of_lt_of_le hx (Nat.pow_le_pow_right (n := 2) (i := 64) (by decide) h)
theorem bit_shl (x k i : Nat) : (x * 2 ^ k).testBit i = (decide (k ≤ i) && x.testBit (i - k)) := by
  rw [Nat.testBit_mul_two_pow]
theorem bit_mod (x i : Nat) : (x % 18446744073709551616).testBit i = (decide (i < 64) && x.testBit i) := Nat.testBit_mod_two_pow x 64 i
theorem upd (lo hi lob hib k i : Nat) (h2 : lob < 18446744073709551616) (hk : 1 ≤ k) (hk64 : k ≤ 64) (hb : ∀ j, 64 ≤ j → cbit lob hib j = false) :
    cbit (lo ^^^ (lob * 2 ^ k % 18446744073709551616)) (hi ^^^ ((hib * 2 ^ k % 18446744073709551616) ||| lob / 2 ^ (64 - k))) i = plus (cbit lo hi) (cbit lob hib) k i := by
  unfold plus
  by_cases hi64 : i < 64
  · have e1 : cbit (lo ^^^ (lob * 2 ^ k % 18446744073709551616)) (hi ^^^ ((hib * 2 ^ k % 18446744073709551616) ||| lob / 2 ^ (64 - k))) i = (lo ^^^ (lob * 2 ^ k % 18446744073709551616)).testBit i := if_pos hi64
    have e2 : cbit lo hi i = lo.testBit i := if_pos hi64
    have e3 : cbit lob hib (i - k) = lob.testBit (i - k) := if_pos (by omega)
    rw [e1, e2, e3, Nat.testBit_xor, bit_mod, bit_shl]
    have : decide (i < 64) = true := by simpa using hi64
    rw [this, Bool.true_and]
  · have e1 : cbit (lo ^^^ (lob * 2 ^ k % 18446744073709551616)) (hi ^^^ ((hib * 2 ^ k % 18446744073709551616) ||| lob / 2 ^ (64 - k))) i = (hi ^^^ ((hib * 2 ^ k % 18446744073709551616) ||| lob / 2 ^ (64 - k))).testBit (i - 64) := if_neg hi64
    have e2 : cbit lo hi i = hi.testBit (i - 64) := if_neg hi64
    rw [e1, e2, Nat.testBit_xor, Nat.testBit_or, bit_mod, bit_shl, Nat.testBit_div_two_pow]
    have d1 : decide (k ≤ i) = true := by simp; omega
    rw [d1, Bool.true_and]
    congr 1
    by_cases hj : i - 64 < k
    · have d2 : decide (k ≤ i - 64) = false := by simp; omega
      have e3 : cbit lob hib (i - k) = lob.testBit (i - k) := if_pos (by omega)
      rw [d2, e3]
      simp only [Bool.false_and, Bool.and_false, Bool.false_or]
      congr 1; omega
    · have hz : lob.testBit (64 - k + (i - 64)) = false ∧ lob.testBit (i - 64 + (64 - k)) = false := ⟨testBit_ge h2 (by omega), testBit_ge h2 (by omega)⟩
      have hz2 := hb (i - k) (by omega)
      rw [hz2]
      have e3 : cbit lob hib (i - k) = hib.testBit (i - k - 64) := if_neg (by omega)
      rw [hz2] at e3
      rw [show i - 64 - k = i - k - 64 by omega, ← e3]
      simp [hz.2]
theorem half_bit (lo hi i : Nat) (h1 : lo < 18446744073709551616) (hi64 : i < 64) : (lo / 2 ||| hi * 9223372036854775808 % 18446744073709551616).testBit i = cbit lo hi (i + 1) := by
  have e : hi * 9223372036854775808 = hi * 2 ^ 63 := rfl
  rw [e, Nat.testBit_or, bit_mod, bit_shl, Nat.testBit_div_two]
  have d1 : decide (i < 64) = true := by simpa using hi64
  rw [d1, Bool.true_and]
  unfold cbit
  by_cases hi63 : i < 63
  · have d2 : decide (63 ≤ i) = false := by simp; omega
    rw [d2, if_pos (by omega)]; simp
  · obtain rfl : i = 63 := by omega
    rw [if_neg (by omega), testBit_ge h1 (by omega)]; simp
/-- what a polynomial foretells, as the code reckons it -/
theorem foretell {s c : Nat → Bool} {L n : Nat} (h0 : c 0 = true) (hd : ∀ i, L < i → c i = false) (hL : L ≤ n) (x : Nat) (hx : ∀ i < 64, x.testBit i = (decide (i < L) && s (n - 1 - i) && c (i + 1))) (hn : n ≤ 64) :
    (xs 64 (fun i => x.testBit i) == s n) = !(D c s n) := by
  have e1 : xs 64 (fun i => x.testBit i) = xs n (fun i => c (i + 1) && s (n - (i + 1))) := by
    rw [xs_congr (g := fun i => decide (i < L) && s (n - 1 - i) && c (i + 1)) fun i hi => hx i hi]
    have a1 : xs 64 (fun i => decide (i < L) && s (n - 1 - i) && c (i + 1)) = xs L (fun i => decide (i < L) && s (n - 1 - i) && c (i + 1)) := by
      refine xs_wide (by omega) fun i h1 _ => ?_
      have : decide (i < L) = false := by simp; omega
      rw [this]; rfl
    have a2 : xs n (fun i => c (i + 1) && s (n - (i + 1))) = xs L (fun i => c (i + 1) && s (n - (i + 1))) := by
      refine xs_wide hL fun i h1 _ => ?_
      rw [hd (i + 1) (by omega)]; rfl
    rw [a1, a2]
    refine xs_congr fun i hi => ?_
    have : decide (i < L) = true := by simpa using hi
    rw [this, show n - 1 - i = n - (i + 1) by omega]
    cases s (n - (i + 1)) <;> cases c (i + 1) <;> rfl
  have e2 : D c s n = (s n ^^ xs n (fun i => c (i + 1) && s (n - (i + 1)))) := by
    unfold D
    rw [xs_succ', h0]; simp
  rw [e1, e2]
  cases s n <;> cases xs n (fun i => c (i + 1) && s (n - (i + 1))) <;> rfl
end Go.Proofs.Ytcbjdodpgnmhnaa
