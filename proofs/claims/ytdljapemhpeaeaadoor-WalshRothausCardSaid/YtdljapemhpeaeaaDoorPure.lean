/-
  The plain law of the transforms of package walsh: what pairs of sums and differences come to, and what follows for orders and degrees. No program stands in it.
-/
namespace Go.Proofs.YtdljapemhpeaeaaDoor.Wp
abbrev Ar := Nat → Int
def upd (a : Ar) (i : Nat) (v : Int) : Ar := fun j => if j = i then v else a j
def pairStep (g : Int → Int → Int × Int) (k x : Nat) (a : Ar) : Ar :=
  if x ||| 2 ^ k = x then a else upd (upd a x (g (a x) (a (x ||| 2 ^ k))).1) (x ||| 2 ^ k) (g (a x) (a (x ||| 2 ^ k))).2
def rowN (g : Int → Int → Int × Int) (k : Nat) : Nat → Ar → Ar
  | 0, a => a
  | m + 1, a => pairStep g k m (rowN g k m a)
def flyN (g : Int → Int → Int × Int) (N : Nat) : Nat → Ar → Ar
  | 0, a => a
  | k + 1, a => rowN g k N (flyN g N k a)
def rowOut (g : Int → Int → Int × Int) (k : Nat) (a : Ar) : Ar := fun z =>
  if z.testBit k then (g (a (z - 2 ^ k)) (a z)).2 else (g (a z) (a (z + 2 ^ k))).1
def T (g : Int → Int → Int × Int) : Nat → Ar → Ar
  | 0, a => a
  | k + 1, a => rowOut g k (T g k a)

theorem or_dec : ∀ k < 5, ∀ x < 32, x ||| 2 ^ k = if x.testBit k then x else x + 2 ^ k := by decide
theorem or_pow {k x : Nat} (hk : k < 5) (hx : x < 32) : x ||| 2 ^ k = if x.testBit k then x else x + 2 ^ k := or_dec k hk x hx

theorem tb_dec1 : ∀ k < 5, ∀ x < 64, x.testBit k = true → 2 ^ k ≤ x ∧ (x - 2 ^ k).testBit k = false := by decide
theorem tb_dec2 : ∀ k < 5, ∀ x < 64, x.testBit k = false → (x + 2 ^ k).testBit k = true := by decide
/-- the lower one of a pair -/
def low (k z : Nat) : Nat := if z.testBit k then z - 2 ^ k else z

theorem rowN_eq (g : Int → Int → Int × Int) {k : Nat} (hk : k < 5) (a : Ar) : ∀ m ≤ 32, ∀ z < 64, rowN g k m a z = if low k z < m then rowOut g k a z else a z := by
  intro m
  induction m with
  | zero => intro _ z _; simp [rowN]
  | succ m ih =>
    intro hm z hz
    have ih := ih (by omega)
    have hp : 2 ^ k ≤ 16 := by
      have : ∀ k < 5, 2 ^ k ≤ 16 := by decide
      exact this k hk
    have hor := or_pow hk (x := m) (by omega)
    simp only [rowN, pairStep]
    by_cases hb : m.testBit k = true
    · rw [hor, if_pos hb, if_pos rfl, ih z hz]
      have hne : low k z ≠ m := by
        intro e
        unfold low at e
        by_cases hz' : z.testBit k = true
        · rw [if_pos hz'] at e
          have := (tb_dec1 k hk z hz hz').2
          rw [e, hb] at this; cases this
        · rw [if_neg hz'] at e
          rw [e] at hz'; exact hz' hb
      by_cases h1 : low k z < m
      · rw [if_pos h1, if_pos (by omega)]
      · rw [if_neg h1, if_neg (by omega)]
    · have hb' : m.testBit k = false := by simpa using hb
      have hpos : 0 < 2 ^ k := Nat.two_pow_pos k
      rw [hor, if_neg hb, if_neg (by omega)]
      have h2 := tb_dec2 k hk m (by omega) hb'
      have lm : low k m = m := by unfold low; rw [if_neg hb]
      have lm2 : low k (m + 2 ^ k) = m := by unfold low; rw [if_pos h2]; omega
      have am : rowN g k m a m = a m := by rw [ih m (by omega), lm, if_neg (by omega)]
      have am2 : rowN g k m a (m + 2 ^ k) = a (m + 2 ^ k) := by rw [ih _ (by omega), lm2, if_neg (by omega)]
      rw [am, am2]
      simp only [upd]
      by_cases e2 : z = m + 2 ^ k
      · subst e2
        rw [if_pos rfl, lm2, if_pos (by omega)]
        simp only [rowOut, h2, if_true]
        rw [Nat.add_sub_cancel]
      · rw [if_neg e2]
        by_cases e1 : z = m
        · subst e1
          rw [if_pos rfl, lm, if_pos (by omega)]
          simp only [rowOut, hb', Bool.false_eq_true, if_false]
        · rw [if_neg e1, ih z hz]
          have hne : low k z ≠ m := by
            intro e
            unfold low at e
            by_cases hz' : z.testBit k = true
            · rw [if_pos hz'] at e
              have := (tb_dec1 k hk z hz hz').1
              exact e2 (by omega)
            · rw [if_neg hz'] at e; exact e1 e
          by_cases h1 : low k z < m
          · rw [if_pos h1, if_pos (by omega)]
          · rw [if_neg h1, if_neg (by omega)]

theorem low_lt {k z n : Nat} (hz : z < 2 ^ n) : low k z < 2 ^ n := by
  unfold low; split
  · exact Nat.lt_of_le_of_lt (Nat.sub_le _ _) hz
  · exact hz

theorem flyN_eq (g : Int → Int → Int × Int) {n : Nat} (hn : n ≤ 5) (a : Ar) : ∀ k ≤ n, ∀ z < 2 ^ n, flyN g (2 ^ n) k a z = T g k a z := by
  have h32 : 2 ^ n ≤ 32 := by
    have : ∀ n ≤ 5, 2 ^ n ≤ 32 := by decide
    exact this n hn
  intro k
  induction k with
  | zero => intro _ z _; rfl
  | succ k ih =>
    intro hk z hz
    have ih := ih (by omega)
    simp only [flyN, T]
    rw [rowN_eq g (by omega) _ _ h32 z (by omega), if_pos (low_lt hz)]
    have up : z.testBit k = false → z + 2 ^ k < 2 ^ n := by
      have : ∀ n ≤ 5, ∀ k < n, ∀ z < 2 ^ n, z.testBit k = false → z + 2 ^ k < 2 ^ n := by decide
      exact this n hn k (by omega) z hz
    unfold rowOut
    by_cases hb : z.testBit k = true
    · rw [if_pos hb, if_pos hb, ih _ hz, ih _ (Nat.lt_of_le_of_lt (Nat.sub_le _ _) hz)]
    · rw [if_neg hb, if_neg hb, ih _ hz, ih _ (up (by simpa using hb))]

/-- the recursion -/
theorem T_shift (g : Int → Int → Int × Int) (n h : Nat) (a : Ar) : ∀ k ≤ n, ∀ z < 2 ^ n, T g k a (2 ^ n * h + z) = T g k (fun x => a (2 ^ n * h + x)) z := by
  intro k
  induction k with
  | zero => intro _ z _; rfl
  | succ k ih =>
    intro hk z hz
    have ih := ih (by omega)
    simp only [T, rowOut]
    have hb : (2 ^ n * h + z).testBit k = z.testBit k := by
      rw [Nat.testBit_two_pow_mul_add _ hz, if_pos (by omega)]
    rw [hb]
    by_cases hc : z.testBit k = true
    · have hle : 2 ^ k ≤ z := Nat.ge_two_pow_of_testBit hc
      rw [if_pos hc, if_pos hc, Nat.add_sub_assoc hle, ih _ (Nat.lt_of_le_of_lt (Nat.sub_le _ _) hz), ih _ hz]
    · have hup : z + 2 ^ k < 2 ^ n := by
        have hc' : z.testBit k = false := by simpa using hc
        have hd : z / 2 ^ k % 2 = 0 := by
          have := Nat.testBit_eq_decide_div_mod_eq (x := z) (i := k)
          rw [hc'] at this
          have := of_decide_eq_false this.symm
          omega
        have h1 : z / 2 ^ k < 2 ^ (n - k) := by
          rw [Nat.div_lt_iff_lt_mul (Nat.two_pow_pos k), ← Nat.pow_add]
          have : n - k + k = n := by omega
          rw [this]; exact hz
        have h2 : 2 ^ (n - k) = 2 * 2 ^ (n - k - 1) := by
          have : n - k = n - k - 1 + 1 := by omega
          rw [this, Nat.pow_succ, Nat.add_sub_cancel]; omega
        have h3 : z / 2 ^ k + 1 < 2 ^ (n - k) := by omega
        have h4 : (z + 2 ^ k) / 2 ^ k = z / 2 ^ k + 1 := by rw [Nat.add_div_right _ (Nat.two_pow_pos k)]
        have h5 : (z + 2 ^ k) / 2 ^ k < 2 ^ (n - k) := by omega
        rw [Nat.div_lt_iff_lt_mul (Nat.two_pow_pos k), ← Nat.pow_add] at h5
        have : n - k + k = n := by omega
        rw [this] at h5; exact h5
      rw [if_neg hc, if_neg hc, Nat.add_assoc, ih _ hz, ih _ hup]
theorem T_lo (g : Int → Int → Int × Int) (n : Nat) (a : Ar) (z : Nat) (hz : z < 2 ^ n) :
    T g (n + 1) a z = (g (T g n a z) (T g n (fun x => a (2 ^ n + x)) z)).1 := by
  have hb : z.testBit n = false := Nat.testBit_lt_two_pow hz
  have e := T_shift g n 1 a n (Nat.le_refl _) z hz
  rw [Nat.mul_one] at e
  simp only [T, rowOut, hb, Bool.false_eq_true, if_false]
  rw [Nat.add_comm z, e]
theorem T_hi (g : Int → Int → Int × Int) (n : Nat) (a : Ar) (z : Nat) (hz : z < 2 ^ n) :
    T g (n + 1) a (2 ^ n + z) = (g (T g n a z) (T g n (fun x => a (2 ^ n + x)) z)).2 := by
  have hb : (2 ^ n + z).testBit n = true := by rw [Nat.testBit_two_pow_add_eq, Nat.testBit_lt_two_pow hz]; rfl
  have e := T_shift g n 1 a n (Nat.le_refl _) z hz
  rw [Nat.mul_one] at e
  simp only [T, rowOut, hb, if_true]
  rw [Nat.add_sub_cancel_left, e]

def gw (a b : Int) : Int × Int := (a + b, a - b)
def W (n : Nat) (a : Ar) : Ar := T gw n a
theorem W_lo (n : Nat) (a : Ar) (z : Nat) (hz : z < 2 ^ n) : W (n + 1) a z = W n a z + W n (fun x => a (2 ^ n + x)) z := T_lo gw n a z hz
theorem W_hi (n : Nat) (a : Ar) (z : Nat) (hz : z < 2 ^ n) : W (n + 1) a (2 ^ n + z) = W n a z - W n (fun x => a (2 ^ n + x)) z := T_hi gw n a z hz

theorem W_add (n : Nat) : ∀ (a b : Ar) (z : Nat), z < 2 ^ n → W n (fun x => a x + b x) z = W n a z + W n b z := by
  induction n with
  | zero => intro a b z _; rfl
  | succ n ih =>
    intro a b z hz
    rw [Nat.pow_succ] at hz
    by_cases h : z < 2 ^ n
    · rw [W_lo _ _ _ h, W_lo _ _ _ h, W_lo _ _ _ h, ih a b z h, ih (fun x => a (2 ^ n + x)) (fun x => b (2 ^ n + x)) z h]; omega
    · obtain ⟨y, rfl⟩ : ∃ y, z = 2 ^ n + y := ⟨z - 2 ^ n, by omega⟩
      have h : y < 2 ^ n := by omega
      rw [W_hi _ _ _ h, W_hi _ _ _ h, W_hi _ _ _ h, ih a b y h, ih (fun x => a (2 ^ n + x)) (fun x => b (2 ^ n + x)) y h]; omega

/-- sums over the places below S -/
def sub : Nat → Nat → Ar → Int
  | 0, _, f => f 0
  | n + 1, s, f => if s.testBit n then sub n s f + sub n s (fun x => f (2 ^ n + x)) else sub n s f
theorem sub_add (n : Nat) : ∀ (s : Nat) (a b : Ar), sub n s (fun x => a x + b x) = sub n s a + sub n s b := by
  induction n with
  | zero => intro s a b; rfl
  | succ n ih =>
    intro s a b
    simp only [sub]
    split
    · rw [ih, ih s (fun x => a (2 ^ n + x)) (fun x => b (2 ^ n + x))]; omega
    · exact ih s a b
/-- how many of the lowest n bits are set -/
def pc : Nat → Nat → Nat
  | 0, _ => 0
  | n + 1, s => pc n s + (if s.testBit n then 1 else 0)
theorem pc_le (n s : Nat) : pc n s ≤ n := by
  induction n with
  | zero => exact Nat.le_refl _
  | succ n ih => simp only [pc]; split <;> omega
theorem pc_hi (n : Nat) : ∀ (m y : Nat), m ≤ n → pc m (2 ^ n + y) = pc m y := by
  intro m y hm
  induction m with
  | zero => rfl
  | succ m ih =>
    simp only [pc]
    rw [ih (by omega), Nat.testBit_two_pow_add_gt (by omega)]
theorem pc_succ_lo {n y : Nat} (h : y < 2 ^ n) : pc (n + 1) y = pc n y := by simp only [pc]; rw [Nat.testBit_lt_two_pow h]; rfl
theorem pc_succ_hi {n y : Nat} (h : y < 2 ^ n) : pc (n + 1) (2 ^ n + y) = pc n y + 1 := by
  simp only [pc]; rw [pc_hi _ _ _ (Nat.le_refl _), Nat.testBit_two_pow_add_eq, Nat.testBit_lt_two_pow h]; rfl

theorem sieg (n : Nat) : ∀ (k s : Nat) (f : Ar), k ≤ n → (∀ u < 2 ^ n, 1 ≤ pc n u → pc n u ≤ k → W n f u = 0) → n ≤ pc n s + k →
    2 ^ (n - pc n s) * sub n s f = W n f 0 := by
  induction n with
  | zero => intro k s f _ _ _; simp [sub, W, T]
  | succ n ih =>
    intro k s f hk hv hs
    have hpos : 0 < 2 ^ n := Nat.two_pow_pos n
    have lo : ∀ u < 2 ^ n, 1 ≤ pc n u → pc n u ≤ k → W n f u + W n (fun x => f (2 ^ n + x)) u = 0 := by
      intro u hu h1 h2
      rw [← W_lo _ _ _ hu]
      exact hv u (by rw [Nat.pow_succ]; omega) (by rw [pc_succ_lo hu]; exact h1) (by rw [pc_succ_lo hu]; exact h2)
    have hi : ∀ u < 2 ^ n, pc n u + 1 ≤ k → W n f u - W n (fun x => f (2 ^ n + x)) u = 0 := by
      intro u hu h1
      rw [← W_hi _ _ _ hu]
      exact hv _ (by rw [Nat.pow_succ]; omega) (by rw [pc_succ_hi hu]; omega) (by rw [pc_succ_hi hu]; exact h1)
    have pl := pc_le n s
    have tot : W (n + 1) f 0 = W n f 0 + W n (fun x => f (2 ^ n + x)) 0 := W_lo _ _ _ hpos
    by_cases hb : s.testBit n = true
    · have e1 : pc (n + 1) s = pc n s + 1 := by simp [pc, hb]
      have e2 : sub (n + 1) s f = sub n s (fun x => f x + f (2 ^ n + x)) := by rw [sub_add n s f]; simp [sub, hb]
      have := ih (min k n) s (fun x => f x + f (2 ^ n + x)) (Nat.min_le_right _ _)
        (fun u hu h1 h2 => by rw [W_add n f _ u hu]; exact lo u hu h1 (by omega)) (by omega)
      rw [e1, e2, show n + 1 - (pc n s + 1) = n - pc n s from by omega, this, W_add n f _ 0 hpos, tot]
    · have e1 : pc (n + 1) s = pc n s := by simp [pc, hb]
      have e2 : sub (n + 1) s f = sub n s f := by simp [sub, hb]
      have := ih (k - 1) s f (by omega) (fun u hu h1 h2 => by have := lo u hu h1 (by omega); have := hi u hu (by omega); omega) (by omega)
      have p0 : pc n 0 = 0 := by
        have : ∀ m, pc m 0 = 0 := by intro m; induction m with | zero => rfl | succ m ih => simp [pc, ih]
        exact this n
      have h0 := hi 0 hpos (by rw [p0]; omega)
      have e3 : (2 : Int) ^ (n + 1 - pc n s) = 2 * 2 ^ (n - pc n s) := by
        rw [show n + 1 - pc n s = (n - pc n s) + 1 from by omega, Int.pow_succ]; omega
      rw [e1, e2, e3, tot, Int.mul_assoc, this]; omega

/-- the sums of products: parities -/
def par (x : Int) : Int := x % 2
def ga (a b : Int) : Int × Int := (a, (a + b) % 2)
theorem anf_par (n : Nat) : ∀ (f : Ar) (s : Nat), (∀ x, f x = 0 ∨ f x = 1) → s < 2 ^ n → T ga n f s = sub n s f % 2 := by
  induction n with
  | zero => intro f s h hs; have : s = 0 := by omega
            subst this; show f 0 = f 0 % 2; rcases h 0 with h | h <;> rw [h] <;> rfl
  | succ n ih =>
    intro f s h hs
    rw [Nat.pow_succ] at hs
    by_cases hl : s < 2 ^ n
    · rw [T_lo _ _ _ _ hl]
      have hb : s.testBit n = false := Nat.testBit_lt_two_pow hl
      simp only [ga, sub, hb, Bool.false_eq_true, if_false]
      exact ih f s h hl
    · obtain ⟨y, rfl⟩ : ∃ y, s = 2 ^ n + y := ⟨s - 2 ^ n, by omega⟩
      have hy : y < 2 ^ n := by omega
      rw [T_hi _ _ _ _ hy]
      have hb : (2 ^ n + y).testBit n = true := by rw [Nat.testBit_two_pow_add_eq, Nat.testBit_lt_two_pow hy]; rfl
      have sl : ∀ (m : Nat) (F : Ar), m ≤ n → sub m (2 ^ n + y) F = sub m y F := by
        intro m
        induction m with
        | zero => intro F _; rfl
        | succ m ihm => intro F hm; simp only [sub]; rw [Nat.testBit_two_pow_add_gt (by omega), ihm _ (by omega), ihm _ (by omega)]
      simp only [ga, sub, hb, if_true]
      rw [ih f y h hy, ih (fun x => f (2 ^ n + x)) y (fun x => h _) hy, sl n _ (Nat.le_refl _), sl n _ (Nat.le_refl _)]
      omega

theorem T_congr (g g' : Int → Int → Int × Int) (P : Nat → Int → Prop) (h : ∀ k < 5, ∀ a b, P k a → P k b → g a b = g' a b ∧ P (k + 1) (g' a b).1 ∧ P (k + 1) (g' a b).2) (a : Ar) (ha : ∀ z, P 0 (a z)) :
    ∀ k ≤ 5, ∀ z, T g k a z = T g' k a z ∧ P k (T g' k a z) := by
  intro k
  induction k with
  | zero => intro _ z; exact ⟨rfl, ha z⟩
  | succ k ih =>
    intro hk z
    have ih := ih (by omega)
    simp only [T, rowOut]
    by_cases hb : z.testBit k = true
    · rw [if_pos hb, if_pos hb, (ih _).1, (ih _).1]
      obtain ⟨e, _, h2⟩ := h k (by omega) _ _ (ih (z - 2 ^ k)).2 (ih z).2
      rw [e]; exact ⟨rfl, h2⟩
    · rw [if_neg hb, if_neg hb, (ih _).1, (ih _).1]
      obtain ⟨e, h1, _⟩ := h k (by omega) _ _ (ih z).2 (ih (z + 2 ^ k)).2
      rw [e]; exact ⟨rfl, h1⟩
/-- a prefix that is filled -/
theorem pre_succ (h : Ar) (d : Int) (m : Nat) : (fun i => if i < m + 1 then h i else d) = upd (fun i => if i < m then h i else d) m (h m) := by
  funext i
  unfold upd
  by_cases h1 : i = m
  · subst h1; simp
  · rw [if_neg h1]
    by_cases h2 : i < m
    · rw [if_pos (by omega)]; simp [h2]
    · rw [if_neg (by omega)]; simp [h2]
/-- the number whose bits are given -/
def gnum (A : Ar) : Nat → Nat
  | 0 => 0
  | m + 1 => gnum A m + (A m).toNat * 2 ^ m
theorem gnum_lt (A : Ar) (m : Nat) (h : ∀ i < m, A i ≤ 1) : gnum A m < 2 ^ m := by
  induction m with
  | zero => exact Nat.one_pos
  | succ m ih =>
    have := ih (fun i hi => h i (by omega))
    have h1 : (A m).toNat ≤ 1 := by have := h m (by omega); omega
    have h2 : (A m).toNat * 2 ^ m ≤ 1 * 2 ^ m := Nat.mul_le_mul_right _ h1
    rw [Nat.pow_succ]; simp only [gnum]; omega
theorem gnum_or (A : Ar) (m : Nat) (h : ∀ i < m, A i ≤ 1) : gnum A m ||| (A m).toNat * 2 ^ m = gnum A (m + 1) := by
  simp only [gnum]
  rw [Nat.or_comm, Nat.mul_comm, ← Nat.two_pow_add_eq_or_of_lt (gnum_lt A m h)]; omega
theorem gnum_bit (A : Ar) (N : Nat) (h : ∀ i < N, A i = 0 ∨ A i = 1) : ∀ m ≤ N, ∀ i, (gnum A m).testBit i = (decide (i < m) && decide (A i = 1)) := by
  intro m
  induction m with
  | zero => intro _ i; simp [gnum]
  | succ m ih =>
    intro hm i
    have lt := gnum_lt A m (fun i hi => by rcases h i (by omega) with h | h <;> omega)
    have e : gnum A (m + 1) = 2 ^ m * (A m).toNat + gnum A m := by simp only [gnum]; rw [Nat.mul_comm]; omega
    rw [e, Nat.testBit_two_pow_mul_add _ lt]
    by_cases h1 : i < m
    · rw [if_pos h1, ih (by omega) i]; simp [h1, show i < m + 1 from by omega]
    · rw [if_neg h1]
      by_cases h2 : i = m
      · subst h2
        rw [Nat.sub_self]
        rcases h i (by omega) with h | h <;> simp [h]
      · rcases h m (by omega) with h | h
        · rw [h]; simp; intro; omega
        · rw [h]
          have : i - m ≠ 0 := by omega
          simp
          rw [show i - m = (i - m - 1) + 1 from by omega, Nat.testBit_succ]; simp; intro; omega
end Go.Proofs.YtdljapemhpeaeaaDoor.Wp
