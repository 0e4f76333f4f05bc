/-
  The plain law of orders, degrees and bent functions, over the transforms of the text before.
-/
import Derived.Test.YtdljapemhpeaeaaDoorPure
namespace Go.Proofs.YtdljapemhpeaeaaDoor.Wp
theorem sub_sign (n : Nat) : ∀ (s : Nat) (b : Ar), sub n s (fun x => 1 - 2 * b x) = 2 ^ pc n s - 2 * sub n s b := by
  induction n with
  | zero => intro s b; simp [sub, pc]
  | succ n ih =>
    intro s b
    have h1 := ih s b
    have h2 := ih s (fun x => b (2 ^ n + x))
    simp only [sub, pc]
    split
    · rw [Int.pow_succ]; omega
    · exact h1
theorem pc_ones (n j : Nat) (h : j ≤ n) : pc n (2 ^ j - 1) = j := by
  have : ∀ m, pc m (2 ^ j - 1) = min m j := by
    intro m
    induction m with
    | zero => simp [pc]
    | succ m ih =>
      simp only [pc, ih, Nat.testBit_two_pow_sub_one]
      by_cases hm : m < j
      · simp [hm]; omega
      · simp [hm]; omega
  rw [this]; omega
theorem sieg_even (n k s : Nat) (b : Ar) (hk : k ≤ n) (hv : ∀ u < 2 ^ n, 1 ≤ pc n u → pc n u ≤ k → W n (fun x => 1 - 2 * b x) u = 0) (hs : n < pc n s + k) : sub n s b % 2 = 0 := by
  have pl := pc_le n s
  have h1 := sieg n k s (fun x => 1 - 2 * b x) hk hv (by omega)
  have hj : pc n (2 ^ (pc n s - 1) - 1) = pc n s - 1 := pc_ones n _ (by omega)
  have h2 := sieg n k (2 ^ (pc n s - 1) - 1) (fun x => 1 - 2 * b x) hk hv (by omega)
  rw [hj] at h2
  rw [sub_sign] at h1 h2
  rw [hj] at h2
  obtain ⟨p, hp⟩ : ∃ p, pc n s = p + 1 := ⟨pc n s - 1, by omega⟩
  rw [hp] at h1 h2
  rw [Nat.add_sub_cancel] at h2
  rw [show n - p = (n - (p + 1)) + 1 from by omega, Int.pow_succ] at h2
  rw [Int.pow_succ] at h1
  rw [← h2, Int.mul_assoc] at h1
  have hpos : (0 : Int) < 2 ^ (n - (p + 1)) := Int.pow_pos (by decide)
  have := Int.eq_of_mul_eq_mul_left (by omega) h1
  omega

/-- the sum of squares -/
def ssq : Nat → Ar → Int
  | 0, a => a 0 * a 0
  | n + 1, a => ssq n a + ssq n (fun x => a (2 ^ n + x))
theorem ssq_congr (n : Nat) : ∀ (a b : Ar), (∀ u < 2 ^ n, a u = b u) → ssq n a = ssq n b := by
  induction n with
  | zero => intro a b h; simp only [ssq]; rw [h 0 (by decide)]
  | succ n ih =>
    intro a b h
    simp only [ssq]
    rw [ih a b (fun u hu => h u (by rw [Nat.pow_succ]; omega)), ih _ (fun x => b (2 ^ n + x)) (fun u hu => h _ (by rw [Nat.pow_succ]; omega))]
theorem ssq_para (n : Nat) : ∀ (f g : Ar), ssq n (fun x => f x + g x) + ssq n (fun x => f x - g x) = 2 * (ssq n f + ssq n g) := by
  induction n with
  | zero => intro f g; simp only [ssq]; grind
  | succ n ih =>
    intro f g
    have h1 := ih f g
    have h2 := ih (fun x => f (2 ^ n + x)) (fun x => g (2 ^ n + x))
    simp only [ssq] at *
    omega
theorem parseval (n : Nat) : ∀ a : Ar, ssq n (W n a) = 2 ^ n * ssq n a := by
  induction n with
  | zero => intro a; simp [ssq, W, T]
  | succ n ih =>
    intro a
    simp only [ssq]
    rw [ssq_congr n (W (n + 1) a) (fun u => W n a u + W n (fun x => a (2 ^ n + x)) u) (fun u hu => W_lo n a u hu),
      ssq_congr n (fun x => W (n + 1) a (2 ^ n + x)) (fun u => W n a u - W n (fun x => a (2 ^ n + x)) u) (fun u hu => W_hi n a u hu),
      ssq_para, ih a, ih, Int.pow_succ, Int.mul_comm (2 ^ n) 2, Int.mul_assoc]
    simp only [Int.mul_add]
theorem ssq_const (n : Nat) (c : Int) : ∀ a : Ar, (∀ u < 2 ^ n, a u * a u = c) → ssq n a = 2 ^ n * c := by
  induction n with
  | zero => intro a h; simp only [ssq]; rw [h 0 (by decide)]; omega
  | succ n ih =>
    intro a h
    simp only [ssq]
    rw [ih a (fun u hu => h u (by rw [Nat.pow_succ]; omega)), ih _ (fun u hu => h _ (by rw [Nat.pow_succ]; omega)), Int.pow_succ, Int.mul_comm (2 ^ n) 2, Int.mul_assoc]; omega
theorem bent_sq (n : Nat) (b : Ar) (hb : ∀ x, b x = 0 ∨ b x = 1) (h : ∀ u < 2 ^ n, W n (fun x => 1 - 2 * b x) u = W n (fun x => 1 - 2 * b x) 0 ∨ W n (fun x => 1 - 2 * b x) u = -W n (fun x => 1 - 2 * b x) 0) :
    W n (fun x => 1 - 2 * b x) 0 * W n (fun x => 1 - 2 * b x) 0 = 2 ^ n := by
  have h1 := parseval n (fun x => 1 - 2 * b x)
  rw [ssq_const n 1 (fun x => 1 - 2 * b x) (fun u _ => by rcases hb u with h | h <;> simp [h])] at h1
  rw [ssq_const n (W n (fun x => 1 - 2 * b x) 0 * W n (fun x => 1 - 2 * b x) 0) _ (fun u hu => by rcases h u hu with h | h <;> rw [h]; grind)] at h1
  have hpos : (0 : Int) < 2 ^ n := Int.pow_pos (by decide)
  have := Int.eq_of_mul_eq_mul_left (by omega) h1
  omega
theorem no_sq {w : Int} {c : Int} (hc : c = 2 ∨ c = 8 ∨ c = 32) : w * w ≠ c := by
  intro h
  have e : ((w.natAbs * w.natAbs : Nat) : Int) = c := by rw [Int.natAbs_mul_self]; exact h
  generalize w.natAbs = m at e
  have h6 : m < 6 := by
    rcases Nat.lt_or_ge m 6 with h | h
    · exact h
    · have := Nat.mul_le_mul h h
      omega
  have : m = 0 ∨ m = 1 ∨ m = 2 ∨ m = 3 ∨ m = 4 ∨ m = 5 := by omega
  rcases this with rfl | rfl | rfl | rfl | rfl | rfl <;> omega
theorem bent_odd {n : Nat} (hn : n = 1 ∨ n = 3 ∨ n = 5) (b : Ar) (hb : ∀ x, b x = 0 ∨ b x = 1) :
    ¬ ∀ u < 2 ^ n, W n (fun x => 1 - 2 * b x) u = W n (fun x => 1 - 2 * b x) 0 ∨ W n (fun x => 1 - 2 * b x) u = -W n (fun x => 1 - 2 * b x) 0 := by
  intro h
  have h1 := bent_sq n b hb h
  refine no_sq (c := 2 ^ n) ?_ h1
  rcases hn with rfl | rfl | rfl <;> decide
theorem sq16 {w : Int} (h : w * w = 16) : w = 4 ∨ w = -4 := by
  have e : w.natAbs * w.natAbs = 16 := by
    have : ((w.natAbs * w.natAbs : Nat) : Int) = 16 := by rw [Int.natAbs_mul_self]; exact h
    omega
  generalize hm : w.natAbs = m at e
  have h6 : m < 6 := by
    rcases Nat.lt_or_ge m 6 with h | h
    · exact h
    · have := Nat.mul_le_mul h h
      omega
  have : m = 0 ∨ m = 1 ∨ m = 2 ∨ m = 3 ∨ m = 4 ∨ m = 5 := by omega
  rcases this with rfl | rfl | rfl | rfl | rfl | rfl <;> omega
theorem bent_four (b : Ar) (hb : ∀ x, b x = 0 ∨ b x = 1) (h : ∀ u < 2 ^ 4, W 4 (fun x => 1 - 2 * b x) u = W 4 (fun x => 1 - 2 * b x) 0 ∨ W 4 (fun x => 1 - 2 * b x) u = -W 4 (fun x => 1 - 2 * b x) 0) :
    ∀ u < 16, W 4 (fun x => 1 - 2 * b x) u = 4 ∨ W 4 (fun x => 1 - 2 * b x) u = -4 := by
  have h0 := sq16 (bent_sq 4 b hb h)
  intro u hu
  have := h u hu
  omega
/-- the waves of four variables, written out by halves -/
theorem W4 (a : Ar) : W 4 a 0 = a 0 + a 1 + a 2 + a 3 + a 4 + a 5 + a 6 + a 7 + a 8 + a 9 + a 10 + a 11 + a 12 + a 13 + a 14 + a 15 ∧
    W 4 a 8 = a 0 + a 1 + a 2 + a 3 + a 4 + a 5 + a 6 + a 7 - (a 8 + a 9 + a 10 + a 11 + a 12 + a 13 + a 14 + a 15) ∧
    W 4 a 4 = a 0 + a 1 + a 2 + a 3 + a 8 + a 9 + a 10 + a 11 - (a 4 + a 5 + a 6 + a 7 + a 12 + a 13 + a 14 + a 15) ∧
    W 4 a 2 = a 0 + a 1 + a 4 + a 5 + a 8 + a 9 + a 12 + a 13 - (a 2 + a 3 + a 6 + a 7 + a 10 + a 11 + a 14 + a 15) ∧
    W 4 a 1 = a 0 + a 2 + a 4 + a 6 + a 8 + a 10 + a 12 + a 14 - (a 1 + a 3 + a 5 + a 7 + a 9 + a 11 + a 13 + a 15) := by
  refine ⟨?_, ?_, ?_, ?_, ?_⟩
  · show a 0 + a 1 + (a 2 + a 3) + (a 4 + a 5 + (a 6 + a 7)) + (a 8 + a 9 + (a 10 + a 11) + (a 12 + a 13 + (a 14 + a 15))) = _
    omega
  · show a 0 + a 1 + (a 2 + a 3) + (a 4 + a 5 + (a 6 + a 7)) - (a 8 + a 9 + (a 10 + a 11) + (a 12 + a 13 + (a 14 + a 15))) = _
    omega
  · show a 0 + a 1 + (a 2 + a 3) - (a 4 + a 5 + (a 6 + a 7)) + (a 8 + a 9 + (a 10 + a 11) - (a 12 + a 13 + (a 14 + a 15))) = _
    omega
  · show a 0 + a 1 - (a 2 + a 3) + (a 4 + a 5 - (a 6 + a 7)) + (a 8 + a 9 - (a 10 + a 11) + (a 12 + a 13 - (a 14 + a 15))) = _
    omega
  · show a 0 - a 1 + (a 2 - a 3) + (a 4 - a 5 + (a 6 - a 7)) + (a 8 - a 9 + (a 10 - a 11) + (a 12 - a 13 + (a 14 - a 15))) = _
    omega
theorem four_le (b : Ar) (h : ∀ u < 16, W 4 (fun x => 1 - 2 * b x) u = 4 ∨ W 4 (fun x => 1 - 2 * b x) u = -4) (s : Nat) (hs : s < 16) (hp : 2 < pc 4 s) : sub 4 s b % 2 = 0 := by
  obtain ⟨e0, e8, e4, e2, e1⟩ := W4 (fun x => 1 - 2 * b x)
  have h0 := h 0 (by decide)
  have h8 := h 8 (by decide)
  have h4 := h 4 (by decide)
  have h2 := h 2 (by decide)
  have h1 := h 1 (by decide)
  rw [e0] at h0; rw [e8] at h8; rw [e4] at h4; rw [e2] at h2; rw [e1] at h1
  clear h e0 e8 e4 e2 e1
  have cs : ∀ s < 16, 2 < pc 4 s → s = 7 ∨ s = 11 ∨ s = 13 ∨ s = 14 ∨ s = 15 := by decide
  rcases cs s hs hp with rfl | rfl | rfl | rfl | rfl
  · clear h4 h2 h1
    show (b 0 + b 1 + (b 2 + b 3) + (b 4 + b 5 + (b 6 + b 7))) % 2 = 0
    omega
  · clear h8 h2 h1
    show (b 0 + b 1 + (b 2 + b 3) + (b 8 + b 9 + (b 10 + b 11))) % 2 = 0
    omega
  · clear h8 h4 h1
    show (b 0 + b 1 + (b 4 + b 5) + (b 8 + b 9 + (b 12 + b 13))) % 2 = 0
    omega
  · clear h8 h4 h2
    show (b 0 + b 2 + (b 4 + b 6) + (b 8 + b 10 + (b 12 + b 14))) % 2 = 0
    omega
  · clear h8 h4 h2 h1
    show (b 0 + b 1 + (b 2 + b 3) + (b 4 + b 5 + (b 6 + b 7)) + (b 8 + b 9 + (b 10 + b 11) + (b 12 + b 13 + (b 14 + b 15)))) % 2 = 0
    omega
theorem W4_0 (a : Ar) : W 4 a 0 = ((((a 0 + a 1) + (a 2 + a 3)) + ((a 4 + a 5) + (a 6 + a 7))) + (((a 8 + a 9) + (a 10 + a 11)) + ((a 12 + a 13) + (a 14 + a 15)))) := rfl
theorem W4_1 (a : Ar) : W 4 a 1 = ((((a 0 - a 1) + (a 2 - a 3)) + ((a 4 - a 5) + (a 6 - a 7))) + (((a 8 - a 9) + (a 10 - a 11)) + ((a 12 - a 13) + (a 14 - a 15)))) := rfl
theorem W4_2 (a : Ar) : W 4 a 2 = ((((a 0 + a 1) - (a 2 + a 3)) + ((a 4 + a 5) - (a 6 + a 7))) + (((a 8 + a 9) - (a 10 + a 11)) + ((a 12 + a 13) - (a 14 + a 15)))) := rfl
theorem W4_3 (a : Ar) : W 4 a 3 = ((((a 0 - a 1) - (a 2 - a 3)) + ((a 4 - a 5) - (a 6 - a 7))) + (((a 8 - a 9) - (a 10 - a 11)) + ((a 12 - a 13) - (a 14 - a 15)))) := rfl
theorem W4_4 (a : Ar) : W 4 a 4 = ((((a 0 + a 1) + (a 2 + a 3)) - ((a 4 + a 5) + (a 6 + a 7))) + (((a 8 + a 9) + (a 10 + a 11)) - ((a 12 + a 13) + (a 14 + a 15)))) := rfl
theorem W4_5 (a : Ar) : W 4 a 5 = ((((a 0 - a 1) + (a 2 - a 3)) - ((a 4 - a 5) + (a 6 - a 7))) + (((a 8 - a 9) + (a 10 - a 11)) - ((a 12 - a 13) + (a 14 - a 15)))) := rfl
theorem W4_6 (a : Ar) : W 4 a 6 = ((((a 0 + a 1) - (a 2 + a 3)) - ((a 4 + a 5) - (a 6 + a 7))) + (((a 8 + a 9) - (a 10 + a 11)) - ((a 12 + a 13) - (a 14 + a 15)))) := rfl
theorem W4_7 (a : Ar) : W 4 a 7 = ((((a 0 - a 1) - (a 2 - a 3)) - ((a 4 - a 5) - (a 6 - a 7))) + (((a 8 - a 9) - (a 10 - a 11)) - ((a 12 - a 13) - (a 14 - a 15)))) := rfl
theorem W4_8 (a : Ar) : W 4 a 8 = ((((a 0 + a 1) + (a 2 + a 3)) + ((a 4 + a 5) + (a 6 + a 7))) - (((a 8 + a 9) + (a 10 + a 11)) + ((a 12 + a 13) + (a 14 + a 15)))) := rfl
theorem W4_9 (a : Ar) : W 4 a 9 = ((((a 0 - a 1) + (a 2 - a 3)) + ((a 4 - a 5) + (a 6 - a 7))) - (((a 8 - a 9) + (a 10 - a 11)) + ((a 12 - a 13) + (a 14 - a 15)))) := rfl
theorem W4_10 (a : Ar) : W 4 a 10 = ((((a 0 + a 1) - (a 2 + a 3)) + ((a 4 + a 5) - (a 6 + a 7))) - (((a 8 + a 9) - (a 10 + a 11)) + ((a 12 + a 13) - (a 14 + a 15)))) := rfl
theorem W4_11 (a : Ar) : W 4 a 11 = ((((a 0 - a 1) - (a 2 - a 3)) + ((a 4 - a 5) - (a 6 - a 7))) - (((a 8 - a 9) - (a 10 - a 11)) + ((a 12 - a 13) - (a 14 - a 15)))) := rfl
theorem W4_12 (a : Ar) : W 4 a 12 = ((((a 0 + a 1) + (a 2 + a 3)) - ((a 4 + a 5) + (a 6 + a 7))) - (((a 8 + a 9) + (a 10 + a 11)) - ((a 12 + a 13) + (a 14 + a 15)))) := rfl
theorem W4_13 (a : Ar) : W 4 a 13 = ((((a 0 - a 1) + (a 2 - a 3)) - ((a 4 - a 5) + (a 6 - a 7))) - (((a 8 - a 9) + (a 10 - a 11)) - ((a 12 - a 13) + (a 14 - a 15)))) := rfl
theorem W4_14 (a : Ar) : W 4 a 14 = ((((a 0 + a 1) - (a 2 + a 3)) - ((a 4 + a 5) - (a 6 + a 7))) - (((a 8 + a 9) - (a 10 + a 11)) - ((a 12 + a 13) - (a 14 + a 15)))) := rfl
theorem W4_15 (a : Ar) : W 4 a 15 = ((((a 0 - a 1) - (a 2 - a 3)) - ((a 4 - a 5) - (a 6 - a 7))) - (((a 8 - a 9) - (a 10 - a 11)) - ((a 12 - a 13) - (a 14 - a 15)))) := rfl
theorem par_3 (b : Ar) (hb : b 3 = 0 ∨ b 3 = 1) (p : (((b 0 + b 1) + (b 2 + b 3))) % 2 = 0) : b 3 = (b 0 + b 1 + b 2) % 2 := by omega
theorem par_5 (b : Ar) (hb : b 5 = 0 ∨ b 5 = 1) (p : (((b 0 + b 1) + (b 4 + b 5))) % 2 = 0) : b 5 = (b 0 + b 1 + b 4) % 2 := by omega
theorem par_6 (b : Ar) (hb : b 6 = 0 ∨ b 6 = 1) (p : (((b 0 + b 2) + (b 4 + b 6))) % 2 = 0) : b 6 = (b 0 + b 2 + b 4) % 2 := by omega
theorem par_9 (b : Ar) (hb : b 9 = 0 ∨ b 9 = 1) (p : (((b 0 + b 1) + (b 8 + b 9))) % 2 = 0) : b 9 = (b 0 + b 1 + b 8) % 2 := by omega
theorem par_10 (b : Ar) (hb : b 10 = 0 ∨ b 10 = 1) (p : (((b 0 + b 2) + (b 8 + b 10))) % 2 = 0) : b 10 = (b 0 + b 2 + b 8) % 2 := by omega
theorem par_12 (b : Ar) (hb : b 12 = 0 ∨ b 12 = 1) (p : (((b 0 + b 4) + (b 8 + b 12))) % 2 = 0) : b 12 = (b 0 + b 4 + b 8) % 2 := by omega
theorem par_7 (b : Ar) (hb : b 7 = 0 ∨ b 7 = 1) (p : ((((b 0 + b 1) + (b 2 + b 3)) + ((b 4 + b 5) + (b 6 + b 7)))) % 2 = 0) : b 7 = (b 0 + b 1 + b 2 + b 3 + b 4 + b 5 + b 6) % 2 := by omega
theorem par_11 (b : Ar) (hb : b 11 = 0 ∨ b 11 = 1) (p : ((((b 0 + b 1) + (b 2 + b 3)) + ((b 8 + b 9) + (b 10 + b 11)))) % 2 = 0) : b 11 = (b 0 + b 1 + b 2 + b 3 + b 8 + b 9 + b 10) % 2 := by omega
theorem par_13 (b : Ar) (hb : b 13 = 0 ∨ b 13 = 1) (p : ((((b 0 + b 1) + (b 4 + b 5)) + ((b 8 + b 9) + (b 12 + b 13)))) % 2 = 0) : b 13 = (b 0 + b 1 + b 4 + b 5 + b 8 + b 9 + b 12) % 2 := by omega
theorem par_14 (b : Ar) (hb : b 14 = 0 ∨ b 14 = 1) (p : ((((b 0 + b 2) + (b 4 + b 6)) + ((b 8 + b 10) + (b 12 + b 14)))) % 2 = 0) : b 14 = (b 0 + b 2 + b 4 + b 6 + b 8 + b 10 + b 12) % 2 := by omega
theorem par_15 (b : Ar) (hb : b 15 = 0 ∨ b 15 = 1) (p : (((((b 0 + b 1) + (b 2 + b 3)) + ((b 4 + b 5) + (b 6 + b 7))) + (((b 8 + b 9) + (b 10 + b 11)) + ((b 12 + b 13) + (b 14 + b 15))))) % 2 = 0) : b 15 = (b 0 + b 1 + b 2 + b 3 + b 4 + b 5 + b 6 + b 7 + b 8 + b 9 + b 10 + b 11 + b 12 + b 13 + b 14) % 2 := by omega
set_option maxHeartbeats 2000000 in
theorem four_ge (b : Ar) (hb : ∀ x, b x = 0 ∨ b x = 1) (h : ∀ u < 16, W 4 (fun x => 1 - 2 * b x) u = 4 ∨ W 4 (fun x => 1 - 2 * b x) u = -4) : ∃ s, s < 16 ∧ pc 4 s = 2 ∧ sub 4 s b % 2 = 1 := by
  apply Classical.byContradiction
  intro hne
  have hev : ∀ s, s < 16 → pc 4 s = 2 → sub 4 s b % 2 = 0 := fun s h1 h2 => by
    apply Classical.byContradiction
    intro h3
    exact hne ⟨s, h1, h2, by omega⟩
  have p3 : (((b 0 + b 1) + (b 2 + b 3))) % 2 = 0 := hev 3 (by decide) (by decide)
  have p5 : (((b 0 + b 1) + (b 4 + b 5))) % 2 = 0 := hev 5 (by decide) (by decide)
  have p6 : (((b 0 + b 2) + (b 4 + b 6))) % 2 = 0 := hev 6 (by decide) (by decide)
  have p9 : (((b 0 + b 1) + (b 8 + b 9))) % 2 = 0 := hev 9 (by decide) (by decide)
  have p10 : (((b 0 + b 2) + (b 8 + b 10))) % 2 = 0 := hev 10 (by decide) (by decide)
  have p12 : (((b 0 + b 4) + (b 8 + b 12))) % 2 = 0 := hev 12 (by decide) (by decide)
  have p7 : ((((b 0 + b 1) + (b 2 + b 3)) + ((b 4 + b 5) + (b 6 + b 7)))) % 2 = 0 := four_le b h 7 (by decide) (by decide)
  have p11 : ((((b 0 + b 1) + (b 2 + b 3)) + ((b 8 + b 9) + (b 10 + b 11)))) % 2 = 0 := four_le b h 11 (by decide) (by decide)
  have p13 : ((((b 0 + b 1) + (b 4 + b 5)) + ((b 8 + b 9) + (b 12 + b 13)))) % 2 = 0 := four_le b h 13 (by decide) (by decide)
  have p14 : ((((b 0 + b 2) + (b 4 + b 6)) + ((b 8 + b 10) + (b 12 + b 14)))) % 2 = 0 := four_le b h 14 (by decide) (by decide)
  have p15 : (((((b 0 + b 1) + (b 2 + b 3)) + ((b 4 + b 5) + (b 6 + b 7))) + (((b 8 + b 9) + (b 10 + b 11)) + ((b 12 + b 13) + (b 14 + b 15))))) % 2 = 0 := four_le b h 15 (by decide) (by decide)
  have v3 := par_3 b (hb 3) p3
  clear p3
  have v5 := par_5 b (hb 5) p5
  clear p5
  have v6 := par_6 b (hb 6) p6
  clear p6
  have v9 := par_9 b (hb 9) p9
  clear p9
  have v10 := par_10 b (hb 10) p10
  clear p10
  have v12 := par_12 b (hb 12) p12
  clear p12
  have v7 := par_7 b (hb 7) p7
  clear p7
  have v11 := par_11 b (hb 11) p11
  clear p11
  have v13 := par_13 b (hb 13) p13
  clear p13
  have v14 := par_14 b (hb 14) p14
  clear p14
  have v15 := par_15 b (hb 15) p15
  clear p15
  clear hne hev
  rcases hb 0 with h0 | h0 <;> rcases hb 1 with h1 | h1 <;> rcases hb 2 with h2 | h2 <;> rcases hb 4 with h4 | h4 <;> rcases hb 8 with h8 | h8
  all_goals
    simp only [h0, h1, h2, h4, h8, Int.reduceAdd, Int.reduceMod, Int.add_zero, Int.zero_add] at v3 v5 v6 v9 v10 v12
    simp only [h0, h1, h2, h4, h8, v3, v5, v6, v9, v10, v12, Int.reduceAdd, Int.reduceMod, Int.add_zero, Int.zero_add] at v7 v11 v13 v14
    simp only [h0, h1, h2, h4, h8, v3, v5, v6, v9, v10, v12, v7, v11, v13, v14, Int.reduceAdd, Int.reduceMod, Int.add_zero, Int.zero_add] at v15
  · have hw := h 0 (by decide); rw [W4_0] at hw; simp [h0, h1, h2, h4, h8, v3, v5, v6, v9, v10, v12, v7, v11, v13, v14, v15] at hw
  · have hw := h 8 (by decide); rw [W4_8] at hw; simp [h0, h1, h2, h4, h8, v3, v5, v6, v9, v10, v12, v7, v11, v13, v14, v15] at hw
  · have hw := h 4 (by decide); rw [W4_4] at hw; simp [h0, h1, h2, h4, h8, v3, v5, v6, v9, v10, v12, v7, v11, v13, v14, v15] at hw
  · have hw := h 12 (by decide); rw [W4_12] at hw; simp [h0, h1, h2, h4, h8, v3, v5, v6, v9, v10, v12, v7, v11, v13, v14, v15] at hw
  · have hw := h 2 (by decide); rw [W4_2] at hw; simp [h0, h1, h2, h4, h8, v3, v5, v6, v9, v10, v12, v7, v11, v13, v14, v15] at hw
  · have hw := h 10 (by decide); rw [W4_10] at hw; simp [h0, h1, h2, h4, h8, v3, v5, v6, v9, v10, v12, v7, v11, v13, v14, v15] at hw
  · have hw := h 6 (by decide); rw [W4_6] at hw; simp [h0, h1, h2, h4, h8, v3, v5, v6, v9, v10, v12, v7, v11, v13, v14, v15] at hw
  · have hw := h 14 (by decide); rw [W4_14] at hw; simp [h0, h1, h2, h4, h8, v3, v5, v6, v9, v10, v12, v7, v11, v13, v14, v15] at hw
  · have hw := h 1 (by decide); rw [W4_1] at hw; simp [h0, h1, h2, h4, h8, v3, v5, v6, v9, v10, v12, v7, v11, v13, v14, v15] at hw
  · have hw := h 9 (by decide); rw [W4_9] at hw; simp [h0, h1, h2, h4, h8, v3, v5, v6, v9, v10, v12, v7, v11, v13, v14, v15] at hw
  · have hw := h 5 (by decide); rw [W4_5] at hw; simp [h0, h1, h2, h4, h8, v3, v5, v6, v9, v10, v12, v7, v11, v13, v14, v15] at hw
  · have hw := h 13 (by decide); rw [W4_13] at hw; simp [h0, h1, h2, h4, h8, v3, v5, v6, v9, v10, v12, v7, v11, v13, v14, v15] at hw
  · have hw := h 3 (by decide); rw [W4_3] at hw; simp [h0, h1, h2, h4, h8, v3, v5, v6, v9, v10, v12, v7, v11, v13, v14, v15] at hw
  · have hw := h 11 (by decide); rw [W4_11] at hw; simp [h0, h1, h2, h4, h8, v3, v5, v6, v9, v10, v12, v7, v11, v13, v14, v15] at hw
  · have hw := h 7 (by decide); rw [W4_7] at hw; simp [h0, h1, h2, h4, h8, v3, v5, v6, v9, v10, v12, v7, v11, v13, v14, v15] at hw
  · have hw := h 15 (by decide); rw [W4_15] at hw; simp [h0, h1, h2, h4, h8, v3, v5, v6, v9, v10, v12, v7, v11, v13, v14, v15] at hw
  · have hw := h 15 (by decide); rw [W4_15] at hw; simp [h0, h1, h2, h4, h8, v3, v5, v6, v9, v10, v12, v7, v11, v13, v14, v15] at hw
  · have hw := h 7 (by decide); rw [W4_7] at hw; simp [h0, h1, h2, h4, h8, v3, v5, v6, v9, v10, v12, v7, v11, v13, v14, v15] at hw
  · have hw := h 11 (by decide); rw [W4_11] at hw; simp [h0, h1, h2, h4, h8, v3, v5, v6, v9, v10, v12, v7, v11, v13, v14, v15] at hw
  · have hw := h 3 (by decide); rw [W4_3] at hw; simp [h0, h1, h2, h4, h8, v3, v5, v6, v9, v10, v12, v7, v11, v13, v14, v15] at hw
  · have hw := h 13 (by decide); rw [W4_13] at hw; simp [h0, h1, h2, h4, h8, v3, v5, v6, v9, v10, v12, v7, v11, v13, v14, v15] at hw
  · have hw := h 5 (by decide); rw [W4_5] at hw; simp [h0, h1, h2, h4, h8, v3, v5, v6, v9, v10, v12, v7, v11, v13, v14, v15] at hw
  · have hw := h 9 (by decide); rw [W4_9] at hw; simp [h0, h1, h2, h4, h8, v3, v5, v6, v9, v10, v12, v7, v11, v13, v14, v15] at hw
  · have hw := h 1 (by decide); rw [W4_1] at hw; simp [h0, h1, h2, h4, h8, v3, v5, v6, v9, v10, v12, v7, v11, v13, v14, v15] at hw
  · have hw := h 14 (by decide); rw [W4_14] at hw; simp [h0, h1, h2, h4, h8, v3, v5, v6, v9, v10, v12, v7, v11, v13, v14, v15] at hw
  · have hw := h 6 (by decide); rw [W4_6] at hw; simp [h0, h1, h2, h4, h8, v3, v5, v6, v9, v10, v12, v7, v11, v13, v14, v15] at hw
  · have hw := h 10 (by decide); rw [W4_10] at hw; simp [h0, h1, h2, h4, h8, v3, v5, v6, v9, v10, v12, v7, v11, v13, v14, v15] at hw
  · have hw := h 2 (by decide); rw [W4_2] at hw; simp [h0, h1, h2, h4, h8, v3, v5, v6, v9, v10, v12, v7, v11, v13, v14, v15] at hw
  · have hw := h 12 (by decide); rw [W4_12] at hw; simp [h0, h1, h2, h4, h8, v3, v5, v6, v9, v10, v12, v7, v11, v13, v14, v15] at hw
  · have hw := h 4 (by decide); rw [W4_4] at hw; simp [h0, h1, h2, h4, h8, v3, v5, v6, v9, v10, v12, v7, v11, v13, v14, v15] at hw
  · have hw := h 8 (by decide); rw [W4_8] at hw; simp [h0, h1, h2, h4, h8, v3, v5, v6, v9, v10, v12, v7, v11, v13, v14, v15] at hw
  · have hw := h 0 (by decide); rw [W4_0] at hw; simp [h0, h1, h2, h4, h8, v3, v5, v6, v9, v10, v12, v7, v11, v13, v14, v15] at hw
end Go.Proofs.YtdljapemhpeaeaaDoor.Wp
