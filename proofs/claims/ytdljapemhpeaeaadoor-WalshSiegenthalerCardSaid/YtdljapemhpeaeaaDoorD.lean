/-
  The walks of anf and of TrailingZeros32.
-/
import Derived.Test.YtdljapemhpeaeaaDoorC
namespace Go.Proofs.YtdljapemhpeaeaaDoor
open Go.RowKit Wp
def tabD : List Int := [0, 1, 28, 2, 29, 14, 24, 3, 30, 22, 20, 15, 25, 17, 4, 8, 31, 27, 13, 23, 21, 19, 16, 7, 26, 12, 18, 6, 11, 5, 10, 9]
def HasTab (w : World) : Prop := ∀ i < 32, w.cell? ⟨0, i, none⟩ = some (.int .u8 (tabD.getD i 0))
theorem odd_part : ∀ x : Nat, 0 < x → ∃ t q, x = 2 ^ t * (2 * q + 1) := by
  intro x
  induction x using Nat.strongRecOn with
  | _ x ih =>
    intro h
    by_cases hx : x % 2 = 1
    · exact ⟨0, x / 2, by omega⟩
    · obtain ⟨t, q, e⟩ := ih (x / 2) (by omega) (by omega)
      exact ⟨t + 1, q, by rw [Nat.pow_succ, Nat.mul_comm (2 ^ t) 2, Nat.mul_assoc, ← e]; omega⟩
theorem odd_bit (q s : Nat) : (2 * q + 1).testBit s = if s = 0 then true else q.testBit (s - 1) := by
  cases s with
  | zero => simp
  | succ s => rw [Nat.testBit_succ]; simp; congr 1; omega
theorem mul_bit (t a i : Nat) : (2 ^ t * a).testBit i = (decide (t ≤ i) && a.testBit (i - t)) := by
  rw [Nat.testBit_two_pow_mul]
theorem low_and {t q : Nat} (h : 2 ^ t * (2 * q + 1) < 2 ^ 32) : (2 ^ t * (2 * q + 1)) &&& (2 ^ 32 - 2 ^ t * (2 * q + 1)) = 2 ^ t ∧ t < 32 := by
  have ht : t < 32 := by
    rcases Nat.lt_or_ge t 32 with h' | h'
    · exact h'
    · have := Nat.pow_le_pow_right (n := 2) (by decide) h'
      have : 2 ^ t * 1 ≤ 2 ^ t * (2 * q + 1) := Nat.mul_le_mul_left _ (by omega)
      omega
  have hs : (2 : Nat) ^ 32 = 2 ^ t * (2 * 2 ^ (31 - t)) := by
    rw [Nat.mul_comm 2, ← Nat.pow_succ, ← Nat.pow_add]; congr 1; omega
  have hq : q < 2 ^ (31 - t) := by
    rw [hs] at h
    have := Nat.lt_of_mul_lt_mul_left h
    omega
  refine ⟨?_, ht⟩
  have e : 2 ^ 32 - 2 ^ t * (2 * q + 1) = 2 ^ t * (2 * (2 ^ (31 - t) - (q + 1)) + 1) := by
    rw [hs, ← Nat.mul_sub]; congr 1; omega
  rw [e]
  apply Nat.eq_of_testBit_eq
  intro i
  rw [Nat.testBit_and, mul_bit, mul_bit, odd_bit, odd_bit, Nat.testBit_two_pow]
  by_cases h1 : t ≤ i
  · by_cases h2 : i - t = 0
    · have : t = i := by omega
      subst this
      simp
    · have : t ≠ i := by omega
      simp [this, Nat.testBit_two_pow_sub_succ hq]
      intro _ a _
      exact ⟨h2, fun _ => a.resolve_left h2⟩
  · have : t ≠ i := by omega
    simp [h1, this]
theorem clear_and {t q : Nat} : (2 ^ t * (2 * q + 1)) &&& (2 ^ t * (2 * q + 1) - 1) = 2 ^ t * (2 * q) := by
  have hp : 0 < 2 ^ t := Nat.two_pow_pos t
  have e : 2 ^ t * (2 * q + 1) - 1 = 2 ^ t * (2 * q) + (2 ^ t - 1) := by
    rw [Nat.mul_add, Nat.mul_one, Nat.add_sub_assoc hp]
  rw [e]
  apply Nat.eq_of_testBit_eq
  intro i
  have hlt : 2 ^ t - 1 < 2 ^ t := Nat.sub_lt hp (by decide)
  rw [Nat.testBit_and, mul_bit, mul_bit, odd_bit, Nat.testBit_two_pow_mul_add _ hlt]
  by_cases h1 : t ≤ i
  · rw [if_neg (show ¬ i < t from by omega)]
    have e2 : (2 * q).testBit (i - t) = if i - t = 0 then false else q.testBit (i - t - 1) := by
      cases i - t with
      | zero => simp
      | succ s => rw [Nat.testBit_succ]; simp
    rw [e2]
    by_cases h2 : i - t = 0
    · simp [h1, h2]
    · simp [h1, h2]
  · simp [h1]
def tzI (p : Int) : Nat := (p * 125613361 % 4294967296 / 134217728).toNat
theorem tz_tab : ∀ t : Nat, t < 32 → tzI (2 ^ t) < 32 ∧ tabD.getD (tzI (2 ^ t)) 0 = (t : Int) := by decide +kernel
theorem bits_and32 (a b : Nat) (ha : a < 4294967296) (hb : b < 4294967296) : bits .and .u32 a b = ((a &&& b : Nat) : Int) :=
  (bits_nat .u32 32 (by decide) (fun n h0 h1 => by rw [IntKind.wrap_u32]; exact Int.emod_eq_of_lt h0 h1) a b ha hb).1
theorem bits_or32 (a b : Nat) (ha : a < 4294967296) (hb : b < 4294967296) : bits .or .u32 a b = ((a ||| b : Nat) : Int) :=
  (bits_nat .u32 32 (by decide) (fun n h0 h1 => by rw [IntKind.wrap_u32]; exact Int.emod_eq_of_lt h0 h1) a b ha hb).2
theorem low_bits (t q : Nat) (h : 2 ^ t * (2 * q + 1) < 4294967296) :
    bits .and .u32 ((2 ^ t * (2 * q + 1) : Nat) : Int) (-((2 ^ t * (2 * q + 1) : Nat) : Int) % 4294967296) = 2 ^ t := by
  have hpos : 0 < 2 ^ t * (2 * q + 1) := Nat.mul_pos (Nat.two_pow_pos t) (by omega)
  generalize hx : 2 ^ t * (2 * q + 1) = x at *
  have e : -(x : Int) % 4294967296 = ((4294967296 - x : Nat) : Int) := by omega
  rw [e, bits_and32 _ _ h (by omega)]
  have := (low_and (t := t) (q := q) (by rw [hx]; exact h)).1
  rw [hx] at this
  rw [show (4294967296 : Nat) = 2 ^ 32 from rfl, this]
  simp
set_option maxHeartbeats 1000000 in
theorem tz_any (x t q : Nat) (hxx : Hid (x = 2 ^ t * (2 * q + 1))) (w : World) (h1 : x < 4294967296) (ht : HasTab w) :
    Calls Tryd.prog 14 #[.int .u32 (x : Int)] w fun e w' => e = .returned (.int .i64 t) ∧ w = w' := by
  have hx := hxx.out
  rw [hx] at h1
  have hpos : 0 < 2 ^ t * (2 * q + 1) := Nat.mul_pos (Nat.two_pow_pos t) (by omega)
  have hl := low_bits t q h1
  have ht32 := (low_and (t := t) (q := q) h1).2
  obtain ⟨hi, hv⟩ := tz_tab t ht32
  have hc0 := ht _ hi
  rw [hv] at hc0
  rw [← hx] at h1 hpos hl
  have hc : w.cell? ⟨0, (bits .and .u32 (x : Int) (-(x : Int) % 4294967296) * 125613361 % 4294967296 / 134217728).toNat, none⟩ = some (.int .u8 t) := by
    rw [hl]; exact hc0
  clear hc0 hl hx hi hv ht
  go_enter Tryd.func14, Tryd.ntmps14
  go_wp2
  go_ret
  exact ⟨rfl, rfl⟩
def gx (a b : Int) : Int × Int := (a, bits BinOp.xor .i64 a b)
theorem gnum_bits (A : Ar) (hA : ∀ i, A i = 0 ∨ A i = 1) (j : Nat) (hj : j < 32) : bits .or .u32 (gnum A j : Int) (A j % 4294967296 * 2 ^ j % 4294967296) = (gnum A (j + 1) : Int) := by
  have hb : ∀ i < j, A i ≤ 1 := fun i _ => by rcases hA i with h | h <;> omega
  have lt := gnum_lt A j hb
  have p1 : 2 ^ j < 4294967296 := Nat.lt_of_le_of_lt (Nat.pow_le_pow_right (by decide) (show j ≤ 31 by omega)) (by decide)
  have e : A j % 4294967296 * 2 ^ j % 4294967296 = (((A j).toNat * 2 ^ j : Nat) : Int) := by
    rcases hA j with h | h
    · rw [h, show (0 : Int) % 4294967296 = 0 from rfl, Int.zero_mul, show Int.toNat 0 = 0 from rfl, Nat.zero_mul]; rfl
    · rw [h]
      have : ((2 ^ j : Nat) : Int) < ((4294967296 : Nat) : Int) := Int.ofNat_lt.2 p1
      rw [Int.natCast_pow] at this
      have h0 : (0 : Int) ≤ 2 ^ j := Int.le_of_lt (Int.pow_pos (by decide))
      rw [show (1 : Int) % 4294967296 = 1 from rfl, Int.one_mul, show Int.toNat 1 = 1 from rfl, Nat.one_mul, Int.natCast_pow]
      exact Int.emod_eq_of_lt h0 this
  rw [e, bits_or32 _ _ (by omega) (by rcases hA j with h | h <;> rw [h] <;> simp only [Int.toNat_zero, Int.toNat_one, Nat.zero_mul, Nat.one_mul] <;> omega), gnum_or A j hb]
set_option maxRecDepth 100000 in
set_option maxHeartbeats 1000000 in
theorem anf_ok (n F : Nat) (hn : n ≤ 5) (hF : F < 4294967296) (hA : Hid (∀ i, flyN gx (2 ^ n) n (bv F) i = 0 ∨ flyN gx (2 ^ n) n (bv F) i = 1)) (w : World) :
    Calls Tryd.prog 12 #[.int .i64 n, .int .u32 F] w fun e w' => e = .returned (.int .u32 (gnum (flyN gx (2 ^ n) n (bv F)) (2 ^ n))) ∧ Below w.heap.size w w' := by
  obtain ⟨i0, hi, hz0, hz1, hz2⟩ := info_parts Tryd.info3
  have hp := pow_n n hn
  have hw := wrap_n n hn
  obtain ⟨N, hN⟩ : ∃ N, N = 2 ^ n := ⟨_, rfl⟩
  rw [← hN] at hp hw hA ⊢
  have HN := Lib.hid hN; clear hN
  go_enter Tryd.func12, Tryd.ntmps12
  go_wp2_with (at_make; simp only [hw]; (refine wpList_make_full _ rfl (.tmp 11) (.tmp 11) 23 rfl w.heap.size 3 i0 (.int .i64 0) 1 Tryd.underlying23 hi hz0 hz1 .i64 .i64 (N : Int) (N : Int) N rfl rfl rfl rfl (by rw [hz2]; omega) (by unfold maxLen; omega) (Nat.le_refl _) ?_); intro w1 hown hgrow)
  have bw1 : Below w.heap.size w w1 := (Below.refl _ _).grown hgrow (Nat.le_refl _) (fun _ h => by cases h)
  have hr1 := Lib.hid (row_made hown); clear hown hgrow
  go_loopw [15] (fun t wr => ∃ m : Nat, m ≤ N ∧ t = .int .i64 m ∧ Below w.heap.size w wr ∧ Row wr w.heap.size N (fun i => if i < m then bv F i else 0)) (fun t _ => N - (intOf t).toNat)
  case atStart => exact ⟨0, Nat.zero_le _, rfl, bw1, hr1.out⟩
  case round =>
    obtain ⟨m, hm, rfl, hbel, hrow⟩ := hrel
    have H := Lib.hid hrow; clear hrow
    by_cases hmt : m < N
    · have hbv := bv_bits F m hF
      have hbd := bv_bd F m
      have c1 := H.out.1 m hmt
      have f0 := H.out.2
      go_wp2
      refine ⟨⟨m + 1, by omega, rfl, hbel.setCell (p := ⟨w.heap.size, m, none⟩) (Nat.le_refl _) _, ?_⟩, by simp [intOf]; omega⟩
      rw [pre_succ (bv F) 0 m]
      exact H.out.set hmt _
    · obtain rfl : m = N := by omega
      clear hmt
      have hrow : Row wr w.heap.size m (bv F) := ⟨fun i hi => by rw [H.out.1 i hi]; simp [hi], H.out.2⟩
      have HR := Lib.hid hrow; clear hrow
      go_wp2_with (go_at_call 10; refine (fly_a gx (Lib.hid fun x y w => pair_a x y w) n _ _ w.heap.size hn HN hp _ _ HR.out (Nat.le_refl _)).mono ?_; rintro e w2 ⟨rfl, hb2, hr2⟩; have HR2 := Lib.hid hr2; clear hr2)
      go_loop [7, 32] (fun g t => ∃ j : Nat, j ≤ m ∧ t = .int .i64 j ∧ g = .int .u32 (gnum (flyN gx m n (bv F)) j)) (fun _ t => m - (intOf t).toNat)
      case atStart => exact ⟨0, Nat.zero_le _, rfl, rfl⟩
      case round =>
        obtain ⟨j, hj, rfl, rfl⟩ := hrel
        by_cases hjt : j < m
        · have c1 := HR2.out.1 j hjt
          have f0 := HR2.out.2
          go_wp2
          refine ⟨⟨j + 1, by omega, rfl, ?_⟩, by simp [intOf]; omega⟩
          rw [gnum_bits (flyN gx m n (bv F)) hA.out j (by omega)]
        · obtain rfl : j = m := by omega
          clear hjt
          go_wp2
          go_ret
          exact ⟨rfl, hbel.trans hb2⟩
end Go.Proofs.YtdljapemhpeaeaaDoor
