/-
  Curve: euclid's Mod, step, far, Inverse.
-/
import Derived.Test.YtlfocajlkelnbaaPrimeIs
import Derived.LoopTactic
import Derived.IntWalk
namespace Go.Proofs.Ytlfocajlkelnbaa
open Go.RowKit
theorem tmod_mod (a : Int) (m : Nat) (hm : 0 < m) : (a.tmod m + m).tmod m = a % m := by
  have h1 := Int.tmod_def a m
  have hm' : (m : Int) ≠ 0 := by omega
  have hb : -(m : Int) < a.tmod m := by
    rcases Int.le_total 0 a with h | h
    · have := Int.tmod_nonneg (m : Int) h; omega
    · have := Int.tmod_nonneg (m : Int) (show 0 ≤ -a by omega)
      have h2 := Int.tmod_lt_of_pos (-a) (show (0 : Int) < m by omega)
      rw [Int.neg_tmod] at this h2; omega
  rw [Int.tmod_eq_emod_of_nonneg (by omega), Int.add_emod_right, h1, Int.sub_emod, Int.mul_comm, Int.mul_emod_left]
  simp
theorem mod_any (a : Int) (m : Nat) (hm0 : 0 < m) (hm : m ≤ 1048576) (w : World) :
    Calls Try.prog 25 #[.int .i64 a, .int .i64 m] w fun e w' => e = .returned (.int .i64 (a % m)) ∧ w = w' := by
  have hmm := tmod_mod a m hm0
  have h1 : -(m : Int) < a.tmod m ∧ a.tmod m < m := by
    have h2 := Int.tmod_lt_of_pos a (show (0 : Int) < m by omega)
    refine ⟨?_, h2⟩
    rcases Int.le_total 0 a with h | h
    · have := Int.tmod_nonneg (m : Int) h; omega
    · have h2 := Int.tmod_lt_of_pos (-a) (show (0 : Int) < m by omega)
      rw [Int.neg_tmod] at h2; omega
  obtain ⟨t, ht⟩ : ∃ t, t = a.tmod m := ⟨_, rfl⟩
  rw [← ht] at hmm h1
  have b2 : ((m : Int) == 0) = false := by simp; omega
  go_enter Try.func25, Try.ntmps25
  go_wp2
  go_ret
  refine ⟨?_, rfl⟩
  rw [Int.tmod_eq_emod_of_nonneg (show 0 ≤ t + (m : Int) by omega)] at hmm
  rw [← hmm, ht]
  rfl
/-- what step keeps -/
def StepInv (a m u v : Nat) (x y : Int) : Prop := ∃ (X Y : Nat) (s : Int), (s = 1 ∨ s = -1) ∧ x = s * X ∧ y = -(s * Y) ∧ Y * u + X * v = m ∧ u ≤ m ∧ v ≤ m ∧ X ≤ m ∧ Y ≤ m ∧ Nat.gcd u v = Nat.gcd a m ∧ (m : Int) ∣ x * a - u ∧ (m : Int) ∣ y * a - v
theorem StepInv.start (a m : Nat) (ha : a ≤ m) (hm : 0 < m) : StepInv a m a m 1 0 :=
  ⟨1, 0, 1, .inl rfl, rfl, rfl, by omega, ha, Nat.le_refl _, by omega, by omega, rfl, ⟨0, by omega⟩, ⟨-1, by omega⟩⟩
theorem StepInv.bound {a m u v : Nat} {x y : Int} (h : StepInv a m u v x y) : -(m : Int) ≤ x ∧ x ≤ m ∧ -(m : Int) ≤ y ∧ y ≤ m ∧ u ≤ m ∧ v ≤ m := by
  obtain ⟨X, Y, s, hs, rfl, rfl, h1, h2, h3, h4, h5, _⟩ := h
  rcases hs with rfl | rfl <;> omega
theorem StepInv.step {a m u v : Nat} {x y : Int} (h : StepInv a m u v x y) (hv : 0 < v) : StepInv a m v (u % v) y (x - ((u / v : Nat) : Int) * y) ∧ -(m : Int) ≤ ((u / v : Nat) : Int) * y ∧ ((u / v : Nat) : Int) * y ≤ m := by
  obtain ⟨X, Y, s, hs, rfl, rfl, h1, h2, h3, h4, h5, h6, h7, h8⟩ := h
  have hdm := Nat.div_add_mod u v
  have hlt := Nat.mod_lt u hv
  obtain ⟨q, hq⟩ : ∃ q, q = u / v := ⟨_, rfl⟩
  obtain ⟨r, hr⟩ : ∃ r, r = u % v := ⟨_, rfl⟩
  rw [← hq, ← hr] at hdm
  rw [← hr] at hlt
  rw [← hq, ← hr]
  have hm' : (X + q * Y) * v + Y * r = m := by
    rw [← h1, ← hdm, Nat.add_mul, Nat.mul_add, Nat.mul_comm v q, Nat.mul_assoc q Y v, Nat.mul_left_comm q Y v]; omega
  have hle : X + q * Y ≤ m := by
    have := Nat.le_mul_of_pos_right (X + q * Y) hv
    omega
  have hgc : Nat.gcd v r = Nat.gcd a m := by
    rw [← h6, hr, Nat.gcd_comm u v, Nat.gcd_rec v u, Nat.gcd_comm]
  have hqY : ((q * Y : Nat) : Int) = (q : Int) * Y := by simp
  have hd : (m : Int) ∣ (s * X - q * (-(s * Y))) * a - r := by
    have e : (s * (X : Int) - q * (-(s * Y))) * a - r = (s * X * a - u) - q * (-(s * Y) * a - v) := by
      have : (u : Int) = v * q + r := by rw [← hdm]; simp
      rw [this]; grind
    rw [e]
    exact Int.dvd_sub h7 (Int.dvd_mul_of_dvd_right h8)
  obtain ⟨Z, hZ⟩ : ∃ Z, Z = q * Y := ⟨_, rfl⟩
  have e1 : (q : Int) * (-(s * Y)) = -(s * Z) := by rw [hZ, hqY]; grind
  refine ⟨⟨Y, X + q * Y, -s, by rcases hs with rfl | rfl <;> simp, by grind, by rw [Int.natCast_add, hqY]; grind, by omega, h3, by omega, h5, hle, hgc, h8, hd⟩, ?_, ?_⟩
  · rw [e1]; rcases hs with rfl | rfl <;> omega
  · rw [e1]; rcases hs with rfl | rfl <;> omega
set_option maxHeartbeats 1000000 in
theorem step_any (a m : Nat) (ha : a ≤ m) (hm0 : 0 < m) (hm : m ≤ 1048576) (w : World) :
    Calls Try.prog 31 #[.int .i64 a, .int .i64 m] w fun e w' => (∃ x : Int, e = .returned (.tuple #[.int .i64 (Nat.gcd a m), .int .i64 x]) ∧ -(m : Int) ≤ x ∧ x ≤ m ∧ (m : Int) ∣ x * a - (Nat.gcd a m : Nat)) ∧ w = w' := by
  go_enter Try.func31, Try.ntmps31
  go_wp2
  go_loop [0, 1, 6, 7] (fun p q x y => ∃ (u v : Nat) (s t : Int), p = .int .i64 u ∧ q = .int .i64 v ∧ x = .int .i64 s ∧ y = .int .i64 t ∧ StepInv a m u v s t) (fun _ q _ _ => (intOf q).toNat)
  case atStart => exact ⟨a, m, 1, 0, rfl, rfl, rfl, rfl, StepInv.start a m ha hm0⟩
  case round =>
    obtain ⟨u, v, s, t, rfl, rfl, rfl, rfl, hinv⟩ := hrel
    obtain ⟨b1, b2, b3, b4, hu, hv⟩ := hinv.bound
    have HG := Lib.hid hinv; clear hinv
    by_cases hv0 : v = 0
    · subst hv0
      go_wp2_with fail
      go_ret2
      obtain ⟨X, Y, ss, _, _, _, _, _, _, _, _, h6, h7, _⟩ := HG.out
      refine ⟨⟨s, ?_, b1, b2, ?_⟩, rfl⟩
      · rw [← h6, Nat.gcd_zero_right]; rfl
      · rw [← h6, Nat.gcd_zero_right]; exact h7
    · have c1 : ((v : Int) != 0) = true := by simp; omega
      have c2 : ((v : Int) == 0) = false := by simp; omega
      have q1 : (u : Int).tdiv (v : Int) = ((u / v : Nat) : Int) := rfl
      obtain ⟨hst, hq1, hq2⟩ := HG.out.step (by omega)
      obtain ⟨d1, d2, d3, d4, d5, d6⟩ := hst.bound
      have HST := Lib.hid hst; clear hst
      have hm1 : u % v < v := Nat.mod_lt _ (by omega)
      have hdm := Nat.div_add_mod u v
      have hle : v * (u / v) ≤ u := Nat.mul_div_le u v
      have q2 : (u : Int) - ((u / v : Nat) : Int) * (v : Int) = ((u % v : Nat) : Int) := by
        rw [Int.mul_comm, ← Int.natCast_mul]; omega
      go_wp2_with fail
      have hw : ∀ z : Int, -9000000 ≤ z → z ≤ 9000000 → wrap64 z = z := by intro z h1 h2; unfold wrap64; omega
      have hq : (u : Int) / (v : Int) = ((u / v : Nat) : Int) := rfl
      have hdl : u / v ≤ u := Nat.div_le_self _ _
      have hpr : ((u / v : Nat) : Int) * (v : Int) = ((v * (u / v) : Nat) : Int) := by rw [Int.mul_comm, ← Int.natCast_mul]
      have hall : wrap64 ((u : Int) - wrap64 (wrap64 ((u : Int) / (v : Int)) * (v : Int))) = ((u % v : Nat) : Int) := by
        rw [hq]
        clear q1 q2 hq
        generalize u / v = dd at *
        generalize u % v = mm at *
        obtain ⟨pp, hpp⟩ : ∃ pp, pp = v * dd := ⟨_, rfl⟩
        rw [← hpp] at hpr hdm hle
        rw [hw (dd : Int) (by omega) (by omega), hpr, hw (pp : Int) (by omega) (by omega), hw _ (by omega) (by omega)]
        omega
      rw [hall]
      refine ⟨⟨v, u % v, t, _, rfl, rfl, rfl, rfl, ?_⟩, ?_⟩
      · have e : wrap64 (s - wrap64 (wrap64 ((u : Int) / (v : Int)) * t)) = s - ((u / v : Nat) : Int) * t := by
          rw [hq]
          clear q1 q2 hq
          generalize u / v = dd at *
          rw [hw (dd : Int) (by omega) (by omega), hw ((dd : Int) * t) (by omega) (by omega), hw (s - (dd : Int) * t) (by omega) (by omega)]
        rw [e]
        exact HST.out
      · have hi : ∀ k : Nat, (intOf (.int .i64 (k : Int))).toNat = k := fun k => rfl
        rw [hi, hi]
        exact hm1
theorem far_any (b : Nat) (x : Int) (hx : -2147483648 ≤ x ∧ x ≤ 2147483648) (w : World) (h0 : w.cell? ⟨b, 0, none⟩ = some (.int .i64 x)) :
    Calls Try.prog 30 #[.slice (some ⟨b, 0, none⟩) 1 1] w fun e w' => e = .returned (.bool false) ∧ w = w' := by
  have a1 : decide (x < -2147483648) = false := by simp; omega
  have a2 : decide (2147483648 < x) = false := by simp; omega
  clear hx
  go_enter Try.func30, Try.ntmps30
  go_wp2
  go_loop [7] (fun t => t = .int .i64 0 ∨ t = .int .i64 1) (fun t => 2 - (intOf t).toNat)
  case atStart => exact .inl rfl
  case round =>
    rcases hrel with rfl | rfl
    · go_wp2_with fail
      exact ⟨.inr rfl, by simp [intOf]⟩
    · go_wp2_with fail
      go_ret
      exact ⟨rfl, rfl⟩
end Go.Proofs.Ytlfocajlkelnbaa
