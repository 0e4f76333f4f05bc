/-
  Curve: the document's Spot.
-/
import Derived.Test.YtlfocajlkelnbaaCurveH
namespace Go.Proofs.Ytlfocajlkelnbaa
open Go.RowKit
theorem right_law (p a b x : Nat) : rightN p a b x = (x ^ 3 + a * x + b) % p := by
  unfold rightN
  have e : x ^ 3 + a * x + b = (x * x + a) * x + b := by simp [Nat.pow_succ, Nat.add_mul]
  have h : (x * x % p + a) * x % p = (x * x + a) * x % p := by rw [Nat.mul_mod, Nat.mod_add_mod, ← Nat.mul_mod]
  rw [e, Nat.mod_add_mod, Nat.add_mod, h, ← Nat.add_mod]
theorem spot_law (p a b x y : Nat) : (((y * y : Nat) : Int) - (x ^ 3 % p : Nat) - (a * x : Nat) - b) % p = 0 ↔ ((y : Int) * y) % p = (rightN p a b x : Nat) := by
  rw [right_law]
  have e1 : ((x ^ 3 % p : Nat) : Int) = (x ^ 3 : Nat) - p * ((x ^ 3 / p : Nat) : Int) := by
    have := Nat.div_add_mod (x ^ 3) p
    have h2 : ((p * (x ^ 3 / p) + x ^ 3 % p : Nat) : Int) = (x ^ 3 : Nat) := by rw [this]
    rw [Int.natCast_add, Int.natCast_mul] at h2
    omega
  have e2 : (((x ^ 3 + a * x + b) % p : Nat) : Int) = ((x ^ 3 : Nat) + (a * x : Nat) + (b : Nat) : Int) % p := by simp
  rw [e2, e1, show (y : Int) * y = ((y * y : Nat) : Int) from (Int.natCast_mul y y).symm]
  generalize x ^ 3 / p = q
  generalize ((x ^ 3 : Nat) : Int) = u
  generalize ((a * x : Nat) : Int) = v
  generalize ((y * y : Nat) : Int) = z
  have e3 : z - (u - p * (q : Int)) - v - b = (z - (u + v + b)) + p * q := by omega
  rw [e3, Int.add_mul_emod_self_left]
  exact Int.emod_eq_emod_iff_emod_sub_eq_zero.symm
set_option maxHeartbeats 2000000 in
theorem rspot_any (p a b : Nat) (x y : Int) (far : Bool) (hp0 : 5 ≤ p) (hp1 : p ≤ 1009) (ha : a < p) (hb : b < p) (w : World) :
    Calls Try.prog 14 #[encC p a b, encS x y far] w fun e w' => e = .returned (.bool (decide (SpotOk p a b x y far))) ∧ Keep (fun _ => False) w w' := by
  unfold encC encS
  cases far with
  | true =>
    have hd : decide (SpotOk p a b x y true) = (decide (x = 0) && decide (y = 0)) := by
      rw [Bool.eq_iff_iff, decide_eq_true_iff, Bool.and_eq_true, decide_eq_true_iff, decide_eq_true_iff]
      simp [SpotOk]
    have HD := Lib.hid hd; clear hd
    by_cases hx : x = 0
    · subst hx
      by_cases hy : y = 0
      · subst hy
        go_enter Try.func14, Try.ntmps14
        go_wp2
        go_ret
        exact ⟨by rw [HD.out]; rfl, ((Keep.refl _ w).alloc _).alloc _⟩
      · have c1 : (y == 0) = false := by simpa using hy
        go_enter Try.func14, Try.ntmps14
        go_wp2
        go_ret
        exact ⟨by rw [HD.out]; simp [hy], ((Keep.refl _ w).alloc _).alloc _⟩
    · have c1 : (x == 0) = false := by simpa using hx
      go_enter Try.func14, Try.ntmps14
      go_wp2
      go_ret
      exact ⟨by rw [HD.out]; simp [hx], ((Keep.refl _ w).alloc _).alloc _⟩
  | false =>
    by_cases h1 : x < 0
    · have HD := Lib.hid (show decide (SpotOk p a b x y false) = false by simp [SpotOk]; omega)
      go_enter Try.func14, Try.ntmps14
      go_wp2
      go_ret
      exact ⟨by rw [HD.out]; rfl, ((Keep.refl _ w).alloc _).alloc _⟩
    by_cases h2 : (p : Int) ≤ x
    · have HD := Lib.hid (show decide (SpotOk p a b x y false) = false by simp [SpotOk]; omega)
      go_enter Try.func14, Try.ntmps14
      go_wp2
      go_ret
      exact ⟨by rw [HD.out]; rfl, ((Keep.refl _ w).alloc _).alloc _⟩
    by_cases h3 : y < 0
    · have HD := Lib.hid (show decide (SpotOk p a b x y false) = false by simp [SpotOk]; omega)
      go_enter Try.func14, Try.ntmps14
      go_wp2
      go_ret
      exact ⟨by rw [HD.out]; rfl, ((Keep.refl _ w).alloc _).alloc _⟩
    by_cases h4 : (p : Int) ≤ y
    · have HD := Lib.hid (show decide (SpotOk p a b x y false) = false by simp [SpotOk]; omega)
      go_enter Try.func14, Try.ntmps14
      go_wp2
      go_ret
      exact ⟨by rw [HD.out]; rfl, ((Keep.refl _ w).alloc _).alloc _⟩
    obtain ⟨x, rfl⟩ := Int.eq_ofNat_of_zero_le (show 0 ≤ x by omega)
    obtain ⟨y, rfl⟩ := Int.eq_ofNat_of_zero_le (show 0 ≤ y by omega)
    have hxp : x < p := by omega
    have hyp : y < p := by omega
    have c1 : decide (p ≤ x) = false := decide_eq_false (by omega)
    have c2 : decide (p ≤ y) = false := decide_eq_false (by omega)
    clear h1 h2 h3 h4
    obtain ⟨s1, g1⟩ : ∃ s, s = y * y := ⟨_, rfl⟩
    have l1 : s1 ≤ 1009 * 1009 := by rw [g1]; exact Nat.mul_le_mul (by omega) (by omega)
    obtain ⟨u, g2⟩ : ∃ u, u = x ^ 3 % p := ⟨_, rfl⟩
    have l2 : u < p := by rw [g2]; exact Nat.mod_lt _ (by omega)
    obtain ⟨v, g3⟩ : ∃ v, v = a * x := ⟨_, rfl⟩
    have l3 : v ≤ 1009 * 1009 := by rw [g3]; exact Nat.mul_le_mul (by omega) (by omega)
    obtain ⟨d1, g4⟩ : ∃ d, d = (s1 : Int) - u := ⟨_, rfl⟩
    obtain ⟨d2, g5⟩ : ∃ d, d = d1 - (v : Int) := ⟨_, rfl⟩
    obtain ⟨d3, g6⟩ : ∃ d, d = d2 - (b : Int) := ⟨_, rfl⟩
    have hn0 := Int.emod_nonneg d3 (show (p : Int) ≠ 0 by omega)
    obtain ⟨r, g7⟩ : ∃ r : Nat, (r : Int) = d3 % p := ⟨(d3 % p).toNat, Int.toNat_of_nonneg hn0⟩
    have e1 : IntKind.i64.wrap ((y : Int) * (y : Int)) = (s1 : Int) := by rw [g1, Int.natCast_mul]; exact IntWalk.i64_in _ (by rw [← Int.natCast_mul, ← g1]; omega)
    have e2 : IntKind.i64.wrap ((s1 : Int) - (u : Int)) = d1 := by rw [g4]; exact IntWalk.i64_in _ (by omega)
    have e3 : IntKind.i64.wrap ((a : Int) * (x : Int)) = (v : Int) := by rw [g3, Int.natCast_mul]; exact IntWalk.i64_in _ (by rw [← Int.natCast_mul, ← g3]; omega)
    have e4 : IntKind.i64.wrap (d1 - (v : Int)) = d2 := by rw [g5]; exact IntWalk.i64_in _ (by omega)
    have e5 : IntKind.i64.wrap (d2 - (b : Int)) = d3 := by rw [g6]; exact IntWalk.i64_in _ (by omega)
    have hd : decide (SpotOk p a b x y false) = ((r : Int) == 0) := by
      have hl := spot_law p a b x y
      rw [← g1, ← g2, ← g3, ← g4, ← g5, ← g6, ← g7] at hl
      rw [Bool.eq_iff_iff, decide_eq_true_iff, beq_iff_eq, hl]
      unfold SpotOk
      rw [Int.toNat_natCast]
      constructor
      · rintro (⟨h, _⟩ | ⟨_, _, _, _, _, h⟩)
        · cases h
        · exact h
      · intro h; exact .inr ⟨rfl, by omega, by omega, by omega, by omega, h⟩
    have C2 := Lib.hid (rpow_any x p (by omega) (by omega) hxp 3 (by omega))
    rw [← g2] at C2
    have C4 : ∀ w, Calls Try.prog 23 #[.int .i64 d3, .int .i64 p] w fun e w' => e = .returned (.int .i64 r) ∧ w = w' := fun w => by
      have h := rmod_any d3 p (by omega) (by omega) w
      rwa [← g7] at h
    have H4 := Lib.hid C4; have HD := Lib.hid hd; clear C4 hd g1 g2 g3 g4 g5 g6 g7 hn0 l1 l3
    go_enter Try.func14, Try.ntmps14
    go_wp2
    go_quiet (first
      | (go_at_call 24; exact quiet_l (C2.out _))
      | (go_at_call 23; exact quiet_l (H4.out _)))
    go_wp2
    go_ret
    exact ⟨by rw [HD.out]; rfl, (((Keep.refl _ w).alloc _).alloc _).drewN _⟩
end Go.Proofs.Ytlfocajlkelnbaa
