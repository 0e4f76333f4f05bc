/-
  Curve: euclid's Inverse; the methods of a curve.
-/
import Derived.Test.YtlfocajlkelnbaaCurveA
namespace Go.Proofs.Ytlfocajlkelnbaa
open Go.RowKit
def InvPost (a m : Nat) (w : World) (e : Ending) (w' : World) : Prop := ∃ k : Nat, k < m ∧ (Nat.gcd a m = 1 → ((k * a : Nat) : Int) % m = 1 % m) ∧ (Nat.gcd a m ≠ 1 → k = 0) ∧ (∃ e2 : Int, e = .returned (.tuple #[.int .i64 k, .int .i64 e2])) ∧ Keep (fun _ => False) w w'
theorem inv_any (a m : Nat) (ha : a < m) (hm : m ≤ 1048576) (w : World) : Calls Try.prog 27 #[.int .i64 a, .int .i64 m] w (InvPost a m w) := by
  have hmod : (a : Int) % m = a := Int.emod_eq_of_lt (by omega) (by omega)
  have H1 := Lib.hid hmod; clear hmod
  by_cases hg : Nat.gcd a m = 1
  · have b1 : ((Nat.gcd a m : Int) != 1) = false := by rw [hg]; rfl
    have HG := Lib.hid hg; clear hg
    go_enter Try.func27, Try.ntmps27
    go_wp2_with (first
      | (go_at_call 30; refine (far_any _ a (by omega) _ (by go_simp)).mono ?_; rintro e w' ⟨rfl, rfl⟩)
      | (go_at_call 25; ((with_reducible refine (mod_any (a : Int) m (by omega) hm _).mono ?_); rintro e w' ⟨rfl, rfl⟩; rw [H1.out]))
      | (go_at_call 31; refine (step_any a m (by omega) (by omega) hm _).mono ?_; rintro e w' ⟨⟨x, rfl, hx1, hx2, hx3⟩, rfl⟩; have HX := Lib.hid hx3; clear hx3)
      | (go_at_call 25; ((with_reducible refine (mod_any _ m (by omega) hm _).mono ?_); rintro e w' ⟨rfl, rfl⟩)))
    go_ret2
    have hm0 : (0 : Int) < m := by omega
    have h0 := Int.emod_nonneg x (show (m : Int) ≠ 0 by omega)
    have h1 := Int.emod_lt_of_pos x hm0
    have hk : (((x % m).toNat : Nat) : Int) = x % m := Int.toNat_of_nonneg h0
    refine ⟨(x % m).toNat, by omega, fun _ => ?_, fun h => absurd HG.out h, ⟨0, by rw [hk]; rfl⟩, (Keep.refl _ _).alloc _⟩
    have hx := HX.out
    rw [HG.out] at hx
    rw [Int.natCast_mul, hk, Int.mul_emod, Int.emod_emod, ← Int.mul_emod]
    exact Int.emod_eq_emod_iff_emod_sub_eq_zero.2 (Int.emod_eq_zero_of_dvd hx)
  · have b1 : ((Nat.gcd a m : Int) != 1) = true := by simp; omega
    have HG := Lib.hid hg; clear hg
    go_enter Try.func27, Try.ntmps27
    go_wp2_with (first
      | (go_at_call 30; refine (far_any _ a (by omega) _ (by go_simp)).mono ?_; rintro e w' ⟨rfl, rfl⟩)
      | (go_at_call 25; ((with_reducible refine (mod_any (a : Int) m (by omega) hm _).mono ?_); rintro e w' ⟨rfl, rfl⟩; rw [H1.out]))
      | (go_at_call 31; refine (step_any a m (by omega) (by omega) hm _).mono ?_; rintro e w' ⟨⟨x, rfl, hx1, hx2, hx3⟩, rfl⟩; have HX := Lib.hid hx3; clear hx3))
    go_ret2
    exact ⟨0, by omega, fun h => absurd h HG.out, fun _ => rfl, ⟨5, rfl⟩, (Keep.refl _ _).alloc _⟩
/-- a curve, as the code holds it -/
abbrev encC (p a b : Nat) : Value := .agg #[.int .i64 p, .int .i64 a, .int .i64 b]
theorem cmod_any (p a b : Nat) (x : Int) (hp0 : 0 < p) (hp : p ≤ 1048576) (w : World) : Calls Try.prog 21 #[encC p a b, .int .i64 x] w fun e w' => e = .returned (.int .i64 (x % p)) ∧ Keep (fun _ => False) w w' := by
  unfold encC
  go_enter Try.func21, Try.ntmps21
  go_wp2_with (go_at_call 25; with_reducible refine (mod_any x p (by omega) hp _).mono ?_; rintro e w' ⟨rfl, rfl⟩)
  go_ret
  exact ⟨rfl, (Keep.refl _ _).alloc _⟩
end Go.Proofs.Ytlfocajlkelnbaa
