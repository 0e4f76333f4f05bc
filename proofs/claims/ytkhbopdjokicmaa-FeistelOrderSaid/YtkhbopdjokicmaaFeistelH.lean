/-
  Feistel: euclid's greatest common divisor of small numbers.
-/
import Derived.Test.YtkhbopdjokicmaaFeistelG
namespace Go.Proofs.Ytkhbopdjokicmaa
open Go.RowKit
theorem abs_any (g : Nat) (hg : g < 1000000) (w : World) : Calls Try.prog 18 #[.int .i64 g] w fun e w' => e = .returned (.int .i64 g) ∧ w = w' := by
  have h : max (g : Int) (-(g : Int)) = g := by omega
  go_enter Try.func18, Try.ntmps18
  go_wp2
  go_ret
  simp
set_option maxHeartbeats 1000000 in
theorem step_any (a b : Nat) (ha : a < 1000) (hb : b < 1000) (w : World) : Calls Try.prog 17 #[.int .i64 a, .int .i64 b] w fun e w' => (∃ x : Int, e = .returned (.tuple #[.int .i64 (Nat.gcd a b), .int .i64 x])) ∧ w = w' := by
  go_enter Try.func17, Try.ntmps17
  go_wp2
  go_loop [0, 1, 6, 7] (fun p q x y => ∃ (u v : Nat) (s t : Int), p = .int .i64 u ∧ q = .int .i64 v ∧ x = .int .i64 s ∧ y = .int .i64 t ∧ u < 1000 ∧ v < 1000 ∧ Nat.gcd u v = Nat.gcd a b) (fun _ q _ _ => (intOf q).toNat)
  case atStart => exact ⟨a, b, 1, 0, rfl, rfl, rfl, rfl, ha, hb, rfl⟩
  case round =>
    obtain ⟨u, v, s, t, rfl, rfl, rfl, rfl, hu, hv, hg⟩ := hrel
    have HG := Lib.hid hg; clear hg
    by_cases hv0 : v = 0
    · subst hv0
      go_wp2_with fail
      go_ret2
      refine ⟨⟨s, ?_⟩, rfl⟩
      rw [← HG.out, Nat.gcd_zero_right]
      rfl
    · have b1 : ((v : Int) != 0) = true := by simp; omega
      have b2 : ((v : Int) == 0) = false := by simp; omega
      have q1 : (u : Int).tdiv (v : Int) = ((u / v : Nat) : Int) := rfl
      have hm : u % v < v := Nat.mod_lt _ (by omega)
      have hdm := Nat.div_add_mod u v
      have hle : v * (u / v) ≤ u := Nat.mul_div_le u v
      have q2 : (u : Int) - ((u / v : Nat) : Int) * (v : Int) = ((u % v : Nat) : Int) := by
        rw [Int.mul_comm, ← Int.natCast_mul]; omega
      go_wp2_with fail
      have hw : ∀ z : Int, -1000 ≤ z → z ≤ 1000 → wrap64 z = z := by intro z h1 h2; unfold wrap64; omega
      have hq : (u : Int) / (v : Int) = ((u / v : Nat) : Int) := rfl
      have hdl : u / v ≤ u := Nat.div_le_self _ _
      have hpr : ((u / v : Nat) : Int) * (v : Int) = ((v * (u / v) : Nat) : Int) := by rw [Int.mul_comm, ← Int.natCast_mul]
      have hall : wrap64 ((u : Int) - wrap64 (wrap64 ((u : Int) / (v : Int)) * (v : Int))) = ((u % v : Nat) : Int) := by
        rw [hq]
        clear q1 q2 hq
        generalize u / v = dd at *
        generalize u % v = mm at *
        obtain ⟨pp, hpp⟩ : ∃ pp, pp = v * dd := ⟨_, rfl⟩
        rw [← hpp] at hpr hdm hle
        rw [hw (dd : Int) (by omega) (by omega), hpr, hw (pp : Int) (by omega) (by omega), hw _ (by omega) (by omega)]
        omega
      rw [hall]
      refine ⟨⟨v, u % v, t, _, rfl, rfl, rfl, rfl, hv, by omega, ?_⟩, ?_⟩
      · rw [← HG.out, Nat.gcd_comm u v, Nat.gcd_rec v u, Nat.gcd_comm]
      · simp [intOf]; omega
end Go.Proofs.Ytkhbopdjokicmaa
