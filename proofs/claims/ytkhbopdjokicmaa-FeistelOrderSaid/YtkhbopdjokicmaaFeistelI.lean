/-
  Feistel: Gcd.
-/
import Derived.Test.YtkhbopdjokicmaaFeistelH
namespace Go.Proofs.Ytkhbopdjokicmaa
open Go.RowKit
set_option maxHeartbeats 1000000 in
theorem far_any (b : Nat) (x y : Int) (hx : -1000 ≤ x ∧ x ≤ 1000) (hy : -1000 ≤ y ∧ y ≤ 1000) (w : World) (h0 : w.cell? ⟨b, 0, none⟩ = some (.int .i64 x)) (h1 : w.cell? ⟨b, 1, none⟩ = some (.int .i64 y)) :
    Calls Try.prog 16 #[.slice (some ⟨b, 0, none⟩) 2 2] w fun e w' => e = .returned (.bool false) ∧ w = w' := by
  have a1 : decide (x < -2147483648) = false := by simp; omega
  have a2 : decide (2147483648 < x) = false := by simp; omega
  have a3 : decide (y < -2147483648) = false := by simp; omega
  have a4 : decide (2147483648 < y) = false := by simp; omega
  clear hx hy
  go_enter Try.func16, Try.ntmps16
  go_wp2
  go_loop [7] (fun t => t = .int .i64 0 ∨ t = .int .i64 1 ∨ t = .int .i64 2) (fun t => 2 - (intOf t).toNat)
  case atStart => exact .inl rfl
  case round =>
    rcases hrel with rfl | rfl | rfl
    · go_wp2_with fail
      exact ⟨.inr (.inl rfl), by simp [intOf]⟩
    · go_wp2_with fail
      exact ⟨.inr (.inr rfl), by simp [intOf]⟩
    · go_wp2_with fail
      go_ret
      exact ⟨rfl, rfl⟩
set_option maxHeartbeats 1000000 in
theorem gcd_any (a b : Nat) (ha : a < 1000) (hb : b < 1000) (w : World) : Calls Try.prog 10 #[.int .i64 a, .int .i64 b] w fun e w' => e = .returned (.tuple #[.int .i64 (Nat.gcd a b), .int .i64 0]) ∧ Keep (fun _ => False) w w' := by
  have hg : Nat.gcd a b < 1000000 := by
    rcases Nat.eq_zero_or_pos a with h | h
    · subst h; rw [Nat.gcd_zero_left]; omega
    · have := Nat.gcd_le_left b h; omega
  go_enter Try.func10, Try.ntmps10
  go_wp2_with (first
    | (go_at_call 16; refine (far_any _ a b (by omega) (by omega) _ (by go_simp) (by go_simp)).mono ?_; rintro e w' ⟨rfl, rfl⟩)
    | (go_at_call 17; refine (step_any a b ha hb _).mono ?_; rintro e w' ⟨⟨x, rfl⟩, rfl⟩)
    | (go_at_call 18; refine (abs_any _ hg _).mono ?_; rintro e w' ⟨rfl, rfl⟩))
  go_ret2
  exact ⟨rfl, (Keep.refl _ _).alloc _⟩
end Go.Proofs.Ytkhbopdjokicmaa
