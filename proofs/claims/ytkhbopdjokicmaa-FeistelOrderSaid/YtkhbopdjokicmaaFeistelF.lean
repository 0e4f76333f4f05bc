/-
  Feistel: the other xor.
-/
import Derived.Test.YtkhbopdjokicmaaFeistelE
namespace Go.Proofs.Ytkhbopdjokicmaa
open Go.RowKit
theorem xor_step : ∀ a, a < 16 → ∀ b, b < 16 → ∀ k, k < 8 → (a ^^^ b) % 2 ^ (k + 1) = (a ^^^ b) % 2 ^ k + (if a / 2 ^ k % 2 = b / 2 ^ k % 2 then 0 else 2 ^ k) := by decide +kernel
theorem xor_end : ∀ a, a < 16 → ∀ b, b < 16 → (a ^^^ b) % 2 ^ 8 = a ^^^ b := by decide +kernel
set_option maxHeartbeats 2000000 in
theorem xor_any (a b : Nat) (ha : a < 16) (hb : b < 16) (w : World) :
    Calls Try.prog 11 #[.int .i64 a, .int .i64 b] w fun e w' => e = .returned (.int .i64 ((a ^^^ b : Nat) : Int)) ∧ w = w' := by
  go_enter Try.func11, Try.ntmps11
  go_wp2
  go_loop [0, 1, 5, 6] (fun x y n t => ∃ k : Nat, k ≤ 8 ∧ t = .int .i64 k ∧ x = .int .i64 ((a / 2 ^ k : Nat) : Int) ∧ y = .int .i64 ((b / 2 ^ k : Nat) : Int) ∧ n = .int .i64 (((a ^^^ b) % 2 ^ k : Nat) : Int)) (fun _ _ _ t => 8 - (intOf t).toNat)
  case atStart => exact ⟨0, by omega, rfl, by simp, by simp, by simp [Nat.mod_one]⟩
  case round =>
    obtain ⟨k, hk, rfl, rfl, rfl, rfl⟩ := hrel
    by_cases hlt : k < 8
    · have hst := xor_step a ha b hb k hlt
      have hu : a / 2 ^ (k + 1) = a / 2 ^ k / 2 := by rw [Nat.pow_succ, Nat.div_div_eq_div_mul]
      have hv : b / 2 ^ (k + 1) = b / 2 ^ k / 2 := by rw [Nat.pow_succ, Nat.div_div_eq_div_mul]
      have hul : a / 2 ^ k < 16 := Nat.lt_of_le_of_lt (Nat.div_le_self _ _) ha
      have hvl : b / 2 ^ k < 16 := Nat.lt_of_le_of_lt (Nat.div_le_self _ _) hb
      have hnl : (a ^^^ b) % 2 ^ k < 256 := Nat.lt_of_le_of_lt (Nat.mod_le _ _) (Nat.lt_of_lt_of_le (Nat.xor_lt_two_pow (n := 4) (by omega) (by omega)) (by decide))
      have HST := Lib.hid hst; have HU := Lib.hid hu; have HV := Lib.hid hv; clear hst hu hv
      generalize a / 2 ^ k = u at *
      generalize b / 2 ^ k = v at *
      generalize (a ^^^ b) % 2 ^ k = n at *
      have q1 : (u : Int).tmod 2 = ((u % 2 : Nat) : Int) := rfl
      have q2 : (v : Int).tmod 2 = ((v % 2 : Nat) : Int) := rfl
      have q3 : (u : Int).tdiv 2 = ((u / 2 : Nat) : Int) := rfl
      have q4 : (v : Int).tdiv 2 = ((v / 2 : Nat) : Int) := rfl
      by_cases he : u % 2 = v % 2
      · have b1 : (((u % 2 : Nat) : Int) != ((v % 2 : Nat) : Int)) = false := by simp; omega
        go_wp2_with fail
        refine ⟨⟨k + 1, by omega, rfl, by rw [HU.out]; rfl, by rw [HV.out]; rfl, ?_⟩, by simp [intOf]; omega⟩
        rw [HST.out, if_pos he]; rfl
      · have b1 : (((u % 2 : Nat) : Int) != ((v % 2 : Nat) : Int)) = true := by simp; omega
        have hk8 : k = 0 ∨ k = 1 ∨ k = 2 ∨ k = 3 ∨ k = 4 ∨ k = 5 ∨ k = 6 ∨ k = 7 := by omega
        rcases hk8 with rfl | rfl | rfl | rfl | rfl | rfl | rfl | rfl
        all_goals
          go_wp2_with fail
          refine ⟨⟨_ + 1, by omega, rfl, by rw [HU.out]; rfl, by rw [HV.out]; rfl, ?_⟩, by simp [intOf]⟩
          rw [HST.out, if_neg he]; rfl
    · obtain rfl : k = 8 := by omega
      have hend := Lib.hid (xor_end a ha b hb)
      go_wp2_with fail
      go_ret
      refine ⟨?_, rfl⟩
      show Ending.returned (.int .i64 (((a ^^^ b) % 2 ^ 8 : Nat) : Int)) = _
      rw [hend.out]
end Go.Proofs.Ytkhbopdjokicmaa
