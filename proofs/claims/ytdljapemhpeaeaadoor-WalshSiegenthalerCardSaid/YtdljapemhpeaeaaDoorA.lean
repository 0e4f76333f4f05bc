/-
  The small functions of the package walsh and of math/bits that it calls: what each call returns.
-/
import Derived.Test.YtdljapemhpeaeaaDoorProg
import Derived.Test.YtdljapemhpeaeaaDoorPure
import Derived.WalkKit
import Derived.WalkSpells
import Derived.WalkLawsBesides
namespace Go.Proofs.YtdljapemhpeaeaaDoor
open Go.RowKit
set_option maxHeartbeats 400000 in
theorem pair_w (a b : Int) (w : World) :
    Calls Tryd.prog 11 #[.int .i64 a, .int .i64 b] w fun e w' => e = .returned (.tuple #[.int .i64 (wrap64 (a + b)), .int .i64 (wrap64 (a - b))]) ∧ w = w' := by
  go_enter Tryd.func11, Tryd.ntmps11
  go_wp2
  go_ret2
  exact ⟨rfl, rfl⟩
set_option maxHeartbeats 400000 in
theorem pair_a (a b : Int) (w : World) :
    Calls Tryd.prog 16 #[.int .i64 a, .int .i64 b] w fun e w' => e = .returned (.tuple #[.int .i64 a, .int .i64 (bits BinOp.xor .i64 a b)]) ∧ w = w' := by
  go_enter Tryd.func16, Tryd.ntmps16
  go_wp2
  go_ret2
  exact ⟨rfl, rfl⟩
/-- may a function be? -/
def okW (n f : Int) : Bool := decide (0 ≤ n ∧ n ≤ 5 ∧ f < 2 ^ (2 ^ n.toNat))
theorem six {n : Int} (h0 : 0 ≤ n) (h5 : n ≤ 5) : n = 0 ∨ n = 1 ∨ n = 2 ∨ n = 3 ∨ n = 4 ∨ n = 5 := by omega
theorem out_any (n f : Int) (w : World) (h0 : 0 ≤ f) (h1 : f < 4294967296) :
    Calls Tryd.prog 9 #[.int .i64 n, .int .u32 f] w fun e w' => e = .returned (.bool (!okW n f)) ∧ w = w' := by
  by_cases hn0 : n < 0
  · have e : okW n f = false := by unfold okW; simp; omega
    rw [e]
    go_enter Tryd.func9, Tryd.ntmps9
    go_wp2
    go_ret
    exact ⟨rfl, rfl⟩
  by_cases hn5 : 5 < n
  · have e : okW n f = false := by unfold okW; simp; omega
    rw [e]
    go_enter Tryd.func9, Tryd.ntmps9
    go_wp2
    go_ret
    exact ⟨rfl, rfl⟩
  have hlit : ∀ c : Int, 0 < c → (f / c != 0) = !decide (f < c) := by
    intro c hc
    rw [Bool.eq_iff_iff]
    simp only [bne_iff_ne, Bool.not_eq_true', decide_eq_false_iff_not, ne_eq]
    have := Int.ediv_eq_zero_of_lt h0 (b := c)
    have h3 : c ≤ f → 1 ≤ f / c := fun h => by
      have := Int.ediv_le_ediv hc h
      rw [Int.ediv_self (by omega)] at this; exact this
    constructor
    · intro h h'; exact h (this h')
    · intro h; have := h3 (by omega); omega
  rcases six (n := n) (by omega) (by omega) with rfl | rfl | rfl | rfl | rfl | rfl
  all_goals
    go_enter Tryd.func9, Tryd.ntmps9
    go_wp2
    go_ret
    refine ⟨congrArg (fun b => Ending.returned (.bool b)) ?_, rfl⟩
    simp [okW] <;> omega
theorem fc_any (n f : Int) (w : World) (_h0 : 0 ≤ f) (h1 : f < 4294967296) :
    Calls Tryd.prog 15 #[.int .i64 n, .int .u32 f] w fun e w' => e = .returned (.bool (okW n f)) ∧ w = w' := by
  by_cases hn0 : n < 0
  · have e : okW n f = false := by unfold okW; simp; omega
    rw [e]
    go_enter Tryd.func15, Tryd.ntmps15
    go_wp2
    go_ret
    exact ⟨rfl, rfl⟩
  by_cases hn5 : 5 < n
  · have e : okW n f = false := by unfold okW; simp; omega
    rw [e]
    go_enter Tryd.func15, Tryd.ntmps15
    go_wp2
    go_ret
    exact ⟨rfl, rfl⟩
  rcases six (n := n) (by omega) (by omega) with rfl | rfl | rfl | rfl | rfl | rfl
  all_goals
    go_enter Tryd.func15, Tryd.ntmps15
    go_wp2
    go_ret
    refine ⟨congrArg (fun b => Ending.returned (.bool b)) ?_, rfl⟩
    simp [okW] <;> omega
theorem function_any (n f : Int) (w : World) (h0 : 0 ≤ f) (h1 : f < 4294967296) :
    Calls Tryd.prog 7 #[.int .i64 n, .int .u32 f] w fun e w' => e = .returned (.bool (okW n f)) ∧ w = w' := by
  go_enter Tryd.func7, Tryd.ntmps7
  go_wp2_with (go_at_call 15; refine (fc_any _ _ _ h0 h1).mono ?_; rintro e w' ⟨rfl, rfl⟩)
  go_ret
  exact ⟨rfl, rfl⟩
theorem thirtytwo {x : Nat} (h : x < 32) : x = 0 ∨ x = 1 ∨ x = 2 ∨ x = 3 ∨ x = 4 ∨ x = 5 ∨ x = 6 ∨ x = 7 ∨ x = 8 ∨ x = 9 ∨ x = 10 ∨ x = 11 ∨ x = 12 ∨ x = 13 ∨ x = 14 ∨ x = 15 ∨ x = 16 ∨
    x = 17 ∨ x = 18 ∨ x = 19 ∨ x = 20 ∨ x = 21 ∨ x = 22 ∨ x = 23 ∨ x = 24 ∨ x = 25 ∨ x = 26 ∨ x = 27 ∨ x = 28 ∨ x = 29 ∨ x = 30 ∨ x = 31 := by omega
set_option maxHeartbeats 4000000 in
theorem ones_any (x : Nat) (w : World) (h : x < 32) :
    Calls Tryd.prog 13 #[.int .u64 x] w fun e w' => e = .returned (.int .i64 (Wp.pc 5 x)) ∧ w = w' := by
  rcases thirtytwo h with rfl | rfl | rfl | rfl | rfl | rfl | rfl | rfl | rfl | rfl | rfl | rfl | rfl | rfl | rfl | rfl | rfl | rfl | rfl | rfl | rfl | rfl | rfl | rfl | rfl | rfl | rfl | rfl | rfl | rfl | rfl | rfl
  all_goals
    go_enter Tryd.func13, Tryd.ntmps13
    go_wp2
    go_ret
    exact ⟨congrArg (fun t => Ending.returned (.int .i64 t)) (by decide +kernel), rfl⟩
end Go.Proofs.YtdljapemhpeaeaaDoor
