/-
  Shift: how many bits of a word are set, and whether an odd number is.
-/
import Derived.Test.YtcbjdodpgnmhnaaOwn
import Derived.Test.YtcbjdodpgnmhnaaShiftP
import Derived.Test.YtcbjdodpgnmhnaaBitsP
import Derived.Laws.BitsAllLaws
namespace Go.Proofs.Ytcbjdodpgnmhnaa
open Go.RowKit
theorem popN_xs (n x : Nat) : xs n (fun i => x.testBit i) = decide (popN n x % 2 = 1) := by
  induction n generalizing x with
  | zero => rfl
  | succ n ih =>
    rw [xs_succ']
    have : (fun i => x.testBit (i + 1)) = fun i => (x / 2).testBit i := by funext i; rw [Nat.testBit_succ]
    rw [this, ih (x / 2)]
    show (x.testBit 0 ^^ _) = decide ((x % 2 + popN n (x / 2)) % 2 = 1)
    rw [Nat.testBit_zero]
    have h1 : x % 2 = 0 ∨ x % 2 = 1 := by omega
    have h2 : popN n (x / 2) % 2 = 0 ∨ popN n (x / 2) % 2 = 1 := by omega
    rcases h1 with h1 | h1 <;> rcases h2 with h2 | h2 <;> simp [h1, h2, Nat.add_mod]
theorem and_i64 (a b : Nat) (ha : a < 9223372036854775808) (hb : b < 9223372036854775808) : bits .and .i64 (a : Int) (b : Int) = ((a &&& b : Nat) : Int) := by
  have e : ∀ x : Nat, x < 9223372036854775808 → (BitVec.ofInt 64 (x : Int)).toNat = x := fun x hx => by
    rw [BitVec.ofInt_natCast, BitVec.toNat_ofNat]; exact Nat.mod_eq_of_lt (by omega)
  have hx : a &&& b < 2 ^ 63 := Nat.and_lt_two_pow _ (by omega)
  show IntKind.i64.wrap ((BitVec.ofInt 64 (a : Int) &&& BitVec.ofInt 64 (b : Int)).toNat : Int) = _
  rw [BitVec.toNat_and, e a ha, e b hb, IntKind.wrap_i64]
  omega
set_option maxHeartbeats 1000000 in
theorem ones_any (x : Nat) (hx : x < 18446744073709551616) (w : World) : Calls Try.prog 17 #[.int .u64 x] w fun e w' => e = .returned (.int .i64 (popN 64 x)) ∧ w = w' := by
  obtain ⟨y, hy⟩ : ∃ y, y = (x / 2 &&& 6148914691236517205) + (x &&& 6148914691236517205) := ⟨_, rfl⟩
  obtain ⟨z, hz⟩ : ∃ z, z = (y / 4 &&& 3689348814741910323) + (y &&& 3689348814741910323) := ⟨_, rfl⟩
  obtain ⟨u, hu⟩ : ∃ u, u = (z / 16 + z) &&& 1085102592571150095 := ⟨_, rfl⟩
  obtain ⟨hy64, hz64⟩ := three_lt x hx y z hy hz
  have h3 := three x hx y z u hy hz hu
  obtain ⟨l1, l2, l3, l4, l5⟩ := last x u h3
  clear h3
  have a1 : bits .and .u64 ((x : Int) / 2) 6148914691236517205 = ((x / 2 &&& 6148914691236517205 : Nat) : Int) := u64_and_nat (x / 2) 6148914691236517205 (by omega) (by decide)
  have a2 : bits .and .u64 (x : Int) 6148914691236517205 = ((x &&& 6148914691236517205 : Nat) : Int) := u64_and_nat x 6148914691236517205 hx (by decide)
  have e1 : ((x / 2 &&& 6148914691236517205 : Nat) : Int) + ((x &&& 6148914691236517205 : Nat) : Int) = (y : Int) := by rw [hy]; omega
  have a3 : bits .and .u64 ((y : Int) / 4) 3689348814741910323 = ((y / 4 &&& 3689348814741910323 : Nat) : Int) := u64_and_nat (y / 4) 3689348814741910323 (by omega) (by decide)
  have a4 : bits .and .u64 (y : Int) 3689348814741910323 = ((y &&& 3689348814741910323 : Nat) : Int) := u64_and_nat y 3689348814741910323 hy64 (by decide)
  have e2 : ((y / 4 &&& 3689348814741910323 : Nat) : Int) + ((y &&& 3689348814741910323 : Nat) : Int) = (z : Int) := by rw [hz]; omega
  have a5 : bits .and .u64 (((z / 16 + z : Nat) : Int)) 1085102592571150095 = (u : Int) := by rw [hu]; exact u64_and_nat (z / 16 + z) 1085102592571150095 hz64 (by decide)
  have e3 : (z : Int) / 16 + (z : Int) = ((z / 16 + z : Nat) : Int) := by omega
  generalize (x / 2 &&& 6148914691236517205) = p1 at *
  generalize (x &&& 6148914691236517205) = p2 at *
  generalize (y / 4 &&& 3689348814741910323) = p3 at *
  generalize (y &&& 3689348814741910323) = p4 at *
  clear hu
  rw [← e3] at a5
  clear e3
  obtain ⟨v, hv⟩ : ∃ v, v = u + u / 256 := ⟨_, rfl⟩
  rw [← hv] at l2 l3 l4 l5
  obtain ⟨t, ht⟩ : ∃ t, t = v + v / 65536 := ⟨_, rfl⟩
  rw [← ht] at l3 l4 l5
  obtain ⟨q, hq⟩ : ∃ q, q = t + t / 4294967296 := ⟨_, rfl⟩
  rw [← hq] at l4 l5
  have f1 : (u : Int) + (u : Int) / 256 = (v : Int) := by omega
  have f2 : (v : Int) + (v : Int) / 65536 = (t : Int) := by omega
  have f3 : (t : Int) + (t : Int) / 4294967296 = (q : Int) := by omega
  have f4 : bits .and .i64 (q : Int) 127 = ((q % 128 : Nat) : Int) := by
    have := and_i64 q 127 l4 (by decide)
    rw [show (127 : Nat) = 2 ^ 7 - 1 from rfl, Nat.and_two_pow_sub_one_eq_mod] at this
    exact this
  rw [l5] at f4
  clear l5 hy hz hv ht hq
  go_enter Try.func17, Try.ntmps17
  go_wp2
  go_ret
  exact ⟨rfl, rfl⟩
theorem odd_any (x : Nat) (hx : x < 18446744073709551616) (w : World) : Calls Try.prog 14 #[.int .u64 x] w fun e w' => e = .returned (.bool (xs 64 fun i => x.testBit i)) ∧ w = w' := by
  have h := popN_xs 64 x
  have e1 : (((popN 64 x : Nat) : Int) % 2 == 1) = decide (popN 64 x % 2 = 1) := by rw [Bool.eq_iff_iff]; simp; omega
  rw [← h] at e1
  have hp := popN_le 64 x
  have HC := Lib.hid (fun w => ones_any x hx w)
  have E1 := Lib.hid e1; clear e1 h
  generalize popN 64 x = p at *
  go_enter Try.func14, Try.ntmps14
  go_wp2_with (go_at_call 17; refine (HC.out _).mono ?_; rintro e w' ⟨rfl, rfl⟩)
  go_ret
  exact ⟨by rw [← E1.out]; rfl, rfl⟩
end Go.Proofs.Ytcbjdodpgnmhnaa
