/-
  The walks of Waves and of anf.
-/
import Derived.Test.YtdljapemhpeaeaaDoorB
namespace Go.Proofs.YtdljapemhpeaeaaDoor
open Go.RowKit Wp
theorem Tryd.info3 : (Tryd.prog.info? 3).map (fun i => (i.zero, i.size, i.bytes)) = some (some (.int .i64 0), 1, 8) := by kernel_rfl
/-- the value of a bit -/
def bv (F x : Nat) : Int := if F.testBit x then 1 else 0
theorem bv_bd (F x : Nat) : 0 ≤ bv F x ∧ bv F x ≤ 1 := by unfold bv; split <;> omega
theorem bv_bits (F x : Nat) (hF : F < 4294967296) : bits BinOp.and .u32 ((F : Int) / 2 ^ x) 1 = bv F x := by
  have h := bits_mask .u32 32 (by decide) (fun n h0 h1 => by rw [IntKind.wrap_u32]; exact Int.emod_eq_of_lt h0 h1) 1 (by decide) ((F : Int) / 2 ^ x) (Int.ediv_nonneg (by omega) (by
    have : (0 : Int) < 2 ^ x := Int.pow_pos (by decide)
    omega)) (Int.lt_of_le_of_lt (Int.ediv_le_self _ (by omega)) (by omega))
  refine h.trans ?_
  have e : ((F : Int) / 2 ^ x) % 2 = ((F / 2 ^ x % 2 : Nat) : Int) := by simp
  show ((F : Int) / 2 ^ x) % 2 = bv F x
  rw [e]
  unfold bv
  rw [Nat.testBit_eq_decide_div_mod_eq]
  by_cases h : F / 2 ^ x % 2 = 1
  · simp [h]
  · have : F / 2 ^ x % 2 = 0 := by omega
    simp [this]
theorem pow_n : ∀ n ≤ 5, (2 : Nat) ^ n ≤ 32 := by decide
theorem wrap_n : ∀ n : Nat, n ≤ 5 → wrap64 (2 ^ n) = ((2 ^ n : Nat) : Int) := by decide +kernel
theorem row_made {w : World} {base g N : Nat} (h : w.ownsRow base 3 1 (.slice (some ⟨g, 0, none⟩) N N) N (madeCells (Value.int .i64 0).cells (N * 1)).toList) : Row w g N (fun _ => 0) := by
  refine ⟨fun i hi => ?_, fun i => h.frozenAt i⟩
  rw [h.cellAt i (by omega)]
  simp [madeCells, Value.cells]
  exact ⟨i, by simp [hi], by simp [Nat.mod_one]⟩
set_option maxRecDepth 100000 in
set_option maxHeartbeats 1000000 in
theorem waves_ok (n F : Nat) (hn : n ≤ 5) (hF : F < 4294967296) (hok : okW n F = true) (w : World) :
    Calls Tryd.prog 5 #[.int .i64 n, .int .u32 F] w fun e w' => ∃ b, e = .returned (.tuple #[.slice (some ⟨b, 0, none⟩) (2 ^ n) (2 ^ n), .int .i64 0]) ∧ w.heap.size ≤ b ∧ Below w.heap.size w w' ∧
      Row w' b (2 ^ n) (flyN (fun a b => (wrap64 (a + b), wrap64 (a - b))) (2 ^ n) n fun x => 1 - 2 * bv F x) := by
  obtain ⟨i0, hi, hz0, hz1, hz2⟩ := info_parts Tryd.info3
  have hp := pow_n n hn
  have hw := wrap_n n hn
  obtain ⟨N, hN⟩ : ∃ N, N = 2 ^ n := ⟨_, rfl⟩
  rw [← hN] at hp hw ⊢
  have HN := Lib.hid hN; clear hN
  have HK := Lib.hid hok; clear hok
  go_enter Tryd.func5, Tryd.ntmps5
  go_wp2_with (first
    | (go_at_call 9; refine (out_any _ _ _ (by omega) (by omega)).mono ?_; rintro e w' ⟨rfl, rfl⟩; rw [HK.out])
    | (at_make; simp only [hw]; (refine wpList_make_full _ rfl (.tmp 12) (.tmp 12) 23 rfl w.heap.size 3 i0 (.int .i64 0) 1 Tryd.underlying23 hi hz0 hz1 .i64 .i64 (N : Int) (N : Int) N rfl rfl rfl rfl (by rw [hz2]; omega) (by unfold maxLen; omega) (Nat.le_refl _) ?_); intro w1 hown hgrow))
  have bw1 : Below w.heap.size w w1 := (Below.refl _ _).grown hgrow (Nat.le_refl _) (fun _ h => by cases h)
  have hr1 := Lib.hid (row_made hown); clear hown hgrow
  go_loopw [16] (fun t wr => ∃ m : Nat, m ≤ N ∧ t = .int .i64 m ∧ Below w.heap.size w wr ∧ Row wr w.heap.size N (fun i => if i < m then 1 - 2 * bv F i else 0)) (fun t _ => N - (intOf t).toNat)
  case atStart => exact ⟨0, Nat.zero_le _, rfl, bw1, hr1.out⟩
  case round =>
    obtain ⟨m, hm, rfl, hbel, hrow⟩ := hrel
    have H := Lib.hid hrow; clear hrow
    by_cases hmt : m < N
    · have hbv := bv_bits F m hF
      have hbd := bv_bd F m
      have c1 := H.out.1 m hmt
      have f0 := H.out.2
      go_wp2
      refine ⟨⟨m + 1, by omega, rfl, hbel.setCell (p := ⟨w.heap.size, m, none⟩) (Nat.le_refl _) _, ?_⟩, by simp [intOf]; omega⟩
      rw [pre_succ (fun i => 1 - 2 * bv F i) 0 m]
      exact H.out.set hmt _
    · obtain rfl : m = N := by omega
      clear hmt
      have hrow : Row wr w.heap.size m fun x => 1 - 2 * bv F x := ⟨fun i hi => by rw [H.out.1 i hi]; simp [hi], H.out.2⟩
      have HR := Lib.hid hrow; clear hrow
      go_wp2_with (go_at_call 10; refine (fly_w (fun a b => (wrap64 (a + b), wrap64 (a - b))) (Lib.hid fun x y w => pair_w x y w) n _ _ w.heap.size hn HN hp _ _ HR.out (Nat.le_refl _)).mono ?_; rintro e w2 ⟨rfl, hb2, hr2⟩; have HR2 := Lib.hid hr2; clear hr2)
      go_ret2
      exact ⟨_, rfl, Nat.le_refl _, hbel.trans hb2, HR2.out⟩
end Go.Proofs.YtdljapemhpeaeaaDoor
