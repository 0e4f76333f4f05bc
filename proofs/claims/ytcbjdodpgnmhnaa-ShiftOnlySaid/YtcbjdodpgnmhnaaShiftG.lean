/-
  Shift: Run, makes, Short.
-/
import Derived.Test.YtcbjdodpgnmhnaaShiftF
namespace Go.Proofs.Ytcbjdodpgnmhnaa
open Go.RowKit
theorem wdN_shift (f : Nat → Bool) (n : Nat) : wdN f (n + 1) = wdN (fun k => f (k + 1)) n * 2 ||| (if f 0 then 1 else 0) := by
  apply Nat.eq_of_testBit_eq
  intro i
  rw [wdN_bit, Nat.testBit_or, show wdN (fun k => f (k + 1)) n * 2 = wdN (fun k => f (k + 1)) n * 2 ^ 1 from rfl, Nat.testBit_mul_two_pow, wdN_bit]
  cases i with
  | zero => cases f 0 <;> simp
  | succ i =>
    have h1 : (if f 0 = true then 1 else 0 : Nat).testBit (i + 1) = false := by
      split
      · cases hb : (1 : Nat).testBit (i + 1)
        · rfl
        · have := Nat.testBit_one_eq_true_iff_self_eq_zero.1 hb; omega
      · simp
    rw [h1, Bool.or_false]
    have h2 : decide (1 ≤ i + 1) = true := by simp
    have h3 : decide (i < n) = decide (i + 1 < n + 1) := by rw [decide_eq_decide]; omega
    rw [h2, Bool.true_and, Nat.add_sub_cancel, h3]
/-- the bits before a place, the last one lowest -/
def pastG (G : List Bool) (i : Nat) : Nat := wdN (fun k => G.getD (i - 1 - k) false) i
theorem pastG_snoc (G : List Bool) (i : Nat) (b : Bool) (h : G.length = i) : pastG (G ++ [b]) (i + 1) = pastG G i * 2 ||| (if b then 1 else 0) := by
  unfold pastG
  rw [wdN_shift]
  have e1 : (G ++ [b]).getD (i + 1 - 1 - 0) false = b := by
    rw [List.getD_eq_getElem?_getD, List.getElem?_append_right (by omega)]; simp [h]
  rw [e1]
  have e2 : wdN (fun k => (G ++ [b]).getD (i + 1 - 1 - (k + 1)) false) i = wdN (fun k => G.getD (i - 1 - k) false) i := by
    apply Nat.eq_of_testBit_eq
    intro j
    rw [wdN_bit, wdN_bit]
    by_cases hj : j < i
    · congr 1
      rw [List.getD_eq_getElem?_getD, List.getElem?_append_left (by omega), List.getD_eq_getElem?_getD, show i + 1 - 1 - (j + 1) = i - 1 - j by omega]
    · have : decide (j < i) = false := by simpa using hj
      rw [this]; rfl
  rw [e2]
set_option maxRecDepth 100000 in
set_option maxHeartbeats 4000000 in
theorem run_any (A B : Option Addr) (L n c d : Nat) (taps first : List Bool) (w : World) (ha : Bts w w.heap.size A L taps) (hb : Bts w w.heap.size B L first) (hL : L ≤ 64) (hn : n ≤ 64) :
    Calls Try.prog 9 #[.slice A L c, .slice B L d, .int .i64 n] w fun e w' => ∃ A' c', e = .returned (.tuple #[.slice A' n c', .int .i64 0]) ∧ Bts w' w'.heap.size A' n (rgen taps first n) ∧ Keep (fun _ => False) w w' := by
  have la := ha.1; have lb := hb.1
  have HA := Lib.hid ha; have HB := Lib.hid hb; have LA := Lib.hid la; have LB := Lib.hid lb; clear ha hb la lb
  obtain ⟨T, hT⟩ : ∃ T, T = wdN (fun i => taps.getD i false) L := ⟨_, rfl⟩
  have T64 : T < 18446744073709551616 := by rw [hT]; exact Nat.lt_of_lt_of_le (wdN_lt _ _) (pow64 hL)
  have HT := Lib.hid hT; clear hT
  have b1 : decide ((64 : Int) < (L : Int)) = false := by simp; omega
  have b2 : decide ((n : Int) < 0) = false := by simp
  have b3 : decide ((64 : Int) < (n : Int)) = false := by simp; omega
  have b4 : ((L : Int) != (L : Int)) = false := by simp
  go_enter Try.func9, Try.ntmps9
  go_wp2_with (go_at_call 13; refine (word_any _ _ _ taps _ HA.out hL).mono ?_; rintro e w' ⟨rfl, rfl⟩; rw [← HT.out])
  clear b1 b2 b3 b4
  go_loopw [9, 10, 32] (fun pv sv tv wr => ∃ i : Nat, i ≤ n ∧ tv = .int .i64 i ∧ pv = .int .u64 (pastG (rgen taps first i) i) ∧ wr.ownsRow w.heap.size 4 1 sv i ((rgen taps first i).map Value.bool) ∧ Keep (fun _ => False) w wr) (fun _ _ tv _ => n - (intOf tv).toNat)
  case atStart => exact ⟨0, Nat.zero_le _, rfl, rfl, World.ownsRow_nil _ _ _ _, Keep.refl _ _⟩
  case round =>
    obtain ⟨i, hi, rfl, rfl, ho, hk⟩ := hrel
    obtain ⟨Ao, co, rfl⟩ := own_form ho
    have HO := Lib.hid ho; have HK := Lib.hid hk; clear ho hk
    by_cases hlt : i < n
    · have hgl : (rgen taps first i).length = i := rgen_length _ _ _
      obtain ⟨p, hp⟩ : ∃ p, p = pastG (rgen taps first i) i := ⟨_, rfl⟩
      rw [← hp]
      have hp2 : p < 2 ^ i := by rw [hp]; exact wdN_lt _ _
      have hp63 : p < 9223372036854775808 := Nat.lt_of_lt_of_le hp2 (by
        have := Nat.pow_le_pow_right (n := 2) (by decide) (show i ≤ 63 by omega)
        simpa using this)
      have ha := u64_and_nat p T (by omega) T64
      obtain ⟨z, hz⟩ : ∃ z, z = p &&& T := ⟨_, rfl⟩
      have hz64 : z < 18446744073709551616 := by rw [hz]; exact Nat.and_lt_two_pow (n := 64) _ T64
      rw [← hz] at ha
      obtain ⟨o, ho⟩ : ∃ o, o = xs 64 (fun i => z.testBit i) := ⟨_, rfl⟩
      have hodd : ∀ V : World, Calls Try.prog 14 #[.int .u64 z] V fun e w' => e = .returned (.bool o) ∧ V = w' := fun V => (odd_any z hz64 V).mono fun _ _ h => ⟨by rw [h.1, ho], h.2⟩
      have HODD := Lib.hid hodd
      -- the bit that is made
      obtain ⟨x, hx, hval⟩ : ∃ x, rgen taps first (i + 1) = rgen taps first i ++ [x] ∧ (if i < L then x = first.getD i false else x = o) := by
        by_cases hf : i < L
        · exact ⟨_, rgen_first (by rw [LB.out]; exact hf), by rw [if_pos hf]⟩
        · refine ⟨_, rgen_next (by rw [LB.out]; exact hf), ?_⟩
          rw [if_neg hf, LA.out, ho]
          have e : xs 64 (fun i => z.testBit i) = xs L (fun i => z.testBit i) := by
            refine xs_wide hL fun j h1 _ => ?_
            rw [hz, Nat.testBit_and, HT.out, wdN_bit]
            have : decide (j < L) = false := by simp; omega
            rw [this]; simp
          rw [e]
          refine xs_congr fun j hj => ?_
          rw [hz, Nat.testBit_and, HT.out, hp]
          unfold pastG
          rw [wdN_bit, wdN_bit]
          have d1 : decide (j < L) = true := by simpa using hj
          have d2 : decide (j < i) = true := by simp; omega
          rw [d1, d2, show i - 1 - j = i - j - 1 by omega]
          cases taps.getD j false <;> cases (rgen taps first i).getD (i - j - 1) false <;> rfl
      have hpn := pastG_snoc (rgen taps first i) i x hgl
      rw [← hx, ← hp] at hpn
      have hor : bits .or .u64 ((p : Int) * 2) 1 = ((p * 2 ||| 1 : Nat) : Int) := by
        have := u64_or_nat (p * 2) 1 (by omega) (by decide)
        simpa using this
      have HX := Lib.hid hx; have HPN := Lib.hid hpn; have HOR := Lib.hid hor
      clear hx hpn hor hgl hp hz ho hodd hp2
      generalize rgen taps first i = G at *
      by_cases hf : i < L
      · rw [if_pos hf] at hval
        have b5 : decide (i < L) = true := decide_eq_true hf
        obtain ⟨g2, o2, rfl, _, hc2⟩ := (HB.out.keep HK.out).at_ (Below.refl _ _) hf
        rw [← hval] at hc2
        clear hval
        cases x
        all_goals
          go_wp2_with (first
            | (go_at_call 14; refine (HODD.out _).mono ?_; rintro e w' ⟨rfl, rfl⟩)
            | (at_builtin; refine wpList_app rfl (.tmp 47) (.tmp 49) 22 rfl w.heap.size 4 (.bool false) 1 1 Try.underlying22 boolE rfl (by decide) _ i _ rfl HO.out _ [.bool _] rfl rfl (by simp [Value.oneCell']) (by unfold maxLen; omega) (by omega) HK.out.size ?_; intro v' w5 hown' hk5 _; have HO5 := Lib.hid hown'; have HK5 := Lib.hid hk5; clear hown' hk5))
          refine ⟨⟨i + 1, by omega, rfl, ?_, ?_, HK.out.then_ HK5.out (fun b hb => (own_block_ge HO.out b hb).1)⟩, by simp [intOf]; omega⟩
          · rw [HPN.out]; first | (simp; done) | (rw [HOR.out]; rfl)
          · rw [HX.out, List.map_append]
            exact HO5.out
      · rw [if_neg hf] at hval
        have b5 : decide (i < L) = false := decide_eq_false hf
        subst hval
        cases x
        all_goals
          go_wp2_with (first
            | (go_at_call 14; refine (HODD.out _).mono ?_; rintro e w' ⟨rfl, rfl⟩)
            | (at_builtin; refine wpList_app rfl (.tmp 47) (.tmp 49) 22 rfl w.heap.size 4 (.bool false) 1 1 Try.underlying22 boolE rfl (by decide) _ i _ rfl HO.out _ [.bool _] rfl rfl (by simp [Value.oneCell']) (by unfold maxLen; omega) (by omega) HK.out.size ?_; intro v' w5 hown' hk5 _; have HO5 := Lib.hid hown'; have HK5 := Lib.hid hk5; clear hown' hk5))
          refine ⟨⟨i + 1, by omega, rfl, ?_, ?_, HK.out.then_ HK5.out (fun b hb => (own_block_ge HO.out b hb).1)⟩, by simp [intOf]; omega⟩
          · rw [HPN.out]; first | (simp; done) | (rw [HOR.out]; rfl)
          · rw [HX.out, List.map_append]
            exact HO5.out
    · obtain rfl : i = n := by omega
      go_wp2_with fail
      go_ret2
      exact ⟨Ao, co, rfl, Bts.of_own HO.out, HK.out⟩
end Go.Proofs.Ytcbjdodpgnmhnaa
