/-
  Shift: both Runs.
-/
import Derived.Test.YtcbjdodpgnmhnaaShiftE
namespace Go.Proofs.Ytcbjdodpgnmhnaa
open Go.RowKit
theorem rgen_first {taps first : List Bool} {i : Nat} (h : i < first.length) : rgen taps first (i + 1) = rgen taps first i ++ [first.getD i false] := by
  show rgen taps first i ++ _ = _
  rw [if_pos h]
theorem rgen_next {taps first : List Bool} {i : Nat} (h : ¬ i < first.length) : rgen taps first (i + 1) = rgen taps first i ++ [xs taps.length fun k => taps.getD k false && (rgen taps first i).getD (i - k - 1) false] := by
  show rgen taps first i ++ _ = _
  rw [if_neg h]
set_option maxRecDepth 100000 in
set_option maxHeartbeats 4000000 in
theorem refrun_any (A B : Option Addr) (L n c d : Nat) (taps first : List Bool) (w : World) (ha : Bts w w.heap.size A L taps) (hb : Bts w w.heap.size B L first) (hL : L ≤ 64) (hn : n ≤ 64) :
    Calls Try.prog 12 #[.slice A L c, .slice B L d, .int .i64 n] w (BitsEnd (rgen taps first n) w) := by
  have la := ha.1; have lb := hb.1
  have HA := Lib.hid ha; have HB := Lib.hid hb; have LA := Lib.hid la; have LB := Lib.hid lb; clear ha hb la lb
  go_enter Try.func12, Try.ntmps12
  go_wp2
  go_loopw [7, 8] (fun sv tv wr => ∃ i : Nat, i ≤ n ∧ tv = .int .i64 i ∧ wr.ownsRow w.heap.size 4 1 sv i ((rgen taps first i).map Value.bool) ∧ Keep (fun _ => False) w wr) (fun _ tv _ => n - (intOf tv).toNat)
  case atStart => exact ⟨0, Nat.zero_le _, rfl, World.ownsRow_nil _ _ _ _, Keep.refl _ _⟩
  case round =>
    obtain ⟨i, hi, rfl, ho, hk⟩ := hrel
    obtain ⟨Ao, co, rfl⟩ := own_form ho
    have HO := Lib.hid ho; have HK := Lib.hid hk; clear ho hk
    by_cases hlt : i < n
    · have b0 : decide (i < n) = true := decide_eq_true hlt
      by_cases hf : i < L
      · have b1 : decide (i < L) = true := decide_eq_true hf
        obtain ⟨g2, o2, rfl, _, hc2⟩ := (HB.out.keep HK.out).at_ (Below.refl _ _) hf
        have hsn := rgen_first (taps := taps) (first := first) (i := i) (by rw [LB.out]; exact hf)
        generalize first.getD i false = y at *
        have HSN := Lib.hid hsn; clear hsn
        go_wp2_with (at_builtin; refine wpList_app rfl (.tmp 45) (.tmp 47) 22 rfl w.heap.size 4 (.bool false) 1 1 Try.underlying22 boolE rfl (by decide) _ i _ rfl HO.out _ [.bool y] rfl rfl (by simp [Value.oneCell']) (by unfold maxLen; omega) (by omega) HK.out.size ?_; intro v' w5 hown' hk5 _; have HO5 := Lib.hid hown'; have HK5 := Lib.hid hk5; clear hown' hk5)
        refine ⟨⟨i + 1, by omega, rfl, ?_, HK.out.then_ HK5.out (fun b hb => (own_block_ge HO.out b hb).1)⟩, by simp [intOf]; omega⟩
        rw [HSN.out, List.map_append]
        exact HO5.out
      · have b1 : decide (i < L) = false := decide_eq_false hf
        have hsn := rgen_next (taps := taps) (first := first) (i := i) (by rw [LB.out]; exact hf)
        rw [LA.out] at hsn
        have hgl : (rgen taps first i).length = i := rgen_length _ _ _
        have hbo := Bts.of_own HO.out
        have HSN := Lib.hid hsn; have HGL := Lib.hid hgl; have HBO := Lib.hid hbo; clear hsn hgl hbo
        generalize rgen taps first i = G at *
        go_wp2_with fail
        clear b0 b1
        obtain ⟨wo, rfl⟩ : ∃ wo : World, wo = wr := ⟨_, rfl⟩
        go_loop [9, 10] (fun bv kv => ∃ k : Nat, k ≤ L ∧ kv = .int .i64 k ∧ bv = .bool (xs k fun q => taps.getD q false && G.getD (i - q - 1) false)) (fun _ kv => L - (intOf kv).toNat)
        case atStart => exact ⟨0, Nat.zero_le _, rfl, rfl⟩
        case round =>
          obtain ⟨k, hkL, rfl, rfl⟩ := hrel
          by_cases hkl : k < L
          · obtain ⟨g1, o1, rfl, _, hc1⟩ := (HA.out.keep HK.out).at_ (Below.refl _ _) hkl
            obtain ⟨g2, o2, hAo, _, hc2⟩ := HBO.out.at_ (Below.refl _ _) (show i - k - 1 < i by omega)
            subst hAo
            have hxs : xs (k + 1) (fun q => taps.getD q false && G.getD (i - q - 1) false) = (xs k (fun q => taps.getD q false && G.getD (i - q - 1) false) ^^ (taps.getD k false && G.getD (i - k - 1) false)) := rfl
            have HXS := Lib.hid hxs; clear hxs
            have e1 : (i : Int) - (k : Int) - 1 = ((i - k - 1 : Nat) : Int) := by omega
            obtain ⟨u, hu⟩ : ∃ u, u = i - k - 1 := ⟨_, rfl⟩
            rw [← hu] at e1 hc2 HXS
            have hui : u < i := by omega
            generalize taps.getD k false = x at *
            generalize G.getD u false = y at *
            generalize xs k (fun q => taps.getD q false && G.getD (i - q - 1) false) = z at *
            have HU := Lib.hid hu; clear hu
            cases x with
            | false =>
              go_wp2_with fail
              refine ⟨⟨k + 1, by omega, rfl, ?_⟩, by simp [intOf]; omega⟩
              rw [HXS.out]; simp
            | true =>
              cases y with
              | false =>
                go_wp2_with fail
                refine ⟨⟨k + 1, by omega, rfl, ?_⟩, by simp [intOf]; omega⟩
                rw [HXS.out]; simp
              | true =>
                go_wp2_with fail
                refine ⟨⟨k + 1, by omega, rfl, ?_⟩, by simp [intOf]; omega⟩
                rw [HXS.out]; simp
          · obtain rfl : k = L := by omega
            generalize xs k (fun q => taps.getD q false && G.getD (i - q - 1) false) = z at *
            go_wp2_with (at_builtin; refine wpList_app rfl (.tmp 45) (.tmp 47) 22 rfl w.heap.size 4 (.bool false) 1 1 Try.underlying22 boolE rfl (by decide) _ i _ rfl HO.out _ [.bool z] rfl rfl (by simp [Value.oneCell']) (by unfold maxLen; omega) (by omega) HK.out.size ?_; intro v' w5 hown' hk5 _; have HO5 := Lib.hid hown'; have HK5 := Lib.hid hk5; clear hown' hk5)
            refine ⟨⟨i + 1, by omega, rfl, ?_, HK.out.then_ HK5.out (fun b hb => (own_block_ge HO.out b hb).1)⟩, by simp [intOf]; omega⟩
            rw [HSN.out, List.map_append]
            exact HO5.out
    · obtain rfl : i = n := by omega
      go_wp2_with fail
      go_ret
      have hl := rgen_length taps first i
      refine ⟨Ao, co, by rw [hl]; rfl, ?_, HK.out⟩
      rw [hl]
      exact Bts.of_own HO.out
end Go.Proofs.Ytcbjdodpgnmhnaa
