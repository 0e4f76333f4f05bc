/-
  Shift: makes, Short.
-/
import Derived.Test.YtcbjdodpgnmhnaaShiftG
namespace Go.Proofs.Ytcbjdodpgnmhnaa
open Go.RowKit
/-- do taps make a row? -/
def MakesP (taps l : List Bool) : Prop := taps.length ≤ l.length ∧ rgen taps (l.take taps.length) l.length = l
instance (taps l : List Bool) : Decidable (MakesP taps l) := inferInstanceAs (Decidable (taps.length ≤ l.length ∧ rgen taps (l.take taps.length) l.length = l))
theorem Bts.take {w : World} {B : Nat} {A : Option Addr} {n m : Nat} {l : List Bool} (h : Bts w B A n l) (hm : m ≤ n) : Bts w B A m (l.take m) := by
  refine ⟨by rw [List.length_take, h.1]; omega, fun h0 => ?_⟩
  obtain ⟨b, off, e, hlt, hc⟩ := h.2 (by omega)
  refine ⟨b, off, e, hlt, fun j x hj => hc j x ?_⟩
  rw [List.getElem?_take] at hj
  split at hj
  · exact hj
  · cases hj
set_option maxRecDepth 100000 in
set_option maxHeartbeats 2000000 in
theorem makes_any (A B : Option Addr) (m n c d : Nat) (taps l : List Bool) (w : World) (ha : Bts w w.heap.size A m taps) (hb : Bts w w.heap.size B n l) (hn : n ≤ 65) (hn64 : n ≤ 64) (hd : n ≤ d) :
    Calls Try.prog 7 #[.slice A m c, .slice B n d] w fun e w' => e = .returned (.bool (decide (MakesP taps l))) ∧ Keep (fun _ => False) w w' := by
  have la := ha.1; have lb := hb.1
  have HA := Lib.hid ha; have HB := Lib.hid hb; clear ha hb
  by_cases hmn : m ≤ n
  case neg =>
    have b1 : decide (m ≤ n) = false := decide_eq_false hmn
    have HE := Lib.hid (decide_eq_false (show ¬ MakesP taps l from fun h => hmn (by have := h.1; omega)))
    clear hmn la lb
    go_enter Try.func7, Try.ntmps7
    go_wp2_with fail
    go_ret
    exact ⟨by rw [HE.out]; rfl, Keep.refl _ _⟩
  case pos =>
    have b1 : decide (m ≤ n) = true := decide_eq_true hmn
    have hE : decide (MakesP taps l) = decide (rgen taps (l.take m) n = l) := by
      rw [decide_eq_decide]
      unfold MakesP
      rw [la, lb]
      exact ⟨fun h => h.2, fun h => ⟨hmn, h⟩⟩
    have hbt := HB.out.take hmn
    have hrl := rgen_length taps (l.take m) n
    have i1 : (0 : Int) ≤ (m : Int) := by omega
    have i2 : (m : Int) ≤ (d : Int) := by omega
    have HE := Lib.hid hE; have HBT := Lib.hid hbt; have HRL := Lib.hid hrl
    clear la lb hE hbt hrl
    go_enter Try.func7, Try.ntmps7
    go_wp2_with (first
      | (go_at_call 12; refine (refrun_any _ _ m n _ _ taps (l.take m) _ HA.out HBT.out (by omega) (by omega)).mono ?_; rintro e w1 ⟨A1, c1, rfl, hb1, hk1⟩; have HB1 := Lib.hid hb1; have HK1 := Lib.hid hk1; clear hb1 hk1; rw [HRL.out])
      | (go_at_call 8; refine (bools_any _ _ n n _ _ (rgen taps (l.take m) n) l _ (by have := HB1.out; rwa [HRL.out] at this) (HB.out.keep HK1.out) (by omega) (by omega)).mono ?_; rintro e w2 ⟨rfl, hk2⟩; have HK2 := Lib.hid (HK1.out.trans hk2); clear hk2; rw [← HE.out]))
    go_ret
    exact ⟨rfl, HK2.out⟩
/-- what Short tells -/
def ShortEnd (l : List Bool) (n : Nat) (w : World) (e : Ending) (w' : World) : Prop :=
  ∃ (A : Option Addr) (c L t k : Nat) (p b : Nat → Bool), e = .returned (.tuple #[.slice A L c, .int .i64 0]) ∧ Bts w' w'.heap.size A L (bitsOf t L) ∧ Keep (fun _ => False) w w' ∧ L ≤ n ∧ Sol (fun i => l.getD i false) L n t.testBit ∧ Bm (fun i => l.getD i false) p b L k n
set_option maxHeartbeats 2000000 in
theorem short_bad (A : Option Addr) (n c : Nat) (w : World) (hn : 64 < n) : Calls Try.prog 6 #[.slice A n c] w fun e w' => e = .returned (.tuple #[.slice none 0 0, .int .i64 1]) ∧ w = w' := by
  have b1 : decide ((64 : Int) < (n : Int)) = true := by simp; omega
  go_enter Try.func6, Try.ntmps6
  go_wp2_with fail
  go_ret2
  exact ⟨rfl, rfl⟩
set_option maxHeartbeats 2000000 in
theorem short_ok (A : Option Addr) (n c : Nat) (l : List Bool) (w : World) (h : Bts w w.heap.size A n l) (hn : n ≤ 64) : Calls Try.prog 6 #[.slice A n c] w (ShortEnd l n w) := by
  have b1 : decide ((64 : Int) < (n : Int)) = false := by simp; omega
  have H := Lib.hid h; clear h
  go_enter Try.func6, Try.ntmps6
  go_wp2_with (first
    | (go_at_call 10; refine (massey_any _ n _ l _ H.out hn).mono ?_; rintro e w1 ⟨x, L, p, b, k, rfl, hbm, hk1⟩; have HBM := Lib.hid hbm; have HK1 := Lib.hid hk1; clear hbm hk1; have hL := HBM.out.le)
    | (go_at_call 11; refine (least_any _ n _ L l _ (H.out.keep HK1.out) hn hL ⟨_, HBM.out.rule.sol (by omega)⟩).mono ?_; rintro e w2 ⟨t, ⟨A2, c2, rfl, hb2, hk2⟩, hsol⟩; have HB2 := Lib.hid hb2; have HK2 := Lib.hid (HK1.out.trans hk2); have HSOL := Lib.hid hsol; clear hb2 hk2 hsol))
  go_ret2
  have hlb : (bitsOf t L).length = L := by simp [bitsOf]
  have hb2 := HB2.out
  rw [hlb] at hb2
  refine ⟨A2, c2, L, t, k, p, b, by rw [hlb]; rfl, hb2, HK2.out, hL, HSOL.out, HBM.out⟩
end Go.Proofs.Ytcbjdodpgnmhnaa
