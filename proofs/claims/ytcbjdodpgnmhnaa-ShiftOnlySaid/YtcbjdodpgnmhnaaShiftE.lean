/-
  Shift: Bools, the other Run, makes.
-/
import Derived.Test.YtcbjdodpgnmhnaaShiftD
namespace Go.Proofs.Ytcbjdodpgnmhnaa
open Go.RowKit
theorem list_eq_of {a b : List Bool} (hl : a.length = b.length) (h : ∀ i < a.length, a.getD i false = b.getD i false) : a = b := by
  apply List.ext_getElem hl
  intro i h1 h2
  have := h i h1
  rw [List.getD_eq_getElem?_getD, List.getD_eq_getElem?_getD, List.getElem?_eq_getElem h1, List.getElem?_eq_getElem h2] at this
  exact this
set_option maxHeartbeats 1000000 in
theorem bools_any (A B : Option Addr) (n m c d : Nat) (a b : List Bool) (w : World) (ha : Bts w w.heap.size A n a) (hb : Bts w w.heap.size B m b) (hn : n ≤ 1000) (hm : m ≤ 1000) :
    Calls Try.prog 8 #[.slice A n c, .slice B m d] w fun e w' => e = .returned (.bool (decide (a = b))) ∧ Keep (fun _ => False) w w' := by
  have la := ha.1; have lb := hb.1
  have HA := Lib.hid ha; have HB := Lib.hid hb; clear ha hb
  by_cases hnm : n = m
  case neg =>
    have b1 : ((n : Int) != (m : Int)) = true := by simp; omega
    have HE := Lib.hid (decide_eq_false (show ¬ a = b by rintro rfl; omega))
    clear hnm la lb
    go_enter Try.func8, Try.ntmps8
    go_wp2_with fail
    go_ret
    exact ⟨by rw [HE.out]; rfl, Keep.refl _ _⟩
  case pos =>
    subst hnm
    have b1 : ((n : Int) != (n : Int)) = false := by simp
    have LA := Lib.hid la; have LB := Lib.hid lb; clear la lb
    go_enter Try.func8, Try.ntmps8
    go_wp2_with fail
    go_loopw [5] (fun t wr => ∃ i : Nat, i ≤ n ∧ t = .int .i64 i ∧ (∀ j < i, a.getD j false = b.getD j false) ∧ Keep (fun _ => False) w wr) (fun t _ => n - (intOf t).toNat)
    case atStart => exact ⟨0, Nat.zero_le _, rfl, fun _ h => absurd h (Nat.not_lt_zero _), Keep.refl _ _⟩
    case round =>
      obtain ⟨i, hi, rfl, hall, hk⟩ := hrel
      have HALL := Lib.hid hall; have HK := Lib.hid hk; clear hall hk
      by_cases hlt : i < n
      · obtain ⟨g1, o1, rfl, _, hc1⟩ := (HA.out.keep HK.out).at_ (Below.refl _ _) hlt
        obtain ⟨g2, o2, rfl, _, hc2⟩ := (HB.out.keep HK.out).at_ (Below.refl _ _) hlt
        obtain ⟨x, hx⟩ : ∃ x, x = a.getD i false := ⟨_, rfl⟩
        obtain ⟨y, hy⟩ : ∃ y, y = b.getD i false := ⟨_, rfl⟩
        rw [← hx] at hc1
        rw [← hy] at hc2
        have HX := Lib.hid hx; have HY := Lib.hid hy; clear hx hy
        have i0 : (0 : Int) ≤ (i : Int) := by omega
        have i1 : (i : Int) < (n : Int) := by omega
        by_cases hxy : x = y
        · have HXY := Lib.hid hxy
          have e1 : (x != y) = false := by rw [hxy]; simp
          clear hxy
          go_wp2_with fail
          go_quiet (fail)
          generalize hw2 : wr.drewN _ = w2
          have hk3 : Keep (fun _ => False) wr w2 := by rw [← hw2]; exact (Keep.refl _ _).drewN _
          have HK3 := Lib.hid hk3; clear hw2 hk3 hc1 hc2
          cases x <;> cases y
          rotate_left
          · exact absurd e1 (by decide)
          · exact absurd e1 (by decide)
          all_goals
            go_wp2_with fail
            refine ⟨⟨i + 1, by omega, rfl, fun j hj => ?_, HK.out.trans HK3.out⟩, by simp [intOf]; omega⟩
            by_cases hji : j < i
            · exact HALL.out j hji
            · obtain rfl : j = i := by omega
              rw [← HX.out, ← HY.out]
        · have HXY := Lib.hid hxy
          have e1 : (x != y) = true := by simpa using hxy
          have HE := Lib.hid (decide_eq_false (show ¬ a = b by rintro rfl; exact HXY.out (by rw [HX.out, HY.out])))
          clear hxy
          go_wp2_with fail
          go_quiet (fail)
          generalize hw2 : wr.drewN _ = w2
          have hk3 : Keep (fun _ => False) wr w2 := by rw [← hw2]; exact (Keep.refl _ _).drewN _
          have HK3 := Lib.hid hk3; clear hw2 hk3 hc1 hc2
          cases x <;> cases y
          · exact absurd e1 (by decide)
          rotate_left 2
          · exact absurd e1 (by decide)
          all_goals
            go_wp2_with fail
            go_ret
            exact ⟨by rw [HE.out]; rfl, HK.out.trans HK3.out⟩
      · obtain rfl : i = n := by omega
        have HE := Lib.hid (decide_eq_true (show a = b from list_eq_of (by rw [LA.out, LB.out]) fun j hj => HALL.out j (by have := LA.out; omega)))
        go_wp2_with fail
        go_ret
        exact ⟨by rw [HE.out]; rfl, HK.out⟩
end Go.Proofs.Ytcbjdodpgnmhnaa
