/-
  Shift: the three laws, walked.
-/
import Derived.Test.YtcbjdodpgnmhnaaShiftI
namespace Go.Proofs.Ytcbjdodpgnmhnaa
open Go.RowKit
def TrueBelow (w : World) (e : Ending) (w' : World) : Prop := e = .returned (.bool true) ∧ Below w.heap.size w w'
set_option maxRecDepth 100000 in
set_option maxHeartbeats 4000000 in
theorem shiftMakes_any (A B : Option Addr) (n m c d : Nat) (l taps : List Bool) (w : World) (hl : Bts w w.heap.size A n l) (ht : Bts w w.heap.size B m taps) (hc : n ≤ c) :
    Calls Try.prog 5 #[.slice A n c, .slice B m d] w (TrueBelow w) := by
  have ll := hl.1; have lt := ht.1
  have H := Lib.hid hl; have HT := Lib.hid ht; have LL := Lib.hid ll; have LT := Lib.hid lt; clear hl ht ll lt
  by_cases hn : n ≤ 64
  case neg =>
    have b1 : decide ((64 : Int) < (n : Int)) = true := by simp; omega
    go_enter Try.func5, Try.ntmps5
    go_wp2_with (go_at_call 6; refine (short_bad _ n _ _ (by omega)).mono ?_; rintro e w' ⟨rfl, rfl⟩)
    go_ret
    exact ⟨rfl, Below.refl _ _⟩
  case pos =>
    have b1 : decide ((64 : Int) < (n : Int)) = false := by simp; omega
    go_enter Try.func5, Try.ntmps5
    go_wp2_with (go_at_call 6; refine (short_ok _ n _ l _ H.out hn).mono ?_; rintro e w1 ⟨A1, c1, L, t, k, p, b, rfl, hb1, hk1, hL, hsol, hbm⟩; have HB1 := Lib.hid hb1; have HK1 := Lib.hid hk1; have HSOL := Lib.hid hsol; have HBM := Lib.hid hbm; clear hb1 hk1 hsol hbm; have b2 : decide (n < L) = false := (by simp; omega); have i2 : (L : Int) ≤ (c : Int) := (by omega))
    have hmk := short_makes LL.out hn hL HSOL.out
    have HMK := Lib.hid (decide_eq_true hmk); clear hmk
    go_wp2_with (first
      | (go_at_call 9; refine (run_any _ _ L n _ _ (bitsOf t L) (l.take L) _ HB1.out ((H.out.keep HK1.out).take hL) (by omega) hn).mono ?_; rintro e w2 ⟨A2, c2, rfl, hb2, hk2⟩; have HB2 := Lib.hid hb2; have HK2 := Lib.hid (HK1.out.trans hk2); clear hb2 hk2)
      | (go_at_call 8; refine (bools_any _ _ n n _ _ _ l _ HB2.out (H.out.keep HK2.out) (by omega) (by omega)).mono ?_; rintro e w3 ⟨rfl, hk3⟩; have HK3 := Lib.hid (HK2.out.trans hk3); clear hk3; rw [HMK.out]))
    by_cases hmp : MakesP taps l
    · have hle := short_least LL.out hn HBM.out hmp
      have b3 : decide (L ≤ m) = true := by simp; have := LT.out; omega
      have HMP := Lib.hid (decide_eq_true hmp); clear hmp hle
      go_wp2_with (go_at_call 7; refine (makes_any _ _ m n _ _ taps l _ (HT.out.keep HK3.out) (H.out.keep HK3.out) (by omega) hn hc).mono ?_; rintro e w4 ⟨rfl, hk4⟩; have HK4 := Lib.hid (HK3.out.trans hk4); clear hk4; rw [HMP.out])
      go_ret
      exact ⟨rfl, HK4.out.toBelow⟩
    · have HMP := Lib.hid (decide_eq_false hmp); clear hmp
      go_wp2_with (go_at_call 7; refine (makes_any _ _ m n _ _ taps l _ (HT.out.keep HK3.out) (H.out.keep HK3.out) (by omega) hn hc).mono ?_; rintro e w4 ⟨rfl, hk4⟩; have HK4 := Lib.hid (HK3.out.trans hk4); clear hk4; rw [HMP.out])
      go_ret
      exact ⟨rfl, HK4.out.toBelow⟩
theorem bts_one (w : World) (x : Bool) : Bts (w.alloc (.cells #[.bool x] 4)) (w.alloc (.cells #[.bool x] 4)).heap.size (some ⟨w.heap.size, 0, none⟩) 1 [x] := by
  refine ⟨rfl, fun _ => ⟨_, _, rfl, by simp, fun j y hj => ?_⟩⟩
  match j, hj with
  | 0, hj =>
    obtain rfl : y = x := by simpa using hj.symm
    rw [cell_of_row _ _ _ _ _ _ (heap_alloc_new w _)]; rfl
set_option maxRecDepth 100000 in
set_option maxHeartbeats 4000000 in
theorem shiftOnly_any (A B : Option Addr) (n m c d : Nat) (l taps : List Bool) (w : World) (hl : Bts w w.heap.size A n l) (ht : Bts w w.heap.size B m taps) (hc : n ≤ c) (hm : m ≤ maxLen) :
    Calls Try.prog 3 #[.slice A n c, .slice B m d] w (TrueBelow w) := by
  have ll := hl.1; have lt := ht.1
  unfold maxLen at hm
  have H := Lib.hid hl; have HT := Lib.hid ht; have LL := Lib.hid ll; have LT := Lib.hid lt; clear hl ht ll lt
  by_cases hn : n ≤ 64
  case neg =>
    have b1 : decide ((64 : Int) < (n : Int)) = true := by simp; omega
    go_enter Try.func3, Try.ntmps3
    go_wp2_with (go_at_call 6; refine (short_bad _ n _ _ (by omega)).mono ?_; rintro e w' ⟨rfl, rfl⟩)
    go_ret
    exact ⟨rfl, Below.refl _ _⟩
  case pos =>
    have b1 : decide ((64 : Int) < (n : Int)) = false := by simp; omega
    go_enter Try.func3, Try.ntmps3
    go_wp2_with (go_at_call 6; ((with_reducible refine (short_ok _ n _ l _ H.out hn).mono ?_); rintro e w1 ⟨A1, c1, L, t, k, p, b, rfl, hb1, hk1, hL, hsol, hbm⟩; have HB1 := Lib.hid hb1; have HK1 := Lib.hid hk1; have HSOL := Lib.hid hsol; have HBM := Lib.hid hbm; clear hb1 hk1 hsol hbm))
    by_cases h2 : n < 2 * L
    · have b2 : decide ((n : Int) < 2 * (L : Int)) = true := by simp; omega
      go_wp2_with (go_at_call 6; refine (short_ok _ 1 _ [true] _ (bts_one w1 true) (by omega)).mono ?_; rintro e w2 ⟨A2, c2, L2, t2, k2, p2, b2, rfl, hb2, hk2, hL2, hsol2, hbm2⟩; obtain rfl := one_long hL2 hbm2; have HK2 := Lib.hid ((HK1.out.alloc _).trans hk2); have HQ2 := Lib.hid (((Keep.refl (fun _ => False) w1).alloc _).trans hk2); clear hb2 hk2 hL2 hsol2 hbm2)
      go_ret
      exact ⟨rfl, HK2.out.toBelow⟩
    have b2 : decide ((n : Int) < 2 * (L : Int)) = false := by simp; omega
    by_cases hmL : m = L
    case neg =>
      have b3 : ((m : Int) != (L : Int)) = true := by simp; omega
      go_wp2_with (go_at_call 6; refine (short_ok _ 1 _ [true] _ (bts_one w1 true) (by omega)).mono ?_; rintro e w2 ⟨A2, c2, L2, t2, k2, p2, b2, rfl, hb2, hk2, hL2, hsol2, hbm2⟩; obtain rfl := one_long hL2 hbm2; have HK2 := Lib.hid ((HK1.out.alloc _).trans hk2); have HQ2 := Lib.hid (((Keep.refl (fun _ => False) w1).alloc _).trans hk2); clear hb2 hk2 hL2 hsol2 hbm2)
      go_ret
      exact ⟨rfl, HK2.out.toBelow⟩
    case pos =>
      subst hmL
      have b3 : ((m : Int) != (m : Int)) = false := by simp
      by_cases hmp : MakesP taps l
      · have heq := short_only LL.out hn hL HSOL.out HBM.out (by omega) LT.out hmp
        have HMP := Lib.hid (decide_eq_true hmp); have HEQ := Lib.hid (decide_eq_true heq); clear hmp heq h2
        go_wp2_with (first
          | (go_at_call 6; refine (short_ok _ 1 _ [true] _ (bts_one w1 true) (by omega)).mono ?_; rintro e w2 ⟨A2, c2, L2, t2, k2, p2, b2, rfl, hb2, hk2, hL2, hsol2, hbm2⟩; obtain rfl := one_long hL2 hbm2; have HK2 := Lib.hid ((HK1.out.alloc _).trans hk2); have HQ2 := Lib.hid (((Keep.refl (fun _ => False) w1).alloc _).trans hk2); clear hb2 hk2 hL2 hsol2 hbm2)
          | (go_at_call 7; refine (makes_any _ _ m n _ _ taps l _ (HT.out.keep HK2.out) (H.out.keep HK2.out) (by omega) hn hc).mono ?_; rintro e w4 ⟨rfl, hk4⟩; have HK4 := Lib.hid (HK2.out.trans hk4); have HQ4 := Lib.hid (HQ2.out.trans hk4); clear hk4; rw [HMP.out])
          | (go_at_call 8; refine (bools_any _ _ m m _ _ taps (bitsOf t m) _ (HT.out.keep HK4.out) (HB1.out.keep HQ4.out) (by omega) (by omega)).mono ?_; rintro e w5 ⟨rfl, hk5⟩; have HK5 := Lib.hid (HK4.out.trans hk5); clear hk5; rw [HEQ.out]))
        go_ret
        exact ⟨rfl, HK5.out.toBelow⟩
      · have HMP := Lib.hid (decide_eq_false hmp); clear hmp h2
        go_wp2_with (first
          | (go_at_call 6; refine (short_ok _ 1 _ [true] _ (bts_one w1 true) (by omega)).mono ?_; rintro e w2 ⟨A2, c2, L2, t2, k2, p2, b2, rfl, hb2, hk2, hL2, hsol2, hbm2⟩; obtain rfl := one_long hL2 hbm2; have HK2 := Lib.hid ((HK1.out.alloc _).trans hk2); have HQ2 := Lib.hid (((Keep.refl (fun _ => False) w1).alloc _).trans hk2); clear hb2 hk2 hL2 hsol2 hbm2)
          | (go_at_call 7; refine (makes_any _ _ m n _ _ taps l _ (HT.out.keep HK2.out) (H.out.keep HK2.out) (by omega) hn hc).mono ?_; rintro e w4 ⟨rfl, hk4⟩; have HK4 := Lib.hid (HK2.out.trans hk4); have HQ4 := Lib.hid (HQ2.out.trans hk4); clear hk4; rw [HMP.out]))
        go_ret
        exact ⟨rfl, HK4.out.toBelow⟩
theorem Bts.reads {w : World} {B : Nat} {A : Option Addr} {n : Nat} {l : List Bool} (h : Bts w B A n l) : Reads w B A n (l.map Value.bool) := by
  refine ⟨by simpa using h.1, fun hn => ?_⟩
  obtain ⟨b, off, e, hlt, hc⟩ := h.2 hn
  refine ⟨_, e, hlt, fun j u hu => ?_⟩
  rw [List.getElem?_map] at hu
  cases hx : l[j]? with
  | none => rw [hx] at hu; cases hu
  | some x =>
    rw [hx] at hu
    obtain rfl : u = .bool x := by simpa using hu.symm
    rw [addr_add]; exact hc j x hx
theorem own_zero (w : World) (e : TypeId) (s : Nat) : (w.alloc (.cells #[] e)).ownsRow w.heap.size e s (.slice (some ⟨w.heap.size, 0, none⟩) 0 0) 0 [] :=
  ⟨by simp, .inr ⟨w.heap.size, 0, #[], rfl, Nat.le_refl _, heap_alloc_new w _, Nat.le_refl _, Nat.zero_le _, by simp, by simp⟩⟩
theorem own_cap {w : World} {base : Nat} {e : TypeId} {A : Option Addr} {c n : Nat} {xs : List Value} (h : w.ownsRow base e 1 (.slice A n c) n xs) : n ≤ c := by
  rcases h.2 with ⟨h1, h2⟩ | ⟨g, cap, cur, h1, _, _, h3, _⟩
  · omega
  · injection h1 with _ _ h4; omega
set_option maxRecDepth 100000 in
set_option maxHeartbeats 4000000 in
theorem shiftGrows_any (A : Option Addr) (n c : Nat) (l : List Bool) (x : Bool) (w : World) (hl : Bts w w.heap.size A n l) :
    Calls Try.prog 4 #[.slice A n c, .bool x] w (TrueBelow w) := by
  have ll := hl.1
  have H := Lib.hid hl; have LL := Lib.hid ll; clear hl ll
  by_cases hn : n < 64
  case neg =>
    have b1 : decide ((64 : Int) ≤ (n : Int)) = true := by simp; omega
    go_enter Try.func4, Try.ntmps4
    go_wp2_with fail
    go_ret
    exact ⟨rfl, Below.refl _ _⟩
  case pos =>
    have b1 : decide ((64 : Int) ≤ (n : Int)) = false := by simp; omega
    obtain ⟨i0, hi, hz0, hz1, hz2⟩ := info_parts boolE
    have HI := Lib.hid hi; have HZ0 := Lib.hid hz0; have HZ1 := Lib.hid hz1; have HZ2 := Lib.hid hz2; clear hi hz0 hz1 hz2
    go_enter Try.func4, Try.ntmps4
    go_wp2_with (first
      | (at_builtin; refine wpList_append_any _ rfl (.tmp 14) (.tmp 15) 22 rfl w.heap.size 4 i0 (.bool false) 1 Try.underlying22 HI.out HZ0.out HZ1.out HZ2.out rfl (.slice (some ⟨w.heap.size, 0, none⟩) 0 0) 0 [] rfl (own_zero w 4 1) w.heap.size A n c (l.map Value.bool) rfl (H.out.reads.below ((Keep.refl _ _).alloc _).toBelow) (by intro u hu; obtain ⟨q, _, rfl⟩ := List.mem_map.1 hu; rfl) (by unfold maxLen; omega) (by omega) (by simp) ?_; intro v2 w2 hown2 hg2; simp only [Nat.zero_add, List.nil_append] at hown2; obtain ⟨Av, cv, rfl⟩ := own_form hown2; have hk2 : Keep (fun _ => False) w w2 := ((Keep.refl _ w).alloc (.cells #[] 4)).then_ (Keep.of_grown hg2 (fun _ h => h)) (fun b hb => by simp [Value.ownBlock] at hb; omega); have HO2 := Lib.hid hown2; have HK2 := Lib.hid hk2; clear hown2 hg2 hk2)
      | (at_builtin; refine wpList_app rfl (.tmp 16) (.tmp 18) 22 rfl w.heap.size 4 (.bool false) 1 1 Try.underlying22 boolE rfl (by decide) _ n _ rfl HO2.out _ [.bool x] rfl rfl (by simp [Value.oneCell']) (by unfold maxLen; omega) (by omega) HK2.out.size ?_; intro v3 w3 hown3 hk3 _; obtain ⟨Am, cm, rfl⟩ := own_form hown3; have HO3 := Lib.hid hown3; have HK3 := Lib.hid (HK2.out.then_ hk3 (fun b hb => (own_block_ge HO2.out b hb).1)); clear hown3 hk3)
      | (go_at_call 6; ((with_reducible refine (short_ok _ n _ l _ (H.out.keep HK3.out) (by omega)).mono ?_); rintro e w4 ⟨A4, c4, L, t, k, p, b, rfl, hb4, hk4, hL, hsol, hbm⟩; have HB4 := Lib.hid hb4; have HK4 := Lib.hid (HK3.out.trans hk4); have HQ4 := Lib.hid hk4; have HSOL := Lib.hid hsol; have HBM := Lib.hid hbm; clear hb4 hk4 hsol hbm)))
    have hm := HO3.out
    rw [show l.map Value.bool ++ [Value.bool x] = (l ++ [x]).map Value.bool by simp] at hm
    have hcap := own_cap hm
    have hm4 := (Bts.of_own hm).keep HQ4.out
    have HM4 := Lib.hid hm4; have HCAP := Lib.hid hcap; clear hm hm4 hcap
    refine (short_ok _ (n + 1) _ (l ++ [x]) _ HM4.out (by omega)).mono ?_
    rintro e w5 ⟨A5, c5, L1, t1, k1, p1, q1, rfl, hb5, hk5, hL1, hsol1, hbm1⟩
    have hgr := short_grows LL.out hn hL HSOL.out HBM.out hbm1
    have HK5 := Lib.hid (HK4.out.trans hk5); have HQ5 := Lib.hid hk5; clear hb5 hk5 hsol1 hbm1
    by_cases hmp : MakesP (bitsOf t L) (l ++ [x])
    · rw [if_pos hmp] at hgr
      subst hgr
      have HMP := Lib.hid (decide_eq_true hmp); clear hmp
      have b2 : decide (n < L1) = false := by simp; omega
      go_wp2_with (go_at_call 7; refine (makes_any _ _ _ (n + 1) _ _ (bitsOf t _) (l ++ [x]) _ (HB4.out.keep HQ5.out) (HM4.out.keep HQ5.out) (by omega) (by omega) HCAP.out).mono ?_; rintro e w6 ⟨rfl, hk6⟩; have HK6 := Lib.hid (HK5.out.trans hk6); clear hk6; rw [HMP.out])
      go_ret
      exact ⟨by simp, HK6.out.toBelow⟩
    · rw [if_neg hmp] at hgr
      have HMP := Lib.hid (decide_eq_false hmp); clear hmp
      have b2 : decide (n < L) = false := by simp; omega
      by_cases hw : n + 1 - L < L
      · have b3 : decide ((n : Int) + 1 - (L : Int) < (L : Int)) = true := by simp; omega
        have b4 : ((L1 : Int) == (L : Int)) = true := by simp; omega
        clear hgr
        go_wp2_with (go_at_call 7; refine (makes_any _ _ _ (n + 1) _ _ (bitsOf t _) (l ++ [x]) _ (HB4.out.keep HQ5.out) (HM4.out.keep HQ5.out) (by omega) (by omega) HCAP.out).mono ?_; rintro e w6 ⟨rfl, hk6⟩; have HK6 := Lib.hid (HK5.out.trans hk6); clear hk6; rw [HMP.out])
        go_ret
        exact ⟨rfl, HK6.out.toBelow⟩
      · have b3 : decide ((n : Int) + 1 - (L : Int) < (L : Int)) = false := by simp; omega
        have b4 : ((L1 : Int) == (n : Int) + 1 - (L : Int)) = true := by simp; omega
        clear hgr
        go_wp2_with (go_at_call 7; refine (makes_any _ _ _ (n + 1) _ _ (bitsOf t _) (l ++ [x]) _ (HB4.out.keep HQ5.out) (HM4.out.keep HQ5.out) (by omega) (by omega) HCAP.out).mono ?_; rintro e w6 ⟨rfl, hk6⟩; have HK6 := Lib.hid (HK5.out.trans hk6); clear hk6; rw [HMP.out])
        go_ret
        exact ⟨rfl, HK6.out.toBelow⟩
end Go.Proofs.Ytcbjdodpgnmhnaa
