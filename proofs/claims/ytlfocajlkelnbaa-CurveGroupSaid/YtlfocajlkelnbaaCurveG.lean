/-
  Curve: the document's CurveCheck and Spot.
-/
import Derived.Test.YtlfocajlkelnbaaCurveF
namespace Go.Proofs.Ytlfocajlkelnbaa
open Go.RowKit
abbrev encI (p a b : Int) : Value := .agg #[.int .i64 p, .int .i64 a, .int .i64 b]
def disc (p a b : Nat) : Nat := (4 * (a * a * a) + 27 * (b * b)) % p
/-- what is wrong with a curve -/
def cc (p a b : Int) : Int := if 5 ≤ p ∧ p ≤ 1009 ∧ 0 ≤ a ∧ a < p ∧ 0 ≤ b ∧ b < p then (if PrimeN p.toNat ∧ disc p.toNat a.toNat b.toNat ≠ 0 then 0 else 3) else 2
theorem cc_bad {p a b : Int} (h : ¬ (5 ≤ p ∧ p ≤ 1009 ∧ 0 ≤ a ∧ a < p ∧ 0 ≤ b ∧ b < p)) : cc p a b = 2 := if_neg h
theorem cc_np {p a b : Nat} (h : 5 ≤ p ∧ p ≤ 1009 ∧ a < p ∧ b < p) (hp : ¬ PrimeN p) : cc p a b = 3 := by
  unfold cc
  rw [if_pos (by omega), if_neg (fun h => hp h.1)]
theorem cc_z {p a b : Nat} (h : 5 ≤ p ∧ p ≤ 1009 ∧ a < p ∧ b < p) (hp : disc p a b = 0) : cc p a b = 3 := by
  unfold cc
  rw [if_pos (by omega), if_neg (fun h => h.2 hp)]
theorem cc_ok {p a b : Nat} (h : 5 ≤ p ∧ p ≤ 1009 ∧ a < p ∧ b < p) (h1 : PrimeN p) (h2 : disc p a b ≠ 0) : cc p a b = 0 := by
  unfold cc
  rw [if_pos (by omega), if_pos ⟨h1, h2⟩]
theorem quiet_l {P : Program} {f : FuncId} {args : Array Value} {w : World} {n : Nat} {v : Value} (h : Calls P f args (w.drewN n) fun e w' => e = .returned v ∧ w.drewN n = w') :
    Calls P f args (w.drewN n) fun e w'' => e = .returned v ∧ ∃ m, w'' = w.drewN m := h.mono fun _ _ h => ⟨h.1, n, h.2.symm⟩
theorem disc_law (p x y : Nat) : (4 * x + 27 * y) % p = (4 * (x % p) + 27 * (y % p)) % p := by simp [Nat.add_mod, Nat.mul_mod]
set_option maxHeartbeats 2000000 in
theorem rcheck_any (p a b : Int) (w : World) : Calls Try.prog 13 #[encI p a b] w fun e w' => e = .returned (.int .i64 (cc p a b)) ∧ Keep (fun _ => False) w w' := by
  unfold encI
  by_cases h1 : p < 5
  · have HC := Lib.hid (cc_bad (p := p) (a := a) (b := b) (by omega))
    go_enter Try.func13, Try.ntmps13
    go_wp2
    go_ret
    exact ⟨by rw [HC.out]; rfl, (Keep.refl _ w).alloc _⟩
  by_cases h2 : 1009 < p
  · have HC := Lib.hid (cc_bad (p := p) (a := a) (b := b) (by omega))
    go_enter Try.func13, Try.ntmps13
    go_wp2
    go_ret
    exact ⟨by rw [HC.out]; rfl, (Keep.refl _ w).alloc _⟩
  by_cases h3 : a < 0
  · have HC := Lib.hid (cc_bad (p := p) (a := a) (b := b) (by omega))
    go_enter Try.func13, Try.ntmps13
    go_wp2
    go_ret
    exact ⟨by rw [HC.out]; rfl, (Keep.refl _ w).alloc _⟩
  by_cases h4 : p ≤ a
  · have HC := Lib.hid (cc_bad (p := p) (a := a) (b := b) (by omega))
    go_enter Try.func13, Try.ntmps13
    go_wp2
    go_ret
    exact ⟨by rw [HC.out]; rfl, (Keep.refl _ w).alloc _⟩
  by_cases h5 : b < 0
  · have HC := Lib.hid (cc_bad (p := p) (a := a) (b := b) (by omega))
    go_enter Try.func13, Try.ntmps13
    go_wp2
    go_ret
    exact ⟨by rw [HC.out]; rfl, (Keep.refl _ w).alloc _⟩
  by_cases h6 : p ≤ b
  · have HC := Lib.hid (cc_bad (p := p) (a := a) (b := b) (by omega))
    go_enter Try.func13, Try.ntmps13
    go_wp2
    go_ret
    exact ⟨by rw [HC.out]; rfl, (Keep.refl _ w).alloc _⟩
  obtain ⟨p, rfl⟩ := Int.eq_ofNat_of_zero_le (show 0 ≤ p by omega)
  obtain ⟨a, rfl⟩ := Int.eq_ofNat_of_zero_le (show 0 ≤ a by omega)
  obtain ⟨b, rfl⟩ := Int.eq_ofNat_of_zero_le (show 0 ≤ b by omega)
  have hap : a < p := by omega
  have hbp : b < p := by omega
  have c1 : decide (p ≤ a) = false := decide_eq_false (by omega)
  have c2 : decide (p ≤ b) = false := decide_eq_false (by omega)
  have c3 : decide ((p : Int) < 5) = false := decide_eq_false h1
  have c4 : decide (1009 < (p : Int)) = false := decide_eq_false h2
  have hb : 5 ≤ p ∧ p ≤ 1009 := by omega
  clear h1 h2 h3 h4 h5 h6
  by_cases hp : PrimeN p
  · have C1 : ∀ w, Calls Try.prog 22 #[.int .i64 p] w fun e w' => e = .returned (.bool true) ∧ w = w' := fun w => by
      have := ris_any p (by omega) (by omega) w; rwa [decide_eq_true hp] at this
    have C2 := Lib.hid (rpow_any a p (by omega) (by omega) hap 3 (by omega))
    have C3 := Lib.hid (rpow_any b p (by omega) (by omega) hbp 2 (by omega))
    have H1 := Lib.hid C1; clear C1
    obtain ⟨u, hu⟩ : ∃ u, u = a ^ 3 % p := ⟨_, rfl⟩
    obtain ⟨v, hv⟩ : ∃ v, v = b ^ 2 % p := ⟨_, rfl⟩
    have lu : u < p := by rw [hu]; exact Nat.mod_lt _ (by omega)
    have lv : v < p := by rw [hv]; exact Nat.mod_lt _ (by omega)
    rw [← hu] at C2; rw [← hv] at C3
    have hdisc : disc p a b = (4 * u + 27 * v) % p := by
      unfold disc
      rw [hu, hv, show a * a * a = a ^ 3 by simp [Nat.pow_succ], show b * b = b ^ 2 by simp [Nat.pow_succ], disc_law]
    obtain ⟨u4, hu4⟩ : ∃ u4, u4 = 4 * u := ⟨_, rfl⟩
    obtain ⟨v27, hv27⟩ : ∃ v27, v27 = 27 * v := ⟨_, rfl⟩
    obtain ⟨s, hs⟩ : ∃ s, s = u4 + v27 := ⟨_, rfl⟩
    obtain ⟨r, hr⟩ : ∃ r, r = s % p := ⟨_, rfl⟩
    have e1 : IntKind.i64.wrap (4 * (u : Int)) = (u4 : Int) := by rw [hu4, Int.natCast_mul]; exact IntWalk.i64_in _ (by omega)
    have e2 : IntKind.i64.wrap (27 * (v : Int)) = (v27 : Int) := by rw [hv27, Int.natCast_mul]; exact IntWalk.i64_in _ (by omega)
    have e3 : IntKind.i64.wrap ((u4 : Int) + (v27 : Int)) = (s : Int) := by rw [hs, Int.natCast_add]; exact IntWalk.i64_in _ (by omega)
    have hdr : disc p a b = r := by rw [hdisc, hr, hs, hu4, hv27]
    have C4 : ∀ w, Calls Try.prog 23 #[.int .i64 s, .int .i64 p] w fun e w' => e = .returned (.int .i64 r) ∧ w = w' := fun w => by
      have h := rmod_any (s : Int) p (by omega) (by omega) w
      rwa [show (s : Int) % (p : Int) = (r : Int) by rw [hr]; rfl] at h
    have H4 := Lib.hid C4; have HDR := Lib.hid hdr; have HPR := Lib.hid hp; clear C4 hdr hdisc hr hs hu4 hv27 hu hv hp
    by_cases hr0 : r = 0
    · subst hr0
      have HC := Lib.hid (cc_z (p := p) (a := a) (b := b) ⟨hb.1, hb.2, hap, hbp⟩ HDR.out)
      go_enter Try.func13, Try.ntmps13
      go_wp2
      go_quiet (first
        | (go_at_call 22; exact quiet_l (H1.out _))
        | (go_at_call 24; with_reducible exact quiet_l (C2.out _))
        | (go_at_call 24; with_reducible exact quiet_l (C3.out _))
        | (go_at_call 23; with_reducible exact quiet_l (H4.out _)))
      go_wp2
      go_ret
      exact ⟨by rw [HC.out]; rfl, ((Keep.refl _ w).alloc _).drewN _⟩
    · have c5 : ((r : Int) == 0) = false := by simp; omega
      have HC := Lib.hid (cc_ok (p := p) (a := a) (b := b) ⟨hb.1, hb.2, hap, hbp⟩ HPR.out (by rw [HDR.out]; exact hr0))
      go_enter Try.func13, Try.ntmps13
      go_wp2
      go_quiet (first
        | (go_at_call 22; exact quiet_l (H1.out _))
        | (go_at_call 24; with_reducible exact quiet_l (C2.out _))
        | (go_at_call 24; with_reducible exact quiet_l (C3.out _))
        | (go_at_call 23; with_reducible exact quiet_l (H4.out _)))
      go_wp2
      go_ret
      exact ⟨by rw [HC.out]; rfl, ((Keep.refl _ w).alloc _).drewN _⟩
  · have C1 : ∀ w, Calls Try.prog 22 #[.int .i64 p] w fun e w' => e = .returned (.bool false) ∧ w = w' := fun w => by
      have := ris_any p (by omega) (by omega) w; rwa [decide_eq_false hp] at this
    have H1 := Lib.hid C1; clear C1
    have HC := Lib.hid (cc_np (p := p) (a := a) (b := b) ⟨hb.1, hb.2, hap, hbp⟩ hp)
    clear hp
    go_enter Try.func13, Try.ntmps13
    go_wp2
    go_quiet ((go_at_call 22; exact quiet_l (H1.out _)))
    go_wp2
    go_ret
    exact ⟨by rw [HC.out]; rfl, ((Keep.refl _ w).alloc _).drewN _⟩
end Go.Proofs.Ytlfocajlkelnbaa
