/-
  Curve: Check (printed by gen_curve_check.py).
-/
import Derived.Test.YtlfocajlkelnbaaCurveG
namespace Go.Proofs.Ytlfocajlkelnbaa
open Go.RowKit
theorem disc_code (p a b : Nat) : disc p a b = ((4 * a * a % p) * a + 27 * b * b) % p := by
  unfold disc
  have e1 : 4 * (a * a * a) = 4 * a * a * a := by simp [Nat.mul_assoc]
  have e2 : 27 * (b * b) = 27 * b * b := by simp [Nat.mul_assoc]
  rw [e1, e2, Nat.add_mod, Nat.add_mod (4 * a * a % p * a), Nat.mod_mul_mod]
set_option maxHeartbeats 4000000 in
theorem check_any (p a b : Int) (w : World) : Calls Try.prog 18 #[encI p a b] w fun e w' => e = .returned (.int .i64 (cc p a b)) ∧ Keep (fun _ => False) w w' := by
  unfold encI
  by_cases h1 : p < 5
  · have HC := Lib.hid (cc_bad (p := p) (a := a) (b := b) (by omega))
    go_enter Try.func18, Try.ntmps18
    go_wp2
    go_ret
    exact ⟨by rw [HC.out]; rfl, (Keep.refl _ w).alloc _⟩
  by_cases h2 : 1009 < p
  · have HC := Lib.hid (cc_bad (p := p) (a := a) (b := b) (by omega))
    go_enter Try.func18, Try.ntmps18
    go_wp2
    go_ret
    exact ⟨by rw [HC.out]; rfl, (Keep.refl _ w).alloc _⟩
  have hp5 : 5 ≤ p := by omega
  have hp9 : p ≤ 1009 := by omega
  by_cases hab : a < b
  · by_cases h3 : a < 0
    · have HC := Lib.hid (cc_bad (p := p) (a := a) (b := b) (by omega))
      go_enter Try.func18, Try.ntmps18
      go_wp2
      go_ret
      exact ⟨by rw [HC.out]; rfl, (Keep.refl _ w).alloc _⟩
    by_cases h4 : p ≤ b
    · have c1 : 0 ≤ a := by omega
      have HC := Lib.hid (cc_bad (p := p) (a := a) (b := b) (by omega))
      go_enter Try.func18, Try.ntmps18
      go_wp2
      go_ret
      exact ⟨by rw [HC.out]; rfl, (Keep.refl _ w).alloc _⟩
    obtain ⟨p, rfl⟩ := Int.eq_ofNat_of_zero_le (show 0 ≤ p by omega)
    obtain ⟨a, rfl⟩ := Int.eq_ofNat_of_zero_le (show 0 ≤ a by omega)
    obtain ⟨b, rfl⟩ := Int.eq_ofNat_of_zero_le (show 0 ≤ b by omega)
    have hap : a < p := by omega
    have hbp : b < p := by omega
    have c1 : decide (p ≤ a) = false := decide_eq_false (by omega)
    have c2 : decide (p ≤ b) = false := decide_eq_false (by omega)
    have c3 : decide ((p : Int) < 5) = false := decide_eq_false h1
    have c4 : decide (1009 < (p : Int)) = false := decide_eq_false h2
    have b1 : ((p : Int) == 0) = false := by simp; omega
    have hpn : ¬ p = 0 := by omega
    have hb : 5 ≤ p ∧ p ≤ 1009 := by omega
    have d3 : a < b := by omega
    have d4 : ¬ b < a := by omega
    clear h1 h2 h3 h4 hab hp5 hp9
    by_cases hp : PrimeN p
    · have hpb : decide (PrimeN p) = true := decide_eq_true hp
      obtain ⟨n1, g1⟩ : ∃ n, n = 4 * a := ⟨_, rfl⟩
      obtain ⟨n2, g2⟩ : ∃ n, n = n1 * a := ⟨_, rfl⟩
      have l2 : n2 ≤ 4036 * 1009 := by rw [g2]; exact Nat.mul_le_mul (by omega) (by omega)
      obtain ⟨r1, g3⟩ : ∃ n, n = n2 % p := ⟨_, rfl⟩
      have l3 : r1 < p := by rw [g3]; exact Nat.mod_lt _ (by omega)
      obtain ⟨n3, g4⟩ : ∃ n, n = r1 * a := ⟨_, rfl⟩
      have l4 : n3 ≤ 1009 * 1009 := by rw [g4]; exact Nat.mul_le_mul (by omega) (by omega)
      obtain ⟨m1, g5⟩ : ∃ n, n = 27 * b := ⟨_, rfl⟩
      obtain ⟨m2, g6⟩ : ∃ n, n = m1 * b := ⟨_, rfl⟩
      have l6 : m2 ≤ 27243 * 1009 := by rw [g6]; exact Nat.mul_le_mul (by omega) (by omega)
      obtain ⟨n4, g7⟩ : ∃ n, n = n3 + m2 := ⟨_, rfl⟩
      obtain ⟨r, g8⟩ : ∃ n, n = n4 % p := ⟨_, rfl⟩
      have hdr : disc p a b = r := by rw [g8, g7, g6, g5, g4, g3, g2, g1]; exact disc_code p a b
      have e1 : IntKind.i64.wrap (4 * (a : Int)) = (n1 : Int) := by rw [g1, Int.natCast_mul]; exact IntWalk.i64_in _ (by omega)
      have e2 : IntKind.i64.wrap ((n1 : Int) * (a : Int)) = (n2 : Int) := by rw [g2, Int.natCast_mul]; exact IntWalk.i64_in _ (by rw [← Int.natCast_mul, ← g2]; omega)
      have t3 : (n2 : Int).tmod (p : Int) = (r1 : Int) := by rw [g3]; rfl
      have e3 : (n2 : Int) % (p : Int) = (r1 : Int) := by rw [g3]; rfl
      have e4 : IntKind.i64.wrap ((r1 : Int) * (a : Int)) = (n3 : Int) := by rw [g4, Int.natCast_mul]; exact IntWalk.i64_in _ (by rw [← Int.natCast_mul, ← g4]; omega)
      have e5 : IntKind.i64.wrap (27 * (b : Int)) = (m1 : Int) := by rw [g5, Int.natCast_mul]; exact IntWalk.i64_in _ (by omega)
      have e6 : IntKind.i64.wrap ((m1 : Int) * (b : Int)) = (m2 : Int) := by rw [g6, Int.natCast_mul]; exact IntWalk.i64_in _ (by rw [← Int.natCast_mul, ← g6]; omega)
      have e7 : IntKind.i64.wrap ((n3 : Int) + (m2 : Int)) = (n4 : Int) := by rw [g7, Int.natCast_add]; exact IntWalk.i64_in _ (by omega)
      have t8 : (n4 : Int).tmod (p : Int) = (r : Int) := by rw [g8]; rfl
      have e8 : (n4 : Int) % (p : Int) = (r : Int) := by rw [g8]; rfl
      have HPB := Lib.hid hpb; have HDR := Lib.hid hdr; have HPR := Lib.hid hp; clear hdr hp hpb g1 g2 g3 g4 g5 g6 g7 g8 l2 l3 l4 l6
      by_cases hr0 : r = 0
      · subst hr0
        have HC := Lib.hid (cc_z (p := p) (a := a) (b := b) ⟨hb.1, hb.2, hap, hbp⟩ HDR.out)
        go_enter Try.func18, Try.ntmps18
        go_wp2_with (go_at_call 26; refine (is_ok p (by omega) (by omega) _).mono ?_; rintro e w' ⟨rfl, HK⟩; rw [HPB.out]; have q := (Row3.new w 23 (.int .i64 p) (.int .i64 a) (.int .i64 b)).keep HK; have q0 := q.c0; have q1 := q.c1; have q2 := q.c2; clear q; have HK := Lib.hid HK)
        go_quiet (fail)
        go_wp2
        go_ret
        exact ⟨by rw [HC.out]; rfl, (((Keep.refl _ w).alloc _).trans HK.out).drewN _⟩
      · have c5 : ((r : Int) == 0) = false := by simp; omega
        have HC := Lib.hid (cc_ok (p := p) (a := a) (b := b) ⟨hb.1, hb.2, hap, hbp⟩ HPR.out (by rw [HDR.out]; exact hr0))
        go_enter Try.func18, Try.ntmps18
        go_wp2_with (go_at_call 26; refine (is_ok p (by omega) (by omega) _).mono ?_; rintro e w' ⟨rfl, HK⟩; rw [HPB.out]; have q := (Row3.new w 23 (.int .i64 p) (.int .i64 a) (.int .i64 b)).keep HK; have q0 := q.c0; have q1 := q.c1; have q2 := q.c2; clear q; have HK := Lib.hid HK)
        go_quiet (fail)
        go_wp2
        go_ret
        exact ⟨by rw [HC.out]; rfl, (((Keep.refl _ w).alloc _).trans HK.out).drewN _⟩
    · have hpb : decide (PrimeN p) = false := decide_eq_false hp
      have HC := Lib.hid (cc_np (p := p) (a := a) (b := b) ⟨hb.1, hb.2, hap, hbp⟩ hp)
      have HPB := Lib.hid hpb; clear hpb hp
      go_enter Try.func18, Try.ntmps18
      go_wp2_with (go_at_call 26; refine (is_ok p (by omega) (by omega) _).mono ?_; rintro e w' ⟨rfl, HK⟩; rw [HPB.out]; have q := (Row3.new w 23 (.int .i64 p) (.int .i64 a) (.int .i64 b)).keep HK; have q0 := q.c0; have q1 := q.c1; have q2 := q.c2; clear q; have HK := Lib.hid HK)
      go_quiet (fail)
      go_wp2
      go_ret
      exact ⟨by rw [HC.out]; rfl, (((Keep.refl _ w).alloc _).trans HK.out).drewN _⟩
  by_cases hba : b < a
  · by_cases h3 : b < 0
    · have HC := Lib.hid (cc_bad (p := p) (a := a) (b := b) (by omega))
      go_enter Try.func18, Try.ntmps18
      go_wp2
      go_ret
      exact ⟨by rw [HC.out]; rfl, (Keep.refl _ w).alloc _⟩
    by_cases h4 : p ≤ a
    · have c1 : 0 ≤ b := by omega
      have HC := Lib.hid (cc_bad (p := p) (a := a) (b := b) (by omega))
      go_enter Try.func18, Try.ntmps18
      go_wp2
      go_ret
      exact ⟨by rw [HC.out]; rfl, (Keep.refl _ w).alloc _⟩
    obtain ⟨p, rfl⟩ := Int.eq_ofNat_of_zero_le (show 0 ≤ p by omega)
    obtain ⟨a, rfl⟩ := Int.eq_ofNat_of_zero_le (show 0 ≤ a by omega)
    obtain ⟨b, rfl⟩ := Int.eq_ofNat_of_zero_le (show 0 ≤ b by omega)
    have hap : a < p := by omega
    have hbp : b < p := by omega
    have c1 : decide (p ≤ a) = false := decide_eq_false (by omega)
    have c2 : decide (p ≤ b) = false := decide_eq_false (by omega)
    have c3 : decide ((p : Int) < 5) = false := decide_eq_false h1
    have c4 : decide (1009 < (p : Int)) = false := decide_eq_false h2
    have b1 : ((p : Int) == 0) = false := by simp; omega
    have hpn : ¬ p = 0 := by omega
    have hb : 5 ≤ p ∧ p ≤ 1009 := by omega
    have d3 : b < a := by omega
    have d4 : ¬ a < b := by omega
    clear h1 h2 h3 h4 hab hba hp5 hp9
    by_cases hp : PrimeN p
    · have hpb : decide (PrimeN p) = true := decide_eq_true hp
      obtain ⟨n1, g1⟩ : ∃ n, n = 4 * a := ⟨_, rfl⟩
      obtain ⟨n2, g2⟩ : ∃ n, n = n1 * a := ⟨_, rfl⟩
      have l2 : n2 ≤ 4036 * 1009 := by rw [g2]; exact Nat.mul_le_mul (by omega) (by omega)
      obtain ⟨r1, g3⟩ : ∃ n, n = n2 % p := ⟨_, rfl⟩
      have l3 : r1 < p := by rw [g3]; exact Nat.mod_lt _ (by omega)
      obtain ⟨n3, g4⟩ : ∃ n, n = r1 * a := ⟨_, rfl⟩
      have l4 : n3 ≤ 1009 * 1009 := by rw [g4]; exact Nat.mul_le_mul (by omega) (by omega)
      obtain ⟨m1, g5⟩ : ∃ n, n = 27 * b := ⟨_, rfl⟩
      obtain ⟨m2, g6⟩ : ∃ n, n = m1 * b := ⟨_, rfl⟩
      have l6 : m2 ≤ 27243 * 1009 := by rw [g6]; exact Nat.mul_le_mul (by omega) (by omega)
      obtain ⟨n4, g7⟩ : ∃ n, n = n3 + m2 := ⟨_, rfl⟩
      obtain ⟨r, g8⟩ : ∃ n, n = n4 % p := ⟨_, rfl⟩
      have hdr : disc p a b = r := by rw [g8, g7, g6, g5, g4, g3, g2, g1]; exact disc_code p a b
      have e1 : IntKind.i64.wrap (4 * (a : Int)) = (n1 : Int) := by rw [g1, Int.natCast_mul]; exact IntWalk.i64_in _ (by omega)
      have e2 : IntKind.i64.wrap ((n1 : Int) * (a : Int)) = (n2 : Int) := by rw [g2, Int.natCast_mul]; exact IntWalk.i64_in _ (by rw [← Int.natCast_mul, ← g2]; omega)
      have t3 : (n2 : Int).tmod (p : Int) = (r1 : Int) := by rw [g3]; rfl
      have e3 : (n2 : Int) % (p : Int) = (r1 : Int) := by rw [g3]; rfl
      have e4 : IntKind.i64.wrap ((r1 : Int) * (a : Int)) = (n3 : Int) := by rw [g4, Int.natCast_mul]; exact IntWalk.i64_in _ (by rw [← Int.natCast_mul, ← g4]; omega)
      have e5 : IntKind.i64.wrap (27 * (b : Int)) = (m1 : Int) := by rw [g5, Int.natCast_mul]; exact IntWalk.i64_in _ (by omega)
      have e6 : IntKind.i64.wrap ((m1 : Int) * (b : Int)) = (m2 : Int) := by rw [g6, Int.natCast_mul]; exact IntWalk.i64_in _ (by rw [← Int.natCast_mul, ← g6]; omega)
      have e7 : IntKind.i64.wrap ((n3 : Int) + (m2 : Int)) = (n4 : Int) := by rw [g7, Int.natCast_add]; exact IntWalk.i64_in _ (by omega)
      have t8 : (n4 : Int).tmod (p : Int) = (r : Int) := by rw [g8]; rfl
      have e8 : (n4 : Int) % (p : Int) = (r : Int) := by rw [g8]; rfl
      have HPB := Lib.hid hpb; have HDR := Lib.hid hdr; have HPR := Lib.hid hp; clear hdr hp hpb g1 g2 g3 g4 g5 g6 g7 g8 l2 l3 l4 l6
      by_cases hr0 : r = 0
      · subst hr0
        have HC := Lib.hid (cc_z (p := p) (a := a) (b := b) ⟨hb.1, hb.2, hap, hbp⟩ HDR.out)
        go_enter Try.func18, Try.ntmps18
        go_wp2_with (go_at_call 26; refine (is_ok p (by omega) (by omega) _).mono ?_; rintro e w' ⟨rfl, HK⟩; rw [HPB.out]; have q := (Row3.new w 23 (.int .i64 p) (.int .i64 a) (.int .i64 b)).keep HK; have q0 := q.c0; have q1 := q.c1; have q2 := q.c2; clear q; have HK := Lib.hid HK)
        go_quiet (fail)
        go_wp2
        go_ret
        exact ⟨by rw [HC.out]; rfl, (((Keep.refl _ w).alloc _).trans HK.out).drewN _⟩
      · have c5 : ((r : Int) == 0) = false := by simp; omega
        have HC := Lib.hid (cc_ok (p := p) (a := a) (b := b) ⟨hb.1, hb.2, hap, hbp⟩ HPR.out (by rw [HDR.out]; exact hr0))
        go_enter Try.func18, Try.ntmps18
        go_wp2_with (go_at_call 26; refine (is_ok p (by omega) (by omega) _).mono ?_; rintro e w' ⟨rfl, HK⟩; rw [HPB.out]; have q := (Row3.new w 23 (.int .i64 p) (.int .i64 a) (.int .i64 b)).keep HK; have q0 := q.c0; have q1 := q.c1; have q2 := q.c2; clear q; have HK := Lib.hid HK)
        go_quiet (fail)
        go_wp2
        go_ret
        exact ⟨by rw [HC.out]; rfl, (((Keep.refl _ w).alloc _).trans HK.out).drewN _⟩
    · have hpb : decide (PrimeN p) = false := decide_eq_false hp
      have HC := Lib.hid (cc_np (p := p) (a := a) (b := b) ⟨hb.1, hb.2, hap, hbp⟩ hp)
      have HPB := Lib.hid hpb; clear hpb hp
      go_enter Try.func18, Try.ntmps18
      go_wp2_with (go_at_call 26; refine (is_ok p (by omega) (by omega) _).mono ?_; rintro e w' ⟨rfl, HK⟩; rw [HPB.out]; have q := (Row3.new w 23 (.int .i64 p) (.int .i64 a) (.int .i64 b)).keep HK; have q0 := q.c0; have q1 := q.c1; have q2 := q.c2; clear q; have HK := Lib.hid HK)
      go_quiet (fail)
      go_wp2
      go_ret
      exact ⟨by rw [HC.out]; rfl, (((Keep.refl _ w).alloc _).trans HK.out).drewN _⟩
  have hae : b = a := by omega
  subst hae
  by_cases h3 : b < 0
  · have HC := Lib.hid (cc_bad (p := p) (a := b) (b := b) (by omega))
    go_enter Try.func18, Try.ntmps18
    go_wp2
    go_ret
    exact ⟨by rw [HC.out]; rfl, (Keep.refl _ w).alloc _⟩
  by_cases h4 : p ≤ b
  · have c1 : 0 ≤ b := by omega
    have HC := Lib.hid (cc_bad (p := p) (a := b) (b := b) (by omega))
    go_enter Try.func18, Try.ntmps18
    go_wp2
    go_ret
    exact ⟨by rw [HC.out]; rfl, (Keep.refl _ w).alloc _⟩
  obtain ⟨p, rfl⟩ := Int.eq_ofNat_of_zero_le (show 0 ≤ p by omega)
  obtain ⟨b, rfl⟩ := Int.eq_ofNat_of_zero_le (show 0 ≤ b by omega)
  have hap : b < p := by omega
  have hbp : b < p := by omega
  have c1 : decide (p ≤ b) = false := decide_eq_false (by omega)
  have c2 : decide (p ≤ b) = false := decide_eq_false (by omega)
  have c3 : decide ((p : Int) < 5) = false := decide_eq_false h1
  have c4 : decide (1009 < (p : Int)) = false := decide_eq_false h2
  have b1 : ((p : Int) == 0) = false := by simp; omega
  have hpn : ¬ p = 0 := by omega
  have hb : 5 ≤ p ∧ p ≤ 1009 := by omega
  have d3 : ¬ b < b := by omega
  clear h1 h2 h3 h4 hab hba hp5 hp9
  by_cases hp : PrimeN p
  · have hpb : decide (PrimeN p) = true := decide_eq_true hp
    obtain ⟨n1, g1⟩ : ∃ n, n = 4 * b := ⟨_, rfl⟩
    obtain ⟨n2, g2⟩ : ∃ n, n = n1 * b := ⟨_, rfl⟩
    have l2 : n2 ≤ 4036 * 1009 := by rw [g2]; exact Nat.mul_le_mul (by omega) (by omega)
    obtain ⟨r1, g3⟩ : ∃ n, n = n2 % p := ⟨_, rfl⟩
    have l3 : r1 < p := by rw [g3]; exact Nat.mod_lt _ (by omega)
    obtain ⟨n3, g4⟩ : ∃ n, n = r1 * b := ⟨_, rfl⟩
    have l4 : n3 ≤ 1009 * 1009 := by rw [g4]; exact Nat.mul_le_mul (by omega) (by omega)
    obtain ⟨m1, g5⟩ : ∃ n, n = 27 * b := ⟨_, rfl⟩
    obtain ⟨m2, g6⟩ : ∃ n, n = m1 * b := ⟨_, rfl⟩
    have l6 : m2 ≤ 27243 * 1009 := by rw [g6]; exact Nat.mul_le_mul (by omega) (by omega)
    obtain ⟨n4, g7⟩ : ∃ n, n = n3 + m2 := ⟨_, rfl⟩
    obtain ⟨r, g8⟩ : ∃ n, n = n4 % p := ⟨_, rfl⟩
    have hdr : disc p b b = r := by rw [g8, g7, g6, g5, g4, g3, g2, g1]; exact disc_code p b b
    have e1 : IntKind.i64.wrap (4 * (b : Int)) = (n1 : Int) := by rw [g1, Int.natCast_mul]; exact IntWalk.i64_in _ (by omega)
    have e2 : IntKind.i64.wrap ((n1 : Int) * (b : Int)) = (n2 : Int) := by rw [g2, Int.natCast_mul]; exact IntWalk.i64_in _ (by rw [← Int.natCast_mul, ← g2]; omega)
    have t3 : (n2 : Int).tmod (p : Int) = (r1 : Int) := by rw [g3]; rfl
    have e3 : (n2 : Int) % (p : Int) = (r1 : Int) := by rw [g3]; rfl
    have e4 : IntKind.i64.wrap ((r1 : Int) * (b : Int)) = (n3 : Int) := by rw [g4, Int.natCast_mul]; exact IntWalk.i64_in _ (by rw [← Int.natCast_mul, ← g4]; omega)
    have e5 : IntKind.i64.wrap (27 * (b : Int)) = (m1 : Int) := by rw [g5, Int.natCast_mul]; exact IntWalk.i64_in _ (by omega)
    have e6 : IntKind.i64.wrap ((m1 : Int) * (b : Int)) = (m2 : Int) := by rw [g6, Int.natCast_mul]; exact IntWalk.i64_in _ (by rw [← Int.natCast_mul, ← g6]; omega)
    have e7 : IntKind.i64.wrap ((n3 : Int) + (m2 : Int)) = (n4 : Int) := by rw [g7, Int.natCast_add]; exact IntWalk.i64_in _ (by omega)
    have t8 : (n4 : Int).tmod (p : Int) = (r : Int) := by rw [g8]; rfl
    have e8 : (n4 : Int) % (p : Int) = (r : Int) := by rw [g8]; rfl
    have HPB := Lib.hid hpb; have HDR := Lib.hid hdr; have HPR := Lib.hid hp; clear hdr hp hpb g1 g2 g3 g4 g5 g6 g7 g8 l2 l3 l4 l6
    by_cases hr0 : r = 0
    · subst hr0
      have HC := Lib.hid (cc_z (p := p) (a := b) (b := b) ⟨hb.1, hb.2, hap, hbp⟩ HDR.out)
      go_enter Try.func18, Try.ntmps18
      go_wp2_with (go_at_call 26; refine (is_ok p (by omega) (by omega) _).mono ?_; rintro e w' ⟨rfl, HK⟩; rw [HPB.out]; have q := (Row3.new w 23 (.int .i64 p) (.int .i64 b) (.int .i64 b)).keep HK; have q0 := q.c0; have q1 := q.c1; have q2 := q.c2; clear q; have HK := Lib.hid HK)
      go_quiet (fail)
      go_wp2
      go_ret
      exact ⟨by rw [HC.out]; rfl, (((Keep.refl _ w).alloc _).trans HK.out).drewN _⟩
    · have c5 : ((r : Int) == 0) = false := by simp; omega
      have HC := Lib.hid (cc_ok (p := p) (a := b) (b := b) ⟨hb.1, hb.2, hap, hbp⟩ HPR.out (by rw [HDR.out]; exact hr0))
      go_enter Try.func18, Try.ntmps18
      go_wp2_with (go_at_call 26; refine (is_ok p (by omega) (by omega) _).mono ?_; rintro e w' ⟨rfl, HK⟩; rw [HPB.out]; have q := (Row3.new w 23 (.int .i64 p) (.int .i64 b) (.int .i64 b)).keep HK; have q0 := q.c0; have q1 := q.c1; have q2 := q.c2; clear q; have HK := Lib.hid HK)
      go_quiet (fail)
      go_wp2
      go_ret
      exact ⟨by rw [HC.out]; rfl, (((Keep.refl _ w).alloc _).trans HK.out).drewN _⟩
  · have hpb : decide (PrimeN p) = false := decide_eq_false hp
    have HC := Lib.hid (cc_np (p := p) (a := b) (b := b) ⟨hb.1, hb.2, hap, hbp⟩ hp)
    have HPB := Lib.hid hpb; clear hpb hp
    go_enter Try.func18, Try.ntmps18
    go_wp2_with (go_at_call 26; refine (is_ok p (by omega) (by omega) _).mono ?_; rintro e w' ⟨rfl, HK⟩; rw [HPB.out]; have q := (Row3.new w 23 (.int .i64 p) (.int .i64 b) (.int .i64 b)).keep HK; have q0 := q.c0; have q1 := q.c1; have q2 := q.c2; clear q; have HK := Lib.hid HK)
    go_quiet (fail)
    go_wp2
    go_ret
    exact ⟨by rw [HC.out]; rfl, (((Keep.refl _ w).alloc _).trans HK.out).drewN _⟩
end Go.Proofs.Ytlfocajlkelnbaa
