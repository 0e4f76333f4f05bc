/-
  Curve: the document's Mod, Pow, Is.
-/
import Derived.Test.YtlfocajlkelnbaaCurveE
namespace Go.Proofs.Ytlfocajlkelnbaa
open Go.RowKit
theorem rmod_any (a : Int) (m : Nat) (hm0 : 0 < m) (hm : m ≤ 1048576) (w : World) :
    Calls Try.prog 23 #[.int .i64 a, .int .i64 m] w fun e w' => e = .returned (.int .i64 (a % m)) ∧ w = w' := by
  have h1 : -(m : Int) < a.tmod m ∧ a.tmod m < m := by
    have h2 := Int.tmod_lt_of_pos a (show (0 : Int) < m by omega)
    refine ⟨?_, h2⟩
    rcases Int.le_total 0 a with h | h
    · have := Int.tmod_nonneg (m : Int) h; omega
    · have h2 := Int.tmod_lt_of_pos (-a) (show (0 : Int) < m by omega)
      rw [Int.neg_tmod] at h2; omega
  have hmm := tmod_mod a m hm0
  obtain ⟨t, ht⟩ : ∃ t, t = a.tmod m := ⟨_, rfl⟩
  rw [← ht] at hmm h1
  have b2 : ((m : Int) == 0) = false := by simp; omega
  have hpn : ¬ m = 0 := by omega
  have ht' : a.tmod (m : Int) = t := ht.symm
  have HM := Lib.hid hmm; clear ht hmm
  by_cases hneg : t < 0
  · go_enter Try.func23, Try.ntmps23
    go_wp2
    go_ret
    refine ⟨?_, rfl⟩
    rw [← HM.out, Int.tmod_eq_emod_of_nonneg (by omega), Int.emod_eq_of_lt (by omega) (by omega)]
    first | rfl | (rw [ht']; rfl) | (rw [← ht']; rfl)
  · go_enter Try.func23, Try.ntmps23
    go_wp2
    go_ret
    refine ⟨?_, rfl⟩
    rw [← HM.out, Int.tmod_eq_emod_of_nonneg (by omega), Int.add_emod_right, Int.emod_eq_of_lt (by omega) (by omega)]
    first | rfl | (rw [ht']; rfl) | (rw [← ht']; rfl)
set_option maxHeartbeats 1000000 in
theorem rpow_any (a p : Nat) (hp0 : 0 < p) (hp : p ≤ 1048576) (ha : a < p) (k : Nat) : k ≤ 1048576 → ∀ w : World,
    Calls Try.prog 24 #[.int .i64 a, .int .i64 k, .int .i64 p] w fun e w' => e = .returned (.int .i64 (a ^ k % p : Nat)) ∧ w = w' := by
  induction k using Nat.strongRecOn with
  | _ k ih =>
    intro hk w
    have b2 : ((p : Int) == 0) = false := by simp; omega
    have hpn : ¬ p = 0 := by omega
    by_cases hk0 : k = 0
    · subst hk0
      clear ih
      have hr : ((a ^ 0 % p : Nat) : Int) = 1 % (p : Int) := by simp
      have HR := Lib.hid hr; clear hr
      go_enter Try.func24, Try.ntmps24
      go_wp2
      go_ret
      exact ⟨by rw [HR.out]; rfl, rfl⟩
    · have hk1 : ¬ (k : Int) = 0 := by omega
      have e1 : (k : Int) / 2 = ((k / 2 : Nat) : Int) := rfl
      have hih := ih (k / 2) (by omega) (by omega)
      obtain ⟨h, hh⟩ : ∃ h, h = k / 2 := ⟨_, rfl⟩
      obtain ⟨x, hx⟩ : ∃ x, x = a ^ h % p := ⟨_, rfl⟩
      have lx : x < p := by rw [hx]; exact Nat.mod_lt _ hp0
      rw [← hh] at e1 hih
      rw [← hx] at hih
      obtain ⟨s, hs⟩ : ∃ s, s = x * x := ⟨_, rfl⟩
      have ls : s ≤ 1048576 * 1048576 := by rw [hs]; exact Nat.mul_le_mul (by omega) (by omega)
      have es : IntKind.i64.wrap ((x : Int) * (x : Int)) = (s : Int) := by rw [hs, Int.natCast_mul]; exact IntWalk.i64_in _ (by rw [← Int.natCast_mul, ← hs]; omega)
      have es2 : (x : Int) * (x : Int) = (s : Int) := by rw [hs]; simp
      obtain ⟨y, hy⟩ : ∃ y, y = s % p := ⟨_, rfl⟩
      have ly : y < p := by rw [hy]; exact Nat.mod_lt _ hp0
      have ey : (s : Int) % (p : Int) = (y : Int) := by rw [hy]; rfl
      have HIH := Lib.hid hih; have HH := Lib.hid hh; have HX := Lib.hid hx; have HS := Lib.hid hs; have HY := Lib.hid hy; clear ih hih hh hx hs hy es
      have hsq : y = a ^ (h + h) % p := by rw [HY.out, HS.out, HX.out, ← Nat.mul_mod, Nat.pow_add]
      have HSQ := Lib.hid hsq; clear hsq
      by_cases hodd : k % 2 = 1
      · have o1 : (k : Int) % 2 = 1 := by omega
        have ham : (a : Int) % (p : Int) = a := Int.emod_eq_of_lt (by omega) (by omega)
        have HAM := Lib.hid ham; clear ham
        obtain ⟨z, hz⟩ : ∃ z, z = y * a := ⟨_, rfl⟩
        have lz : z ≤ 1048576 * 1048576 := by rw [hz]; exact Nat.mul_le_mul (by omega) (by omega)
        have ez : (y : Int) * (a : Int) = (z : Int) := by rw [hz]; simp
        have hres : a ^ k % p = z % p := by
          have : k = h + h + 1 := by have := HH.out; omega
          rw [this, Nat.pow_succ, Nat.mul_mod, ← HSQ.out, hz, Nat.mul_mod y a p, Nat.mod_eq_of_lt ly]
        have HRES := Lib.hid hres; have HZ := Lib.hid hz; clear hres hz hodd
        go_enter Try.func24, Try.ntmps24
        go_wp2_with (first
          | (go_at_call 24; refine (HIH.out _).mono ?_; rintro e w' ⟨rfl, rfl⟩)
          | (go_at_call 23; refine (rmod_any (a : Int) p hp0 hp _).mono ?_; rintro e w' ⟨rfl, rfl⟩; rw [HAM.out]))
        go_ret
        exact ⟨by rw [HRES.out]; rfl, rfl⟩
      · have o1 : (k : Int) % 2 = 0 := by omega
        have hres : a ^ k % p = y := by
          have : k = h + h := by have := HH.out; omega
          rw [this, ← HSQ.out]
        have HRES := Lib.hid hres; clear hres hodd
        go_enter Try.func24, Try.ntmps24
        go_wp2_with (first
          | (go_at_call 24; refine (HIH.out _).mono ?_; rintro e w' ⟨rfl, rfl⟩))
        go_ret
        exact ⟨by rw [HRES.out, HY.out]; rfl, rfl⟩
theorem prime_of_free {n d : Nat} (hn : 2 ≤ n) (hd : 2 ≤ d) (hf : ∀ c, 2 ≤ c → c < d → ¬ c ∣ n) (he : n ≤ d ∨ n < d * d) : PrimeN n := by
  rw [prime_iff]
  refine ⟨hn, fun c hc h2 hdv => ?_⟩
  rcases Nat.lt_or_ge c d with h | h
  · exact hf c h2 h hdv
  · rcases he with he | he
    · omega
    · obtain ⟨q, hq⟩ := hdv
      rcases Nat.lt_or_ge q d with h3 | h3
      · have h4 : 2 ≤ q := by
          rcases Nat.lt_or_ge q 2 with h5 | h5
          · have : q = 0 ∨ q = 1 := by omega
            rcases this with rfl | rfl <;> omega
          · exact h5
        exact hf q h4 h3 ⟨c, by rw [hq, Nat.mul_comm]⟩
      · have := Nat.mul_le_mul h h3
        omega
set_option maxHeartbeats 1000000 in
theorem ris_any (n : Nat) (hn : 2 ≤ n) (hn1 : n ≤ 1048576) (w : World) :
    Calls Try.prog 22 #[.int .i64 n] w fun e w' => e = .returned (.bool (decide (PrimeN n))) ∧ w = w' := by
  go_enter Try.func22, Try.ntmps22
  go_wp2
  go_loop [3] (fun dv => ∃ d : Nat, dv = .int .i64 d ∧ 2 ≤ d ∧ d ≤ n ∧ ∀ c, 2 ≤ c → c < d → ¬ c ∣ n) (fun dv => n + 2 - (intOf dv).toNat)
  case atStart => exact ⟨2, rfl, by omega, hn, fun c h1 h2 => by omega⟩
  case round =>
    obtain ⟨d, rfl, hd2, hdn, hf⟩ := hrel
    have HF := Lib.hid hf; clear hf
    obtain ⟨s, hs⟩ : ∃ s, s = d * d := ⟨_, rfl⟩
    have ls : s ≤ 1048576 * 1048576 := by rw [hs]; exact Nat.mul_le_mul (by omega) (by omega)
    have es : (d : Int) * (d : Int) = (s : Int) := by rw [hs]; simp
    have b0 : ((d : Int) == 0) = false := by simp; omega
    have HS := Lib.hid hs; clear hs
    by_cases h1 : d < n
    · have c1 : decide (d < n) = true := decide_eq_true h1
      by_cases h2 : s ≤ n
      · have c2 : decide (s ≤ n) = true := decide_eq_true h2
        obtain ⟨r, hr⟩ : ∃ r, r = n % d := ⟨_, rfl⟩
        have er : (n : Int) % (d : Int) = (r : Int) := by rw [hr]; rfl
        have HR := Lib.hid hr; clear hr
        by_cases h3 : r = 0
        · have c3 : ((r : Int) == 0) = true := by simp; omega
          have hd : decide (PrimeN n) = false := by
            apply decide_eq_false
            rw [prime_iff]
            rintro ⟨_, h⟩
            exact h d h1 hd2 (Nat.dvd_of_mod_eq_zero (by rw [← HR.out]; exact h3))
          have HD := Lib.hid hd; clear hd h3
          go_wp2_with fail
          go_ret
          exact ⟨by rw [HD.out]; rfl, rfl⟩
        · have c3 : ((r : Int) == 0) = false := by simp; omega
          have hnd : ¬ d ∣ n := fun h => h3 (by rw [HR.out]; exact Nat.mod_eq_zero_of_dvd h)
          have HND := Lib.hid hnd; clear hnd h3
          go_wp2_with fail
          refine ⟨⟨d + 1, by go_num, by omega, by omega, fun c hc1 hc2 => ?_⟩, by
            have hi : ∀ k : Nat, (intOf (.int .i64 (k : Int))).toNat = k := fun k => rfl
            have hi2 := hi (d + 1)
            rw [Int.natCast_add] at hi2
            first | (rw [hi, hi2]; omega) | (simp [intOf]; omega)⟩
          rcases Nat.lt_or_ge c d with h | h
          · exact HF.out c hc1 h
          · have : c = d := by omega
            subst this; exact HND.out
      · have c2 : decide (s ≤ n) = false := decide_eq_false h2
        have hd : decide (PrimeN n) = true := decide_eq_true (prime_of_free hn hd2 HF.out (.inr (by rw [← HS.out]; omega)))
        have HD := Lib.hid hd; clear hd h2
        go_wp2_with fail
        go_ret
        exact ⟨by rw [HD.out]; rfl, rfl⟩
    · have c1 : decide (d < n) = false := decide_eq_false h1
      have hd : decide (PrimeN n) = true := decide_eq_true (prime_of_free hn hd2 HF.out (.inl (by omega)))
      have HD := Lib.hid hd; clear hd h1
      go_wp2_with fail
      go_ret
      exact ⟨by rw [HD.out]; rfl, rfl⟩
end Go.Proofs.Ytlfocajlkelnbaa
