/-
  Curve: numbers modulo a prime: plain facts.
-/
import Derived.Test.YtlfocajlkelnbaaFac
import Derived.Test.YtlfocajlkelnbaaCurveP
namespace Go.Proofs.Ytlfocajlkelnbaa
theorem bez (a b : Nat) : ∃ x y : Int, x * a + y * b = (Nat.gcd a b : Nat) := by
  induction a using Nat.strongRecOn generalizing b with
  | _ a ih =>
    by_cases ha : a = 0
    · subst ha; exact ⟨0, 1, by simp⟩
    · obtain ⟨x, y, h⟩ := ih (b % a) (Nat.mod_lt _ (by omega)) a
      refine ⟨y - x * (b / a : Nat), x, ?_⟩
      rw [Nat.gcd_rec, ← h]
      have e : ((b % a : Nat) : Int) = b - a * (b / a : Nat) := by
        have := Nat.div_add_mod b a
        have h2 : ((a * (b / a) + b % a : Nat) : Int) = b := by rw [this]
        rw [Int.natCast_add, Int.natCast_mul] at h2
        omega
      rw [e]
      grind
section
variable {p : Nat} [NeZero p]
/-- a number, modulo p -/
def fi (x : Int) : Fin p := ⟨(x % p).toNat, by
  have hp : p ≠ 0 := NeZero.ne p
  have h0 := Int.emod_nonneg x (show (p : Int) ≠ 0 by omega)
  have h1 := Int.emod_lt_of_pos x (show (0 : Int) < p by omega)
  omega⟩
theorem fi_val (x : Int) : ((fi x : Fin p).val : Int) = x % p := Int.toNat_of_nonneg (Int.emod_nonneg x (by have : p ≠ 0 := NeZero.ne p; omega))
omit [NeZero p] in
theorem fin_ext {x y : Fin p} (h : (x.val : Int) = y.val) : x = y := Fin.ext (by omega)
theorem fi_eq (x y : Int) : (fi x : Fin p) = fi y ↔ x % p = y % p := by
  constructor
  · intro h; rw [← fi_val (p := p) x, ← fi_val (p := p) y, h]
  · intro h; exact fin_ext (by rw [fi_val, fi_val, h])
theorem fi_mod (x : Int) : (fi (x % p) : Fin p) = fi x := (fi_eq _ _).2 (Int.emod_emod ..)
theorem fi_add (x y : Int) : (fi (x + y) : Fin p) = fi x + fi y := fin_ext (by
  rw [fi_val, Fin.val_add, Int.natCast_emod, Int.natCast_add, fi_val, fi_val, ← Int.add_emod])
theorem fi_mul (x y : Int) : (fi (x * y) : Fin p) = fi x * fi y := fin_ext (by
  rw [fi_val, Fin.val_mul, Int.natCast_emod, Int.natCast_mul, fi_val, fi_val, ← Int.mul_emod])
theorem fi_zero : (fi 0 : Fin p) = 0 := fin_ext (by rw [fi_val]; simp)
theorem fi_neg (x : Int) : (fi (-x) : Fin p) = -fi x := by
  have h : (fi (-x) : Fin p) + fi x = 0 := by rw [← fi_add, Int.add_left_neg, fi_zero]
  grind
theorem fi_sub (x y : Int) : (fi (x - y) : Fin p) = fi x - fi y := by
  rw [Int.sub_eq_add_neg, fi_add, fi_neg]; grind
theorem fi_self (x : Fin p) : fi (x.val : Int) = x := fin_ext (by rw [fi_val]; exact Int.emod_eq_of_lt (by omega) (by have := x.isLt; omega))
theorem fi_one : (fi 1 : Fin p) = 1 := by
  apply fin_ext
  rw [fi_val]
  rfl
theorem fi_two : (fi 2 : Fin p) = 2 := by rw [show (2 : Int) = 1 + 1 from rfl, fi_add, fi_one]; grind
theorem fi_three : (fi 3 : Fin p) = 3 := by rw [show (3 : Int) = 2 + 1 from rfl, fi_add, fi_one, fi_two]; grind
theorem fi_four : (fi 4 : Fin p) = 4 := by rw [show (4 : Int) = 2 + 2 from rfl, fi_add, fi_two]; grind
theorem fi_27 : (fi 27 : Fin p) = 27 := by rw [show (27 : Int) = 3 * (3 * 3) from rfl, fi_mul, fi_mul, fi_three]; grind
theorem fi_dvd (x : Int) : (fi x : Fin p) = 0 ↔ x % p = 0 := by rw [← fi_zero, fi_eq]; simp
theorem fi_dec (x : Int) : (fi x : Fin p) = 0 ↔ (p : Int) ∣ x := by rw [fi_dvd]; exact ⟨Int.dvd_of_emod_eq_zero, Int.emod_eq_zero_of_dvd⟩
end
theorem prime_gcd {p a : Nat} (hp : PrimeN p) (ha : ¬ p ∣ a) : Nat.gcd a p = 1 := by
  rcases hp.2 _ (Nat.gcd_dvd_right a p) with h | h
  · exact h
  · exact absurd (h ▸ Nat.gcd_dvd_left a p) ha
theorem prime_mul {p a b : Nat} (hp : PrimeN p) (h : p ∣ a * b) : p ∣ a ∨ p ∣ b := by
  by_cases ha : p ∣ a
  · exact .inl ha
  · exact .inr (Nat.Coprime.dvd_of_dvd_mul_left (by rw [Nat.Coprime, Nat.gcd_comm]; exact prime_gcd hp ha) h)
theorem inv_ex {p : Nat} [NeZero p] (hp : PrimeN p) (a : Fin p) (ha : a ≠ 0) : ∃ b : Fin p, a * b = 1 := by
  have hnd : ¬ p ∣ a.val := by
    intro h
    have h1 := a.isLt
    rcases Nat.eq_zero_or_pos a.val with h2 | h2
    · exact ha (Fin.ext (by rw [h2]; rfl))
    · have := Nat.le_of_dvd h2 h; omega
  obtain ⟨x, y, h⟩ := bez a.val p
  rw [prime_gcd hp hnd] at h
  refine ⟨fi x, ?_⟩
  have e : (fi (x * a.val + y * p) : Fin p) = fi x * a := by
    rw [fi_add, fi_mul, fi_mul, fi_self]
    have : (fi (p : Int) : Fin p) = 0 := (fi_dec _).2 ⟨1, by simp⟩
    rw [this]; grind
  rw [h] at e
  have h1 : (fi ((1 : Nat) : Int) : Fin p) = 1 := fi_one
  rw [h1] at e
  rw [e]; grind
open Classical in
noncomputable def finv (p : Nat) [NeZero p] (a : Fin p) : Fin p := if h : ∃ b : Fin p, a * b = 1 then Classical.choose h else 0
theorem fld {p : Nat} [NeZero p] (hp : PrimeN p) (h2 : 2 < p) : Fld (finv p) := by
  have cancel : ∀ a b : Fin p, a * b = 0 → a = 0 ∨ b = 0 := by
    intro a b h
    have hz : ∀ c : Fin p, p ∣ c.val → c = 0 := fun c hd => by
      rcases Nat.eq_zero_or_pos c.val with h2 | h2
      · exact Fin.ext (by rw [h2]; rfl)
      · have := Nat.le_of_dvd h2 hd; have := c.isLt; omega
    have hv : a.val * b.val % p = 0 := by
      have := congrArg Fin.val h
      rw [Fin.val_mul] at this
      simpa using this
    rcases prime_mul hp (Nat.dvd_of_mod_eq_zero hv) with h3 | h3
    · exact .inl (hz a h3)
    · exact .inr (hz b h3)
  refine ⟨cancel, fun a ha => ?_, fun a h => ?_⟩
  · have h := inv_ex hp a ha
    unfold finv
    rw [dif_pos h]
    exact Classical.choose_spec h
  · have h2' : (fi 2 : Fin p) * a = 0 := by rw [fi_two]; grind
    rcases cancel _ _ h2' with h3 | h3
    · rw [fi_dvd] at h3
      have : (2 : Int) % p = 2 := Int.emod_eq_of_lt (by omega) (by omega)
      omega
    · exact h3
end Go.Proofs.Ytlfocajlkelnbaa
