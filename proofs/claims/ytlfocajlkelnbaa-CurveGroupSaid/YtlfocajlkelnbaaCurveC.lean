/-
  Curve: over, right.
-/
import Derived.Test.YtlfocajlkelnbaaCurveB
import Derived.Deep.RegionHeld3
import Derived.Deep.DeepCutAuto
namespace Go.Proofs.Ytlfocajlkelnbaa
open Go.RowKit
/-- a curve in a block -/
def CurveAt (w : World) (B p a b : Nat) : Prop := w.cell? ⟨B, 0, none⟩ = some (.int .i64 p) ∧ w.cell? ⟨B, 1, none⟩ = some (.int .i64 a) ∧ w.cell? ⟨B, 2, none⟩ = some (.int .i64 b)
theorem CurveAt.new (w : World) (p a b : Nat) (t : TypeId) : CurveAt (w.alloc (.cells #[.int .i64 p, .int .i64 a, .int .i64 b] t)) w.heap.size p a b := by
  refine ⟨?_, ?_, ?_⟩ <;> go_simp
theorem CurveAt.lt {w : World} {B p a b : Nat} (h : CurveAt w B p a b) : B < w.heap.size := World.block_lt_of_cell? w _ h.1
theorem keep_cell {w w' : World} (k : Keep (fun _ => False) w w') {q : Addr} {v : Value} (h : w.cell? q = some v) : w'.cell? q = some v := (k.toBelow.cell (World.block_lt_of_cell? w _ h)).trans h
theorem CurveAt.keep {w w' : World} {B p a b : Nat} (h : CurveAt w B p a b) (k : Keep (fun _ => False) w w') : CurveAt w' B p a b := ⟨keep_cell k h.1, keep_cell k h.2.1, keep_cell k h.2.2⟩
def Held (w0 : World) (B p a b : Nat) (w : World) : Prop := w.cell? ⟨B, 0, none⟩ = some (.int .i64 p) ∧ w.cell? ⟨B, 1, none⟩ = some (.int .i64 a) ∧ w.cell? ⟨B, 2, none⟩ = some (.int .i64 b) ∧ Keep (fun _ => False) w0 w
theorem Held.drew {w0 : World} {B p a b : Nat} {w : World} (h : Held w0 B p a b w) : Held w0 B p a b w.drew := ⟨h.1, h.2.1, h.2.2.1, Keep.drew h.2.2.2⟩
theorem Held.keep {w0 : World} {B p a b : Nat} {w w' : World} (h : Held w0 B p a b w) (k : Keep (fun _ => False) w w') : Held w0 B p a b w' := ⟨keep_cell k h.1, keep_cell k h.2.1, keep_cell k h.2.2.1, h.2.2.2.trans k⟩
def OverPost (p : Nat) (x y : Int) (w : World) (e : Ending) (w' : World) : Prop := ∃ k : Nat, k < p ∧ (y % p ≠ 0 → ((k : Int) * y) % p = x % p) ∧ e = .returned (.int .i64 k) ∧ Keep (fun _ => False) w w'
theorem over_law (p v k u r : Nat) (x y : Int) (hv : (v : Int) = x % p) (hu : (u : Int) = y % p) (hr : (r : Int) = ((v : Int) * k) % p) (h1 : ((k * u : Nat) : Int) % p = 1 % p) : (r : Int) * y % p = x % p := by
  have e1 : (p : Int) ∣ (k : Int) * u - 1 := Int.dvd_of_emod_eq_zero (Int.emod_eq_emod_iff_emod_sub_eq_zero.1 (by simpa using h1))
  have e2 : (p : Int) ∣ (v : Int) - x := by rw [hv]; exact Int.dvd_of_emod_eq_zero (Int.emod_eq_emod_iff_emod_sub_eq_zero.1 (by rw [Int.emod_emod]))
  have e3 : (p : Int) ∣ (u : Int) - y := by rw [hu]; exact Int.dvd_of_emod_eq_zero (Int.emod_eq_emod_iff_emod_sub_eq_zero.1 (by rw [Int.emod_emod]))
  have e4 : (p : Int) ∣ (r : Int) - v * k := by rw [hr]; exact Int.dvd_of_emod_eq_zero (Int.emod_eq_emod_iff_emod_sub_eq_zero.1 (by rw [Int.emod_emod]))
  refine Int.emod_eq_emod_iff_emod_sub_eq_zero.2 (Int.emod_eq_zero_of_dvd ?_)
  obtain ⟨a, ha⟩ := e1; obtain ⟨b, hb⟩ := e2; obtain ⟨c, hc⟩ := e3; obtain ⟨d, hd⟩ := e4
  refine ⟨d * y - v * k * c + v * a + b, ?_⟩
  have h1 : (r : Int) = v * k + p * d := by omega
  have h2 : y = u - p * c := by omega
  have h3 : (k : Int) * u = 1 + p * a := by omega
  have h4 : x = v - p * b := by omega
  grind
set_option maxHeartbeats 1000000 in
theorem over_any (p a b : Nat) (x y : Int) (hp : PrimeN p) (hp1 : p ≤ 1048576) (w : World) : Calls Try.prog 20 #[encC p a b, .int .i64 x, .int .i64 y] w (OverPost p x y w) := by
  have hp0 : 2 ≤ p := hp.1
  have hy0 := Int.emod_nonneg y (show (p : Int) ≠ 0 by omega)
  have hy1 := Int.emod_lt_of_pos y (show (0 : Int) < p by omega)
  obtain ⟨u, hu⟩ : ∃ u : Nat, (u : Int) = y % p := ⟨(y % p).toNat, Int.toNat_of_nonneg hy0⟩
  have hup : u < p := by omega
  have HU := Lib.hid hu; have HPR := Lib.hid hp; clear hu hp hy0 hy1
  unfold encC
  go_enter Try.func20, Try.ntmps20
  go_wp2
  have hc := CurveAt.new w p a b 38
  have hk := (Keep.refl (fun _ => False) w).alloc (.cells #[.int .i64 p, .int .i64 a, .int .i64 b] 38)
  obtain ⟨B, hB⟩ : ∃ B, B = w.heap.size := ⟨_, rfl⟩
  obtain ⟨w1, hw1⟩ : ∃ w1, w1 = w.alloc (.cells #[.int .i64 p, .int .i64 a, .int .i64 b] 38) := ⟨_, rfl⟩
  rw [← hB, ← hw1] at hc
  rw [← hw1] at hk
  rw [← hB, ← hw1]
  have HB := Lib.hid hB; have HW := Lib.hid hw1; clear hB hw1
  obtain ⟨c0, c1, c2⟩ := hc
  go_region_held3 (fun w' => w'.cell? ⟨B, 0, none⟩ = some (.int .i64 p) ∧ w'.cell? ⟨B, 1, none⟩ = some (.int .i64 a) ∧ w'.cell? ⟨B, 2, none⟩ = some (.int .i64 b) ∧ Keep (fun _ => False) w w')
    (first | exact Held.drew ⟨c0, c1, c2, hk⟩ | exact Held.keep (by assumption) HK)
    (first
      | (go_at_call 21; refine (cmod_any p a b y (by omega) hp1 _).mono ?_; rintro e w' ⟨rfl, HK⟩; rw [← HU.out])
      | (go_at_call 27; refine (inv_any u p hup hp1 _).mono ?_; rintro e w' ⟨k, hk1, hk2, hk3, ⟨e2, rfl⟩, HK⟩; have HK2 := Lib.hid hk2; clear hk2 hk3))
  rename_i hheld
  obtain ⟨c0', c1', c2', hk'⟩ := hheld
  clear c0 c1 c2 hk
  have hx0 := Int.emod_nonneg x (show (p : Int) ≠ 0 by omega)
  have hx1 := Int.emod_lt_of_pos x (show (0 : Int) < p by omega)
  obtain ⟨v, hv⟩ : ∃ v : Nat, (v : Int) = x % p := ⟨(x % p).toNat, Int.toNat_of_nonneg hx0⟩
  have hvp : v < p := by omega
  have HV := Lib.hid hv; clear hv hx0 hx1
  obtain ⟨m, hm⟩ : ∃ m, m = v * k := ⟨_, rfl⟩
  have em : (v : Int) * (k : Int) = (m : Int) := by rw [hm]; simp
  have hml : m ≤ 1048576 * 1048576 := by
    rw [hm]; exact Nat.mul_le_mul (by omega) (by omega)
  have ew : IntKind.i64.wrap ((v : Int) * (k : Int)) = (m : Int) := by rw [em]; exact IntWalk.i64_in _ (by omega)
  have ew2 : IntKind.i64.wrap (m : Int) = (m : Int) := IntWalk.i64_in _ (by omega)
  have hmp : m % p < p := Nat.mod_lt _ (by omega)
  obtain ⟨r, hr⟩ : ∃ r, r = m % p := ⟨_, rfl⟩
  have er : (m : Int) % (p : Int) = (r : Int) := by rw [hr]; rfl
  have er2 : (m : Int).tmod (p : Int) = (r : Int) := by rw [hr]; rfl
  rw [← hr] at hmp
  have b1 : ((p : Int) == 0) = false := by simp; omega
  have hpn : ¬ p = 0 := by omega
  have hpn2 : ¬ (p : Int) = 0 := by omega
  have hpn3 : ¬ (p : Int) = -1 := by omega
  have HM := Lib.hid hm; have HR := Lib.hid hr; clear hm em hr
  go_wp2
  go_region_held3 (fun w' => w'.cell? ⟨B, 0, none⟩ = some (.int .i64 p) ∧ w'.cell? ⟨B, 1, none⟩ = some (.int .i64 a) ∧ w'.cell? ⟨B, 2, none⟩ = some (.int .i64 b) ∧ Keep (fun _ => False) w w')
    (first | exact Held.drew ⟨c0', c1', c2', hk'⟩ | exact Held.keep (by assumption) HK)
    (first
      | (go_at_call 21; refine (cmod_any p a b x (by omega) hp1 _).mono ?_; rintro e w' ⟨rfl, HK⟩; rw [← HV.out]))
  rename_i hheld
  have hk2 := hheld.2.2.2
  clear hheld
  go_wp2
  go_ret
  refine ⟨r, hmp, fun hy => ?_, rfl, hk2⟩
  have hu0 : u ≠ 0 := fun h => hy (by rw [← HU.out, h]; rfl)
  have hg : Nat.gcd u p = 1 := by
    rcases HPR.out.2 _ (Nat.gcd_dvd_right u p) with h | h
    · exact h
    · have := Nat.gcd_le_left p (show 0 < u by omega)
      rw [h] at this; omega
  exact over_law p v k u r x y HV.out HU.out (by rw [HR.out, HM.out]; simp) (HK2.out hg)
/-- what Y^2 must be -/
def rightN (p a b x : Nat) : Nat := ((x * x % p + a) * x % p + b) % p
set_option maxHeartbeats 1000000 in
theorem right_any (p a b x : Nat) (hp0 : 0 < p) (hp1 : p ≤ 1048576) (ha : a < p) (hb : b < p) (hx : x < p) (w : World) :
    Calls Try.prog 17 #[encC p a b, .int .i64 x] w fun e w' => e = .returned (.int .i64 (rightN p a b x)) ∧ Keep (fun _ => False) w w' := by
  obtain ⟨s1, h1⟩ : ∃ s, s = x * x := ⟨_, rfl⟩
  have l1 : s1 ≤ 1048576 * 1048576 := by rw [h1]; exact Nat.mul_le_mul (by omega) (by omega)
  obtain ⟨r1, g1⟩ : ∃ r, r = s1 % p := ⟨_, rfl⟩
  have m1 : r1 < p := by rw [g1]; exact Nat.mod_lt _ hp0
  obtain ⟨s2, h2⟩ : ∃ s, s = r1 + a := ⟨_, rfl⟩
  obtain ⟨s3, h3⟩ : ∃ s, s = s2 * x := ⟨_, rfl⟩
  have l3 : s3 ≤ 2097152 * 1048576 := by rw [h3]; exact Nat.mul_le_mul (by omega) (by omega)
  obtain ⟨r3, g3⟩ : ∃ r, r = s3 % p := ⟨_, rfl⟩
  have m3 : r3 < p := by rw [g3]; exact Nat.mod_lt _ hp0
  obtain ⟨s4, h4⟩ : ∃ s, s = r3 + b := ⟨_, rfl⟩
  have hres : ((rightN p a b x : Nat) : Int) = (s4 : Int) % p := by unfold rightN; rw [h4, g3, h3, h2, g1, h1]; simp
  have HRES := Lib.hid hres; clear hres
  have w1' : IntKind.i64.wrap ((x : Int) * (x : Int)) = (s1 : Int) := by rw [h1, Int.natCast_mul]; exact IntWalk.i64_in _ (by rw [← Int.natCast_mul, ← h1]; omega)
  have t1 : (s1 : Int).tmod (p : Int) = (r1 : Int) := by rw [g1]; rfl
  have e1 : (s1 : Int) % (p : Int) = (r1 : Int) := by rw [g1]; rfl
  have w2' : IntKind.i64.wrap ((r1 : Int) + (a : Int)) = (s2 : Int) := by rw [h2, Int.natCast_add]; exact IntWalk.i64_in _ (by omega)
  have w3' : IntKind.i64.wrap ((s2 : Int) * (x : Int)) = (s3 : Int) := by rw [h3, Int.natCast_mul]; exact IntWalk.i64_in _ (by rw [← Int.natCast_mul, ← h3]; omega)
  have t3 : (s3 : Int).tmod (p : Int) = (r3 : Int) := by rw [g3]; rfl
  have e3 : (s3 : Int) % (p : Int) = (r3 : Int) := by rw [g3]; rfl
  have w4' : IntKind.i64.wrap ((r3 : Int) + (b : Int)) = (s4 : Int) := by rw [h4, Int.natCast_add]; exact IntWalk.i64_in _ (by omega)
  have b1 : ((p : Int) == 0) = false := by simp; omega
  have hpn : ¬ p = 0 := by omega
  clear h1 h2 h3 h4 g1 g3 l1 l3
  unfold encC
  go_enter Try.func17, Try.ntmps17
  go_wp2
  have hc := CurveAt.new w p a b 38
  have hk := (Keep.refl (fun _ => False) w).alloc (.cells #[.int .i64 p, .int .i64 a, .int .i64 b] 38)
  obtain ⟨B, hB⟩ : ∃ B, B = w.heap.size := ⟨_, rfl⟩
  obtain ⟨w1, hw1⟩ : ∃ w1, w1 = w.alloc (.cells #[.int .i64 p, .int .i64 a, .int .i64 b] 38) := ⟨_, rfl⟩
  rw [← hB, ← hw1] at hc
  rw [← hw1] at hk
  rw [← hB, ← hw1]
  have HB := Lib.hid hB; have HW := Lib.hid hw1; clear hB hw1
  obtain ⟨c0, c1, c2⟩ := hc
  go_region_held3 (fun w' => w'.cell? ⟨B, 0, none⟩ = some (.int .i64 p) ∧ w'.cell? ⟨B, 1, none⟩ = some (.int .i64 a) ∧ w'.cell? ⟨B, 2, none⟩ = some (.int .i64 b) ∧ Keep (fun _ => False) w w')
    (first | exact Held.drew ⟨c0, c1, c2, hk⟩ | exact Held.keep (by assumption) HK)
    (first
      | (go_at_call 21; refine (cmod_any p a b (s4 : Int) hp0 hp1 _).mono ?_; rintro e w' ⟨rfl, HK⟩; rw [← HRES.out]))
  rename_i hheld
  have hk2 := hheld.2.2.2
  clear hheld
  go_wp2
  go_ret
  exact ⟨rfl, hk2⟩
end Go.Proofs.Ytlfocajlkelnbaa
