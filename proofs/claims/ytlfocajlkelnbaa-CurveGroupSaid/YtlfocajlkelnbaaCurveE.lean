/-
  Curve: add.
-/
import Derived.Test.YtlfocajlkelnbaaCurveD
namespace Go.Proofs.Ytlfocajlkelnbaa
open Go.RowKit
/-- the call's four blocks -/
def Four (w0 : World) (N p a b x1 y1 x2 y2 : Nat) (w : World) : Prop := Row3 w N 38 (.int .i64 p) (.int .i64 a) (.int .i64 b) ∧ Row3 w (N + 1) 25 (.int .i64 x1) (.int .i64 y1) (.bool false) ∧ Row3 w (N + 2) 25 (.int .i64 x2) (.int .i64 y2) (.bool false) ∧ Row3 w (N + 3) 25 (.int .i64 0) (.int .i64 0) (.bool false) ∧ Keep (fun _ => False) w0 w
def Nine (w0 : World) (N p a b x1 y1 x2 y2 : Nat) (w : World) : Prop := w.cell? ⟨N, 0, none⟩ = some (.int .i64 p) ∧ w.cell? ⟨N, 1, none⟩ = some (.int .i64 a) ∧ w.cell? ⟨N, 2, none⟩ = some (.int .i64 b) ∧ w.cell? ⟨N + 1, 0, none⟩ = some (.int .i64 x1) ∧ w.cell? ⟨N + 1, 1, none⟩ = some (.int .i64 y1) ∧ w.cell? ⟨N + 1, 2, none⟩ = some (.bool false) ∧ w.cell? ⟨N + 2, 0, none⟩ = some (.int .i64 x2) ∧ w.cell? ⟨N + 2, 1, none⟩ = some (.int .i64 y2) ∧ w.cell? ⟨N + 2, 2, none⟩ = some (.bool false) ∧ Four w0 N p a b x1 y1 x2 y2 w
theorem Four.keep {w0 : World} {N p a b x1 y1 x2 y2 : Nat} {w w' : World} (h : Four w0 N p a b x1 y1 x2 y2 w) (k : Keep (fun _ => False) w w') : Four w0 N p a b x1 y1 x2 y2 w' := ⟨h.1.keep k, h.2.1.keep k, h.2.2.1.keep k, h.2.2.2.1.keep k, h.2.2.2.2.trans k⟩
theorem Four.nine {w0 : World} {N p a b x1 y1 x2 y2 : Nat} {w : World} (h : Four w0 N p a b x1 y1 x2 y2 w) : Nine w0 N p a b x1 y1 x2 y2 w := ⟨h.1.c0, h.1.c1, h.1.c2, h.2.1.c0, h.2.1.c1, h.2.1.c2, h.2.2.1.c0, h.2.2.1.c1, h.2.2.1.c2, h⟩
theorem Nine.keep {w0 : World} {N p a b x1 y1 x2 y2 : Nat} {w w' : World} (h : Nine w0 N p a b x1 y1 x2 y2 w) (k : Keep (fun _ => False) w w') : Nine w0 N p a b x1 y1 x2 y2 w' := (h.2.2.2.2.2.2.2.2.2.keep k).nine
theorem Four.drew {w0 : World} {N p a b x1 y1 x2 y2 : Nat} {w : World} (h : Four w0 N p a b x1 y1 x2 y2 w) : Nine w0 N p a b x1 y1 x2 y2 w.drew := (show Four w0 N p a b x1 y1 x2 y2 w.drew from ⟨h.1, h.2.1, h.2.2.1, h.2.2.2.1, h.2.2.2.2.drew⟩).nine
theorem Four.start (w : World) (p a b x1 y1 x2 y2 : Nat) : Four w w.heap.size p a b x1 y1 x2 y2 ((((w.alloc (.cells #[.int .i64 p, .int .i64 a, .int .i64 b] 38)).alloc (.cells #[.int .i64 x1, .int .i64 y1, .bool false] 25)).alloc (.cells #[.int .i64 x2, .int .i64 y2, .bool false] 25)).alloc (.cells #[.int .i64 0, .int .i64 0, .bool false] 25)) := by
  refine ⟨(((Row3.new _ _ _ _ _).alloc _).alloc _).alloc _, ?_, ?_, ?_, ((((Keep.refl _ w).alloc _).alloc _).alloc _).alloc _⟩
  · have := Row3.new (w.alloc (.cells #[.int .i64 p, .int .i64 a, .int .i64 b] 38)) 25 (.int .i64 x1) (.int .i64 y1) (.bool false)
    rw [World.size_alloc] at this; exact (this.alloc _).alloc _
  · have := Row3.new ((w.alloc (.cells #[.int .i64 p, .int .i64 a, .int .i64 b] 38)).alloc (.cells #[.int .i64 x1, .int .i64 y1, .bool false] 25)) 25 (.int .i64 x2) (.int .i64 y2) (.bool false)
    rw [World.size_alloc, World.size_alloc] at this; exact this.alloc _
  · have := Row3.new (((w.alloc (.cells #[.int .i64 p, .int .i64 a, .int .i64 b] 38)).alloc (.cells #[.int .i64 x1, .int .i64 y1, .bool false] 25)).alloc (.cells #[.int .i64 x2, .int .i64 y2, .bool false] 25)) 25 (.int .i64 0) (.int .i64 0) (.bool false)
    rw [World.size_alloc, World.size_alloc, World.size_alloc] at this; exact this
/-- two lines' worth: what the slope k must be -/
def Chord (p a x1 y1 x2 y2 k : Nat) : Prop := if x1 = x2 then ((2 * (y1 : Int)) % p ≠ 0 → ((k : Int) * (2 * y1)) % p = (3 * (x1 : Int) * x1 + a) % p) else (((x2 : Int) - x1) % p ≠ 0 → ((k : Int) * ((x2 : Int) - x1)) % p = ((y2 : Int) - y1) % p)
def AddPost (p a x1 y1 x2 y2 : Nat) (w : World) (e : Ending) (w' : World) : Prop := ((x1 = x2 ∧ (y1 : Int) = -(y2 : Int) % p ∧ e = .returned (encS 0 0 true)) ∨
  (¬(x1 = x2 ∧ (y1 : Int) = -(y2 : Int) % p) ∧ ∃ k x3 y3 : Nat, k < p ∧ x3 < p ∧ y3 < p ∧ Chord p a x1 y1 x2 y2 k ∧ (x3 : Int) = ((k : Int) * k - x1 - x2) % p ∧ (y3 : Int) = ((k : Int) * ((x1 : Int) - x3) - y1) % p ∧ e = .returned (encS x3 y3 false))) ∧ Keep (fun _ => False) w w'
set_option maxHeartbeats 2000000 in
theorem add_far1 (p a b : Nat) (x1 y1 x2 y2 : Int) (f2 : Bool) (w : World) : Calls Try.prog 12 #[encC p a b, encS x1 y1 true, encS x2 y2 f2] w fun e w' => e = .returned (encS x2 y2 f2) ∧ Keep (fun _ => False) w w' := by
  have hres : Try.f12.results = #[.cell 6 25] := by kernel_rfl
  unfold encC encS
  go_enter Try.func12, Try.ntmps12
  go_wp2
  refine bodyPost_ret (v := .agg #[.int .i64 x2, .int .i64 y2, .bool f2]) ?_ rfl ⟨rfl, ?_⟩
  · simp only [results, hres]
    go_simp
  · exact ((((Keep.refl _ w).alloc _).alloc _).alloc _).alloc _
theorem add_far2 (p a b : Nat) (x1 y1 x2 y2 : Int) (w : World) : Calls Try.prog 12 #[encC p a b, encS x1 y1 false, encS x2 y2 true] w fun e w' => e = .returned (encS x1 y1 false) ∧ Keep (fun _ => False) w w' := by
  have hres : Try.f12.results = #[.cell 6 25] := by kernel_rfl
  unfold encC encS
  go_enter Try.func12, Try.ntmps12
  go_wp2
  refine bodyPost_ret (v := .agg #[.int .i64 x1, .int .i64 y1, .bool false]) ?_ rfl ⟨rfl, ?_⟩
  · simp only [results, hres]
    go_simp
  · exact ((((Keep.refl _ w).alloc _).alloc _).alloc _).alloc _
set_option maxHeartbeats 4000000 in
theorem add_any (p a b x1 y1 x2 y2 : Nat) (hp : PrimeN p) (hp1 : p ≤ 1009) (ha : a < p) (h1 : x1 < p) (h2 : y1 < p) (h3 : x2 < p) (h4 : y2 < p)
    (hon : x1 = x2 → (y1 : Int) ≠ -(y2 : Int) % p → y1 = y2) (w : World) :
    Calls Try.prog 12 #[encC p a b, encS x1 y1 false, encS x2 y2 false] w (AddPost p a x1 y1 x2 y2 w) := by
  have hres : Try.f12.results = #[.cell 6 25] := by kernel_rfl
  have hp0 : 2 ≤ p := hp.1
  have HP := Lib.hid hp; have HON := Lib.hid hon; clear hp hon
  have hn0 := Int.emod_nonneg (-(y2 : Int)) (show (p : Int) ≠ 0 by omega)
  have hn1 := Int.emod_lt_of_pos (-(y2 : Int)) (show (0 : Int) < p by omega)
  obtain ⟨ny, hny⟩ : ∃ ny : Nat, (ny : Int) = -(y2 : Int) % p := ⟨(-(y2 : Int) % p).toNat, Int.toNat_of_nonneg hn0⟩
  have hnyp : ny < p := by omega
  have HNY := Lib.hid hny; clear hny hn0 hn1
  unfold encC
  unfold encS
  --ADD
  by_cases hx : x1 = x2
  · subst hx
    by_cases hy : y1 = ny
    · subst hy
      go_enter Try.func12, Try.ntmps12
      go_wp2
      have hf := Four.start w p a b x1 y1 x1 y2
      obtain ⟨N, hN⟩ : ∃ N, N = w.heap.size := ⟨_, rfl⟩
      obtain ⟨w1, hw1⟩ : ∃ w1, w1 = (((w.alloc (.cells #[.int .i64 p, .int .i64 a, .int .i64 b] 38)).alloc (.cells #[.int .i64 x1, .int .i64 y1, .bool false] 25)).alloc (.cells #[.int .i64 x1, .int .i64 y2, .bool false] 25)).alloc (.cells #[.int .i64 0, .int .i64 0, .bool false] 25) := ⟨_, rfl⟩
      rw [← hN, ← hw1] at hf
      rw [← hN, ← hw1]
      have HN := Lib.hid hN; clear hN hw1
      have HF := Lib.hid hf
      obtain ⟨c0, c1, c2, s0, s1, s2, t0, t1, t2, _⟩ := hf.nine
      clear hf
      go_region_held3 (fun w' => w'.cell? ⟨N, 0, none⟩ = some (.int .i64 p) ∧ w'.cell? ⟨N, 1, none⟩ = some (.int .i64 a) ∧ w'.cell? ⟨N, 2, none⟩ = some (.int .i64 b) ∧ w'.cell? ⟨N + 1, 0, none⟩ = some (.int .i64 x1) ∧ w'.cell? ⟨N + 1, 1, none⟩ = some (.int .i64 y1) ∧ w'.cell? ⟨N + 1, 2, none⟩ = some (.bool false) ∧ w'.cell? ⟨N + 2, 0, none⟩ = some (.int .i64 x1) ∧ w'.cell? ⟨N + 2, 1, none⟩ = some (.int .i64 y2) ∧ w'.cell? ⟨N + 2, 2, none⟩ = some (.bool false) ∧ Four w N p a b x1 y1 x1 y2 w')
        (first | exact HF.out.drew | exact Nine.keep (by assumption) HK)
        (first
          | (go_at_call 15; refine (neg_any p a b (x1 : Int) y2 false (by omega) (by omega) h4 _).mono ?_; rintro e w' ⟨rfl, HK⟩; rw [← HNY.out]; simp only [encS]))
      rename_i hheld
      clear HF c0 c1 c2 s0 s1 s2 t0 t1 t2
      obtain ⟨c0, c1, c2, s0, s1, s2, t0, t1, t2, hf⟩ := hheld
      have f4 := hf.2.2.2.1.fr; have r0 := hf.2.2.2.1.c0; have r1 := hf.2.2.2.1.c1; have r2 := hf.2.2.2.1.c2
      have HF := Lib.hid hf; clear hf
      go_wp2
      refine bodyPost_ret (v := .agg #[.int .i64 0, .int .i64 0, .bool true]) ?_ rfl ⟨.inl ⟨rfl, HNY.out, rfl⟩, ?_⟩
      · simp only [results, hres]
        clear HF
        go_simp
      · have hle : w.heap.size ≤ N + 1 + 1 + 1 := by have := HN.out; omega
        exact ((HF.out.2.2.2.2.setCell (p := ⟨N + 1 + 1 + 1, 0, none⟩) (.inl hle) _).setCell (p := ⟨N + 1 + 1 + 1, 1, none⟩) (.inl hle) _).setCell (p := ⟨N + 1 + 1 + 1, 2, none⟩) (.inl hle) _
    · have hyy : y1 = y2 := HON.out rfl (by rw [← HNY.out]; omega)
      subst hyy
      have hy2 : ¬ (y1 : Int) = (ny : Int) := by omega
      obtain ⟨xx, hxx⟩ : ∃ xx, xx = 3 * x1 * x1 := ⟨_, rfl⟩
      have lxx : xx ≤ 3 * 1009 * 1009 := by rw [hxx]; exact Nat.mul_le_mul (by omega) (by omega)
      have exx : IntKind.i64.wrap (3 * (x1 : Int) * (x1 : Int)) = (xx : Int) := by rw [hxx, Int.natCast_mul, Int.natCast_mul]; exact IntWalk.i64_in _ (by have : ((3 : Nat) : Int) * (x1 : Int) * (x1 : Int) = ((3 * x1 * x1 : Nat) : Int) := (by simp); rw [show (3 : Int) = ((3 : Nat) : Int) from rfl, this, ← hxx]; omega)
      have HXX := Lib.hid hxx; clear hxx
      go_enter Try.func12, Try.ntmps12
      go_wp2
      have hf := Four.start w p a b x1 y1 x1 y1
      obtain ⟨N, hN⟩ : ∃ N, N = w.heap.size := ⟨_, rfl⟩
      obtain ⟨w1, hw1⟩ : ∃ w1, w1 = (((w.alloc (.cells #[.int .i64 p, .int .i64 a, .int .i64 b] 38)).alloc (.cells #[.int .i64 x1, .int .i64 y1, .bool false] 25)).alloc (.cells #[.int .i64 x1, .int .i64 y1, .bool false] 25)).alloc (.cells #[.int .i64 0, .int .i64 0, .bool false] 25) := ⟨_, rfl⟩
      rw [← hN, ← hw1] at hf
      rw [← hN, ← hw1]
      have HN := Lib.hid hN; clear hN hw1
      have HF := Lib.hid hf
      obtain ⟨c0, c1, c2, s0, s1, s2, t0, t1, t2, _⟩ := hf.nine
      clear hf
      go_region_held3 (fun w' => w'.cell? ⟨N, 0, none⟩ = some (.int .i64 p) ∧ w'.cell? ⟨N, 1, none⟩ = some (.int .i64 a) ∧ w'.cell? ⟨N, 2, none⟩ = some (.int .i64 b) ∧ w'.cell? ⟨N + 1, 0, none⟩ = some (.int .i64 x1) ∧ w'.cell? ⟨N + 1, 1, none⟩ = some (.int .i64 y1) ∧ w'.cell? ⟨N + 1, 2, none⟩ = some (.bool false) ∧ w'.cell? ⟨N + 2, 0, none⟩ = some (.int .i64 x1) ∧ w'.cell? ⟨N + 2, 1, none⟩ = some (.int .i64 y1) ∧ w'.cell? ⟨N + 2, 2, none⟩ = some (.bool false) ∧ Four w N p a b x1 y1 x1 y1 w')
        (first | exact HF.out.drew | exact Nine.keep (by assumption) HK)
        (first
          | (go_at_call 15; refine (neg_any p a b (x1 : Int) y1 false (by omega) (by omega) h4 _).mono ?_; rintro e w' ⟨rfl, HK⟩; rw [← HNY.out]; simp only [encS]))
      rename_i hheld
      clear HF c0 c1 c2 s0 s1 s2 t0 t1 t2
      obtain ⟨c0, c1, c2, s0, s1, s2, t0, t1, t2, hf⟩ := hheld
      have f4 := hf.2.2.2.1.fr; have r0 := hf.2.2.2.1.c0; have r1 := hf.2.2.2.1.c1; have r2 := hf.2.2.2.1.c2
      have HF := Lib.hid hf; clear hf
      go_upto_region 10 with ((go_at_call 20; (with_reducible refine (over_any p a b _ _ HP.out (by omega) _).mono ?_); rintro e w' ⟨k, hk1, hk2, rfl, HK⟩; have HK2 := Lib.hid hk2; clear hk2; clear c0 c1 c2 s0 s1 s2 t0 t1 t2 f4 r0 r1 r2; have hf := HF.out.keep HK; clear HF; obtain ⟨c0, c1, c2, s0, s1, s2, t0, t1, t2, _⟩ := hf.nine; have f4 := hf.2.2.2.1.fr; have r0 := hf.2.2.2.1.c0; have r1 := hf.2.2.2.1.c1; have r2 := hf.2.2.2.1.c2; have HF := Lib.hid hf; clear hf HK))
      obtain ⟨kk, hkk⟩ : ∃ kk, kk = k * k := ⟨_, rfl⟩
      have lkk : kk ≤ 1009 * 1009 := by rw [hkk]; exact Nat.mul_le_mul (by omega) (by omega)
      have ekk : IntKind.i64.wrap ((k : Int) * (k : Int)) = (kk : Int) := by rw [hkk, Int.natCast_mul]; exact IntWalk.i64_in _ (by rw [← Int.natCast_mul, ← hkk]; omega)
      have hq0 := Int.emod_nonneg ((kk : Int) - x1 - x1) (show (p : Int) ≠ 0 by omega)
      have hq1 := Int.emod_lt_of_pos ((kk : Int) - x1 - x1) (show (0 : Int) < p by omega)
      obtain ⟨x3, hx3⟩ : ∃ x3 : Nat, (x3 : Int) = ((kk : Int) - x1 - x1) % p := ⟨(((kk : Int) - x1 - x1) % p).toNat, Int.toNat_of_nonneg hq0⟩
      have lx3 : x3 < p := by omega
      have HX3 := Lib.hid hx3; have HKK := Lib.hid hkk; clear hx3 hkk hq0 hq1
      obtain ⟨z, hz⟩ : ∃ z : Int, z = (k : Int) * ((x1 : Int) - x3) := ⟨_, rfl⟩
      have lz : -1018081 ≤ z ∧ z ≤ 1018081 := by
        have e1 : (k : Int) * ((x1 : Int) - x3) = ((k * x1 : Nat) : Int) - ((k * x3 : Nat) : Int) := by rw [Int.mul_sub]; simp
        have e2 : k * x1 ≤ 1009 * 1009 := Nat.mul_le_mul (by omega) (by omega)
        have e3 : k * x3 ≤ 1009 * 1009 := Nat.mul_le_mul (by omega) (by omega)
        rw [hz, e1]; omega
      have ez : IntKind.i64.wrap ((k : Int) * ((x1 : Int) - x3)) = z := by rw [← hz]; exact IntWalk.i64_in _ (by omega)
      have hq0 := Int.emod_nonneg (z - y1) (show (p : Int) ≠ 0 by omega)
      have hq1 := Int.emod_lt_of_pos (z - y1) (show (0 : Int) < p by omega)
      obtain ⟨y3, hy3⟩ : ∃ y3 : Nat, (y3 : Int) = (z - y1) % p := ⟨((z - y1) % p).toNat, Int.toNat_of_nonneg hq0⟩
      have ly3 : y3 < p := by omega
      have HY3 := Lib.hid hy3; have HZ := Lib.hid hz; clear hy3 hz hq0 hq1
      go_wp2_with (first
        | (go_at_call 21; ((with_reducible refine (cmod_any p a b ((kk : Int) - x1 - x1) (by omega) (by omega) _).mono ?_); rintro e w' ⟨rfl, HK⟩; rw [← HX3.out]; clear c0 c1 c2 s0 s1 s2 t0 t1 t2 f4 r0 r1 r2; have hf := HF.out.keep HK; clear HF; obtain ⟨c0, c1, c2, s0, s1, s2, t0, t1, t2, _⟩ := hf.nine; have f4 := hf.2.2.2.1.fr; have r0 := hf.2.2.2.1.c0; have r1 := hf.2.2.2.1.c1; have r2 := hf.2.2.2.1.c2; have HF := Lib.hid hf; clear hf HK))
        | (go_at_call 21; ((with_reducible refine (cmod_any p a b (z - y1) (by omega) (by omega) _).mono ?_); rintro e w' ⟨rfl, HK⟩; rw [← HY3.out]; clear c0 c1 c2 s0 s1 s2 t0 t1 t2 f4 r0 r1 r2; have hf := HF.out.keep HK; clear HF; obtain ⟨c0, c1, c2, s0, s1, s2, t0, t1, t2, _⟩ := hf.nine; have f4 := hf.2.2.2.1.fr; have r0 := hf.2.2.2.1.c0; have r1 := hf.2.2.2.1.c1; have r2 := hf.2.2.2.1.c2; have HF := Lib.hid hf; clear hf HK)))
      refine bodyPost_ret (v := .agg #[.int .i64 x3, .int .i64 y3, .bool false]) ?_ rfl ⟨.inr ⟨fun h => hy (by have := HNY.out; omega), k, x3, y3, hk1, lx3, ly3, (by unfold Chord; rw [if_pos rfl]; have hh := HK2.out; rw [HXX.out] at hh; intro h0; have h9 := hh h0; simpa using h9), by rw [HX3.out, HKK.out]; simp, by rw [HY3.out, HZ.out], rfl⟩, ?_⟩
      · simp only [results, hres]
        clear HF
        go_simp
      · have hle : w.heap.size ≤ N + 1 + 1 + 1 := by have := HN.out; omega
        exact ((HF.out.2.2.2.2.setCell (p := ⟨N + 1 + 1 + 1, 0, none⟩) (.inl hle) _).setCell (p := ⟨N + 1 + 1 + 1, 1, none⟩) (.inl hle) _).setCell (p := ⟨N + 1 + 1 + 1, 2, none⟩) (.inl hle) _
  · have hx2 : ¬ (x1 : Int) = (x2 : Int) := by omega
    go_enter Try.func12, Try.ntmps12
    go_wp2
    have hf := Four.start w p a b x1 y1 x2 y2
    obtain ⟨N, hN⟩ : ∃ N, N = w.heap.size := ⟨_, rfl⟩
    obtain ⟨w1, hw1⟩ : ∃ w1, w1 = (((w.alloc (.cells #[.int .i64 p, .int .i64 a, .int .i64 b] 38)).alloc (.cells #[.int .i64 x1, .int .i64 y1, .bool false] 25)).alloc (.cells #[.int .i64 x2, .int .i64 y2, .bool false] 25)).alloc (.cells #[.int .i64 0, .int .i64 0, .bool false] 25) := ⟨_, rfl⟩
    rw [← hN, ← hw1] at hf
    rw [← hN, ← hw1]
    have HN := Lib.hid hN; clear hN hw1
    have HF := Lib.hid hf
    obtain ⟨c0, c1, c2, s0, s1, s2, t0, t1, t2, _⟩ := hf.nine
    clear hf
    go_region_held3 (fun w' => w'.cell? ⟨N, 0, none⟩ = some (.int .i64 p) ∧ w'.cell? ⟨N, 1, none⟩ = some (.int .i64 a) ∧ w'.cell? ⟨N, 2, none⟩ = some (.int .i64 b) ∧ w'.cell? ⟨N + 1, 0, none⟩ = some (.int .i64 x1) ∧ w'.cell? ⟨N + 1, 1, none⟩ = some (.int .i64 y1) ∧ w'.cell? ⟨N + 1, 2, none⟩ = some (.bool false) ∧ w'.cell? ⟨N + 2, 0, none⟩ = some (.int .i64 x2) ∧ w'.cell? ⟨N + 2, 1, none⟩ = some (.int .i64 y2) ∧ w'.cell? ⟨N + 2, 2, none⟩ = some (.bool false) ∧ Four w N p a b x1 y1 x2 y2 w')
      (first | exact HF.out.drew | exact Nine.keep (by assumption) HK)
      (first
        | (go_at_call 15; refine (neg_any p a b (x2 : Int) y2 false (by omega) (by omega) h4 _).mono ?_; rintro e w' ⟨rfl, HK⟩; rw [← HNY.out]; simp only [encS]))
    rename_i hheld
    clear HF c0 c1 c2 s0 s1 s2 t0 t1 t2
    obtain ⟨c0, c1, c2, s0, s1, s2, t0, t1, t2, hf⟩ := hheld
    have f4 := hf.2.2.2.1.fr; have r0 := hf.2.2.2.1.c0; have r1 := hf.2.2.2.1.c1; have r2 := hf.2.2.2.1.c2
    have HF := Lib.hid hf; clear hf
    go_upto_region 10 with ((go_at_call 20; (with_reducible refine (over_any p a b _ _ HP.out (by omega) _).mono ?_); rintro e w' ⟨k, hk1, hk2, rfl, HK⟩; have HK2 := Lib.hid hk2; clear hk2; clear c0 c1 c2 s0 s1 s2 t0 t1 t2 f4 r0 r1 r2; have hf := HF.out.keep HK; clear HF; obtain ⟨c0, c1, c2, s0, s1, s2, t0, t1, t2, _⟩ := hf.nine; have f4 := hf.2.2.2.1.fr; have r0 := hf.2.2.2.1.c0; have r1 := hf.2.2.2.1.c1; have r2 := hf.2.2.2.1.c2; have HF := Lib.hid hf; clear hf HK))
    obtain ⟨kk, hkk⟩ : ∃ kk, kk = k * k := ⟨_, rfl⟩
    have lkk : kk ≤ 1009 * 1009 := by rw [hkk]; exact Nat.mul_le_mul (by omega) (by omega)
    have ekk : IntKind.i64.wrap ((k : Int) * (k : Int)) = (kk : Int) := by rw [hkk, Int.natCast_mul]; exact IntWalk.i64_in _ (by rw [← Int.natCast_mul, ← hkk]; omega)
    have hq0 := Int.emod_nonneg ((kk : Int) - x1 - x2) (show (p : Int) ≠ 0 by omega)
    have hq1 := Int.emod_lt_of_pos ((kk : Int) - x1 - x2) (show (0 : Int) < p by omega)
    obtain ⟨x3, hx3⟩ : ∃ x3 : Nat, (x3 : Int) = ((kk : Int) - x1 - x2) % p := ⟨(((kk : Int) - x1 - x2) % p).toNat, Int.toNat_of_nonneg hq0⟩
    have lx3 : x3 < p := by omega
    have HX3 := Lib.hid hx3; have HKK := Lib.hid hkk; clear hx3 hkk hq0 hq1
    obtain ⟨z, hz⟩ : ∃ z : Int, z = (k : Int) * ((x1 : Int) - x3) := ⟨_, rfl⟩
    have lz : -1018081 ≤ z ∧ z ≤ 1018081 := by
      have e1 : (k : Int) * ((x1 : Int) - x3) = ((k * x1 : Nat) : Int) - ((k * x3 : Nat) : Int) := by rw [Int.mul_sub]; simp
      have e2 : k * x1 ≤ 1009 * 1009 := Nat.mul_le_mul (by omega) (by omega)
      have e3 : k * x3 ≤ 1009 * 1009 := Nat.mul_le_mul (by omega) (by omega)
      rw [hz, e1]; omega
    have ez : IntKind.i64.wrap ((k : Int) * ((x1 : Int) - x3)) = z := by rw [← hz]; exact IntWalk.i64_in _ (by omega)
    have hq0 := Int.emod_nonneg (z - y1) (show (p : Int) ≠ 0 by omega)
    have hq1 := Int.emod_lt_of_pos (z - y1) (show (0 : Int) < p by omega)
    obtain ⟨y3, hy3⟩ : ∃ y3 : Nat, (y3 : Int) = (z - y1) % p := ⟨((z - y1) % p).toNat, Int.toNat_of_nonneg hq0⟩
    have ly3 : y3 < p := by omega
    have HY3 := Lib.hid hy3; have HZ := Lib.hid hz; clear hy3 hz hq0 hq1
    go_wp2_with (first
      | (go_at_call 21; ((with_reducible refine (cmod_any p a b ((kk : Int) - x1 - x2) (by omega) (by omega) _).mono ?_); rintro e w' ⟨rfl, HK⟩; rw [← HX3.out]; clear c0 c1 c2 s0 s1 s2 t0 t1 t2 f4 r0 r1 r2; have hf := HF.out.keep HK; clear HF; obtain ⟨c0, c1, c2, s0, s1, s2, t0, t1, t2, _⟩ := hf.nine; have f4 := hf.2.2.2.1.fr; have r0 := hf.2.2.2.1.c0; have r1 := hf.2.2.2.1.c1; have r2 := hf.2.2.2.1.c2; have HF := Lib.hid hf; clear hf HK))
      | (go_at_call 21; ((with_reducible refine (cmod_any p a b (z - y1) (by omega) (by omega) _).mono ?_); rintro e w' ⟨rfl, HK⟩; rw [← HY3.out]; clear c0 c1 c2 s0 s1 s2 t0 t1 t2 f4 r0 r1 r2; have hf := HF.out.keep HK; clear HF; obtain ⟨c0, c1, c2, s0, s1, s2, t0, t1, t2, _⟩ := hf.nine; have f4 := hf.2.2.2.1.fr; have r0 := hf.2.2.2.1.c0; have r1 := hf.2.2.2.1.c1; have r2 := hf.2.2.2.1.c2; have HF := Lib.hid hf; clear hf HK)))
    refine bodyPost_ret (v := .agg #[.int .i64 x3, .int .i64 y3, .bool false]) ?_ rfl ⟨.inr ⟨fun h => hx h.1, k, x3, y3, hk1, lx3, ly3, (by unfold Chord; rw [if_neg hx]; exact HK2.out), by rw [HX3.out, HKK.out]; simp, by rw [HY3.out, HZ.out], rfl⟩, ?_⟩
    · simp only [results, hres]
      clear HF
      go_simp
    · have hle : w.heap.size ≤ N + 1 + 1 + 1 := by have := HN.out; omega
      exact ((HF.out.2.2.2.2.setCell (p := ⟨N + 1 + 1 + 1, 0, none⟩) (.inl hle) _).setCell (p := ⟨N + 1 + 1 + 1, 1, none⟩) (.inl hle) _).setCell (p := ⟨N + 1 + 1 + 1, 2, none⟩) (.inl hle) _
end Go.Proofs.Ytlfocajlkelnbaa
