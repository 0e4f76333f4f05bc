/-
  Curve: neg, has.
-/
import Derived.Test.YtlfocajlkelnbaaCurveC
import Derived.Deep.QuietTactic
import Derived.BigQuiet
namespace Go.Proofs.Ytlfocajlkelnbaa
open Go.RowKit
/-- a spot, as the code holds it -/
abbrev encS (x y : Int) (far : Bool) : Value := .agg #[.int .i64 x, .int .i64 y, .bool far]
/-- a block of three cells -/
def Row3 (w : World) (B : Nat) (t : TypeId) (u v z : Value) : Prop := w.heap[B]? = some (.cells #[u, v, z] t (0, 0))
namespace Row3
variable {w w' : World} {B : Nat} {t : TypeId} {u v z : Value}
theorem lt (h : Row3 w B t u v z) : B < w.heap.size := by
  unfold Row3 at h
  rcases Nat.lt_or_ge B w.heap.size with h' | h'
  · exact h'
  · rw [Array.getElem?_eq_none h'] at h; cases h
theorem c0 (h : Row3 w B t u v z) : w.cell? ⟨B, 0, none⟩ = some u := by rw [cell_of_row _ _ _ _ _ _ h]; rfl
theorem c1 (h : Row3 w B t u v z) : w.cell? ⟨B, 1, none⟩ = some v := by rw [cell_of_row _ _ _ _ _ _ h]; rfl
theorem c2 (h : Row3 w B t u v z) : w.cell? ⟨B, 2, none⟩ = some z := by rw [cell_of_row _ _ _ _ _ _ h]; rfl
theorem fr (h : Row3 w B t u v z) (o : Nat) : w.frozen? ⟨B, o, none⟩ = false := by unfold Row3 at h; simp [World.frozen?, h]
theorem keep (h : Row3 w B t u v z) (k : Keep (fun _ => False) w w') : Row3 w' B t u v z := (k.block _ h.lt (fun h => h)).trans h
theorem alloc (h : Row3 w B t u v z) (o : Obj) : Row3 (w.alloc o) B t u v z := (Below.heap_alloc w o B h.lt).trans h
theorem drew (h : Row3 w B t u v z) : Row3 w.drew B t u v z := h
theorem other (h : Row3 w B t u v z) {p : Addr} (x : Value) (hp : B ≠ p.block) : Row3 (w.setCell p x) B t u v z := (Below.heap_setCell w p x B hp).trans h
theorem s0 (h : Row3 w B t u v z) (x : Value) : Row3 (w.setCell ⟨B, 0, none⟩ x) B t x v z := by
  unfold Row3 at h ⊢; simp [World.setCell, Array.getElem?_modify, h]
theorem s1 (h : Row3 w B t u v z) (x : Value) : Row3 (w.setCell ⟨B, 1, none⟩ x) B t u x z := by
  unfold Row3 at h ⊢; simp [World.setCell, Array.getElem?_modify, h]
theorem s2 (h : Row3 w B t u v z) (x : Value) : Row3 (w.setCell ⟨B, 2, none⟩ x) B t u v x := by
  unfold Row3 at h ⊢; simp [World.setCell, Array.getElem?_modify, h]
theorem new (w : World) (t : TypeId) (u v z : Value) : Row3 (w.alloc (.cells #[u, v, z] t)) w.heap.size t u v z := World.alloc_heap_new w _
end Row3
theorem neg_any (p a b : Nat) (x : Int) (y : Nat) (far : Bool) (hp0 : 0 < p) (hp1 : p ≤ 1048576) (hy : y < p) (w : World) :
    Calls Try.prog 15 #[encC p a b, encS x y far] w fun e w' => e = .returned (encS x (-(y : Int) % p) far) ∧ Keep (fun _ => False) w w' := by
  unfold encC encS
  have hres : Try.f15.results = #[.cell 4 25] := by kernel_rfl
  have r2 : Row3 (((w.alloc (.cells #[.int .i64 p, .int .i64 a, .int .i64 b] 38)).alloc (.cells #[.int .i64 x, .int .i64 y, .bool far] 25)).alloc (.cells #[.int .i64 0, .int .i64 0, .bool false] 25)) (w.heap.size + 1) 25 (.int .i64 x) (.int .i64 y) (.bool far) := by
    have := Row3.new (w.alloc (.cells #[.int .i64 p, .int .i64 a, .int .i64 b] 38)) 25 (.int .i64 x) (.int .i64 y) (.bool far)
    rw [World.size_alloc] at this; exact this.alloc _
  have r3 : Row3 (((w.alloc (.cells #[.int .i64 p, .int .i64 a, .int .i64 b] 38)).alloc (.cells #[.int .i64 x, .int .i64 y, .bool far] 25)).alloc (.cells #[.int .i64 0, .int .i64 0, .bool false] 25)) (w.heap.size + 1 + 1) 25 (.int .i64 0) (.int .i64 0) (.bool false) := by
    have := Row3.new ((w.alloc (.cells #[.int .i64 p, .int .i64 a, .int .i64 b] 38)).alloc (.cells #[.int .i64 x, .int .i64 y, .bool far] 25)) 25 (.int .i64 0) (.int .i64 0) (.bool false)
    rw [World.size_alloc, World.size_alloc] at this; exact this
  have R2 := Lib.hid r2; have R3 := Lib.hid r3; clear r2 r3
  have hr : IntKind.i64.wrap (-(y : Int)) = -(y : Int) := IntWalk.i64_in _ (by omega)
  go_enter Try.func15, Try.ntmps15
  go_wp2_with (go_at_call 21; (refine (cmod_any p a b (-(y : Int)) (by omega) hp1 _).mono ?_); rintro e w' ⟨rfl, HK⟩; have q2 := R2.out.keep HK; have q3 := R3.out.keep HK; have Q2 := Lib.hid q2; have Q3 := Lib.hid q3; have a0 := q2.c0; have a1 := q2.c1; have a2 := q2.c2; have b0 := q3.c0; have b1 := q3.c1; have b2 := q3.c2; have f2 := q2.fr; have f3 := q3.fr; clear q2 q3)
  refine bodyPost_ret (v := .agg #[.int .i64 x, .int .i64 (-(y : Int) % p), .bool far]) ?_ rfl ⟨rfl, ?_⟩
  · simp only [results, hres]
    go_simp
  · exact ((((((((Keep.refl _ w).alloc _).alloc _).alloc _).trans HK).setCell (.inl (by simp)) _).setCell (.inl (by simp; omega)) _).setCell (.inl (by simp; omega)) _).setCell (.inl (by simp; omega)) _
/-- a spot of the curve -/
def SpotOk (p a b : Nat) (x y : Int) (far : Bool) : Prop := (far = true ∧ x = 0 ∧ y = 0) ∨ (far = false ∧ 0 ≤ x ∧ x < p ∧ 0 ≤ y ∧ y < p ∧ y * y % p = rightN p a b x.toNat)
instance (p a b : Nat) (x y : Int) (far : Bool) : Decidable (SpotOk p a b x y far) := by unfold SpotOk; infer_instance
def Held5 (w0 : World) (B p a b : Nat) (x y : Int) (w : World) : Prop := w.cell? ⟨B, 0, none⟩ = some (.int .i64 p) ∧ w.cell? ⟨B, 1, none⟩ = some (.int .i64 a) ∧ w.cell? ⟨B, 2, none⟩ = some (.int .i64 b) ∧ w.cell? ⟨B + 1, 0, none⟩ = some (.int .i64 x) ∧ w.cell? ⟨B + 1, 1, none⟩ = some (.int .i64 y) ∧ Keep (fun _ => False) w0 w
theorem Held5.drew {w0 : World} {B p a b : Nat} {x y : Int} {w : World} (h : Held5 w0 B p a b x y w) : Held5 w0 B p a b x y w.drew := ⟨h.1, h.2.1, h.2.2.1, h.2.2.2.1, h.2.2.2.2.1, h.2.2.2.2.2.drew⟩
theorem Held5.keep {w0 : World} {B p a b : Nat} {x y : Int} {w w' : World} (h : Held5 w0 B p a b x y w) (k : Keep (fun _ => False) w w') : Held5 w0 B p a b x y w' := ⟨keep_cell k h.1, keep_cell k h.2.1, keep_cell k h.2.2.1, keep_cell k h.2.2.2.1, keep_cell k h.2.2.2.2.1, h.2.2.2.2.2.trans k⟩
set_option maxHeartbeats 1000000 in
theorem has_any (p a b : Nat) (x y : Int) (far : Bool) (hp0 : 0 < p) (hp1 : p ≤ 1048576) (ha : a < p) (hb : b < p) (w : World) :
    Calls Try.prog 19 #[encC p a b, encS x y far] w fun e w' => e = .returned (.bool (decide (SpotOk p a b x y far))) ∧ Keep (fun _ => False) w w' := by
  cases far with
  | true =>
    have hd : decide (SpotOk p a b x y true) = (decide (x = 0) && decide (y = 0)) := by
      rw [Bool.eq_iff_iff, decide_eq_true_iff, Bool.and_eq_true, decide_eq_true_iff, decide_eq_true_iff]
      simp [SpotOk]
    have HD := Lib.hid hd; clear hd
    unfold encC encS
    by_cases hx : x = 0
    · subst hx
      by_cases hy : y = 0
      · subst hy
        go_enter Try.func19, Try.ntmps19
        go_wp2
        go_ret
        exact ⟨by rw [HD.out]; rfl, ((Keep.refl _ w).alloc _).alloc _⟩
      · go_enter Try.func19, Try.ntmps19
        go_wp2
        go_ret
        exact ⟨by rw [HD.out]; simp [hy], ((Keep.refl _ w).alloc _).alloc _⟩
    · go_enter Try.func19, Try.ntmps19
      go_wp2
      go_ret
      exact ⟨by rw [HD.out]; simp [hx], ((Keep.refl _ w).alloc _).alloc _⟩
  | false =>
    have b1 : ((p : Int) == 0) = false := by simp; omega
    have hpn : ¬ p = 0 := by omega
    unfold encC encS
    --HAS
    --HAS
    by_cases hxy : x < y
    · by_cases h1 : 0 ≤ x
      · by_cases h2 : y < p
        · obtain ⟨xn, rfl⟩ := Int.eq_ofNat_of_zero_le (show 0 ≤ x by omega)
          obtain ⟨yn, rfl⟩ := Int.eq_ofNat_of_zero_le (show 0 ≤ y by omega)
          have hxp : xn < p := by omega
          have hyp : yn < p := by omega
          have hd : decide (SpotOk p a b xn yn false) = ((((yn * yn % p : Nat) : Int)) == ((rightN p a b xn : Nat) : Int)) := by
            rw [Bool.eq_iff_iff, decide_eq_true_iff, beq_iff_eq]
            simp [SpotOk]; omega
          have HD := Lib.hid hd; clear hd
          obtain ⟨s1, g1⟩ : ∃ s, s = yn * yn := ⟨_, rfl⟩
          have l1 : s1 ≤ 1048576 * 1048576 := by rw [g1]; exact Nat.mul_le_mul (by omega) (by omega)
          obtain ⟨r1, g2⟩ : ∃ r, r = s1 % p := ⟨_, rfl⟩
          have m1 : r1 < p := by rw [g2]; exact Nat.mod_lt _ hp0
          have w1' : IntKind.i64.wrap ((yn : Int) * (yn : Int)) = (s1 : Int) := by rw [g1, Int.natCast_mul]; exact IntWalk.i64_in _ (by rw [← Int.natCast_mul, ← g1]; omega)
          have t1 : (s1 : Int).tmod (p : Int) = (r1 : Int) := by rw [g2]; rfl
          have e1 : (s1 : Int) % (p : Int) = (r1 : Int) := by rw [g2]; rfl
          have G1 := Lib.hid g1; have G2 := Lib.hid g2; clear g1 g2
          have d1 : decide (xn < p) = true := decide_eq_true hxp
          have d2 : decide (yn < p) = true := decide_eq_true hyp
          have d3 : xn < yn := by omega
          have d4 : ¬ yn < xn := by omega
          clear hxy
          go_enter Try.func19, Try.ntmps19
          go_wp2
          have hc := (Row3.new w 38 (.int .i64 p) (.int .i64 a) (.int .i64 b)).alloc (.cells #[.int .i64 (xn : Int), .int .i64 (yn : Int), .bool false] 25)
          have hs := Row3.new (w.alloc (.cells #[.int .i64 p, .int .i64 a, .int .i64 b] 38)) 25 (.int .i64 (xn : Int)) (.int .i64 (yn : Int)) (.bool false)
          have hk := ((Keep.refl (fun _ => False) w).alloc (.cells #[.int .i64 p, .int .i64 a, .int .i64 b] 38)).alloc (.cells #[.int .i64 (xn : Int), .int .i64 (yn : Int), .bool false] 25)
          rw [World.size_alloc] at hs
          obtain ⟨B, hB⟩ : ∃ B, B = w.heap.size := ⟨_, rfl⟩
          obtain ⟨w1, hw1⟩ : ∃ w1, w1 = (w.alloc (.cells #[.int .i64 p, .int .i64 a, .int .i64 b] 38)).alloc (.cells #[.int .i64 (xn : Int), .int .i64 (yn : Int), .bool false] 25) := ⟨_, rfl⟩
          rw [← hB, ← hw1] at hc hs
          rw [← hw1] at hk
          rw [← hB, ← hw1]
          clear hB hw1
          have c0 := hc.c0; have c1 := hc.c1; have c2 := hc.c2; have s0 := hs.c0; have s1' := hs.c1
          clear hc hs
          go_region_held3 (fun w' => w'.cell? ⟨B, 0, none⟩ = some (.int .i64 p) ∧ w'.cell? ⟨B, 1, none⟩ = some (.int .i64 a) ∧ w'.cell? ⟨B, 2, none⟩ = some (.int .i64 b) ∧ w'.cell? ⟨B + 1, 0, none⟩ = some (.int .i64 (xn : Int)) ∧ w'.cell? ⟨B + 1, 1, none⟩ = some (.int .i64 (yn : Int)) ∧ Keep (fun _ => False) w w')
            (first | exact Held5.drew ⟨c0, c1, c2, s0, s1', hk⟩ | exact Held5.keep (by assumption) HK)
            (first
              | (go_at_call 17; refine (right_any p a b xn hp0 hp1 ha hb hxp _).mono ?_; rintro e w' ⟨rfl, HK⟩))
          rename_i hheld
          have hk2 := hheld.2.2.2.2.2
          clear hheld
          go_wp2
          go_ret
          refine ⟨?_, hk2⟩
          rw [HD.out, ← G1.out, ← G2.out]
          rfl
        · have hd : decide (SpotOk p a b x y false) = false := by
            simp [SpotOk]; omega
          have HD := Lib.hid hd; clear hd
          have c1 : decide (0 ≤ x) = true := by simpa using h1
          have c2 : decide (y < (p : Int)) = false := by simpa using h2
          clear h1 h2
          go_enter Try.func19, Try.ntmps19
          go_wp2
          go_quiet (fail)
          go_wp2
          go_ret
          exact ⟨by rw [HD.out]; rfl, (((Keep.refl _ w).alloc _).alloc _).drewN _⟩
      · have hd : decide (SpotOk p a b x y false) = false := by
          simp [SpotOk]; omega
        have HD := Lib.hid hd; clear hd
        have c1 : decide (0 ≤ x) = false := by simpa using h1
        clear h1
        go_enter Try.func19, Try.ntmps19
        go_wp2
        go_quiet (fail)
        go_wp2
        go_ret
        exact ⟨by rw [HD.out]; rfl, (((Keep.refl _ w).alloc _).alloc _).drewN _⟩
    · by_cases hyx : y < x
      · by_cases h1 : 0 ≤ y
        · by_cases h2 : x < p
          · obtain ⟨xn, rfl⟩ := Int.eq_ofNat_of_zero_le (show 0 ≤ x by omega)
            obtain ⟨yn, rfl⟩ := Int.eq_ofNat_of_zero_le (show 0 ≤ y by omega)
            have hxp : xn < p := by omega
            have hyp : yn < p := by omega
            have hd : decide (SpotOk p a b xn yn false) = ((((yn * yn % p : Nat) : Int)) == ((rightN p a b xn : Nat) : Int)) := by
              rw [Bool.eq_iff_iff, decide_eq_true_iff, beq_iff_eq]
              simp [SpotOk]; omega
            have HD := Lib.hid hd; clear hd
            obtain ⟨s1, g1⟩ : ∃ s, s = yn * yn := ⟨_, rfl⟩
            have l1 : s1 ≤ 1048576 * 1048576 := by rw [g1]; exact Nat.mul_le_mul (by omega) (by omega)
            obtain ⟨r1, g2⟩ : ∃ r, r = s1 % p := ⟨_, rfl⟩
            have m1 : r1 < p := by rw [g2]; exact Nat.mod_lt _ hp0
            have w1' : IntKind.i64.wrap ((yn : Int) * (yn : Int)) = (s1 : Int) := by rw [g1, Int.natCast_mul]; exact IntWalk.i64_in _ (by rw [← Int.natCast_mul, ← g1]; omega)
            have t1 : (s1 : Int).tmod (p : Int) = (r1 : Int) := by rw [g2]; rfl
            have e1 : (s1 : Int) % (p : Int) = (r1 : Int) := by rw [g2]; rfl
            have G1 := Lib.hid g1; have G2 := Lib.hid g2; clear g1 g2
            have d1 : decide (xn < p) = true := decide_eq_true hxp
            have d2 : decide (yn < p) = true := decide_eq_true hyp
            have d3 : yn < xn := by omega
            have d4 : ¬ xn < yn := by omega
            clear hyx
            clear hxy
            go_enter Try.func19, Try.ntmps19
            go_wp2
            have hc := (Row3.new w 38 (.int .i64 p) (.int .i64 a) (.int .i64 b)).alloc (.cells #[.int .i64 (xn : Int), .int .i64 (yn : Int), .bool false] 25)
            have hs := Row3.new (w.alloc (.cells #[.int .i64 p, .int .i64 a, .int .i64 b] 38)) 25 (.int .i64 (xn : Int)) (.int .i64 (yn : Int)) (.bool false)
            have hk := ((Keep.refl (fun _ => False) w).alloc (.cells #[.int .i64 p, .int .i64 a, .int .i64 b] 38)).alloc (.cells #[.int .i64 (xn : Int), .int .i64 (yn : Int), .bool false] 25)
            rw [World.size_alloc] at hs
            obtain ⟨B, hB⟩ : ∃ B, B = w.heap.size := ⟨_, rfl⟩
            obtain ⟨w1, hw1⟩ : ∃ w1, w1 = (w.alloc (.cells #[.int .i64 p, .int .i64 a, .int .i64 b] 38)).alloc (.cells #[.int .i64 (xn : Int), .int .i64 (yn : Int), .bool false] 25) := ⟨_, rfl⟩
            rw [← hB, ← hw1] at hc hs
            rw [← hw1] at hk
            rw [← hB, ← hw1]
            clear hB hw1
            have c0 := hc.c0; have c1 := hc.c1; have c2 := hc.c2; have s0 := hs.c0; have s1' := hs.c1
            clear hc hs
            go_region_held3 (fun w' => w'.cell? ⟨B, 0, none⟩ = some (.int .i64 p) ∧ w'.cell? ⟨B, 1, none⟩ = some (.int .i64 a) ∧ w'.cell? ⟨B, 2, none⟩ = some (.int .i64 b) ∧ w'.cell? ⟨B + 1, 0, none⟩ = some (.int .i64 (xn : Int)) ∧ w'.cell? ⟨B + 1, 1, none⟩ = some (.int .i64 (yn : Int)) ∧ Keep (fun _ => False) w w')
              (first | exact Held5.drew ⟨c0, c1, c2, s0, s1', hk⟩ | exact Held5.keep (by assumption) HK)
              (first
                | (go_at_call 17; refine (right_any p a b xn hp0 hp1 ha hb hxp _).mono ?_; rintro e w' ⟨rfl, HK⟩))
            rename_i hheld
            have hk2 := hheld.2.2.2.2.2
            clear hheld
            go_wp2
            go_ret
            refine ⟨?_, hk2⟩
            rw [HD.out, ← G1.out, ← G2.out]
            rfl
          · have hd : decide (SpotOk p a b x y false) = false := by
              simp [SpotOk]; omega
            have HD := Lib.hid hd; clear hd
            have c1 : decide (0 ≤ y) = true := by simpa using h1
            have c2 : decide (x < (p : Int)) = false := by simpa using h2
            clear h1 h2
            go_enter Try.func19, Try.ntmps19
            go_wp2
            go_quiet (fail)
            go_wp2
            go_ret
            exact ⟨by rw [HD.out]; rfl, (((Keep.refl _ w).alloc _).alloc _).drewN _⟩
        · have hd : decide (SpotOk p a b x y false) = false := by
            simp [SpotOk]; omega
          have HD := Lib.hid hd; clear hd
          have c1 : decide (0 ≤ y) = false := by simpa using h1
          clear h1
          go_enter Try.func19, Try.ntmps19
          go_wp2
          go_quiet (fail)
          go_wp2
          go_ret
          exact ⟨by rw [HD.out]; rfl, (((Keep.refl _ w).alloc _).alloc _).drewN _⟩
      · have hxe : y = x := by omega
        subst hxe
        by_cases h1 : 0 ≤ y
        · by_cases h2 : y < p
          · 
            obtain ⟨yn, rfl⟩ := Int.eq_ofNat_of_zero_le (show 0 ≤ y by omega)
            have hxp : yn < p := by omega
            have hyp : yn < p := by omega
            have hd : decide (SpotOk p a b yn yn false) = ((((yn * yn % p : Nat) : Int)) == ((rightN p a b yn : Nat) : Int)) := by
              rw [Bool.eq_iff_iff, decide_eq_true_iff, beq_iff_eq]
              simp [SpotOk]; omega
            have HD := Lib.hid hd; clear hd
            obtain ⟨s1, g1⟩ : ∃ s, s = yn * yn := ⟨_, rfl⟩
            have l1 : s1 ≤ 1048576 * 1048576 := by rw [g1]; exact Nat.mul_le_mul (by omega) (by omega)
            obtain ⟨r1, g2⟩ : ∃ r, r = s1 % p := ⟨_, rfl⟩
            have m1 : r1 < p := by rw [g2]; exact Nat.mod_lt _ hp0
            have w1' : IntKind.i64.wrap ((yn : Int) * (yn : Int)) = (s1 : Int) := by rw [g1, Int.natCast_mul]; exact IntWalk.i64_in _ (by rw [← Int.natCast_mul, ← g1]; omega)
            have t1 : (s1 : Int).tmod (p : Int) = (r1 : Int) := by rw [g2]; rfl
            have e1 : (s1 : Int) % (p : Int) = (r1 : Int) := by rw [g2]; rfl
            have G1 := Lib.hid g1; have G2 := Lib.hid g2; clear g1 g2
            have d1 : decide (yn < p) = true := decide_eq_true hxp
            have d2 : decide (yn < p) = true := decide_eq_true hyp
            have d3 : decide (yn < yn) = false := decide_eq_false (by omega)
            clear hxy
            go_enter Try.func19, Try.ntmps19
            go_wp2
            have hc := (Row3.new w 38 (.int .i64 p) (.int .i64 a) (.int .i64 b)).alloc (.cells #[.int .i64 (yn : Int), .int .i64 (yn : Int), .bool false] 25)
            have hs := Row3.new (w.alloc (.cells #[.int .i64 p, .int .i64 a, .int .i64 b] 38)) 25 (.int .i64 (yn : Int)) (.int .i64 (yn : Int)) (.bool false)
            have hk := ((Keep.refl (fun _ => False) w).alloc (.cells #[.int .i64 p, .int .i64 a, .int .i64 b] 38)).alloc (.cells #[.int .i64 (yn : Int), .int .i64 (yn : Int), .bool false] 25)
            rw [World.size_alloc] at hs
            obtain ⟨B, hB⟩ : ∃ B, B = w.heap.size := ⟨_, rfl⟩
            obtain ⟨w1, hw1⟩ : ∃ w1, w1 = (w.alloc (.cells #[.int .i64 p, .int .i64 a, .int .i64 b] 38)).alloc (.cells #[.int .i64 (yn : Int), .int .i64 (yn : Int), .bool false] 25) := ⟨_, rfl⟩
            rw [← hB, ← hw1] at hc hs
            rw [← hw1] at hk
            rw [← hB, ← hw1]
            clear hB hw1
            have c0 := hc.c0; have c1 := hc.c1; have c2 := hc.c2; have s0 := hs.c0; have s1' := hs.c1
            clear hc hs
            go_region_held3 (fun w' => w'.cell? ⟨B, 0, none⟩ = some (.int .i64 p) ∧ w'.cell? ⟨B, 1, none⟩ = some (.int .i64 a) ∧ w'.cell? ⟨B, 2, none⟩ = some (.int .i64 b) ∧ w'.cell? ⟨B + 1, 0, none⟩ = some (.int .i64 (yn : Int)) ∧ w'.cell? ⟨B + 1, 1, none⟩ = some (.int .i64 (yn : Int)) ∧ Keep (fun _ => False) w w')
              (first | exact Held5.drew ⟨c0, c1, c2, s0, s1', hk⟩ | exact Held5.keep (by assumption) HK)
              (first
                | (go_at_call 17; refine (right_any p a b yn hp0 hp1 ha hb hxp _).mono ?_; rintro e w' ⟨rfl, HK⟩))
            rename_i hheld
            have hk2 := hheld.2.2.2.2.2
            clear hheld
            go_wp2
            go_ret
            refine ⟨?_, hk2⟩
            rw [HD.out, ← G1.out, ← G2.out]
            rfl
          · have hd : decide (SpotOk p a b y y false) = false := by
              simp [SpotOk]; omega
            have HD := Lib.hid hd; clear hd
            have c1 : decide (0 ≤ y) = true := by simpa using h1
            have c2 : decide (y < (p : Int)) = false := by simpa using h2
            clear h1 h2
            go_enter Try.func19, Try.ntmps19
            go_wp2
            go_quiet (fail)
            go_wp2
            go_ret
            exact ⟨by rw [HD.out]; rfl, (((Keep.refl _ w).alloc _).alloc _).drewN _⟩
        · have hd : decide (SpotOk p a b y y false) = false := by
            simp [SpotOk]; omega
          have HD := Lib.hid hd; clear hd
          have c1 : decide (0 ≤ y) = false := by simpa using h1
          clear h1
          go_enter Try.func19, Try.ntmps19
          go_wp2
          go_quiet (fail)
          go_wp2
          go_ret
          exact ⟨by rw [HD.out]; rfl, (((Keep.refl _ w).alloc _).alloc _).drewN _⟩
end Go.Proofs.Ytlfocajlkelnbaa
