/-
  Curve: the law CurveGroup, walked (printed by gen_curve_group.py).
-/
import Derived.Test.YtlfocajlkelnbaaCurveS
namespace Go.Proofs.Ytlfocajlkelnbaa
open Go.RowKit
structure Laid3 (w W : World) (p a b : Int) (x1 y1 : Int) (f1 : Bool) (x2 y2 : Int) (f2 : Bool) : Prop where
  keep : Keep (fun _ => False) w W
  c : Row3 W w.heap.size 23 (.int .i64 p) (.int .i64 a) (.int .i64 b)
  s : Row3 W (w.heap.size + 1) 25 (.int .i64 x1) (.int .i64 y1) (.bool f1)
  t : Row3 W (w.heap.size + 1 + 1) 25 (.int .i64 x2) (.int .i64 y2) (.bool f2)
theorem laid3 (w : World) (p a b : Int) (x1 y1 : Int) (f1 : Bool) (x2 y2 : Int) (f2 : Bool) :
    Laid3 w (((w.alloc (.cells #[.int .i64 p, .int .i64 a, .int .i64 b] 23)).alloc (.cells #[.int .i64 x1, .int .i64 y1, .bool f1] 25)).alloc (.cells #[.int .i64 x2, .int .i64 y2, .bool f2] 25)) p a b x1 y1 f1 x2 y2 f2 := by
  refine ⟨(((Keep.refl _ w).alloc _).alloc _).alloc _, ((Row3.new _ _ _ _ _).alloc _).alloc _, ?_, ?_⟩
  · have := Row3.new (w.alloc (.cells #[.int .i64 p, .int .i64 a, .int .i64 b] 23)) 25 (.int .i64 x1) (.int .i64 y1) (.bool f1)
    rw [World.size_alloc] at this; exact this.alloc _
  · have := Row3.new ((w.alloc (.cells #[.int .i64 p, .int .i64 a, .int .i64 b] 23)).alloc (.cells #[.int .i64 x1, .int .i64 y1, .bool f1] 25)) 25 (.int .i64 x2) (.int .i64 y2) (.bool f2)
    rw [World.size_alloc, World.size_alloc] at this; exact this
theorem Laid3.then_ {w W W' : World} {p a b : Int} {x1 y1 : Int} {f1 : Bool} {x2 y2 : Int} {f2 : Bool} (h : Laid3 w W p a b x1 y1 f1 x2 y2 f2) (k : Keep (fun _ => False) W W') : Laid3 w W' p a b x1 y1 f1 x2 y2 f2 :=
  ⟨h.keep.trans k, h.c.keep k, h.s.keep k, h.t.keep k⟩
theorem far_ok {p a b : Nat} : SOk p a b (0, 0, true) := .inl ⟨rfl, rfl, rfl⟩
theorem sp_inj {x y : Int} {f : Bool} {x' y' : Int} {f' : Bool} (h : ((x, y, f) : Sp) = (x', y', f')) : x = x' ∧ y = y' ∧ f = f' := by
  injection h with e1 e2
  injection e2 with e2 e3
  exact ⟨e1, e2, e3⟩
theorem sum_comm {p a b : Nat} [NeZero p] (C : Cv p a b) {x1 y1 : Int} {f1 : Bool} {x2 y2 : Int} {f2 : Bool} {x4 y4 : Int} {f4 : Bool} {x5 y5 : Int} {f5 : Bool} (h1 : SOk p a b (x1, y1, f1)) (h2 : SOk p a b (x2, y2, f2)) (h4 : SOk p a b (x4, y4, f4)) (h5 : SOk p a b (x5, y5, f5))
    (v4 : tr p (x4, y4, f4) = add (finv p) (fi a) (tr p (x1, y1, f1)) (tr p (x2, y2, f2))) (v5 : tr p (x5, y5, f5) = add (finv p) (fi a) (tr p (x2, y2, f2)) (tr p (x1, y1, f1))) : x4 = x5 ∧ y4 = y5 ∧ f4 = f5 :=
  sp_inj (tr_inj h4 h5 (by rw [v4, v5]; exact add_comm' (fld C.hp (by have := C.p5; omega)) (sok_on h1) (sok_on h2)))
theorem sum_opp {p a b : Nat} [NeZero p] (_ : Cv p a b) {s : Sp} {x6 y6 : Int} {f6 : Bool} {x7 y7 : Int} {f7 : Bool} (h7 : SOk p a b (x7, y7, f7)) (v6 : tr p (x6, y6, f6) = neg (tr p s)) (v7 : tr p (x7, y7, f7) = add (finv p) (fi a) (tr p s) (tr p (x6, y6, f6))) : 0 = x7 ∧ 0 = y7 ∧ true = f7 :=
  sp_inj (tr_inj far_ok h7 (by rw [v7, v6, add_opp]; rfl))
theorem sum_far {p a b : Nat} [NeZero p] {x1 y1 : Int} {f1 : Bool} {x8 y8 : Int} {f8 : Bool} (h1 : SOk p a b (x1, y1, f1)) (h8 : SOk p a b (x8, y8, f8)) (v8 : tr p (x8, y8, f8) = add (finv p) (fi a) (tr p (x1, y1, f1)) (tr p (0, 0, true))) : x1 = x8 ∧ y1 = y8 ∧ f1 = f8 :=
  sp_inj (tr_inj h1 h8 (by rw [v8]; exact (add_far _).symm))
set_option maxHeartbeats 4000000 in
theorem group_ok (p a b : Nat) [NeZero p] (C : Cv p a b) (x1 : Int) (y1 : Nat) (f1 : Bool) (x2 y2 : Int) (f2 : Bool) (hy : y1 < p) (h1 : SOk p a b (x1, (y1 : Int), f1)) (h2 : SOk p a b (x2, y2, f2)) (w : World) :
    Calls Try.prog 4 #[encC p a b, encS x1 y1 f1, encS x2 y2 f2] w (LawPost w) := by
  have HB2 := Lib.hid (decide_eq_true (all_two.2 ⟨h1, h2⟩))
  have H1 := Lib.hid h1; have H2 := Lib.hid h2; clear h1 h2
  have HF := Lib.hid (laid3 w p a b x1 y1 f1 x2 y2 f2)
  unfold encC encS
  go_enter Try.func4, Try.ntmps4
  go_wp2_with (first
    | (go_at_call 6; ((with_reducible refine (Add_ok p a b C x1 y1 x2 y2 f1 f2 H1.out H2.out _).mono ?_); rintro e w1 ⟨⟨x4, y4, f4⟩, hu4, hv4, rfl, HK⟩; have q := HF.out.then_ HK; clear HF HK; have c0 := q.c.c0; have c1 := q.c.c1; have c2 := q.c.c2; have cl := q.c.lt; have s0 := q.s.c0; have s1 := q.s.c1; have s2 := q.s.c2; have sl := q.s.lt; have t0 := q.t.c0; have t1 := q.t.c1; have t2 := q.t.c2; have tl := q.t.lt; have HF := Lib.hid q; clear q; have HU4 := Lib.hid hu4; have HV4 := Lib.hid hv4; clear hu4 hv4; simp only [encS]))
    | (go_at_call 7; ((with_reducible refine (rspots_two p a b C x1 y1 x2 y2 f1 f2 _ _ (by simp)).mono ?_); rintro e w2 ⟨rfl, HK⟩; rw [HB2.out]; have q := (HF.out.then_ ((Keep.refl _ _).alloc (.cells #[.int .i64 x4, .int .i64 y4, .bool f4] 25))).then_ HK; have r4 := (Row3.new _ 25 (.int .i64 x4) (.int .i64 y4) (.bool f4)).keep HK; clear c0 c1 c2 cl s0 s1 s2 sl t0 t1 t2 tl; clear HF HK; have c0 := q.c.c0; have c1 := q.c.c1; have c2 := q.c.c2; have cl := q.c.lt; have s0 := q.s.c0; have s1 := q.s.c1; have s2 := q.s.c2; have sl := q.s.lt; have t0 := q.t.c0; have t1 := q.t.c1; have t2 := q.t.c2; have tl := q.t.lt; have m0 := r4.c0; have m1 := r4.c1; have m2 := r4.c2; have ml := r4.lt; have HF := Lib.hid q; clear q; have HR4 := Lib.hid r4; clear r4))
    | (go_at_call 6; ((with_reducible refine (Add_ok p a b C x2 y2 x1 y1 f2 f1 H2.out H1.out _).mono ?_); rintro e w3 ⟨⟨x5, y5, f5⟩, hu5, hv5, rfl, HK⟩; obtain ⟨rfl, rfl, rfl⟩ := sum_comm C H1.out H2.out HU4.out hu5 HV4.out hv5; have q := HF.out.then_ HK; have r4 := HR4.out.keep HK; clear c0 c1 c2 cl s0 s1 s2 sl t0 t1 t2 tl; clear m0 m1 m2 ml; clear HF HK HR4 hv5 hu5; have c0 := q.c.c0; have c1 := q.c.c1; have c2 := q.c.c2; have cl := q.c.lt; have s0 := q.s.c0; have s1 := q.s.c1; have s2 := q.s.c2; have sl := q.s.lt; have t0 := q.t.c0; have t1 := q.t.c1; have t2 := q.t.c2; have tl := q.t.lt; have m0 := r4.c0; have m1 := r4.c1; have m2 := r4.c2; have ml := r4.lt; have HF := Lib.hid q; clear q; have HR4 := Lib.hid r4; clear r4; simp only [encS]))
    | (go_at_call 8; ((with_reducible refine (Neg_ok p a b C x1 y1 f1 hy H1.out _).mono ?_); rintro e w4 ⟨⟨x6, y6, f6⟩, hu6, hv6, rfl, HK⟩; have q := (HF.out.then_ ((Keep.refl _ _).alloc (.cells #[.int .i64 x4, .int .i64 y4, .bool f4] 25))).then_ HK; have r4 := (HR4.out.alloc (.cells #[.int .i64 x4, .int .i64 y4, .bool f4] 25)).keep HK; have r5 := (Row3.new _ 25 (.int .i64 x4) (.int .i64 y4) (.bool f4)).keep HK; clear c0 c1 c2 cl s0 s1 s2 sl t0 t1 t2 tl; clear m0 m1 m2 ml; clear HF HK HR4; have c0 := q.c.c0; have c1 := q.c.c1; have c2 := q.c.c2; have cl := q.c.lt; have s0 := q.s.c0; have s1 := q.s.c1; have s2 := q.s.c2; have sl := q.s.lt; have t0 := q.t.c0; have t1 := q.t.c1; have t2 := q.t.c2; have tl := q.t.lt; have m0 := r4.c0; have m1 := r4.c1; have m2 := r4.c2; have ml := r4.lt; have n0 := r5.c0; have n1 := r5.c1; have n2 := r5.c2; have nl := r5.lt; have HF := Lib.hid q; clear q; have HR4 := Lib.hid r4; have HR5 := Lib.hid r5; have HU6 := Lib.hid hu6; have HV6 := Lib.hid hv6; clear r4 r5 hu6 hv6; simp only [encS]))
    | (go_at_call 6; ((with_reducible refine (Add_ok p a b C x1 y1 x6 y6 f1 f6 H1.out HU6.out _).mono ?_); rintro e w5 ⟨⟨x7, y7, f7⟩, hu7, hv7, rfl, HK⟩; obtain ⟨rfl, rfl, rfl⟩ := sum_opp C hu7 HV6.out hv7; have q := (HF.out.then_ ((Keep.refl _ _).alloc (.cells #[.int .i64 x6, .int .i64 y6, .bool f6] 25))).then_ HK; have r4 := (HR4.out.alloc (.cells #[.int .i64 x6, .int .i64 y6, .bool f6] 25)).keep HK; have r5 := (HR5.out.alloc (.cells #[.int .i64 x6, .int .i64 y6, .bool f6] 25)).keep HK; have r6 := (Row3.new _ 25 (.int .i64 x6) (.int .i64 y6) (.bool f6)).keep HK; clear c0 c1 c2 cl s0 s1 s2 sl t0 t1 t2 tl; clear m0 m1 m2 ml; clear n0 n1 n2 nl; clear HF HK HR4 HR5 hu7 hv7; have c0 := q.c.c0; have c1 := q.c.c1; have c2 := q.c.c2; have cl := q.c.lt; have s0 := q.s.c0; have s1 := q.s.c1; have s2 := q.s.c2; have sl := q.s.lt; have t0 := q.t.c0; have t1 := q.t.c1; have t2 := q.t.c2; have tl := q.t.lt; have m0 := r4.c0; have m1 := r4.c1; have m2 := r4.c2; have ml := r4.lt; have n0 := r5.c0; have n1 := r5.c1; have n2 := r5.c2; have nl := r5.lt; have k0 := r6.c0; have k1 := r6.c1; have k2 := r6.c2; have kl := r6.lt; have HF := Lib.hid q; clear q; have HR4 := Lib.hid r4; have HR5 := Lib.hid r5; have HR6 := Lib.hid r6; clear r4 r5 r6; simp only [encS]))
    | (go_at_call 6; ((with_reducible refine (Add_ok p a b C x1 y1 0 0 f1 true H1.out far_ok _).mono ?_); rintro e w6 ⟨⟨x8, y8, f8⟩, hu8, hv8, rfl, HK⟩; obtain ⟨rfl, rfl, rfl⟩ := sum_far H1.out hu8 hv8; have q := (HF.out.then_ ((Keep.refl _ _).alloc (.cells #[.int .i64 0, .int .i64 0, .bool true] 25))).then_ HK; have r4 := (HR4.out.alloc (.cells #[.int .i64 0, .int .i64 0, .bool true] 25)).keep HK; have r5 := (HR5.out.alloc (.cells #[.int .i64 0, .int .i64 0, .bool true] 25)).keep HK; have r6 := (HR6.out.alloc (.cells #[.int .i64 0, .int .i64 0, .bool true] 25)).keep HK; have r7 := (Row3.new _ 25 (.int .i64 0) (.int .i64 0) (.bool true)).keep HK; clear c0 c1 c2 cl s0 s1 s2 sl t0 t1 t2 tl; clear m0 m1 m2 ml; clear n0 n1 n2 nl; clear k0 k1 k2 kl; clear HF HK HR4 HR5 HR6 hu8 hv8; have c0 := q.c.c0; have c1 := q.c.c1; have c2 := q.c.c2; have cl := q.c.lt; have s0 := q.s.c0; have s1 := q.s.c1; have s2 := q.s.c2; have sl := q.s.lt; have t0 := q.t.c0; have t1 := q.t.c1; have t2 := q.t.c2; have tl := q.t.lt; have m0 := r4.c0; have m1 := r4.c1; have m2 := r4.c2; have ml := r4.lt; have n0 := r5.c0; have n1 := r5.c1; have n2 := r5.c2; have nl := r5.lt; have k0 := r6.c0; have k1 := r6.c1; have k2 := r6.c2; have kl := r6.lt; have j0 := r7.c0; have j1 := r7.c1; have j2 := r7.c2; have jl := r7.lt; have HF := Lib.hid q; clear q; have HR7 := Lib.hid r7; clear r4 r5 r6 r7; simp only [encS]))
    | (go_at_call 7; ((with_reducible refine (rspots_two p a b C x4 y4 x6 y6 f4 f6 _ _ (by simp)).mono ?_); rintro e w7 ⟨rfl, HK⟩; have hall7 := decide_eq_true (all_two.2 ⟨HU4.out, HU6.out⟩); rw [hall7]; have r7 := (HR7.out.alloc (.cells #[.int .i64 x1, .int .i64 (y1 : Int), .bool f1] 25)).keep HK; have q := (HF.out.then_ ((Keep.refl _ _).alloc (.cells #[.int .i64 x1, .int .i64 (y1 : Int), .bool f1] 25))).then_ HK; have r8 := (Row3.new _ 25 (.int .i64 x1) (.int .i64 (y1 : Int)) (.bool f1)).keep HK; clear c0 c1 c2 cl s0 s1 s2 sl t0 t1 t2 tl; clear j0 j1 j2 jl; have c0 := q.c.c0; have c1 := q.c.c1; have c2 := q.c.c2; have cl := q.c.lt; have s0 := q.s.c0; have s1 := q.s.c1; have s2 := q.s.c2; have sl := q.s.lt; have t0 := q.t.c0; have t1 := q.t.c1; have t2 := q.t.c2; have tl := q.t.lt; have j0 := r7.c0; have j1 := r7.c1; have j2 := r7.c2; have jl := r7.lt; have i0 := r8.c0; have i1 := r8.c1; have i2 := r8.c2; have il := r8.lt; have HF := Lib.hid q; clear q; clear r7 r8)))
  go_ret
  exact ⟨rfl, HF.out.keep⟩
set_option maxHeartbeats 4000000 in
theorem group_bad (p a b : Int) (hc : cc p a b ≠ 0) (x1 y1 : Int) (f1 : Bool) (x2 y2 : Int) (f2 : Bool) (w : World) :
    Calls Try.prog 4 #[encI p a b, encS x1 y1 f1, encS x2 y2 f2] w (LawPost w) := by
  have HC := Lib.hid hc; clear hc
  have HF := Lib.hid (laid3 w p a b x1 y1 f1 x2 y2 f2)
  unfold encI encS
  go_enter Try.func4, Try.ntmps4
  go_wp2_with (first
    | (go_at_call 6; refine (Add_bad p a b HC.out _ _ _ _ _ _ _).mono ?_; rintro e w' ⟨c, hcb, rfl, HK⟩; have q := HF.out.then_ HK; clear HF; have c0 := q.c.c0; have c1 := q.c.c1; have c2 := q.c.c2; have cl := q.c.lt; have s0 := q.s.c0; have s1 := q.s.c1; have s2 := q.s.c2; have sl := q.s.lt; have t0 := q.t.c0; have t1 := q.t.c1; have t2 := q.t.c2; have tl := q.t.lt; have HK := Lib.hid q.keep; clear q; simp only [encS])
    | (go_at_call 7; refine (rspots_not p a b HC.out _ _ _).mono ?_; rintro e w2 ⟨rfl, HK2⟩))
  go_ret
  exact ⟨rfl, (HK.out.alloc _).trans HK2⟩
set_option maxHeartbeats 4000000 in
theorem group_form (p a b : Nat) (C : Cv p a b) (x1 y1 : Int) (f1 : Bool) (x2 y2 : Int) (f2 : Bool) (hn : ¬ (SOk p a b (x1, y1, f1) ∧ SOk p a b (x2, y2, f2))) (w : World) :
    Calls Try.prog 4 #[encC p a b, encS x1 y1 f1, encS x2 y2 f2] w (LawPost w) := by
  have HB2 := Lib.hid (decide_eq_false (fun h => hn (all_two.1 h)))
  have HN := Lib.hid hn; clear hn
  have HF := Lib.hid (laid3 w p a b x1 y1 f1 x2 y2 f2)
  unfold encC encS
  go_enter Try.func4, Try.ntmps4
  go_wp2_with (first
    | (go_at_call 6; ((with_reducible refine (Add_form p a b C x1 y1 x2 y2 f1 f2 HN.out _).mono ?_); rintro e w1 ⟨c, hcb, rfl, HK⟩; have q := HF.out.then_ HK; clear HF HK; have c0 := q.c.c0; have c1 := q.c.c1; have c2 := q.c.c2; have cl := q.c.lt; have s0 := q.s.c0; have s1 := q.s.c1; have s2 := q.s.c2; have sl := q.s.lt; have t0 := q.t.c0; have t1 := q.t.c1; have t2 := q.t.c2; have tl := q.t.lt; have HF := Lib.hid q; clear q; simp only [encS]))
    | (go_at_call 7; ((with_reducible refine (rspots_two p a b C x1 y1 x2 y2 f1 f2 _ _ (by simp)).mono ?_); rintro e w2 ⟨rfl, HK⟩; rw [HB2.out])))
  go_ret
  exact ⟨rfl, (HF.out.keep.alloc _).trans HK⟩
theorem group_any (p a b : Int) (x1 y1 : Int) (f1 : Bool) (x2 y2 : Int) (f2 : Bool) (w : World) :
    Calls Try.prog 4 #[encI p a b, encS x1 y1 f1, encS x2 y2 f2] w (LawPost w) := by
  by_cases hc : cc p a b = 0
  · obtain ⟨p, a, b, rfl, rfl, rfl, C⟩ := Cv.of_cc hc
    haveI : NeZero p := ⟨by have := C.p5; omega⟩
    by_cases h1 : SOk p a b (x1, y1, f1)
    · by_cases h2 : SOk p a b (x2, y2, f2)
      · obtain ⟨y1, rfl, hy⟩ : ∃ n : Nat, y1 = n ∧ n < p := by
          have := C.p5
          rcases h1 with ⟨_, _, h⟩ | ⟨_, _, _, h3, h4, _⟩ <;> simp only at *
          · exact ⟨0, by omega, by omega⟩
          · exact ⟨y1.toNat, by omega, by omega⟩
        exact group_ok p a b C x1 y1 f1 x2 y2 f2 hy h1 h2 w
      · exact group_form p a b C x1 y1 f1 x2 y2 f2 (fun h => h2 h.2) w
    · exact group_form p a b C x1 y1 f1 x2 y2 f2 (fun h => h1 h.1) w
  · exact group_bad p a b hc x1 y1 f1 x2 y2 f2 w
end Go.Proofs.Ytlfocajlkelnbaa
