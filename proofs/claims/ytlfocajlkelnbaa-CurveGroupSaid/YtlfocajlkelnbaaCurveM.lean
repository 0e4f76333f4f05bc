/-
  Curve: the law CurveBrackets, walked.
-/
import Derived.Test.YtlfocajlkelnbaaCurveK
namespace Go.Proofs.Ytlfocajlkelnbaa
open Go.RowKit
theorem spotsAt_one (w : World) (t : TypeId) (x1 y1 : Int) (f1 : Bool) : SpotsAt (w.alloc (.cells #[.int .i64 x1, .int .i64 y1, .bool f1] t)) w.heap.size [(x1, y1, f1)] := by
  have hb := World.alloc_heap_new w (.cells #[.int .i64 x1, .int .i64 y1, .bool f1] t)
  intro i x y f h
  match i, h with
  | 0, h =>
    simp at h; obtain ⟨rfl, rfl, rfl⟩ := h
    refine ⟨?_, ?_, ?_⟩ <;> (rw [cell_of_row _ _ _ _ _ _ hb]; rfl)
  | n + 1, h => simp at h
theorem all_one {p a b : Nat} {s : Sp} : AllOk p a b [s] ↔ SOk p a b s := by unfold AllOk SOk; simp
/-- the document's spots, of two and of one -/
theorem rspots_two (p a b : Nat) (C : Cv p a b) (x1 y1 x2 y2 : Int) (f1 f2 : Bool) (w : World) (S : Nat) (hS : S = w.heap.size) :
    Calls Try.prog 7 #[encC p a b, .slice (some ⟨S, 0, none⟩) 2 2] (w.alloc (.cells #[.int .i64 x1, .int .i64 y1, .bool f1, .int .i64 x2, .int .i64 y2, .bool f2] 25))
      fun e w' => e = .returned (.bool (decide (AllOk p a b [(x1, y1, f1), (x2, y2, f2)]))) ∧ Keep (fun _ => False) w w' := by
  subst hS
  exact (rspots_ok p a b C.p5 C.p9 C.ha C.hb C.cc w.heap.size [(x1, y1, f1), (x2, y2, f2)] (by simp) _ (spotsAt_two w _ x1 y1 x2 y2 f1 f2)).mono fun _ _ h => ⟨h.1, ((Keep.refl _ w).alloc _).trans h.2⟩
theorem rspots_one (p a b : Nat) (C : Cv p a b) (x1 y1 : Int) (f1 : Bool) (w : World) (S : Nat) (hS : S = w.heap.size) :
    Calls Try.prog 7 #[encC p a b, .slice (some ⟨S, 0, none⟩) 1 1] (w.alloc (.cells #[.int .i64 x1, .int .i64 y1, .bool f1] 25))
      fun e w' => e = .returned (.bool (decide (AllOk p a b [(x1, y1, f1)]))) ∧ Keep (fun _ => False) w w' := by
  subst hS
  exact (rspots_ok p a b C.p5 C.p9 C.ha C.hb C.cc w.heap.size [(x1, y1, f1)] (by simp) _ (spotsAt_one w _ x1 y1 f1)).mono fun _ _ h => ⟨h.1, ((Keep.refl _ w).alloc _).trans h.2⟩
theorem rspots_not (p a b : Int) (hc : cc p a b ≠ 0) (V : Value) (w : World) (o : Obj) :
    Calls Try.prog 7 #[encI p a b, V] (w.alloc o) fun e w' => e = .returned (.bool false) ∧ Keep (fun _ => False) w w' :=
  (rspots_bad p a b hc V _).mono fun _ _ h => ⟨h.1, ((Keep.refl _ w).alloc _).trans h.2⟩
def LawPost (w : World) (e : Ending) (w' : World) : Prop := e = .returned (.bool true) ∧ Keep (fun _ => False) w w'
/-- what a law's call lays first -/
structure Laid4 (w W : World) (p a b : Int) (x1 y1 : Int) (f1 : Bool) (x2 y2 : Int) (f2 : Bool) (x3 y3 : Int) (f3 : Bool) : Prop where
  keep : Keep (fun _ => False) w W
  c : Row3 W w.heap.size 23 (.int .i64 p) (.int .i64 a) (.int .i64 b)
  s : Row3 W (w.heap.size + 1) 25 (.int .i64 x1) (.int .i64 y1) (.bool f1)
  t : Row3 W (w.heap.size + 1 + 1) 25 (.int .i64 x2) (.int .i64 y2) (.bool f2)
  u : Row3 W (w.heap.size + 1 + 1 + 1) 25 (.int .i64 x3) (.int .i64 y3) (.bool f3)
theorem laid4 (w : World) (p a b : Int) (x1 y1 : Int) (f1 : Bool) (x2 y2 : Int) (f2 : Bool) (x3 y3 : Int) (f3 : Bool) :
    Laid4 w ((((w.alloc (.cells #[.int .i64 p, .int .i64 a, .int .i64 b] 23)).alloc (.cells #[.int .i64 x1, .int .i64 y1, .bool f1] 25)).alloc (.cells #[.int .i64 x2, .int .i64 y2, .bool f2] 25)).alloc (.cells #[.int .i64 x3, .int .i64 y3, .bool f3] 25)) p a b x1 y1 f1 x2 y2 f2 x3 y3 f3 := by
  refine ⟨((((Keep.refl _ w).alloc _).alloc _).alloc _).alloc _, (((Row3.new _ _ _ _ _).alloc _).alloc _).alloc _, ?_, ?_, ?_⟩
  · have := Row3.new (w.alloc (.cells #[.int .i64 p, .int .i64 a, .int .i64 b] 23)) 25 (.int .i64 x1) (.int .i64 y1) (.bool f1)
    rw [World.size_alloc] at this; exact (this.alloc _).alloc _
  · have := Row3.new ((w.alloc (.cells #[.int .i64 p, .int .i64 a, .int .i64 b] 23)).alloc (.cells #[.int .i64 x1, .int .i64 y1, .bool f1] 25)) 25 (.int .i64 x2) (.int .i64 y2) (.bool f2)
    rw [World.size_alloc, World.size_alloc] at this; exact this.alloc _
  · have := Row3.new (((w.alloc (.cells #[.int .i64 p, .int .i64 a, .int .i64 b] 23)).alloc (.cells #[.int .i64 x1, .int .i64 y1, .bool f1] 25)).alloc (.cells #[.int .i64 x2, .int .i64 y2, .bool f2] 25)) 25 (.int .i64 x3) (.int .i64 y3) (.bool f3)
    rw [World.size_alloc, World.size_alloc, World.size_alloc] at this; exact this
theorem Laid4.then_ {w W W' : World} {p a b : Int} {x1 y1 : Int} {f1 : Bool} {x2 y2 : Int} {f2 : Bool} {x3 y3 : Int} {f3 : Bool} (h : Laid4 w W p a b x1 y1 f1 x2 y2 f2 x3 y3 f3) (k : Keep (fun _ => False) W W') : Laid4 w W' p a b x1 y1 f1 x2 y2 f2 x3 y3 f3 :=
  ⟨h.keep.trans k, h.c.keep k, h.s.keep k, h.t.keep k, h.u.keep k⟩
set_option maxHeartbeats 4000000 in
theorem brackets_bad (p a b : Int) (hc : cc p a b ≠ 0) (x1 y1 : Int) (f1 : Bool) (x2 y2 : Int) (f2 : Bool) (x3 y3 : Int) (f3 : Bool) (w : World) :
    Calls Try.prog 3 #[encI p a b, encS x1 y1 f1, encS x2 y2 f2, encS x3 y3 f3] w (LawPost w) := by
  have HC := Lib.hid hc; clear hc
  have HF := Lib.hid (laid4 w p a b x1 y1 f1 x2 y2 f2 x3 y3 f3)
  unfold encI encS
  go_enter Try.func3, Try.ntmps3
  go_wp2_with (first
    | (go_at_call 6; refine (Add_bad p a b HC.out _ _ _ _ _ _ _).mono ?_; rintro e w' ⟨c, hcb, rfl, HK⟩; have q := HF.out.then_ HK; clear HF; have c0 := q.c.c0; have c1 := q.c.c1; have c2 := q.c.c2; have cl := q.c.lt; have s0 := q.s.c0; have s1 := q.s.c1; have s2 := q.s.c2; have sl := q.s.lt; have t0 := q.t.c0; have t1 := q.t.c1; have t2 := q.t.c2; have tl := q.t.lt; have HK := Lib.hid q.keep; clear q; simp only [encS])
    | (go_at_call 7; refine (rspots_not p a b HC.out _ _ _).mono ?_; rintro e w2 ⟨rfl, HK2⟩))
  go_ret
  exact ⟨rfl, (HK.out.alloc _).trans HK2⟩
theorem smooth {p a b : Nat} [NeZero p] (C : Cv p a b) : Smooth (fi a : Fin p) (fi b) := by
  have h := C.hd
  unfold disc at h
  intro h0
  apply h
  have e : (fi ((4 * (a * a * a) + 27 * (b * b) : Nat) : Int) : Fin p) = 4 * (fi a * fi a * fi a) + 27 * (fi b * fi b) := by
    rw [Int.natCast_add, Int.natCast_mul, Int.natCast_mul, Int.natCast_mul, Int.natCast_mul, Int.natCast_mul, fi_add, fi_mul, fi_mul, fi_mul, fi_mul, fi_mul]
    rw [show ((4 : Nat) : Int) = 4 from rfl, show ((27 : Nat) : Int) = 27 from rfl, fi_four, fi_27]
  rw [← e, fi_dvd] at h0
  have h1 : (((4 * (a * a * a) + 27 * (b * b)) % p : Nat) : Int) = 0 := by rw [Int.natCast_emod]; exact h0
  omega
theorem same_sum {p a b : Nat} [NeZero p] (C : Cv p a b) {x1 y1 : Int} {f1 : Bool} {x2 y2 : Int} {f2 : Bool} {x3 y3 : Int} {f3 : Bool} {x4 y4 : Int} {f4 : Bool} {x5 y5 : Int} {f5 : Bool} {x6 y6 : Int} {f6 : Bool} {x7 y7 : Int} {f7 : Bool}
    (h1 : SOk p a b (x1, y1, f1)) (h2 : SOk p a b (x2, y2, f2)) (h3 : SOk p a b (x3, y3, f3)) (_ : SOk p a b (x4, y4, f4)) (_ : SOk p a b (x5, y5, f5)) (h6 : SOk p a b (x6, y6, f6)) (h7 : SOk p a b (x7, y7, f7))
    (v4 : tr p (x4, y4, f4) = add (finv p) (fi a) (tr p (x1, y1, f1)) (tr p (x2, y2, f2))) (v5 : tr p (x5, y5, f5) = add (finv p) (fi a) (tr p (x2, y2, f2)) (tr p (x3, y3, f3)))
    (v6 : tr p (x6, y6, f6) = add (finv p) (fi a) (tr p (x4, y4, f4)) (tr p (x3, y3, f3))) (v7 : tr p (x7, y7, f7) = add (finv p) (fi a) (tr p (x1, y1, f1)) (tr p (x5, y5, f5))) : x6 = x7 ∧ y6 = y7 ∧ f6 = f7 := by
  have F := fld C.hp (by have := C.p5; omega)
  have e : tr p (x6, y6, f6) = tr p (x7, y7, f7) := by
    rw [v6, v7, v4, v5]
    exact assoc F (smooth C) (sok_on h1) (sok_on h2) (sok_on h3)
  have := tr_inj h6 h7 e
  injection this with e1 e2
  injection e2 with e2 e3
  exact ⟨e1, e2, e3⟩
set_option maxHeartbeats 4000000 in
theorem brackets_ok (p a b : Nat) [NeZero p] (C : Cv p a b) (x1 y1 : Int) (f1 : Bool) (x2 y2 : Int) (f2 : Bool) (x3 y3 : Int) (f3 : Bool) (h1 : SOk p a b (x1, y1, f1)) (h2 : SOk p a b (x2, y2, f2)) (h3 : SOk p a b (x3, y3, f3)) (w : World) :
    Calls Try.prog 3 #[encC p a b, encS x1 y1 f1, encS x2 y2 f2, encS x3 y3 f3] w (LawPost w) := by
  have HB2 := Lib.hid (decide_eq_true (all_two.2 ⟨h1, h2⟩))
  have HB1 := Lib.hid (decide_eq_true (all_one.2 h3))
  have H1 := Lib.hid h1; have H2 := Lib.hid h2; have H3 := Lib.hid h3; clear h1 h2 h3
  have HF := Lib.hid (laid4 w p a b x1 y1 f1 x2 y2 f2 x3 y3 f3)
  unfold encC encS
  go_enter Try.func3, Try.ntmps3
  go_wp2_with (first
    | (go_at_call 6; ((with_reducible refine (Add_ok p a b C x1 y1 x2 y2 f1 f2 H1.out H2.out _).mono ?_); rintro e w1 ⟨⟨x4, y4, f4⟩, hu4, hv4, rfl, HK⟩; have q := HF.out.then_ HK; clear HF HK; have c0 := q.c.c0; have c1 := q.c.c1; have c2 := q.c.c2; have cl := q.c.lt; have s0 := q.s.c0; have s1 := q.s.c1; have s2 := q.s.c2; have sl := q.s.lt; have t0 := q.t.c0; have t1 := q.t.c1; have t2 := q.t.c2; have tl := q.t.lt; have u0 := q.u.c0; have u1 := q.u.c1; have u2 := q.u.c2; have ul := q.u.lt; have HF := Lib.hid q; have HU4 := Lib.hid hu4; have HV4 := Lib.hid hv4; clear q hu4 hv4; simp only [encS]))
    | (go_at_call 7; ((with_reducible refine (rspots_two p a b C x1 y1 x2 y2 f1 f2 _ _ (by simp)).mono ?_); rintro e w2 ⟨rfl, HK⟩; rw [HB2.out]; have q := (HF.out.then_ ((Keep.refl _ _).alloc (.cells #[.int .i64 x4, .int .i64 y4, .bool f4] 25))).then_ HK; clear c0 c1 c2 cl s0 s1 s2 sl t0 t1 t2 tl u0 u1 u2 ul; have r4 := (Row3.new _ 25 (.int .i64 x4) (.int .i64 y4) (.bool f4)).keep HK; clear HF HK; have c0 := q.c.c0; have c1 := q.c.c1; have c2 := q.c.c2; have cl := q.c.lt; have s0 := q.s.c0; have s1 := q.s.c1; have s2 := q.s.c2; have sl := q.s.lt; have t0 := q.t.c0; have t1 := q.t.c1; have t2 := q.t.c2; have tl := q.t.lt; have u0 := q.u.c0; have u1 := q.u.c1; have u2 := q.u.c2; have ul := q.u.lt; have HF := Lib.hid q; have HR4 := Lib.hid r4; clear q r4))
    | (go_at_call 6; ((with_reducible refine (Add_ok p a b C x2 y2 x3 y3 f2 f3 H2.out H3.out _).mono ?_); rintro e w3 ⟨⟨x5, y5, f5⟩, hu5, hv5, rfl, HK⟩; have q := HF.out.then_ HK; have r4 := HR4.out.keep HK; clear c0 c1 c2 cl s0 s1 s2 sl t0 t1 t2 tl u0 u1 u2 ul; clear HF HK HR4; have c0 := q.c.c0; have c1 := q.c.c1; have c2 := q.c.c2; have cl := q.c.lt; have s0 := q.s.c0; have s1 := q.s.c1; have s2 := q.s.c2; have sl := q.s.lt; have t0 := q.t.c0; have t1 := q.t.c1; have t2 := q.t.c2; have tl := q.t.lt; have u0 := q.u.c0; have u1 := q.u.c1; have u2 := q.u.c2; have ul := q.u.lt; have HF := Lib.hid q; have HR4 := Lib.hid r4; have HU5 := Lib.hid hu5; have HV5 := Lib.hid hv5; clear q r4 hu5 hv5; simp only [encS]))
    | (go_at_call 7; ((with_reducible refine (rspots_one p a b C x3 y3 f3 _ _ (by simp)).mono ?_); rintro e w4 ⟨rfl, HK⟩; rw [HB1.out]; have q := (HF.out.then_ ((Keep.refl _ _).alloc (.cells #[.int .i64 x5, .int .i64 y5, .bool f5] 25))).then_ HK; have r4 := (HR4.out.alloc (.cells #[.int .i64 x5, .int .i64 y5, .bool f5] 25)).keep HK; have r5 := (Row3.new _ 25 (.int .i64 x5) (.int .i64 y5) (.bool f5)).keep HK; clear c0 c1 c2 cl s0 s1 s2 sl t0 t1 t2 tl u0 u1 u2 ul; clear HF HK HR4; have c0 := q.c.c0; have c1 := q.c.c1; have c2 := q.c.c2; have cl := q.c.lt; have s0 := q.s.c0; have s1 := q.s.c1; have s2 := q.s.c2; have sl := q.s.lt; have t0 := q.t.c0; have t1 := q.t.c1; have t2 := q.t.c2; have tl := q.t.lt; have u0 := q.u.c0; have u1 := q.u.c1; have u2 := q.u.c2; have ul := q.u.lt; have m0 := r4.c0; have m1 := r4.c1; have m2 := r4.c2; have ml := r4.lt; have n0 := r5.c0; have n1 := r5.c1; have n2 := r5.c2; have nl := r5.lt; have HF := Lib.hid q; have HR4 := Lib.hid r4; have HR5 := Lib.hid r5; clear q r4 r5))
    | (go_at_call 6; ((with_reducible refine (Add_ok p a b C x4 y4 x3 y3 f4 f3 HU4.out H3.out _).mono ?_); rintro e w5 ⟨⟨x6, y6, f6⟩, hu6, hv6, rfl, HK⟩; have q := HF.out.then_ HK; have r5 := HR5.out.keep HK; clear c0 c1 c2 cl s0 s1 s2 sl t0 t1 t2 tl u0 u1 u2 ul; clear HF HK HR4 HR5 m0 m1 m2 ml n0 n1 n2 nl; have c0 := q.c.c0; have c1 := q.c.c1; have c2 := q.c.c2; have cl := q.c.lt; have s0 := q.s.c0; have s1 := q.s.c1; have s2 := q.s.c2; have sl := q.s.lt; have t0 := q.t.c0; have t1 := q.t.c1; have t2 := q.t.c2; have tl := q.t.lt; have u0 := q.u.c0; have u1 := q.u.c1; have u2 := q.u.c2; have ul := q.u.lt; have n0 := r5.c0; have n1 := r5.c1; have n2 := r5.c2; have nl := r5.lt; have HF := Lib.hid q; have HR5 := Lib.hid r5; have HU6 := Lib.hid hu6; have HV6 := Lib.hid hv6; clear q r5 hu6 hv6; simp only [encS]))
    | (go_at_call 6; ((with_reducible refine (Add_ok p a b C x1 y1 x5 y5 f1 f5 H1.out HU5.out _).mono ?_); rintro e w6 ⟨⟨x7, y7, f7⟩, hu7, hv7, rfl, HK⟩; have heq := same_sum C H1.out H2.out H3.out HU4.out HU5.out HU6.out hu7 HV4.out HV5.out HV6.out hv7; obtain ⟨rfl, rfl, rfl⟩ := heq; have q := (HF.out.then_ ((Keep.refl _ _).alloc (.cells #[.int .i64 x6, .int .i64 y6, .bool f6] 25))).then_ HK; have r6 := (Row3.new _ 25 (.int .i64 x6) (.int .i64 y6) (.bool f6)).keep HK; clear c0 c1 c2 cl s0 s1 s2 sl t0 t1 t2 tl u0 u1 u2 ul; clear HF HK HR5 n0 n1 n2 nl hv7; have c0 := q.c.c0; have c1 := q.c.c1; have c2 := q.c.c2; have cl := q.c.lt; have s0 := q.s.c0; have s1 := q.s.c1; have s2 := q.s.c2; have sl := q.s.lt; have t0 := q.t.c0; have t1 := q.t.c1; have t2 := q.t.c2; have tl := q.t.lt; have u0 := q.u.c0; have u1 := q.u.c1; have u2 := q.u.c2; have ul := q.u.lt; have m0 := r6.c0; have m1 := r6.c1; have m2 := r6.c2; have ml := r6.lt; have HF := Lib.hid q; clear q r6; simp only [encS]))
    | (go_at_call 7; ((with_reducible refine (rspots_one p a b C x6 y6 f6 _ _ (by simp)).mono ?_); rintro e w7 ⟨rfl, HK⟩; have hall7 := decide_eq_true (all_one.2 hu7); rw [hall7])))
  go_ret
  exact ⟨rfl, (HF.out.keep.alloc _).trans HK⟩
set_option maxHeartbeats 4000000 in
theorem brackets_form1 (p a b : Nat) (C : Cv p a b) (x1 y1 : Int) (f1 : Bool) (x2 y2 : Int) (f2 : Bool) (x3 y3 : Int) (f3 : Bool) (hn : ¬ (SOk p a b (x1, y1, f1) ∧ SOk p a b (x2, y2, f2))) (w : World) :
    Calls Try.prog 3 #[encC p a b, encS x1 y1 f1, encS x2 y2 f2, encS x3 y3 f3] w (LawPost w) := by
  have HB2 := Lib.hid (decide_eq_false (fun h => hn (all_two.1 h)))
  have HN := Lib.hid hn; clear hn
  have HF := Lib.hid (laid4 w p a b x1 y1 f1 x2 y2 f2 x3 y3 f3)
  unfold encC encS
  go_enter Try.func3, Try.ntmps3
  go_wp2_with (first
    | (go_at_call 6; ((with_reducible refine (Add_form p a b C x1 y1 x2 y2 f1 f2 HN.out _).mono ?_); rintro e w1 ⟨c, hcb, rfl, HK⟩; have q := HF.out.then_ HK; clear HF HK; have c0 := q.c.c0; have c1 := q.c.c1; have c2 := q.c.c2; have cl := q.c.lt; have s0 := q.s.c0; have s1 := q.s.c1; have s2 := q.s.c2; have sl := q.s.lt; have t0 := q.t.c0; have t1 := q.t.c1; have t2 := q.t.c2; have tl := q.t.lt; have u0 := q.u.c0; have u1 := q.u.c1; have u2 := q.u.c2; have ul := q.u.lt; have HF := Lib.hid q; clear q; simp only [encS]))
    | (go_at_call 7; ((with_reducible refine (rspots_two p a b C x1 y1 x2 y2 f1 f2 _ _ (by simp)).mono ?_); rintro e w2 ⟨rfl, HK⟩; rw [HB2.out])))
  go_ret
  exact ⟨rfl, (HF.out.keep.alloc _).trans HK⟩
set_option maxHeartbeats 4000000 in
theorem brackets_form2 (p a b : Nat) [NeZero p] (C : Cv p a b) (x1 y1 : Int) (f1 : Bool) (x2 y2 : Int) (f2 : Bool) (x3 y3 : Int) (f3 : Bool) (h1 : SOk p a b (x1, y1, f1)) (h2 : SOk p a b (x2, y2, f2)) (h3 : ¬ SOk p a b (x3, y3, f3)) (w : World) :
    Calls Try.prog 3 #[encC p a b, encS x1 y1 f1, encS x2 y2 f2, encS x3 y3 f3] w (LawPost w) := by
  have HB2 := Lib.hid (decide_eq_true (all_two.2 ⟨h1, h2⟩))
  have HB1 := Lib.hid (decide_eq_false (fun h => h3 (all_one.1 h)))
  have HN := Lib.hid (show ¬ (SOk p a b (x2, y2, f2) ∧ SOk p a b (x3, y3, f3)) from fun h => h3 h.2)
  have H1 := Lib.hid h1; have H2 := Lib.hid h2; clear h1 h2 h3
  have HF := Lib.hid (laid4 w p a b x1 y1 f1 x2 y2 f2 x3 y3 f3)
  unfold encC encS
  go_enter Try.func3, Try.ntmps3
  go_wp2_with (first
    | (go_at_call 6; ((with_reducible refine (Add_ok p a b C x1 y1 x2 y2 f1 f2 H1.out H2.out _).mono ?_); rintro e w1 ⟨⟨x4, y4, f4⟩, hu4, hv4, rfl, HK⟩; have q := HF.out.then_ HK; clear HF HK; have c0 := q.c.c0; have c1 := q.c.c1; have c2 := q.c.c2; have cl := q.c.lt; have s0 := q.s.c0; have s1 := q.s.c1; have s2 := q.s.c2; have sl := q.s.lt; have t0 := q.t.c0; have t1 := q.t.c1; have t2 := q.t.c2; have tl := q.t.lt; have u0 := q.u.c0; have u1 := q.u.c1; have u2 := q.u.c2; have ul := q.u.lt; have HF := Lib.hid q; have HU4 := Lib.hid hu4; have HV4 := Lib.hid hv4; clear q hu4 hv4; simp only [encS]))
    | (go_at_call 7; ((with_reducible refine (rspots_two p a b C x1 y1 x2 y2 f1 f2 _ _ (by simp)).mono ?_); rintro e w2 ⟨rfl, HK⟩; rw [HB2.out]; have q := (HF.out.then_ ((Keep.refl _ _).alloc (.cells #[.int .i64 x4, .int .i64 y4, .bool f4] 25))).then_ HK; clear c0 c1 c2 cl s0 s1 s2 sl t0 t1 t2 tl u0 u1 u2 ul; have r4 := (Row3.new _ 25 (.int .i64 x4) (.int .i64 y4) (.bool f4)).keep HK; clear HF HK; have c0 := q.c.c0; have c1 := q.c.c1; have c2 := q.c.c2; have cl := q.c.lt; have s0 := q.s.c0; have s1 := q.s.c1; have s2 := q.s.c2; have sl := q.s.lt; have t0 := q.t.c0; have t1 := q.t.c1; have t2 := q.t.c2; have tl := q.t.lt; have u0 := q.u.c0; have u1 := q.u.c1; have u2 := q.u.c2; have ul := q.u.lt; have HF := Lib.hid q; have HR4 := Lib.hid r4; clear q r4))
    | (go_at_call 6; ((with_reducible refine (Add_form p a b C x2 y2 x3 y3 f2 f3 HN.out _).mono ?_); rintro e w3 ⟨c, hcb, rfl, HK⟩; have q := HF.out.then_ HK; clear c0 c1 c2 cl s0 s1 s2 sl t0 t1 t2 tl u0 u1 u2 ul; clear HF HK; have c0 := q.c.c0; have c1 := q.c.c1; have c2 := q.c.c2; have cl := q.c.lt; have s0 := q.s.c0; have s1 := q.s.c1; have s2 := q.s.c2; have sl := q.s.lt; have t0 := q.t.c0; have t1 := q.t.c1; have t2 := q.t.c2; have tl := q.t.lt; have u0 := q.u.c0; have u1 := q.u.c1; have u2 := q.u.c2; have ul := q.u.lt; have HF := Lib.hid q; clear q; simp only [encS]))
    | (go_at_call 7; ((with_reducible refine (rspots_one p a b C x3 y3 f3 _ _ (by simp)).mono ?_); rintro e w4 ⟨rfl, HK⟩; rw [HB1.out])))
  go_ret
  exact ⟨rfl, (HF.out.keep.alloc _).trans HK⟩
/-- the law -/
theorem brackets_any (p a b : Int) (x1 y1 : Int) (f1 : Bool) (x2 y2 : Int) (f2 : Bool) (x3 y3 : Int) (f3 : Bool) (w : World) :
    Calls Try.prog 3 #[encI p a b, encS x1 y1 f1, encS x2 y2 f2, encS x3 y3 f3] w (LawPost w) := by
  by_cases hc : cc p a b = 0
  · obtain ⟨p, a, b, rfl, rfl, rfl, C⟩ := Cv.of_cc hc
    haveI : NeZero p := ⟨by have := C.p5; omega⟩
    by_cases h1 : SOk p a b (x1, y1, f1)
    · by_cases h2 : SOk p a b (x2, y2, f2)
      · by_cases h3 : SOk p a b (x3, y3, f3)
        · exact brackets_ok p a b C x1 y1 f1 x2 y2 f2 x3 y3 f3 h1 h2 h3 w
        · exact brackets_form2 p a b C x1 y1 f1 x2 y2 f2 x3 y3 f3 h1 h2 h3 w
      · exact brackets_form1 p a b C x1 y1 f1 x2 y2 f2 x3 y3 f3 (fun h => h2 h.2) w
    · exact brackets_form1 p a b C x1 y1 f1 x2 y2 f2 x3 y3 f3 (fun h => h1 h.1) w
  · exact brackets_bad p a b hc x1 y1 f1 x2 y2 f2 x3 y3 f3 w
theorem low {f : FuncId} {args : Array Value} {w : World} (h : Calls Try.prog f args w (LawPost w)) : Calls Try.prog f args w fun e w' => e = .returned (.bool true) ∧ Below w.heap.size w w' := h.mono fun _ _ h => ⟨h.1, h.2.toBelow⟩
end Go.Proofs.Ytlfocajlkelnbaa
