/-
  Curve: Neg.
-/
import Derived.Test.YtlfocajlkelnbaaCurveM
namespace Go.Proofs.Ytlfocajlkelnbaa
open Go.RowKit
def NegDone (p a b : Nat) [NeZero p] (s : Sp) (w : World) (e : Ending) (w' : World) : Prop := ∃ u : Sp, SOk p a b u ∧ tr p u = neg (tr p s) ∧ e = .returned (.tuple #[encS u.1 u.2.1 u.2.2, .int .i64 0]) ∧ Keep (fun _ => False) w w'
structure NegLaid (w W5 : World) (x1 y1 : Int) (f1 : Bool) : Prop where
  keep : Keep (fun _ => False) w W5
  s : Row3 W5 (w.heap.size + 1) 25 (.int .i64 x1) (.int .i64 y1) (.bool f1)
  r : Row3 W5 (w.heap.size + 1 + 1) 25 (.int .i64 0) (.int .i64 0) (.bool false)
  l : SpotsAt W5 (w.heap.size + 1 + 1 + 1) [(x1, y1, f1)]
theorem neg_laid (w : World) (p a b : Int) (x1 y1 : Int) (f1 : Bool) : NegLaid w ((((w.alloc (.cells #[.int .i64 p, .int .i64 a, .int .i64 b] 23)).alloc (.cells #[.int .i64 x1, .int .i64 y1, .bool f1] 25)).alloc (.cells #[.int .i64 0, .int .i64 0, .bool false] 25)).alloc (.cells #[.int .i64 x1, .int .i64 y1, .bool f1] 25)) x1 y1 f1 := by
  refine ⟨((((Keep.refl _ w).alloc _).alloc _).alloc _).alloc _, ?_, ?_, ?_⟩
  · have := Row3.new (w.alloc (.cells #[.int .i64 p, .int .i64 a, .int .i64 b] 23)) 25 (.int .i64 x1) (.int .i64 y1) (.bool f1)
    rw [World.size_alloc] at this; exact (this.alloc _).alloc _
  · have := Row3.new ((w.alloc (.cells #[.int .i64 p, .int .i64 a, .int .i64 b] 23)).alloc (.cells #[.int .i64 x1, .int .i64 y1, .bool f1] 25)) 25 (.int .i64 0) (.int .i64 0) (.bool false)
    rw [World.size_alloc, World.size_alloc] at this; exact this.alloc _
  · have := spotsAt_one (((w.alloc (.cells #[.int .i64 p, .int .i64 a, .int .i64 b] 23)).alloc (.cells #[.int .i64 x1, .int .i64 y1, .bool f1] 25)).alloc (.cells #[.int .i64 0, .int .i64 0, .bool false] 25)) 25 x1 y1 f1
    rw [World.size_alloc, World.size_alloc, World.size_alloc] at this; exact this
theorem neg_law {p a b : Nat} [NeZero p] (C : Cv p a b) {x : Int} {y : Nat} {f : Bool} (h : SOk p a b (x, (y : Int), f)) : SOk p a b (x, -(y : Int) % p, f) ∧ tr p (x, -(y : Int) % p, f) = neg (tr p (x, (y : Int), f)) := by
  have hp := C.p5
  have F := fld C.hp (by omega)
  rcases h with ⟨h0, h1, h2⟩ | ⟨h0, h1, h2, h3, h4, h5⟩ <;> simp only at *
  · subst h0; subst h1
    refine ⟨.inl ⟨rfl, rfl, ?_⟩, rfl⟩
    show -(y : Int) % p = 0
    rw [h2]; simp
  · subst h0
    obtain ⟨x, rfl⟩ := Int.eq_ofNat_of_zero_le h1
    have hn0 := Int.emod_nonneg (-(y : Int)) (show (p : Int) ≠ 0 by omega)
    have hn1 := Int.emod_lt_of_pos (-(y : Int)) (show (0 : Int) < p by omega)
    obtain ⟨z, hz⟩ : ∃ z : Nat, (z : Int) = -(y : Int) % p := ⟨(-(y : Int) % p).toNat, Int.toNat_of_nonneg hn0⟩
    have ht : (tr p ((x : Int), (z : Int), false) : Pt p) = neg (tr p ((x : Int), (y : Int), false)) := by
      show (Pt.aff (fi x) (fi z) : Pt p) = Pt.aff (fi x) (-fi y)
      rw [hz, fi_mod, fi_neg]
    rw [← hz]
    refine ⟨sok_aff (by omega) (by omega) ?_, ht⟩
    have := on_neg (sok_on (p := p) (show SOk p a b ((x : Int), (y : Int), false) from .inr ⟨rfl, h1, h2, h3, h4, h5⟩))
    rw [← ht] at this; exact this
set_option maxHeartbeats 2000000 in
theorem Neg_ok (p a b : Nat) [NeZero p] (C : Cv p a b) (x1 : Int) (y1 : Nat) (f1 : Bool) (hy : y1 < p) (hs : SOk p a b (x1, (y1 : Int), f1)) (w : World) :
    Calls Try.prog 8 #[encC p a b, encS x1 y1 f1] w (NegDone p a b (x1, (y1 : Int), f1) w) := by
  have hres : Try.f8.results = #[.cell 4 25, .tmp 5] := by kernel_rfl
  have HALL := Lib.hid (all_one.2 hs)
  unfold encC encS
  go_enter Try.func8, Try.ntmps8
  go_wp2_with (first
    | (go_at_call 11; refine (spots_ok p a b C.p5 C.p9 C.ha C.hb C.cc (w.heap.size + 1 + 1 + 1) (some ⟨w.heap.size + 1 + 1 + 1, 0, none⟩) [(x1, (y1 : Int), f1)] (by simp) (fun _ => rfl) _ (neg_laid w p a b x1 y1 f1).l).mono ?_; rintro e w' ⟨rfl, HK⟩; rw [if_pos HALL.out]; have q2 := (neg_laid w p a b x1 y1 f1).s.keep HK; have q4 := (neg_laid w p a b x1 y1 f1).r.keep HK; have hk1 := (neg_laid w p a b x1 y1 f1).keep.trans HK; have s0 := q2.c0; have s1 := q2.c1; have s2 := q2.c2; have sl := q2.lt; have HQ := Lib.hid q4; have HK := Lib.hid hk1; clear q2 q4 hk1)
    | (go_at_call 15; refine (neg_any p a b x1 y1 f1 (by have := C.p5; omega) (by have := C.p9; omega) hy _).mono ?_; rintro e w2 ⟨rfl, HK2⟩; have q4 := (HQ.out.alloc (.cells #[.int .i64 p, .int .i64 a, .int .i64 b] 38)).keep HK2; have r0 := q4.c0; have r1 := q4.c1; have r2 := q4.c2; have rf := q4.fr; clear q4 s0 s1 s2 sl; simp only [encS]))
  refine bodyPost_ret (v := .tuple #[.agg #[.int .i64 x1, .int .i64 (-(y1 : Int) % p), .bool f1], .int .i64 0]) ?_ rfl ⟨(x1, -(y1 : Int) % p, f1), (neg_law C hs).1, (neg_law C hs).2, rfl, ?_⟩
  · simp only [results, hres]
    go_simp
  · have hle : w.heap.size ≤ w.heap.size + 1 + 1 := by omega
    exact ((((HK.out.alloc _).trans HK2).setCell (p := ⟨w.heap.size + 1 + 1, 0, none⟩) (.inl hle) _).setCell (p := ⟨w.heap.size + 1 + 1, 1, none⟩) (.inl hle) _).setCell (p := ⟨w.heap.size + 1 + 1, 2, none⟩) (.inl hle) _
end Go.Proofs.Ytlfocajlkelnbaa
