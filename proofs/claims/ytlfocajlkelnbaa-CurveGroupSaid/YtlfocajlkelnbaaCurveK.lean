/-
  Curve: Add and Neg.
-/
import Derived.Test.YtlfocajlkelnbaaCurveR
namespace Go.Proofs.Ytlfocajlkelnbaa
open Go.RowKit
/-- a curve that may be -/
structure Cv (p a b : Nat) : Prop where
  p5 : 5 ≤ p
  p9 : p ≤ 1009
  ha : a < p
  hb : b < p
  hp : PrimeN p
  hd : disc p a b ≠ 0
theorem Cv.cc {p a b : Nat} (h : Cv p a b) : cc p a b = 0 := cc_ok ⟨h.p5, h.p9, h.ha, h.hb⟩ h.hp h.hd
theorem Cv.of_cc {p a b : Int} (h : Go.Proofs.Ytlfocajlkelnbaa.cc p a b = 0) : ∃ p' a' b' : Nat, p = p' ∧ a = a' ∧ b = b' ∧ Cv p' a' b' := by
  unfold Go.Proofs.Ytlfocajlkelnbaa.cc at h
  split at h
  · rename_i hr
    split at h
    · rename_i h2
      refine ⟨p.toNat, a.toNat, b.toNat, by omega, by omega, by omega, by omega, by omega, by omega, by omega, h2.1, h2.2⟩
    · cases h
  · cases h
def SumPost (p a b : Nat) [NeZero p] (s t : Sp) (w : World) (e : Ending) (w' : World) : Prop := ∃ u : Sp, SOk p a b u ∧ tr p u = add (finv p) (fi a) (tr p s) (tr p t) ∧ e = .returned (encS u.1 u.2.1 u.2.2) ∧ Keep (fun _ => False) w w'
theorem sum_any (p a b : Nat) [NeZero p] (C : Cv p a b) (s t : Sp) (hs : SOk p a b s) (ht : SOk p a b t) (w : World) :
    Calls Try.prog 12 #[encC p a b, encS s.1 s.2.1 s.2.2, encS t.1 t.2.1 t.2.2] w (SumPost p a b s t w) := by
  obtain ⟨x1, y1, f1⟩ := s
  obtain ⟨x2, y2, f2⟩ := t
  have F := fld C.hp (by have := C.p5; omega)
  cases f1 with
  | true =>
    refine (add_far1 p a b x1 y1 x2 y2 f2 w).mono ?_
    rintro e w' ⟨rfl, hk⟩
    exact ⟨(x2, y2, f2), ht, rfl, rfl, hk⟩
  | false =>
    cases f2 with
    | true =>
      refine (add_far2 p a b x1 y1 x2 y2 w).mono ?_
      rintro e w' ⟨rfl, hk⟩
      exact ⟨(x1, y1, false), hs, (add_far _).symm, rfl, hk⟩
    | false =>
      rcases hs with ⟨h, _⟩ | ⟨_, h1, h2, h3, h4, h5⟩
      · cases h
      rcases ht with ⟨h, _⟩ | ⟨_, g1, g2, g3, g4, g5⟩
      · cases h
      simp only at *
      obtain ⟨x1, rfl⟩ := Int.eq_ofNat_of_zero_le h1
      obtain ⟨y1, rfl⟩ := Int.eq_ofNat_of_zero_le h3
      obtain ⟨x2, rfl⟩ := Int.eq_ofNat_of_zero_le g1
      obtain ⟨y2, rfl⟩ := Int.eq_ofNat_of_zero_le g3
      have hs : SOk p a b ((x1 : Int), (y1 : Int), false) := .inr ⟨rfl, h1, h2, h3, h4, h5⟩
      have ht : SOk p a b ((x2 : Int), (y2 : Int), false) := .inr ⟨rfl, g1, g2, g3, g4, g5⟩
      refine (add_any p a b x1 y1 x2 y2 C.hp C.p9 C.ha (by omega) (by omega) (by omega) (by omega) (fun hx hn => ?_) w).mono ?_
      · subst hx
        exact twins F (by omega) (by omega) hs ht hn
      · intro e w' h
        exact add_law F (by omega) (by omega) (by omega) (by omega) hs ht h
theorem all_two {p a b : Nat} {s t : Sp} : AllOk p a b [s, t] ↔ SOk p a b s ∧ SOk p a b t := by
  unfold AllOk SOk; simp
def AddDone (p a b : Nat) [NeZero p] (s t : Sp) (w : World) (e : Ending) (w' : World) : Prop := ∃ u : Sp, SOk p a b u ∧ tr p u = add (finv p) (fi a) (tr p s) (tr p t) ∧ e = .returned (.tuple #[encS u.1 u.2.1 u.2.2, .int .i64 0]) ∧ Keep (fun _ => False) w w'
theorem spotsAt_two (w : World) (t : TypeId) (x1 y1 x2 y2 : Int) (f1 f2 : Bool) : SpotsAt (w.alloc (.cells #[.int .i64 x1, .int .i64 y1, .bool f1, .int .i64 x2, .int .i64 y2, .bool f2] t)) w.heap.size [(x1, y1, f1), (x2, y2, f2)] := by
  have hb := World.alloc_heap_new w (.cells #[.int .i64 x1, .int .i64 y1, .bool f1, .int .i64 x2, .int .i64 y2, .bool f2] t)
  intro i x y f h
  match i, h with
  | 0, h =>
    simp at h; obtain ⟨rfl, rfl, rfl⟩ := h
    refine ⟨?_, ?_, ?_⟩ <;> (rw [cell_of_row _ _ _ _ _ _ hb]; rfl)
  | 1, h =>
    simp at h; obtain ⟨rfl, rfl, rfl⟩ := h
    refine ⟨?_, ?_, ?_⟩ <;> (rw [cell_of_row _ _ _ _ _ _ hb]; rfl)
  | n + 2, h => simp at h
/-- the world when Add asks for its spots -/
structure AddLaid (w W5 : World) (x1 y1 x2 y2 : Int) (f1 f2 : Bool) : Prop where
  keep : Keep (fun _ => False) w W5
  s : Row3 W5 (w.heap.size + 1) 25 (.int .i64 x1) (.int .i64 y1) (.bool f1)
  t : Row3 W5 (w.heap.size + 1 + 1) 25 (.int .i64 x2) (.int .i64 y2) (.bool f2)
  r : Row3 W5 (w.heap.size + 1 + 1 + 1) 25 (.int .i64 0) (.int .i64 0) (.bool false)
  l : SpotsAt W5 (w.heap.size + 1 + 1 + 1 + 1) [(x1, y1, f1), (x2, y2, f2)]
theorem add_laid (w : World) (p a b : Int) (x1 y1 x2 y2 : Int) (f1 f2 : Bool) : AddLaid w (((((w.alloc (.cells #[.int .i64 p, .int .i64 a, .int .i64 b] 23)).alloc (.cells #[.int .i64 x1, .int .i64 y1, .bool f1] 25)).alloc (.cells #[.int .i64 x2, .int .i64 y2, .bool f2] 25)).alloc (.cells #[.int .i64 0, .int .i64 0, .bool false] 25)).alloc (.cells #[.int .i64 x1, .int .i64 y1, .bool f1, .int .i64 x2, .int .i64 y2, .bool f2] 25)) x1 y1 x2 y2 f1 f2 := by
  obtain ⟨W5, hW5⟩ : ∃ W5, W5 = ((((w.alloc (.cells #[.int .i64 p, .int .i64 a, .int .i64 b] 23)).alloc (.cells #[.int .i64 x1, .int .i64 y1, .bool f1] 25)).alloc (.cells #[.int .i64 x2, .int .i64 y2, .bool f2] 25)).alloc (.cells #[.int .i64 0, .int .i64 0, .bool false] 25)).alloc (.cells #[.int .i64 x1, .int .i64 y1, .bool f1, .int .i64 x2, .int .i64 y2, .bool f2] 25) := ⟨_, rfl⟩
  rw [← hW5]
  have hk0 : Keep (fun _ => False) w W5 := by rw [hW5]; exact (((((Keep.refl _ w).alloc _).alloc _).alloc _).alloc _).alloc _
  have q2 : Row3 W5 (w.heap.size + 1) 25 (.int .i64 x1) (.int .i64 y1) (.bool f1) := by
    have := Row3.new (w.alloc (.cells #[.int .i64 p, .int .i64 a, .int .i64 b] 23)) 25 (.int .i64 x1) (.int .i64 y1) (.bool f1)
    rw [World.size_alloc] at this; rw [hW5]; exact ((this.alloc _).alloc _).alloc _
  have q3 : Row3 W5 (w.heap.size + 1 + 1) 25 (.int .i64 x2) (.int .i64 y2) (.bool f2) := by
    have := Row3.new ((w.alloc (.cells #[.int .i64 p, .int .i64 a, .int .i64 b] 23)).alloc (.cells #[.int .i64 x1, .int .i64 y1, .bool f1] 25)) 25 (.int .i64 x2) (.int .i64 y2) (.bool f2)
    rw [World.size_alloc, World.size_alloc] at this; rw [hW5]; exact (this.alloc _).alloc _
  have q4 : Row3 W5 (w.heap.size + 1 + 1 + 1) 25 (.int .i64 0) (.int .i64 0) (.bool false) := by
    have := Row3.new (((w.alloc (.cells #[.int .i64 p, .int .i64 a, .int .i64 b] 23)).alloc (.cells #[.int .i64 x1, .int .i64 y1, .bool f1] 25)).alloc (.cells #[.int .i64 x2, .int .i64 y2, .bool f2] 25)) 25 (.int .i64 0) (.int .i64 0) (.bool false)
    rw [World.size_alloc, World.size_alloc, World.size_alloc] at this; rw [hW5]; exact this.alloc _
  have qs : SpotsAt W5 (w.heap.size + 1 + 1 + 1 + 1) [(x1, y1, f1), (x2, y2, f2)] := by
    have := spotsAt_two ((((w.alloc (.cells #[.int .i64 p, .int .i64 a, .int .i64 b] 23)).alloc (.cells #[.int .i64 x1, .int .i64 y1, .bool f1] 25)).alloc (.cells #[.int .i64 x2, .int .i64 y2, .bool f2] 25)).alloc (.cells #[.int .i64 0, .int .i64 0, .bool false] 25)) 25 x1 y1 x2 y2 f1 f2
    rw [World.size_alloc, World.size_alloc, World.size_alloc, World.size_alloc] at this
    rw [hW5]; exact this
  exact ⟨hk0, q2, q3, q4, qs⟩
set_option maxHeartbeats 2000000 in
theorem Add_ok (p a b : Nat) [NeZero p] (C : Cv p a b) (x1 y1 x2 y2 : Int) (f1 f2 : Bool) (hs : SOk p a b (x1, y1, f1)) (ht : SOk p a b (x2, y2, f2)) (w : World) :
    Calls Try.prog 6 #[encC p a b, encS x1 y1 f1, encS x2 y2 f2] w (AddDone p a b (x1, y1, f1) (x2, y2, f2) w) := by
  have hres : Try.f6.results = #[.cell 6 25, .tmp 7] := by kernel_rfl
  have HALL := Lib.hid (all_two.2 ⟨hs, ht⟩)
  unfold encC encS
  go_enter Try.func6, Try.ntmps6
  go_wp2_with (first
    | (go_at_call 11; refine (spots_ok p a b C.p5 C.p9 C.ha C.hb C.cc (w.heap.size + 1 + 1 + 1 + 1) (some ⟨w.heap.size + 1 + 1 + 1 + 1, 0, none⟩) [(x1, y1, f1), (x2, y2, f2)] (by simp) (fun _ => rfl) _ (add_laid w p a b x1 y1 x2 y2 f1 f2).l).mono ?_; rintro e w' ⟨rfl, HK⟩; rw [if_pos HALL.out]; have q2 := (add_laid w p a b x1 y1 x2 y2 f1 f2).s.keep HK; have q3 := (add_laid w p a b x1 y1 x2 y2 f1 f2).t.keep HK; have q4 := (add_laid w p a b x1 y1 x2 y2 f1 f2).r.keep HK; have hk1 := (add_laid w p a b x1 y1 x2 y2 f1 f2).keep.trans HK; have s0 := q2.c0; have s1 := q2.c1; have s2 := q2.c2; have sl := q2.lt; have t0 := q3.c0; have t1 := q3.c1; have t2 := q3.c2; have tl := q3.lt; have HQ := Lib.hid q4; have HK := Lib.hid hk1; clear q2 q3 q4 hk1)
    | (go_at_call 12; refine (sum_any p a b C (x1, y1, f1) (x2, y2, f2) hs ht _).mono ?_; rintro e w2 ⟨⟨x3, y3, f3⟩, hu1, hu2, rfl, HK2⟩; have q4 := (HQ.out.alloc (.cells #[.int .i64 p, .int .i64 a, .int .i64 b] 38)).keep HK2; have r0 := q4.c0; have r1 := q4.c1; have r2 := q4.c2; have rf := q4.fr; clear q4 s0 s1 s2 sl t0 t1 t2 tl; have HU := Lib.hid hu2; clear hu2; simp only [encS]))
  refine bodyPost_ret (v := .tuple #[.agg #[.int .i64 x3, .int .i64 y3, .bool f3], .int .i64 0]) ?_ rfl ⟨(x3, y3, f3), hu1, HU.out, rfl, ?_⟩
  · simp only [results, hres]
    go_simp
  · have hle : w.heap.size ≤ w.heap.size + 1 + 1 + 1 := by omega
    exact ((((HK.out.alloc _).trans HK2).setCell (p := ⟨w.heap.size + 1 + 1 + 1, 0, none⟩) (.inl hle) _).setCell (p := ⟨w.heap.size + 1 + 1 + 1, 1, none⟩) (.inl hle) _).setCell (p := ⟨w.heap.size + 1 + 1 + 1, 2, none⟩) (.inl hle) _
def AddErr (w : World) (e : Ending) (w' : World) : Prop := ∃ c : Int, (c != 0) = true ∧ e = .returned (.tuple #[encS 0 0 false, .int .i64 c]) ∧ Keep (fun _ => False) w w'
set_option maxHeartbeats 2000000 in
theorem Add_bad (p a b : Int) (hc : cc p a b ≠ 0) (x1 y1 x2 y2 : Int) (f1 f2 : Bool) (w : World) :
    Calls Try.prog 6 #[encI p a b, encS x1 y1 f1, encS x2 y2 f2] w (AddErr w) := by
  have hres : Try.f6.results = #[.cell 6 25, .tmp 7] := by kernel_rfl
  obtain ⟨c, hcc⟩ : ∃ c, c = cc p a b := ⟨_, rfl⟩
  have b2 : (c != 0) = true := by rw [hcc]; simpa using hc
  have HB := Lib.hid hc; have HC := Lib.hid hcc; clear hcc hc
  unfold encI encS
  go_enter Try.func6, Try.ntmps6
  go_wp2_with (go_at_call 11; refine (spots_bad p a b HB.out _ _).mono ?_; rintro e w' ⟨rfl, HK⟩; rw [← HC.out]; have q4 := (add_laid w p a b x1 y1 x2 y2 f1 f2).r.keep HK; have hk1 := (add_laid w p a b x1 y1 x2 y2 f1 f2).keep.trans HK; have r0 := q4.c0; have r1 := q4.c1; have r2 := q4.c2; have rf := q4.fr; have rl := q4.lt; have HK := Lib.hid hk1; clear q4 hk1)
  refine bodyPost_ret (v := .tuple #[.agg #[.int .i64 0, .int .i64 0, .bool false], .int .i64 c]) ?_ rfl ⟨c, b2, rfl, ?_⟩
  · simp only [results, hres]
    go_simp
  · have hle : w.heap.size ≤ w.heap.size + 1 + 1 + 1 := by omega
    exact (((HK.out.setCell (p := ⟨w.heap.size + 1 + 1 + 1, 0, none⟩) (.inl hle) _).setCell (p := ⟨w.heap.size + 1 + 1 + 1, 1, none⟩) (.inl hle) _).setCell (p := ⟨w.heap.size + 1 + 1 + 1, 2, none⟩) (.inl hle) _).alloc _
set_option maxHeartbeats 2000000 in
theorem Add_form (p a b : Nat) (C : Cv p a b) (x1 y1 x2 y2 : Int) (f1 f2 : Bool) (hn : ¬ (SOk p a b (x1, y1, f1) ∧ SOk p a b (x2, y2, f2))) (w : World) :
    Calls Try.prog 6 #[encC p a b, encS x1 y1 f1, encS x2 y2 f2] w (AddErr w) := by
  have hres : Try.f6.results = #[.cell 6 25, .tmp 7] := by kernel_rfl
  have HALL := Lib.hid (fun h => hn (all_two.1 h)); clear hn
  unfold encC encS
  go_enter Try.func6, Try.ntmps6
  go_wp2_with (go_at_call 11; refine (spots_ok p a b C.p5 C.p9 C.ha C.hb C.cc (w.heap.size + 1 + 1 + 1 + 1) (some ⟨w.heap.size + 1 + 1 + 1 + 1, 0, none⟩) [(x1, y1, f1), (x2, y2, f2)] (by simp) (fun _ => rfl) _ (add_laid w p a b x1 y1 x2 y2 f1 f2).l).mono ?_; rintro e w' ⟨rfl, HK⟩; rw [if_neg HALL.out]; have q4 := (add_laid w p a b x1 y1 x2 y2 f1 f2).r.keep HK; have hk1 := (add_laid w p a b x1 y1 x2 y2 f1 f2).keep.trans HK; have r0 := q4.c0; have r1 := q4.c1; have r2 := q4.c2; have rf := q4.fr; have rl := q4.lt; have HK := Lib.hid hk1; clear q4 hk1)
  refine bodyPost_ret (v := .tuple #[.agg #[.int .i64 0, .int .i64 0, .bool false], .int .i64 4]) ?_ rfl ⟨4, rfl, rfl, ?_⟩
  · simp only [results, hres]
    go_simp
  · have hle : w.heap.size ≤ w.heap.size + 1 + 1 + 1 := by omega
    exact (((HK.out.setCell (p := ⟨w.heap.size + 1 + 1 + 1, 0, none⟩) (.inl hle) _).setCell (p := ⟨w.heap.size + 1 + 1 + 1, 1, none⟩) (.inl hle) _).setCell (p := ⟨w.heap.size + 1 + 1 + 1, 2, none⟩) (.inl hle) _).alloc _
end Go.Proofs.Ytlfocajlkelnbaa
