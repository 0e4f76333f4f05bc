/-
  Curve: what the code's add computes is the sum.
-/
import Derived.Test.YtlfocajlkelnbaaCurveJ
import Derived.Test.YtlfocajlkelnbaaCurveQ
namespace Go.Proofs.Ytlfocajlkelnbaa
open Go.RowKit
section
variable {p : Nat} [NeZero p]
def tr (p : Nat) [NeZero p] (s : Sp) : Pt p := if s.2.2 = true then .far else .aff (fi s.1) (fi s.2.1)
def SOk (p a b : Nat) (s : Sp) : Prop := SpotOk p a b s.1 s.2.1 s.2.2
theorem fi_right (a b x : Nat) : (fi (rightN p a b x : Nat) : Fin p) = fi x * fi x * fi x + fi a * fi x + fi b := by
  rw [right_law, Int.natCast_emod, fi_mod, Int.natCast_add, Int.natCast_add, Int.natCast_mul, fi_add, fi_add, fi_mul]
  have : ((x ^ 3 : Nat) : Int) = (x : Int) * x * x := by simp [Nat.pow_succ]
  rw [this, fi_mul, fi_mul]
theorem right_lt (a b x : Nat) : rightN p a b x < p := Nat.mod_lt _ (Nat.pos_of_ne_zero (NeZero.ne p))
theorem on_iff (a b x y : Nat) : On (fi a : Fin p) (fi b) (.aff (fi x) (fi y)) ↔ (y : Int) * y % p = (rightN p a b x : Nat) := by
  show (fi y : Fin p) * fi y = _ ↔ _
  rw [← fi_right, ← fi_mul, fi_eq]
  rw [Int.emod_eq_of_lt (a := ((rightN p a b x : Nat) : Int)) (by omega) (by have := right_lt (p := p) a b x; omega)]
theorem sok_on {a b : Nat} {s : Sp} (h : SOk p a b s) : On (fi a : Fin p) (fi b) (tr p s) := by
  obtain ⟨x, y, f⟩ := s
  rcases h with ⟨h, _⟩ | ⟨h, h1, h2, h3, h4, h5⟩
  · have h : f = true := h
    subst h; trivial
  · have h : f = false := h
    subst h
    simp only at h1 h2 h3 h4 h5
    obtain ⟨x, rfl⟩ := Int.eq_ofNat_of_zero_le h1
    obtain ⟨y, rfl⟩ := Int.eq_ofNat_of_zero_le h3
    exact (on_iff a b x y).2 h5
theorem fi_inj {x y : Int} (h1 : 0 ≤ x) (h2 : x < p) (h3 : 0 ≤ y) (h4 : y < p) (h : (fi x : Fin p) = fi y) : x = y := by
  rw [fi_eq, Int.emod_eq_of_lt h1 h2, Int.emod_eq_of_lt h3 h4] at h; exact h
theorem tr_inj {a b : Nat} {s t : Sp} (hs : SOk p a b s) (ht : SOk p a b t) (h : tr p s = tr p t) : s = t := by
  obtain ⟨x, y, f⟩ := s
  obtain ⟨x', y', f'⟩ := t
  rcases hs with ⟨h0, h1, h2⟩ | ⟨h0, h1, h2, h3, h4, h5⟩ <;> rcases ht with ⟨g0, g1, g2⟩ | ⟨g0, g1, g2, g3, g4, g5⟩ <;> simp only at *
  · subst h0; subst h1; subst h2; subst g0; subst g1; subst g2; rfl
  · subst h0; subst g0; cases h
  · subst h0; subst g0; cases h
  · subst h0; subst g0
    injection h with e1 e2
    rw [fi_inj h1 h2 g1 g2 e1, fi_inj h3 h4 g3 g4 e2]
theorem sok_aff {a b x y : Nat} (hx : x < p) (hy : y < p) (h : On (fi a : Fin p) (fi b) (.aff (fi x) (fi y))) : SOk p a b (x, y, false) :=
  .inr ⟨rfl, by simp, by simpa using hx, by simp, by simpa using hy, by simpa using (on_iff a b x y).1 h⟩
/-- two spots over one X -/
theorem twins (F : Fld (finv p)) {a b x y1 y2 : Nat} (l1 : y1 < p) (l2 : y2 < p) (h1 : SOk p a b (x, y1, false)) (h2 : SOk p a b (x, y2, false)) (hn : (y1 : Int) ≠ -(y2 : Int) % p) : y1 = y2 := by
  have o1 : (fi y1 : Fin p) * fi y1 = _ := sok_on h1
  have o2 : (fi y2 : Fin p) * fi y2 = _ := sok_on h2
  have e : ((fi y1 : Fin p) - fi y2) * (fi y1 + fi y2) = 0 := by
    have := o1.trans o2.symm; grind
  rcases F.cancel _ _ e with h | h
  · have : (fi y1 : Fin p) = fi y2 := by grind
    have := fi_inj (by omega) (by omega) (by omega) (by omega) this
    omega
  · exfalso
    apply hn
    have : (fi y1 : Fin p) = fi (-(y2 : Int)) := by rw [fi_neg]; grind
    rw [fi_eq, Int.emod_eq_of_lt (by omega) (by omega)] at this
    exact this
theorem add_law (F : Fld (finv p)) {a b x1 y1 x2 y2 : Nat} (l1 : x1 < p) (l2 : y1 < p) (l3 : x2 < p) (l4 : y2 < p) (h1 : SOk p a b (x1, y1, false)) (h2 : SOk p a b (x2, y2, false)) {w w' : World} {e : Ending} (h : AddPost p a x1 y1 x2 y2 w e w') :
    ∃ u : Sp, SOk p a b u ∧ tr p u = add (finv p) (fi a) (tr p (x1, y1, false)) (tr p (x2, y2, false)) ∧ e = .returned (encS u.1 u.2.1 u.2.2) ∧ Keep (fun _ => False) w w' := by
  have on1 := sok_on h1
  have on2 := sok_on h2
  have onS := on_add F on1 on2
  have hneg : (Pt.aff (fi x1) (fi y1) : Pt p) = neg (.aff (fi x2) (fi y2)) ↔ (x1 = x2 ∧ (y1 : Int) = -(y2 : Int) % p) := by
    show (Pt.aff (fi x1) (fi y1) : Pt p) = .aff (fi x2) (-fi y2) ↔ _
    rw [← fi_neg]
    constructor
    · intro h
      injection h with e1 e2
      have := fi_inj (by omega) (by omega) (by omega) (by omega) e1
      rw [fi_eq, Int.emod_eq_of_lt (by omega) (by omega)] at e2
      exact ⟨by omega, e2⟩
    · rintro ⟨rfl, hh⟩
      rw [hh, fi_mod]
  obtain ⟨h, hk⟩ := h
  rcases h with ⟨hx, hy, rfl⟩ | ⟨hn, k, x3, y3, lk, lx, ly, hch, hx3, hy3, rfl⟩
  · refine ⟨(0, 0, true), .inl ⟨rfl, rfl, rfl⟩, ?_, rfl, hk⟩
    show Pt.far = if (Pt.aff (fi x1) (fi y1) : Pt p) = neg (.aff (fi x2) (fi y2)) then .far else third (fi x1) (fi y1) (fi x2) (slope (finv p) (fi a) (fi x1) (fi y1) (fi x2) (fi y2))
    rw [if_pos (hneg.2 ⟨hx, hy⟩)]
  · have hs : (fi k : Fin p) = slope (finv p) (fi a) (fi x1) (fi y1) (fi x2) (fi y2) := by
      unfold slope
      unfold Chord at hch
      by_cases hxx : x1 = x2
      · subst hxx
        have hyy := twins F l2 l4 h1 h2 fun h => hn ⟨rfl, h⟩
        subst hyy
        rw [if_pos ⟨rfl, rfl⟩]
        rw [if_pos rfl] at hch
        have h2y : (fi (2 * (y1 : Int)) : Fin p) ≠ 0 := by
          intro h0
          rw [fi_mul, fi_two] at h0
          have h9 : (fi y1 : Fin p) = 0 := F.two _ (by grind)
          apply hn
          refine ⟨rfl, ?_⟩
          have : (fi y1 : Fin p) = fi (-(y1 : Int)) := by rw [fi_neg, h9]; grind
          rw [fi_eq, Int.emod_eq_of_lt (by omega) (by omega)] at this
          exact this
        have hc := (fi_eq (p := p) _ _).2 (hch (fun h => h2y ((fi_dvd _).2 h)))
        rw [fi_mul, fi_add, fi_mul, fi_mul, fi_mul, fi_two, fi_three] at hc
        rw [fi_mul, fi_two] at h2y
        have hi := F.inv _ h2y
        grind
      · rw [if_neg (fun h => hxx (by have := fi_inj (p := p) (by omega) (by omega) (by omega) (by omega) h.1; omega))]
        rw [if_neg hxx] at hch
        have hd : (fi ((x2 : Int) - x1) : Fin p) ≠ 0 := by
          intro h0
          rw [fi_sub] at h0
          have : (fi x1 : Fin p) = fi x2 := by grind
          have := fi_inj (p := p) (by omega) (by omega) (by omega) (by omega) this
          omega
        have hc := (fi_eq (p := p) _ _).2 (hch (fun h => hd ((fi_dvd _).2 h)))
        rw [fi_mul, fi_sub, fi_sub] at hc
        rw [fi_sub] at hd
        have hi := F.inv _ hd
        grind
    have htr : tr p ((x3 : Int), (y3 : Int), false) = add (finv p) (fi a) (tr p (x1, y1, false)) (tr p (x2, y2, false)) := by
      show (Pt.aff (fi x3) (fi y3) : Pt p) = if (Pt.aff (fi x1) (fi y1) : Pt p) = neg (.aff (fi x2) (fi y2)) then .far else third (fi x1) (fi y1) (fi x2) (slope (finv p) (fi a) (fi x1) (fi y1) (fi x2) (fi y2))
      rw [if_neg (fun h => hn (hneg.1 h)), ← hs]
      unfold third
      have ex : (fi x3 : Fin p) = fi k * fi k - fi x1 - fi x2 := by rw [hx3, fi_mod, fi_sub, fi_sub, fi_mul]
      have ey : (fi y3 : Fin p) = fi k * (fi x1 - fi x3) - fi y1 := by rw [hy3, fi_mod, fi_sub, fi_mul, fi_sub]
      rw [ey, ex]
    refine ⟨(x3, y3, false), sok_aff lx ly ?_, htr, rfl, hk⟩
    rw [← htr] at onS
    exact onS
end
end Go.Proofs.Ytlfocajlkelnbaa
