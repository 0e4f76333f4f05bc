/-
  Shift: the three laws, in plain words.
-/
import Derived.Test.YtcbjdodpgnmhnaaShiftH
namespace Go.Proofs.Ytcbjdodpgnmhnaa
open Go.RowKit
theorem sol_congr {s t t' : Nat → Bool} {L N : Nat} (hL : L ≤ 64) (h : ∀ i < L, t i = t' i) (hs : Sol s L N t) : Sol s L N t' := by
  intro n h1 h2
  rw [← hs n h1 h2, dot_past s L n hL, dot_past s L n hL]
  exact xs_congr fun i hi => by rw [h i hi]
theorem bitsOf_getD {x n i : Nat} (h : i < n) : (bitsOf x n).getD i false = x.testBit i := by
  unfold bitsOf
  rw [List.getD_eq_getElem?_getD, List.getElem?_map, List.getElem?_range h]; rfl
theorem bitsOf_length (x n : Nat) : (bitsOf x n).length = n := by simp [bitsOf]
theorem makes_iff {taps l : List Bool} {L : Nat} (ht : taps.length = L) (hl : l.length ≤ 64) : MakesP taps l ↔ L ≤ l.length ∧ Sol (fun i => l.getD i false) L l.length fun i => taps.getD i false := by
  unfold MakesP
  rw [ht]
  constructor
  · rintro ⟨h1, h2⟩; exact ⟨h1, (rgen_iff taps l L ht h1 (by omega)).1 h2⟩
  · rintro ⟨h1, h2⟩; exact ⟨h1, (rgen_iff taps l L ht h1 (by omega)).2 h2⟩
/-- the told rule makes the row -/
theorem short_makes {l : List Bool} {n L t : Nat} (hl : l.length = n) (hn : n ≤ 64) (hL : L ≤ n) (h : Sol (fun i => l.getD i false) L n t.testBit) : rgen (bitsOf t L) (l.take L) n = l := by
  subst hl
  exact (rgen_iff (bitsOf t L) l L (bitsOf_length _ _) hL (by omega)).2 (sol_congr (by omega) (fun i hi => (bitsOf_getD hi).symm) h)
theorem poly_rule {taps l : List Bool} {L : Nat} (ht : taps.length = L) (hl : l.length ≤ 64) (h : MakesP taps l) : Rule (fun i => l.getD i false) (polyOf (fun i => taps.getD i false) L) L l.length := by
  obtain ⟨h1, h2⟩ := (makes_iff ht hl).1 h
  exact h2.rule (by omega)
/-- no rule with fewer taps makes it -/
theorem short_least {taps l : List Bool} {n L k : Nat} {p b : Nat → Bool} (hl : l.length = n) (hn : n ≤ 64) (hbm : Bm (fun i => l.getD i false) p b L k n) (h : MakesP taps l) : L ≤ taps.length := by
  subst hl
  exact hbm.least _ _ (poly_rule rfl hn h)
/-- of a row twice as long no other rule makes it -/
theorem short_only {taps l : List Bool} {n L t k : Nat} {p b : Nat → Bool} (hl : l.length = n) (hn : n ≤ 64) (hL : L ≤ n) (hsol : Sol (fun i => l.getD i false) L n t.testBit) (hbm : Bm (fun i => l.getD i false) p b L k n) (h2 : 2 * L ≤ n) (ht : taps.length = L) (h : MakesP taps l) : taps = bitsOf t L := by
  subst hl
  have r1 := poly_rule ht hn h
  have r2 : Rule (fun i => l.getD i false) (polyOf t.testBit L) L l.length := hsol.rule (by omega)
  have e := only r1 r2 hbm.least h2
  refine list_eq_of (by rw [ht, bitsOf_length]) fun i hi => ?_
  rw [bitsOf_getD (by omega)]
  have := e (i + 1)
  have d : decide (i < L) = true := by simp; omega
  simpa [polyOf, d] using this
theorem one_long {L k : Nat} {p b : Nat → Bool} (hL : L ≤ 1) (hbm : Bm (fun i => [true].getD i false) p b L k 1) : L = 1 := by
  apply Classical.byContradiction
  intro hne
  have h0 : L = 0 := by omega
  subst h0
  have := hbm.rule.fits 0 (Nat.le_refl _) (by decide)
  unfold D at this
  simp [xs, hbm.rule.one] at this
theorem D_agree {c s s' : Nat → Bool} {n : Nat} (h : ∀ i ≤ n, s i = s' i) : D c s n = D c s' n := xs_congr fun i hi => by rw [h (n - i) (by omega)]
theorem Rule.agree {s s' c : Nat → Bool} {L n : Nat} (h : Rule s c L n) (he : ∀ i < n, s i = s' i) : Rule s' c L n :=
  ⟨h.one, h.deg, fun m h1 h2 => by rw [← D_agree (fun i hi => he i (by omega))]; exact h.fits m h1 h2⟩
theorem Bm.agree {s s' c b : Nat → Bool} {L k n : Nat} (h : Bm s c b L k n) (he : ∀ i < n, s i = s' i) : Bm s' c b L k n := by
  refine ⟨h.rule.agree he, h.le, fun c1 L1 h1 => h.least c1 L1 (h1.agree fun i hi => (he i hi).symm), h.kpos, h.kle, ?_⟩
  rcases h.mend with h1 | ⟨m, Lb, h1, h2, h3, h4, h5, h6⟩
  · exact .inl h1
  · exact .inr ⟨m, Lb, h1, h2, h3, h4, h5.agree fun i hi => he i (by omega), by rw [← D_agree (fun i hi => he i (by omega))]; exact h6⟩
/-- how long the shortest rule is behind one bit more -/
theorem short_grows {l : List Bool} {x : Bool} {n L t k L1 k1 : Nat} {p b p1 b1 : Nat → Bool} (hl : l.length = n) (hn : n < 64) (hL : L ≤ n) (hsol : Sol (fun i => l.getD i false) L n t.testBit) (hbm : Bm (fun i => l.getD i false) p b L k n)
    (hbm1 : Bm (fun i => (l ++ [x]).getD i false) p1 b1 L1 k1 (n + 1)) : L1 = if MakesP (bitsOf t L) (l ++ [x]) then L else max L (n + 1 - L) := by
  have hlen : (l ++ [x]).length = n + 1 := by simp [hl]
  have he : ∀ i < n, l.getD i false = (l ++ [x]).getD i false := fun i hi => by
    rw [List.getD_eq_getElem?_getD, List.getD_eq_getElem?_getD, List.getElem?_append_left (by omega)]
  have hbm' := hbm.agree (s' := fun i => (l ++ [x]).getD i false) he
  have hle : L ≤ L1 := hbm'.least _ _ (hbm1.rule.less (by omega))
  by_cases hm : MakesP (bitsOf t L) (l ++ [x])
  · rw [if_pos hm]
    have := poly_rule (bitsOf_length t L) (by rw [hlen]; omega) hm
    rw [hlen] at this
    have := hbm1.least _ _ this
    omega
  · rw [if_neg hm]
    have r2 : Rule (fun i => (l ++ [x]).getD i false) (polyOf t.testBit L) L n := (hsol.rule (by omega)).agree he
    have hfail : D (polyOf t.testBit L) (fun i => (l ++ [x]).getD i false) n = true := by
      cases hd : D (polyOf t.testBit L) (fun i => (l ++ [x]).getD i false) n
      · exfalso
        apply hm
        refine (makes_iff (bitsOf_length t L) (by rw [hlen]; omega)).2 ⟨by rw [hlen]; omega, ?_⟩
        rw [hlen]
        have r3 : Rule (fun i => (l ++ [x]).getD i false) (polyOf t.testBit L) L (n + 1) := ⟨r2.one, r2.deg, fun j h1 h2 => by
          by_cases hj : j = n
          · subst hj; exact hd
          · exact r2.fits j h1 (by omega)⟩
        refine sol_congr (by omega) (fun i hi => ?_) (r3.sol (by omega))
        have d : decide (i < L) = true := by simpa using hi
        rw [bitsOf_getD hi]
        show (decide (i < L) && t.testBit i) = _
        rw [d]; rfl
      · rfl
    refine grows r2 hbm'.least hL hfail hbm1.rule hbm1.least ?_
    cases hd : D p (fun i => (l ++ [x]).getD i false) n
    · have r3 : Rule (fun i => (l ++ [x]).getD i false) p L (n + 1) := ⟨hbm'.rule.one, hbm'.rule.deg, fun j h1 h2 => by
        by_cases hj : j = n
        · subst hj; exact hd
        · exact hbm'.rule.fits j h1 (by omega)⟩
      have := massey r2 hfail hL r3
      have e : max L (n + 1 - L) = L := by omega
      rw [e]; exact ⟨p, r3⟩
    · exact ⟨_, hbm'.mends hd⟩
end Go.Proofs.Ytcbjdodpgnmhnaa
