/-
  Curve: the plain law of sums of spots: over the numbers modulo a prime.
-/
namespace Go.Proofs.Ytlfocajlkelnbaa
inductive Pt (p : Nat) where
  | far : Pt p
  | aff (x y : Fin p) : Pt p
deriving DecidableEq
section
variable {p : Nat} [NeZero p]
/-- what is asked of the modulus, and what undoes a product -/
structure Fld (inv : Fin p → Fin p) : Prop where
  cancel : ∀ a b : Fin p, a * b = 0 → a = 0 ∨ b = 0
  inv : ∀ a : Fin p, a ≠ 0 → a * inv a = 1
  two : ∀ a : Fin p, a + a = 0 → a = 0
def On (A B : Fin p) : Pt p → Prop
  | .far => True
  | .aff x y => y * y = x * x * x + A * x + B
def neg : Pt p → Pt p
  | .far => .far
  | .aff x y => .aff x (-y)
def slope (inv : Fin p → Fin p) (A x1 y1 x2 y2 : Fin p) : Fin p :=
  if x1 = x2 ∧ y1 = y2 then (3 * x1 * x1 + A) * inv (2 * y1) else (y2 - y1) * inv (x2 - x1)
def third (x1 y1 x2 l : Fin p) : Pt p := .aff (l * l - x1 - x2) (l * (x1 - (l * l - x1 - x2)) - y1)
def add (inv : Fin p → Fin p) (A : Fin p) : Pt p → Pt p → Pt p
  | .far, Q => Q
  | .aff x1 y1, .far => .aff x1 y1
  | .aff x1 y1, .aff x2 y2 => if Pt.aff x1 y1 = neg (.aff x2 y2) then .far else third x1 y1 x2 (slope inv A x1 y1 x2 y2)
def Sl (A x1 y1 x2 y2 l : Fin p) : Prop := l * (x1 - x2) = y1 - y2 ∧ l * (y1 + y2) = x1 * x1 + x1 * x2 + x2 * x2 + A
variable {inv : Fin p → Fin p} {A B : Fin p}
theorem Sl.only (F : Fld inv) {x1 y1 x2 y2 l m : Fin p} (hn : Pt.aff x1 y1 ≠ neg (.aff x2 y2)) (h : Sl A x1 y1 x2 y2 l) (h' : Sl A x1 y1 x2 y2 m) : l = m := by
  obtain ⟨h1, h2⟩ := h
  obtain ⟨h3, h4⟩ := h'
  have e1 : (l - m) * (x1 - x2) = 0 := by grind -lia
  have e2 : (l - m) * (y1 + y2) = 0 := by grind -lia
  rcases F.cancel _ _ e1 with h | h
  · grind -lia
  · rcases F.cancel _ _ e2 with h' | h'
    · grind -lia
    · refine absurd ?_ hn
      have e3 : x1 = x2 := by grind -lia
      have e4 : y1 = -y2 := by grind -lia
      rw [e3, e4]; rfl
theorem sl_slope (F : Fld inv) {x1 y1 x2 y2 : Fin p} (h1 : On A B (.aff x1 y1)) (h2 : On A B (.aff x2 y2)) (hn : Pt.aff x1 y1 ≠ neg (.aff x2 y2)) : Sl A x1 y1 x2 y2 (slope inv A x1 y1 x2 y2) := by
  simp only [On] at h1 h2
  unfold slope
  by_cases he : x1 = x2 ∧ y1 = y2
  · rw [if_pos he]
    obtain ⟨rfl, rfl⟩ := he
    have hy : (2 : Fin p) * y1 ≠ 0 := by
      intro h0
      have : y1 = 0 := F.two _ (by grind -lia)
      exact hn (by rw [this]; simp only [neg]; congr 1; grind -lia)
    have := F.inv _ hy
    constructor
    · grind -lia
    · grind -lia
  · rw [if_neg he]
    have hx : x2 - x1 ≠ 0 := by
      intro h0
      have e : x2 = x1 := by grind -lia
      subst e
      have e2 : (y1 - y2) * (y1 + y2) = 0 := by grind -lia
      rcases F.cancel _ _ e2 with h | h
      · exact he ⟨rfl, by grind -lia⟩
      · exact hn (by simp only [neg]; congr 1; grind -lia)
    have hi := F.inv _ hx
    constructor
    · grind -lia
    · have e : (x1 - x2) * ((y2 - y1) * inv (x2 - x1) * (y1 + y2) - (x1 * x1 + x1 * x2 + x2 * x2 + A)) = 0 := by
        generalize inv (x2 - x1) = k at *
        grind -lia
      rcases F.cancel _ _ e with h | h
      · exact absurd (by grind -lia) hx
      · grind -lia
theorem add_of (F : Fld inv) {x1 y1 x2 y2 l : Fin p} (h1 : On A B (.aff x1 y1)) (h2 : On A B (.aff x2 y2)) (hn : Pt.aff x1 y1 ≠ neg (.aff x2 y2)) (h : Sl A x1 y1 x2 y2 l) : add inv A (.aff x1 y1) (.aff x2 y2) = third x1 y1 x2 l := by
  show (if Pt.aff x1 y1 = neg (.aff x2 y2) then _ else _) = _
  rw [if_neg hn, (sl_slope F h1 h2 hn).only F hn h]
theorem on_third {x1 y1 x2 y2 l : Fin p} (h1 : On A B (.aff x1 y1)) (h : Sl A x1 y1 x2 y2 l) : On A B (third x1 y1 x2 l) := by
  obtain ⟨h3, h4⟩ := h
  simp only [On, third] at *
  grind -lia
theorem neg_neg' (P : Pt p) : neg (neg P) = P := by
  cases P with
  | far => rfl
  | aff x y => simp only [neg]; congr 1; grind -lia
theorem on_neg {P : Pt p} (h : On A B P) : On A B (neg P) := by
  cases P with
  | far => trivial
  | aff x y => simp only [On, neg] at *; grind -lia
theorem on_add (F : Fld inv) {P Q : Pt p} (h1 : On A B P) (h2 : On A B Q) : On A B (add inv A P Q) := by
  cases P with
  | far => exact h2
  | aff x1 y1 =>
    cases Q with
    | far => exact h1
    | aff x2 y2 =>
      by_cases hn : Pt.aff x1 y1 = neg (.aff x2 y2)
      · simp only [add]; rw [if_pos hn]; trivial
      · rw [add_of F h1 h2 hn (sl_slope F h1 h2 hn)]
        exact on_third h1 (sl_slope F h1 h2 hn)
theorem opp_comm {P Q : Pt p} : P = neg Q ↔ Q = neg P := by
  constructor
  · intro h; rw [h, neg_neg']
  · intro h; rw [h, neg_neg']
theorem add_opp (A : Fin p) (inv : Fin p → Fin p) (P : Pt p) : add inv A P (neg P) = .far := by
  cases P with
  | far => rfl
  | aff x y =>
    show (if Pt.aff x y = neg (neg (.aff x y)) then _ else _) = _
    rw [if_pos (neg_neg' _).symm]
theorem opp_add (A : Fin p) (inv : Fin p → Fin p) (P : Pt p) : add inv A (neg P) P = .far := by
  have := add_opp A inv (neg P)
  rwa [neg_neg'] at this
theorem add_far (P : Pt p) : add inv A P .far = P := by cases P <;> rfl
theorem add_comm' (F : Fld inv) {P Q : Pt p} (h1 : On A B P) (h2 : On A B Q) : add inv A P Q = add inv A Q P := by
  cases P with
  | far => exact (add_far Q).symm
  | aff x1 y1 =>
    cases Q with
    | far => rfl
    | aff x2 y2 =>
      by_cases hn : Pt.aff x1 y1 = neg (.aff x2 y2)
      · rw [hn, opp_add, add_opp]
      · have hn' : Pt.aff x2 y2 ≠ neg (.aff x1 y1) := fun h => hn (opp_comm.1 h)
        have hs := sl_slope F h1 h2 hn
        have hs' : Sl A x2 y2 x1 y1 (slope inv A x1 y1 x2 y2) := by
          obtain ⟨h3, h4⟩ := hs
          constructor <;> grind -lia
        rw [add_of F h1 h2 hn hs, add_of F h2 h1 hn' hs']
        obtain ⟨h3, h4⟩ := hs
        simp only [third]
        congr 1 <;> grind -lia
theorem neg_add' (F : Fld inv) {P Q : Pt p} (h1 : On A B P) (h2 : On A B Q) : neg (add inv A P Q) = add inv A (neg P) (neg Q) := by
  cases P with
  | far => rfl
  | aff x1 y1 =>
    cases Q with
    | far => rfl
    | aff x2 y2 =>
      by_cases hn : Pt.aff x1 y1 = neg (.aff x2 y2)
      · rw [hn, neg_neg', opp_add, add_opp]; rfl
      · have hn' : neg (Pt.aff x1 y1) ≠ neg (neg (.aff x2 y2)) := fun h => hn (by rw [← neg_neg' (.aff x1 y1), h, neg_neg'])
        have hs := sl_slope F h1 h2 hn
        rw [add_of F h1 h2 hn hs]
        have hs' : Sl A x1 (-y1) x2 (-y2) (-(slope inv A x1 y1 x2 y2)) := by
          obtain ⟨h3, h4⟩ := hs
          constructor <;> grind -lia
        have := add_of F (on_neg h1) (on_neg h2) hn' hs'
        simp only [neg] at this ⊢
        rw [this]
        simp only [third]
        congr 1 <;> grind -lia
/-- the curve has no sharp spot -/
def Smooth (A B : Fin p) : Prop := 4 * (A * A * A) + 27 * (B * B) ≠ 0
theorem cancel (F : Fld inv) (hd : Smooth A B) {P Q : Pt p} (h1 : On A B P) (h2 : On A B Q) : add inv A (neg P) (add inv A P Q) = Q := by
  cases P with
  | far => rfl
  | aff x1 y1 =>
    cases Q with
    | far => rw [add_far]; exact opp_add _ _ _
    | aff x2 y2 =>
      by_cases hn : Pt.aff x1 y1 = neg (.aff x2 y2)
      · rw [hn, opp_add, neg_neg', add_far]
      · have hs := sl_slope F h1 h2 hn
        have h3 := on_third h1 hs
        rw [add_of F h1 h2 hn hs]
        generalize slope inv A x1 y1 x2 y2 = l at *
        obtain ⟨s1, s2⟩ := hs
        by_cases hR : third x1 y1 x2 l = .aff x1 y1
        · exfalso
          simp only [third, Pt.aff.injEq] at hR
          obtain ⟨r1, r2⟩ := hR
          simp only [On] at h1 h2
          rw [r1] at r2
          have e0 : y1 + y1 = 0 := by grind -lia
          have e1 : y1 = 0 := F.two _ e0
          subst e1
          by_cases hx : x1 = x2
          · subst hx
            have : y2 * y2 = 0 := by grind -lia
            have : y2 = 0 := by rcases F.cancel _ _ this with h | h <;> exact h
            subst this
            exact hn (by simp only [neg]; congr 1; grind -lia)
          · have e2 : (x1 - x2) * (3 * x1 * x1 + A) = 0 := by grind -lia
            rcases F.cancel _ _ e2 with h | h
            · exact hx (by grind -lia)
            · exact hd (by grind -lia)
        · have hne : Pt.aff x1 (-y1) ≠ neg (third x1 y1 x2 l) := by
            intro h
            exact hR (by rw [← neg_neg' (third x1 y1 x2 l), ← h]; simp only [neg]; congr 1; grind -lia)
          simp only [third] at h3 hne ⊢
          have hs' : Sl A x1 (-y1) (l * l - x1 - x2) (l * (x1 - (l * l - x1 - x2)) - y1) (-l) := by
            simp only [On] at h1 h2
            constructor <;> grind -lia
          have := add_of F (on_neg h1) h3 hne hs'
          simp only [neg] at this ⊢
          rw [this]
          simp only [third]
          congr 1 <;> grind -lia
theorem pull (X c k N : Fin p) : X * (c * k - N) = k * (c * X) - X * N := by grind -lia
theorem assoc (F : Fld inv) (hd : Smooth A B) {P Q R : Pt p} (h1 : On A B P) (h2 : On A B Q) (h3 : On A B R) :
    add inv A (add inv A P Q) R = add inv A P (add inv A Q R) := by
  have h12 := on_add F h1 h2
  have h23 := on_add F h2 h3
  -- one of the sums is the far spot
  by_cases c1 : P = neg Q
  · rw [c1, opp_add]
    exact (cancel F hd h2 h3).symm
  by_cases c2 : Q = neg R
  · have e1 : add inv A Q R = .far := by rw [c2, opp_add]
    rw [e1, add_far, add_comm' F h12 h3, add_comm' F h1 h2]
    have : R = neg Q := opp_comm.1 c2
    rw [this]
    exact cancel F hd h2 h1
  by_cases c3 : add inv A P Q = neg R
  · rw [c3, opp_add]
    have e : R = add inv A (neg P) (neg Q) := by rw [← neg_add' F h1 h2, c3, neg_neg']
    have e2 : add inv A Q R = neg P := by
      rw [e, add_comm' F (on_neg h1) (on_neg h2)]
      have := cancel F hd (on_neg h2) (on_neg h1)
      rwa [neg_neg'] at this
    rw [e2, add_opp]
  by_cases c4 : P = neg (add inv A Q R)
  · have e : P = add inv A (neg R) (neg Q) := by rw [← add_comm' F (on_neg h2) (on_neg h3), ← neg_add' F h2 h3, c4]
    refine absurd ?_ c3
    rw [e, add_comm' F (on_add F (on_neg h3) (on_neg h2)) h2, add_comm' F (on_neg h3) (on_neg h2)]
    have := cancel F hd (on_neg h2) (on_neg h3)
    rwa [neg_neg'] at this
  by_cases c5 : P = R
  · subst c5
    rw [add_comm' F h12 h1, add_comm' F h1 h2]
  cases P with
  | far => rfl
  | aff x1 y1 =>
  cases Q with
  | far => rw [add_far]; rfl
  | aff x2 y2 =>
  cases R with
  | far => rw [add_far, add_far]
  | aff x3 y3 =>
    have hs := sl_slope F h1 h2 c1
    have ht := sl_slope F h2 h3 c2
    rw [add_of F h1 h2 c1 hs] at c3 h12 ⊢
    rw [add_of F h2 h3 c2 ht] at c4 h23 ⊢
    generalize slope inv A x1 y1 x2 y2 = l at *
    generalize slope inv A x2 y2 x3 y3 = m at *
    simp only [third] at *
    have hu := sl_slope F h12 h3 c3
    have hv := sl_slope F h1 h23 c4
    rw [add_of F h12 h3 c3 hu, add_of F h1 h23 c4 hv]
    generalize slope inv A _ _ x3 y3 = n at *
    generalize slope inv A x1 y1 _ _ = r at *
    obtain ⟨s1, s2⟩ := hs
    obtain ⟨t1, t2⟩ := ht
    obtain ⟨u1, u2⟩ := hu
    obtain ⟨v1, v2⟩ := hv
    obtain ⟨u, hu⟩ : ∃ u, u = l * l - x1 - x2 := ⟨_, rfl⟩
    obtain ⟨v, hv⟩ : ∃ v, v = m * m - x2 - x3 := ⟨_, rfl⟩
    rw [← hu] at c3 h12 u1 u2 ⊢
    rw [← hv] at c4 h23 v1 v2 ⊢
    have hR : (y2 + y2) * (l - m) = (x3 - x2) * (v - x2) - (x1 - x2) * (u - x2) := by
      clear u1 u2 v1 v2 c1 c2 c3 c4 c5 h1 h2 h3 h12 h23
      subst hu hv
      grind -lia
    by_cases hlm : l = m
    · exfalso
      subst hlm
      have e : (x3 - x1) * (v - x1) = 0 := by
        clear u1 u2 v1 v2 c1 c2 c3 c4 c5 h1 h2 h3 h12 h23 s2 t2
        subst hu hv
        grind -lia
      rcases F.cancel _ _ e with h | h
      · have e1 : x1 = x3 := by grind -lia
        have e2 : y1 = y3 := by subst e1; clear u1 u2 v1 v2 c1 c2 c3 c4 c5 h1 h2 h3 h12 h23 s2 t2; grind -lia
        exact c5 (by rw [e1, e2])
      · refine c4 ?_
        have e1 : v = x1 := by grind -lia
        simp only [neg]
        rw [e1]
        congr 1
        clear u1 u2 v1 v2 c1 c2 c3 c4 c5 h1 h2 h3 h12 h23 s2 t2
        grind -lia
    · have hy1 : y1 = y2 + l * (x1 - x2) := by clear u1 u2 v1 v2 c1 c2 c3 c4 c5 h1 h2 h3 h12 h23 s2 t2 t1 hR; grind -lia
      have hy3 : y3 = y2 - m * (x2 - x3) := by clear u1 u2 v1 v2 c1 c2 c3 c4 c5 h1 h2 h3 h12 h23 s2 t2 s1 hR; grind -lia
      have e1 : n * (l - m) = l * m - x2 - x3 - u := by
        have a1 : (u - x3) * (n * (l - m) - (l * m - x2 - x3 - u)) = 0 := by
          clear u2 v1 v2 c1 c2 c3 c4 c5 h1 h2 h3 h12 h23 s1 s2 t1 t2 hlm
          subst hu hv hy1 hy3
          rw [pull, u1]
          clear u1
          grind -lia
        have a2 : (l * (x1 - u) - y1 + y3) * (n * (l - m) - (l * m - x2 - x3 - u)) = 0 := by
          clear u1 v1 v2 c1 c2 c3 c4 c5 h1 h2 h3 h12 h23 s1 t1 hlm
          subst hy1 hy3
          rw [pull, u2]
          clear u2 a1 hR
          subst hu hv
          grind -lia
        rcases F.cancel _ _ a1 with h | h
        · rcases F.cancel _ _ a2 with h' | h'
          · refine absurd ?_ c3
            simp only [neg]
            congr 1
            · clear u1 u2 v1 v2 c1 c2 c3 c4 c5 h1 h2 h3 h12 h23 s1 s2 t1 t2 hR hu hv a1 a2; grind -lia
            · clear u1 u2 v1 v2 c1 c2 c3 c4 c5 h1 h2 h3 h12 h23 s1 s2 t1 t2 hR hu hv a1 a2; grind -lia
          · clear u1 u2 v1 v2 c1 c2 c3 c4 c5 h1 h2 h3 h12 h23 s1 s2 t1 t2 hR hu hv a1 a2; grind -lia
        · clear u1 u2 v1 v2 c1 c2 c3 c4 c5 h1 h2 h3 h12 h23 s1 s2 t1 t2 hR hu hv a1 a2; grind -lia
      have e2 : r * (m - l) = l * m - x2 - x1 - v := by
        have a1 : (x1 - v) * (r * (m - l) - (l * m - x2 - x1 - v)) = 0 := by
          clear v2 u1 u2 c1 c2 c3 c4 c5 h1 h2 h3 h12 h23 s1 s2 t1 t2 hlm
          subst hy1 hy3
          rw [pull, v1]
          clear v1
          subst hu hv
          grind -lia
        have a2 : (y1 + (m * (x2 - v) - y2)) * (r * (m - l) - (l * m - x2 - x1 - v)) = 0 := by
          clear v1 u1 u2 c1 c2 c3 c4 c5 h1 h2 h3 h12 h23 s1 t1 hlm
          rw [pull, v2]
          clear v2 a1 hR e1
          subst hy1 hy3
          subst hu hv
          grind -lia
        rcases F.cancel _ _ a1 with h | h
        · rcases F.cancel _ _ a2 with h' | h'
          · refine absurd ?_ c4
            simp only [neg]
            congr 1
            · clear u1 u2 v1 v2 c1 c2 c3 c4 c5 h1 h2 h3 h12 h23 s1 s2 t1 t2 hR hu hv a1 a2 hy1 hy3; grind -lia
            · clear u1 u2 v1 v2 c1 c2 c3 c4 c5 h1 h2 h3 h12 h23 s1 s2 t1 t2 hR hu hv a1 a2 hy1 hy3; grind -lia
          · clear u1 u2 v1 v2 c1 c2 c3 c4 c5 h1 h2 h3 h12 h23 s1 s2 t1 t2 hR hu hv a1 a2; grind -lia
        · clear u1 u2 v1 v2 c1 c2 c3 c4 c5 h1 h2 h3 h12 h23 s1 s2 t1 t2 hR hu hv a1 a2; grind -lia
      have e3 : n - r = m - l := by
        have a : (l - m) * (n - r - (m - l)) = 0 := by
          clear u1 u2 v1 v2 c1 c2 c3 c4 c5 h1 h2 h3 h12 h23 s2 t2 s1 t1 hR hy1 hy3
          subst hu hv
          grind -lia
        rcases F.cancel _ _ a with h | h
        · exact absurd (by grind -lia) hlm
        · grind -lia
      clear u2 v1 v2 c1 c2 c3 c4 c5 h1 h2 h3 h12 h23 s2 t2 hR hlm
      obtain rfl : n = r + m - l := by grind -lia
      clear e3
      subst hu hv
      have ex : (r + m - l) * (r + m - l) - (l * l - x1 - x2) - x3 = r * r - x1 - (m * m - x2 - x3) := by
        clear u1 s1 t1 hy1 hy3
        grind -lia
      simp only [third]
      congr 1
      rw [ex]
      clear ex e1 s1 t1
      subst hy1 hy3
      grind -lia
end
section
variable {p : Nat} [NeZero p] {inv : Fin p → Fin p} {A B : Fin p}
/-- so many of one -/
def tim (inv : Fin p → Fin p) (A : Fin p) : Nat → Pt p → Pt p
  | 0, _ => .far
  | n + 1, P => add inv A P (tim inv A n P)
theorem on_tim (F : Fld inv) {P : Pt p} (h : On A B P) (n : Nat) : On A B (tim inv A n P) := by
  induction n with
  | zero => trivial
  | succ n ih => exact on_add F h ih
theorem tim_add (F : Fld inv) (hd : Smooth A B) {P : Pt p} (h : On A B P) (m n : Nat) : tim inv A (m + n) P = add inv A (tim inv A m P) (tim inv A n P) := by
  induction m with
  | zero => rw [Nat.zero_add]; rfl
  | succ m ih =>
    rw [Nat.succ_add]
    show add inv A P (tim inv A (m + n) P) = add inv A (add inv A P (tim inv A m P)) _
    rw [ih, assoc F hd h (on_tim F h m) (on_tim F h n)]
theorem tim_far (n : Nat) : tim inv A n (.far : Pt p) = .far := by
  induction n with
  | zero => rfl
  | succ n ih => show add inv A .far (tim inv A n .far) = _; rw [ih]; rfl
theorem tim_mul (F : Fld inv) (hd : Smooth A B) {P : Pt p} (h : On A B P) (m n : Nat) : tim inv A (m * n) P = tim inv A m (tim inv A n P) := by
  induction m with
  | zero => rw [Nat.zero_mul]; rfl
  | succ m ih =>
    rw [Nat.succ_mul, Nat.add_comm, tim_add F hd h, ih]
    rfl
/-- the sum of a list -/
def tot (inv : Fin p → Fin p) (A : Fin p) : List (Pt p) → Pt p
  | [] => .far
  | P :: l => add inv A P (tot inv A l)
theorem on_tot (F : Fld inv) {l : List (Pt p)} (h : ∀ P ∈ l, On A B P) : On A B (tot inv A l) := by
  induction l with
  | nil => trivial
  | cons P l ih => exact on_add F (h P (List.mem_cons_self ..)) (ih fun Q hQ => h Q (List.mem_cons_of_mem _ hQ))
theorem tot_perm (F : Fld inv) (hd : Smooth A B) {l l' : List (Pt p)} (hp : l.Perm l') (h : ∀ P ∈ l, On A B P) : tot inv A l = tot inv A l' := by
  induction hp with
  | nil => rfl
  | cons P _ ih => show add inv A P _ = add inv A P _; rw [ih fun Q hQ => h Q (List.mem_cons_of_mem _ hQ)]
  | swap P Q l =>
    have h1 := h Q (List.mem_cons_self ..)
    have h2 := h P (List.mem_cons_of_mem _ (List.mem_cons_self ..))
    have h3 := on_tot F (l := l) fun R hR => h R (List.mem_cons_of_mem _ (List.mem_cons_of_mem _ hR))
    show add inv A Q (add inv A P _) = add inv A P (add inv A Q _)
    rw [← assoc F hd h1 h2 h3, ← assoc F hd h2 h1 h3, add_comm' F h1 h2]
  | trans h1 _ ih1 ih2 => rw [ih1 h, ih2 fun P hP => h P (h1.mem_iff.2 hP)]
theorem tot_map (F : Fld inv) (hd : Smooth A B) {P : Pt p} (hP : On A B P) (l : List (Pt p)) (h : ∀ Q ∈ l, On A B Q) :
    tot inv A (l.map (add inv A P)) = add inv A (tim inv A l.length P) (tot inv A l) := by
  induction l with
  | nil => rfl
  | cons Q l ih =>
    have hQ := h Q (List.mem_cons_self ..)
    have hl := fun R hR => h R (List.mem_cons_of_mem _ hR)
    have ht := on_tim F hP l.length
    have hs := on_tot F hl
    show add inv A (add inv A P Q) (tot inv A (l.map _)) = add inv A (add inv A P (tim inv A l.length P)) (add inv A Q (tot inv A l))
    rw [ih hl, assoc F hd hP hQ (on_add F ht hs), assoc F hd hP ht (on_add F hQ hs)]
    rw [← assoc F hd hQ ht hs, add_comm' F hQ ht, assoc F hd ht hQ hs]
/-- Lagrange: as many of one as there are are the far one -/
theorem lagrange (F : Fld inv) (hd : Smooth A B) {l : List (Pt p)} (hn : l.Nodup) (hm : ∀ P, P ∈ l ↔ On A B P) {P : Pt p} (hP : On A B P) : tim inv A l.length P = .far := by
  have hl : ∀ Q ∈ l, On A B Q := fun Q hQ => (hm Q).1 hQ
  have hinj : ∀ Q R, On A B Q → On A B R → add inv A P Q = add inv A P R → Q = R := fun Q R hQ hR e => by
    have := cancel F hd hP hQ
    rw [e, cancel F hd hP hR] at this
    exact this.symm
  have hn2 : (l.map (add inv A P)).Nodup := by
    rw [List.Nodup, List.pairwise_map]
    refine List.Pairwise.imp_of_mem (fun {a b} ha hb hab e => hab (hinj a b (hl a ha) (hl b hb) e)) hn
  have hp : (l.map (add inv A P)).Perm l := by
    refine (List.perm_ext_iff_of_nodup hn2 hn).2 fun Q => ?_
    rw [List.mem_map]
    constructor
    · rintro ⟨R, hR, rfl⟩
      exact (hm _).2 (on_add F hP (hl R hR))
    · intro hQ
      refine ⟨add inv A (neg P) Q, (hm _).2 (on_add F (on_neg hP) (hl Q hQ)), ?_⟩
      have := cancel F hd (on_neg hP) (hl Q hQ)
      rwa [neg_neg'] at this
  have e := tot_perm F hd hp fun Q hQ => hl Q (hp.mem_iff.1 hQ)
  rw [tot_map F hd hP l hl] at e
  have ht := on_tim F hP l.length
  have hs := on_tot F hl
  rw [add_comm' F ht hs] at e
  have := cancel F hd hs ht
  rw [e, opp_add] at this
  exact this.symm
end
end Go.Proofs.Ytlfocajlkelnbaa
