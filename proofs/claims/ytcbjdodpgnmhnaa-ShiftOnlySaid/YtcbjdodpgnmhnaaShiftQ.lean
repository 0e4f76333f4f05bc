/-
  Shift: the rule by sums of equations: plain facts.
-/
import Derived.Test.YtcbjdodpgnmhnaaShiftB
namespace Go.Proofs.Ytcbjdodpgnmhnaa
/-- the odd part of a row of bits held against another -/
def dot (r : Nat) (t : Nat → Bool) : Bool := xs 64 fun i => r.testBit i && t i
theorem dot_xor (a b : Nat) (t : Nat → Bool) : dot (a ^^^ b) t = (dot a t ^^ dot b t) := by
  unfold dot
  rw [← xs_xor]
  refine xs_congr fun i _ => ?_
  rw [Nat.testBit_xor]
  cases a.testBit i <;> cases b.testBit i <;> cases t i <;> rfl
theorem dot_zero (t : Nat → Bool) : dot 0 t = false := xs_false fun i _ => by simp
/-- what came before a place, the last bit lowest -/
def pastW (s : Nat → Bool) (L n : Nat) : Nat := wdN (fun x => s (n - 1 - x)) L
/-- the taps make the row from L on -/
def Sol (s : Nat → Bool) (L N : Nat) (t : Nat → Bool) : Prop := ∀ n, L ≤ n → n < N → dot (pastW s L n) t = s n
theorem dot_past (s : Nat → Bool) (L n : Nat) (hL : L ≤ 64) (t : Nat → Bool) : dot (pastW s L n) t = xs L fun i => t i && s (n - 1 - i) := by
  unfold dot pastW
  have e : xs 64 (fun i => (wdN (fun x => s (n - 1 - x)) L).testBit i && t i) = xs L (fun i => (wdN (fun x => s (n - 1 - x)) L).testBit i && t i) := by
    refine xs_wide hL fun i h1 _ => ?_
    rw [wdN_bit]
    have : decide (i < L) = false := by simp; omega
    rw [this]; rfl
  rw [e]
  refine xs_congr fun i hi => ?_
  rw [wdN_bit]
  have : decide (i < L) = true := by simpa using hi
  rw [this]
  cases s (n - 1 - i) <;> cases t i <;> rfl
theorem D_dot {s c : Nat → Bool} {L n : Nat} (h0 : c 0 = true) (hd : ∀ i, L < i → c i = false) (hL : L ≤ n) (hL64 : L ≤ 64) : D c s n = (s n ^^ dot (pastW s L n) fun i => c (i + 1)) := by
  rw [dot_past s L n hL64]
  unfold D
  rw [xs_succ', h0]
  have e : xs n (fun i => c (i + 1) && s (n - (i + 1))) = xs L (fun i => c (i + 1) && s (n - 1 - i)) := by
    rw [xs_wide (n := L) (m := n) hL fun i h1 _ => by rw [hd (i + 1) (by omega)]; rfl]
    exact xs_congr fun i hi => by rw [show n - (i + 1) = n - 1 - i by omega]
  rw [e]; simp
theorem Rule.sol {s c : Nat → Bool} {L N : Nat} (h : Rule s c L N) (hL : L ≤ 64) : Sol s L N fun i => c (i + 1) := by
  intro n h1 h2
  have := h.fits n h1 h2
  rw [D_dot h.one h.deg h1 hL] at this
  cases hs : s n <;> cases hx : dot (pastW s L n) (fun i => c (i + 1)) <;> simp_all
/-- taps as a polynomial -/
def polyOf (t : Nat → Bool) (L : Nat) : Nat → Bool
  | 0 => true
  | i + 1 => decide (i < L) && t i
theorem Sol.rule {s t : Nat → Bool} {L N : Nat} (h : Sol s L N t) (hL : L ≤ 64) : Rule s (polyOf t L) L N := by
  have hd : ∀ i, L < i → polyOf t L i = false := by
    intro i hi
    cases i with
    | zero => omega
    | succ i =>
      have : decide (i < L) = false := by simp; omega
      show (decide (i < L) && t i) = false
      rw [this]; rfl
  refine ⟨rfl, hd, fun n h1 h2 => ?_⟩
  rw [D_dot rfl hd h1 hL]
  have e : dot (pastW s L n) (fun i => polyOf t L (i + 1)) = dot (pastW s L n) t := by
    rw [dot_past s L n hL, dot_past s L n hL]
    refine xs_congr fun i hi => ?_
    have : decide (i < L) = true := by simpa using hi
    show (decide (i < L) && t i && _) = _
    rw [this]; rfl
  rw [e, h n h1 h2]; simp
def Holds (M : Int → Option Int) (W : Int → Option Bool) (t : Nat → Bool) : Prop := ∀ (top q : Nat), M (top : Int) = some (q : Int) → dot q t = (W (top : Int)).getD false
structure Row (L top q : Nat) : Prop where
  one : 1 ≤ top
  le : top ≤ L
  set_ : q.testBit (top - 1) = true
  clear_ : ∀ j, top ≤ j → q.testBit j = false
structure Sys (s : Nat → Bool) (L N i : Nat) (M : Int → Option Int) (W : Int → Option Bool) : Prop where
  form : ∀ k r, M k = some r → ∃ top q : Nat, k = top ∧ r = q ∧ Row L top q
  same : ∀ k, (M k).isSome = (W k).isSome
  sol : ∀ t, Sol s L N t → Holds M W t
  back : ∀ t, Holds M W t → ∀ n, L ≤ n → n < i → dot (pastW s L n) t = s n
theorem Sys.start (s : Nat → Bool) (L N : Nat) : Sys s L N L (fun _ => none) (fun _ => none) :=
  ⟨fun _ _ h => (by cases h), fun _ => rfl, fun _ _ _ _ h => (by cases h), fun _ _ n h1 h2 => (by omega)⟩
/-- the equation that is worked on -/
structure Cur (s : Nat → Bool) (L N i : Nat) (M : Int → Option Int) (W : Int → Option Bool) (past : Nat) (b : Bool) : Prop where
  lt : past < 2 ^ L
  sol : ∀ t, Sol s L N t → dot past t = b
  back : ∀ t, Holds M W t → dot past t = b → dot (pastW s L i) t = s i
theorem Cur.start (s : Nat → Bool) (L N i : Nat) (M : Int → Option Int) (W : Int → Option Bool) (h1 : L ≤ i) (h2 : i < N) : Cur s L N i M W (pastW s L i) (s i) :=
  ⟨wdN_lt _ _, fun _ h => h i h1 h2, fun _ _ h => h⟩
theorem Cur.done {s : Nat → Bool} {L N i : Nat} {M : Int → Option Int} {W : Int → Option Bool} {b : Bool} (hs : Sys s L N i M W) (h : Cur s L N i M W 0 b) (hex : ∃ t, Sol s L N t) : Sys s L N (i + 1) M W := by
  obtain ⟨t0, ht0⟩ := hex
  have hb := h.sol t0 ht0
  rw [dot_zero] at hb
  refine ⟨hs.form, hs.same, hs.sol, fun t ht n h1 h2 => ?_⟩
  by_cases e : n = i
  · subst e; exact h.back t ht (by rw [dot_zero]; exact hb)
  · exact hs.back t ht n h1 (by omega)
theorem row_of {L past top : Nat} (h : past < 2 ^ L) (h1 : 1 ≤ top) (h2 : 2 ^ (top - 1) ≤ past) (h3 : past < 2 ^ top) : Row L top past := by
  refine ⟨h1, ?_, ?_, fun j hj => Nat.testBit_lt_two_pow (Nat.lt_of_lt_of_le h3 (Nat.pow_le_pow_right (by decide) hj))⟩
  · apply Classical.byContradiction
    intro hn
    have := Nat.pow_le_pow_right (n := 2) (by decide) (show L ≤ top - 1 by omega)
    omega
  · obtain ⟨d, rfl⟩ : ∃ d, top = d + 1 := ⟨top - 1, by omega⟩
    rw [Nat.add_sub_cancel] at h2 ⊢
    rw [Nat.testBit_eq_decide_div_mod_eq]
    have : past / 2 ^ d = 1 := by
      refine Nat.div_eq_of_lt_le (by omega) ?_
      rw [Nat.pow_succ] at h3; omega
    rw [this]; rfl
theorem Cur.store {s : Nat → Bool} {L N i past top : Nat} {M M' : Int → Option Int} {W W' : Int → Option Bool} {b : Bool} (hs : Sys s L N i M W) (h : Cur s L N i M W past b) (hr : Row L top past) (hno : M (top : Int) = none)
    (hM : ∀ k, M' k = if k = (top : Int) then some (past : Int) else M k) (hW : ∀ k, W' k = if k = (top : Int) then some b else W k) : Sys s L N (i + 1) M' W' := by
  have hold : ∀ t, Holds M' W' t ↔ Holds M W t ∧ dot past t = b := by
    intro t
    constructor
    · intro ht
      refine ⟨fun top' q hq => ?_, ?_⟩
      · have hne : (top' : Int) ≠ (top : Int) := fun e => by rw [e, hno] at hq; cases hq
        have := ht top' q (by rw [hM, if_neg hne]; exact hq)
        rwa [hW, if_neg hne] at this
      · have := ht top past (by rw [hM, if_pos rfl])
        rwa [hW, if_pos rfl] at this
    · rintro ⟨ht, hp⟩ top' q hq
      rw [hM] at hq
      by_cases e : (top' : Int) = (top : Int)
      · rw [if_pos e] at hq
        have hq := Option.some.inj hq
        have : q = past := by omega
        rw [hW, if_pos e, this]; exact hp
      · rw [if_neg e] at hq
        rw [hW, if_neg e]; exact ht top' q hq
  refine ⟨fun k r hk => ?_, fun k => ?_, fun t ht => (hold t).2 ⟨hs.sol t ht, h.sol t ht⟩, fun t ht n h1 h2 => ?_⟩
  · rw [hM] at hk
    by_cases e : k = (top : Int)
    · rw [if_pos e] at hk
      have hk := Option.some.inj hk
      exact ⟨top, past, e, hk.symm, hr⟩
    · rw [if_neg e] at hk; exact hs.form k r hk
  · rw [hM, hW]
    by_cases e : k = (top : Int)
    · rw [if_pos e, if_pos e]; rfl
    · rw [if_neg e, if_neg e]; exact hs.same k
  · obtain ⟨h3, h4⟩ := (hold t).1 ht
    by_cases e : n = i
    · subst e; exact h.back t h3 h4
    · exact hs.back t h3 n h1 (by omega)
theorem row_lt {L top q : Nat} (h : Row L top q) : q < 2 ^ top := Nat.lt_pow_two_of_testBit q fun i hi => h.clear_ i hi
theorem Cur.less {s : Nat → Bool} {L N i past top q : Nat} {M : Int → Option Int} {W : Int → Option Bool} {b : Bool} (hs : Sys s L N i M W) (h : Cur s L N i M W past b) (hr : Row L top past) (hq : M (top : Int) = some (q : Int)) :
    Cur s L N i M W (past ^^^ q) (b != (W (top : Int)).getD false) ∧ past ^^^ q < past := by
  obtain ⟨top', q', e1, e2, hr'⟩ := hs.form _ _ hq
  have e1 : top = top' := by omega
  have e2 : q = q' := by omega
  subst e1; subst e2
  have hlt : past ^^^ q < 2 ^ (top - 1) := by
    refine Nat.lt_pow_two_of_testBit _ fun j hj => ?_
    rw [Nat.testBit_xor]
    by_cases e : j = top - 1
    · subst e; rw [hr.set_, hr'.set_]; rfl
    · rw [hr.clear_ j (by have := hr.one; omega), hr'.clear_ j (by have := hr.one; omega)]; rfl
  have hle : 2 ^ (top - 1) ≤ past := Nat.ge_two_pow_of_testBit hr.set_
  refine ⟨⟨by have := h.lt; omega, fun t ht => ?_, fun t ht hd => ?_⟩, by omega⟩
  · rw [dot_xor, h.sol t ht, hs.sol t ht top q hq]
  · refine h.back t ht ?_
    rw [dot_xor, ht top q hq] at hd
    cases b <;> cases hx : dot past t <;> cases hw : (W (top : Int)).getD false <;> simp_all
/-- what the last walk keeps: the rows of no higher tap hold -/
structure Fin_ (i : Nat) (M : Int → Option Int) (W : Int → Option Bool) (t : Nat) : Prop where
  lt : t < 2 ^ i
  holds : ∀ top q : Nat, top ≤ i → M (top : Int) = some (q : Int) → dot q t.testBit = (W (top : Int)).getD false
theorem Fin_.start (s : Nat → Bool) (L N n : Nat) (M : Int → Option Int) (W : Int → Option Bool) (hs : Sys s L N n M W) : Fin_ 0 M W 0 :=
  ⟨by decide, fun top q h0 hq => by
    obtain ⟨top', q', e1, _, hr⟩ := hs.form _ _ hq
    have := hr.one; omega⟩
theorem dot_same {q : Nat} {t t' : Nat → Bool} (h : ∀ j, q.testBit j = true → t j = t' j) : dot q t = dot q t' := by
  refine xs_congr fun j _ => ?_
  cases hq : q.testBit j
  · rfl
  · rw [h j hq]
theorem Fin_.none_ {i : Nat} {M : Int → Option Int} {W : Int → Option Bool} {t : Nat} (h : Fin_ i M W t) (hno : ∀ q : Nat, M ((i + 1 : Nat) : Int) = some (q : Int) → dot q t.testBit = (W ((i + 1 : Nat) : Int)).getD false) : Fin_ (i + 1) M W t := by
  refine ⟨Nat.lt_of_lt_of_le h.lt (Nat.pow_le_pow_right (by decide) (by omega)), fun top q hl hq => ?_⟩
  by_cases e : top = i + 1
  · subst e; exact hno q hq
  · exact h.holds top q (by omega) hq
theorem Fin_.set_ {s : Nat → Bool} {L N n i q : Nat} {M : Int → Option Int} {W : Int → Option Bool} {t : Nat} (hs : Sys s L N n M W) (hL : L ≤ 64) (h : Fin_ i M W t) (hq : M ((i + 1 : Nat) : Int) = some (q : Int)) (hne : dot q t.testBit ≠ (W ((i + 1 : Nat) : Int)).getD false) : Fin_ (i + 1) M W (t ||| 2 ^ i) := by
  have hti : t.testBit i = false := Nat.testBit_lt_two_pow h.lt
  have hor : ∀ j, (t ||| 2 ^ i).testBit j = (t.testBit j || decide (i = j)) := fun j => by rw [Nat.testBit_or, Nat.testBit_two_pow]
  refine ⟨Nat.or_lt_two_pow (Nat.lt_of_lt_of_le h.lt (Nat.pow_le_pow_right (by decide) (by omega))) (Nat.pow_lt_pow_right (by decide) (by omega)), fun top q' hl hq' => ?_⟩
  obtain ⟨top', q'', e1, e2, hr⟩ := hs.form _ _ hq'
  have e1 : top = top' := by omega
  have e2 : q' = q'' := by omega
  subst e1; subst e2
  by_cases e : top = i + 1
  · subst e
    rw [hq] at hq'
    have hq' := Option.some.inj hq'
    have e3 : q = q' := by omega
    subst e3
    have hx : dot q (t ||| 2 ^ i).testBit = !(dot q t.testBit) := by
      have h1 : dot q (t ||| 2 ^ i).testBit = (dot q t.testBit ^^ dot q fun j => decide (i = j)) := by
        unfold dot
        rw [← xs_xor]
        refine xs_congr fun j _ => ?_
        rw [hor]
        by_cases e : i = j
        · subst e; rw [hti]; cases q.testBit i <;> simp
        · have : decide (i = j) = false := by simpa using e
          dsimp only; rw [this]; simp
      have h2 : dot q (fun j => decide (i = j)) = true := by
        have hset := hr.set_
        rw [Nat.add_sub_cancel] at hset
        have hi64 : i < 64 := by have := hr.le; omega
        unfold dot
        obtain ⟨d, hd⟩ : ∃ d, 64 = i + (d + 1) := ⟨63 - i, by omega⟩
        rw [hd, xs_add, xs_succ', xs_false (n := i) fun j hj => ?_, xs_false (n := d) fun j hj => ?_]
        · simp [hset]
        · have : decide (i = i + (j + 1)) = false := by simp
          dsimp only; rw [this]; simp
        · have : decide (i = j) = false := by simp; omega
          dsimp only; rw [this]; simp
      rw [h1, h2]; simp
    rw [hx]
    cases h1 : dot q t.testBit <;> cases h2 : (W ((i + 1 : Nat) : Int)).getD false <;> simp_all
  · rw [← h.holds top q' (by omega) hq']
    refine dot_same fun j hj => ?_
    rw [hor]
    have : decide (i = j) = false := by
      simp only [decide_eq_false_iff_not]
      rintro rfl
      rw [hr.clear_ i (by omega)] at hj; cases hj
    rw [this]; simp
theorem Fin_.done {s : Nat → Bool} {L N : Nat} {M : Int → Option Int} {W : Int → Option Bool} {t : Nat} (hs : Sys s L N N M W) (h : Fin_ L M W t) : Sol s L N t.testBit := by
  intro n h1 h2
  refine hs.back t.testBit (fun top q hq => ?_) n h1 h2
  obtain ⟨top', q', e1, _, hr⟩ := hs.form _ _ hq
  have e1 : top = top' := by omega
  subst e1
  exact h.holds top q hr.le hq
/-- what a rule makes, bit by bit -/
def rgen (taps first : List Bool) : Nat → List Bool
  | 0 => []
  | n + 1 => rgen taps first n ++ [if n < first.length then first.getD n false else xs taps.length fun k => taps.getD k false && (rgen taps first n).getD (n - k - 1) false]
theorem rgen_length (taps first : List Bool) (n : Nat) : (rgen taps first n).length = n := by
  induction n with
  | zero => rfl
  | succ n ih => unfold rgen; simp [ih]
theorem rgen_pre (taps first : List Bool) (m d : Nat) : (rgen taps first (m + d)).take m = rgen taps first m := by
  induction d with
  | zero => rw [Nat.add_zero, List.take_of_length_le (by rw [rgen_length]; exact Nat.le_refl _)]
  | succ d ih =>
    show (rgen taps first (m + d) ++ _).take m = _
    rw [List.take_append_of_le_length (by rw [rgen_length]; omega), ih]
theorem take_snoc_getD (l : List Bool) (m : Nat) (h : m < l.length) : l.take (m + 1) = l.take m ++ [l.getD m false] := by
  rw [List.take_succ_eq_append_getElem h, List.getD_eq_getElem?_getD, List.getElem?_eq_getElem h]; rfl
theorem getD_take (l : List Bool) (m j : Nat) (h : j < m) : (l.take m).getD j false = l.getD j false := by
  rw [List.getD_eq_getElem?_getD, List.getD_eq_getElem?_getD, List.getElem?_take, if_pos h]
theorem xs_past (taps l : List Bool) (L n : Nat) (hL : L ≤ 64) (hn : L ≤ n) : xs L (fun k => taps.getD k false && (l.take n).getD (n - k - 1) false) = dot (pastW (fun i => l.getD i false) L n) fun i => taps.getD i false := by
  rw [dot_past _ L n hL]
  refine xs_congr fun i hi => ?_
  rw [getD_take l n _ (by omega), show n - i - 1 = n - 1 - i by omega]
/-- a rule makes a row just if its equations hold -/
theorem rgen_iff (taps l : List Bool) (L : Nat) (ht : taps.length = L) (hL : L ≤ l.length) (hL64 : L ≤ 64) : rgen taps (l.take L) l.length = l ↔ Sol (fun i => l.getD i false) L l.length fun i => taps.getD i false := by
  have hf : (l.take L).length = L := by rw [List.length_take]; omega
  constructor
  · intro h n h1 h2
    have e : ∀ m, m ≤ l.length → rgen taps (l.take L) m = l.take m := by
      intro m hm
      have := rgen_pre taps (l.take L) m (l.length - m)
      rw [Nat.add_sub_cancel' hm, h] at this
      exact this.symm
    have e1 := e (n + 1) (by omega)
    rw [take_snoc_getD l n h2] at e1
    unfold rgen at e1
    rw [e n (by omega), if_neg (by omega), ht, xs_past taps l L n hL64 h1] at e1
    have := List.append_cancel_left e1
    simpa using this
  · intro h
    have e : ∀ m, m ≤ l.length → rgen taps (l.take L) m = l.take m := by
      intro m
      induction m with
      | zero => intro _; rfl
      | succ m ih =>
        intro hm
        rw [take_snoc_getD l m (by omega)]
        unfold rgen
        rw [ih (by omega)]
        congr 2
        by_cases hmL : m < L
        · rw [if_pos (by omega), getD_take l L m hmL]
        · rw [if_neg (by omega), ht, xs_past taps l L m hL64 (by omega)]
          exact h m (by omega) (by omega)
    rw [e l.length (Nat.le_refl _), List.take_length]
end Go.Proofs.Ytcbjdodpgnmhnaa
