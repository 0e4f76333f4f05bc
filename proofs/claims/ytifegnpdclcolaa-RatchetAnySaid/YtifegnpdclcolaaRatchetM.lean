/-
  The plain law of package ratchet: what a script comes to, post by post; no program stands in it but the sum of a text.
-/
import Derived.Test.YtifegnpdclcolaaRatchetB
namespace Go.Proofs.Ytifegnpdclcolaa
open Go.RowKit
def xorI (a m : Int) : Int := bits .xor .i64 a m
theorem bits_xor64 (a b : Nat) (ha : a < 2 ^ 62) (hb : b < 2 ^ 62) : bits .xor .i64 a b = ((a ^^^ b : Nat) : Int) := by
  have hx : a ^^^ b < 2 ^ 62 := Nat.xor_lt_two_pow ha hb
  simp only [bits, BitVec.ofInt_natCast, BitVec.toNat_xor, BitVec.toNat_ofNat]
  have e : 2 ^ IntKind.i64.bits = 4 * 2 ^ 62 := rfl
  rw [e, Nat.mod_eq_of_lt (by omega), Nat.mod_eq_of_lt (by omega), IntKind.wrap_i64]
  have : (2 : Nat) ^ 62 = 4611686018427387904 := rfl
  omega
theorem xorI_nat (a m : Nat) (ha : a < 65536) (hm : m < 65536) : xorI a m = ((a ^^^ m : Nat) : Int) ∧ a ^^^ m < 65536 := by
  have h : a ^^^ m < 2 ^ 16 := Nat.xor_lt_two_pow ha hm
  refine ⟨bits_xor64 a m ?_ ?_, h⟩
  · have : (65536 : Nat) < 2 ^ 62 := by decide
    omega
  · have : (65536 : Nat) < 2 ^ 62 := by decide
    omega
theorem xorI_back {a m : Int} (ha : 0 ≤ a ∧ a < 65536) (hm : 0 ≤ m ∧ m < 65536) : xorI (xorI a m) m = a ∧ 0 ≤ xorI a m ∧ xorI a m < 65536 := by
  obtain ⟨x, rfl⟩ := Int.eq_ofNat_of_zero_le ha.1
  obtain ⟨y, rfl⟩ := Int.eq_ofNat_of_zero_le hm.1
  have h1 := xorI_nat x y (by omega) (by omega)
  have h2 := xorI_nat (x ^^^ y) y h1.2 (by omega)
  rw [h1.1, h2.1, Nat.xor_assoc, Nat.xor_self, Nat.xor_zero]
  refine ⟨rfl, by omega, by have := h1.2; omega⟩
/-- where a script has come -/
structure PS where
  sent : List Int
  at_ : Nat
  kept : List Nat
  outs : List (Int × Int)
def PS.init : PS := ⟨[], 0, [], []⟩
def PS.say (st : PS) (c n : Int) : PS := { st with outs := st.outs ++ [(c, n)] }
abbrev Post := Int × Int × Int
/-- one post -/
def pstep (k most : Int) (st : PS) (p : Post) : PS :=
  if p.1 = 1 then
    if 0 ≤ p.2.2 ∧ p.2.2 < 65536 then { st with sent := st.sent ++ [p.2.2], outs := st.outs ++ [(0, xorI p.2.2 (mkey k st.sent.length))] } else st.say 2 0
  else if p.1 ≠ 2 then st.say 6 0
  else if p.2.1 < 0 ∨ (st.sent.length : Int) ≤ p.2.1 then st.say 3 0
  else if p.2.1.toNat < st.at_ then
    if p.2.1.toNat ∈ st.kept then { st with kept := st.kept.filter (· ≠ p.2.1.toNat), outs := st.outs ++ [(0, st.sent.getD p.2.1.toNat 0)] } else st.say 5 0
  else if most < (st.kept.length : Int) + p.2.1 - st.at_ then st.say 1 0
  else { st with at_ := p.2.1.toNat + 1, kept := st.kept ++ List.range' st.at_ (p.2.1.toNat - st.at_), outs := st.outs ++ [(0, st.sent.getD p.2.1.toNat 0)] }
def prun (k most : Int) (sc : List Post) : PS := sc.foldl (pstep k most) PS.init
theorem prun_snoc (k most : Int) (sc : List Post) (p : Post) : prun k most (sc ++ [p]) = pstep k most (prun k most sc) p := by simp [prun, List.foldl_append]
/-- what the map holds -/
def MOf (k : Int) (kept : List Nat) : Int → Option Int := fun x => if 0 ≤ x ∧ x.toNat ∈ kept then some (mkey k x.toNat) else none
theorem MOf_nil (k : Int) : MOf k [] = fun _ => none := by funext x; simp [MOf]
theorem MOf_del (k : Int) (kept : List Nat) (m : Nat) : mdel (MOf k kept) m = MOf k (kept.filter (· ≠ m)) := by
  funext x
  unfold mdel MOf
  by_cases hx : x = (m : Int)
  · subst hx; simp
  · rw [if_neg hx]
    by_cases h0 : 0 ≤ x
    · have : x.toNat ≠ m := by omega
      simp [h0, this]
    · simp [h0]
theorem MOf_fill (k : Int) (kept : List Nat) (a d : Nat) : fillM k (MOf k kept) a d = MOf k (kept ++ List.range' a d) := by
  induction d with
  | zero => simp [fillM]
  | succ d ih =>
    simp only [fillM]
    rw [ih]
    funext x
    unfold mput MOf
    rw [List.range'_concat]
    by_cases hx : x = ((a + d : Nat) : Int)
    · subst hx
      have e : ((a : Int) + (d : Int)).toNat = a + d := by omega
      simp [e]
      omega
    · rw [if_neg hx]
      by_cases h0 : 0 ≤ x
      · have h1 : x.toNat ≠ a + d := by omega
        simp [h0, h1]
      · simp [h0]
/-- what holds all along -/
structure PS.Fine (st : PS) : Prop where
  lt : ∀ i ∈ st.kept, i < st.at_
  nodup : st.kept.Nodup
  le : st.at_ ≤ st.sent.length
  small : ∀ x ∈ st.sent, 0 ≤ x ∧ x < 65536
theorem PS.Fine.kept_le {st : PS} (h : st.Fine) : st.kept.length ≤ st.at_ := by
  have : st.kept.length ≤ (List.range st.at_).length := List.Nodup.length_le_of_subset h.nodup (fun i hi => List.mem_range.2 (h.lt i hi))
  simpa using this
theorem fine_init : PS.init.Fine := ⟨(fun _ h => by cases h), List.nodup_nil, Nat.le_refl _, (fun _ h => by cases h)⟩
theorem fine_step {k most : Int} {st : PS} (h : st.Fine) (p : Post) : (pstep k most st p).Fine ∧ (pstep k most st p).sent.length ≤ st.sent.length + 1 := by
  unfold pstep
  split
  · split
    · rename_i hn
      refine ⟨⟨h.lt, h.nodup, by have := h.le; simp; omega, fun x hx => ?_⟩, by simp⟩
      rcases List.mem_append.1 hx with h' | h'
      · exact h.small x h'
      · have : x = p.2.2 := by simpa using h'
        subst this; exact hn
    · exact ⟨⟨h.lt, h.nodup, h.le, h.small⟩, Nat.le_succ _⟩
  · split
    · exact ⟨⟨h.lt, h.nodup, h.le, h.small⟩, Nat.le_succ _⟩
    · split
      · exact ⟨⟨h.lt, h.nodup, h.le, h.small⟩, Nat.le_succ _⟩
      · rename_i hm
        split
        · split
          · exact ⟨⟨fun i hi => h.lt i (List.mem_filter.1 hi).1, h.nodup.filter _, h.le, h.small⟩, Nat.le_succ _⟩
          · exact ⟨⟨h.lt, h.nodup, h.le, h.small⟩, Nat.le_succ _⟩
        · rename_i hat
          split
          · exact ⟨⟨h.lt, h.nodup, h.le, h.small⟩, Nat.le_succ _⟩
          · refine ⟨⟨fun i hi => ?_, ?_, by simp only []; omega, h.small⟩, Nat.le_succ _⟩
            · rcases List.mem_append.1 hi with h' | h'
              · have := h.lt i h'; simp only []; omega
              · have := List.mem_range'_1.1 h'; simp only []; omega
            · refine List.nodup_append.2 ⟨h.nodup, List.nodup_range', fun x hx y hy e => ?_⟩
              have := h.lt x hx
              have := List.mem_range'_1.1 hy
              omega
theorem fine_fold (k most : Int) (sc : List Post) : ∀ st : PS, st.Fine → (sc.foldl (pstep k most) st).Fine ∧ (sc.foldl (pstep k most) st).sent.length ≤ st.sent.length + sc.length := by
  induction sc with
  | nil => intro st h; exact ⟨h, Nat.le_refl _⟩
  | cons p sc ih =>
    intro st h
    have h1 := fine_step (k := k) (most := most) h p
    have h2 := ih _ h1.1
    refine ⟨h2.1, ?_⟩
    have := h2.2
    have := h1.2
    simp only [List.foldl_cons, List.length_cons] at *
    omega
theorem fine_run (k most : Int) (sc : List Post) : (prun k most sc).Fine ∧ (prun k most sc).sent.length ≤ sc.length := by
  have h := fine_fold k most sc PS.init fine_init
  exact ⟨h.1, by have := h.2; rw [show PS.init.sent.length = 0 from rfl, Nat.zero_add] at this; exact this⟩
end Go.Proofs.Ytifegnpdclcolaa
