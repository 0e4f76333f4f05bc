/-
  The plain law of a script: each post says one thing; what has come does not come again; what comes is what was sent.
-/
import Derived.Test.YtifegnpdclcolaaRatchetQ
namespace Go.Proofs.Ytifegnpdclcolaa
open Go.RowKit
/-- what one post says -/
def pout (k most : Int) (st : PS) (p : Post) : Int × Int :=
  if p.1 = 1 then
    if 0 ≤ p.2.2 ∧ p.2.2 < 65536 then (0, xorI p.2.2 (mkey k st.sent.length)) else (2, 0)
  else if p.1 ≠ 2 then (6, 0)
  else if p.2.1 < 0 ∨ (st.sent.length : Int) ≤ p.2.1 then (3, 0)
  else if p.2.1.toNat < st.at_ then
    if p.2.1.toNat ∈ st.kept then (0, st.sent.getD p.2.1.toNat 0) else (5, 0)
  else if most < (st.kept.length : Int) + p.2.1 - st.at_ then (1, 0)
  else (0, st.sent.getD p.2.1.toNat 0)
theorem pstep_outs (k most : Int) (st : PS) (p : Post) : (pstep k most st p).outs = st.outs ++ [pout k most st p] := by
  unfold pstep pout
  repeat' split
  all_goals rfl
theorem outs_length (k most : Int) (sc : List Post) : ∀ st : PS, (sc.foldl (pstep k most) st).outs.length = st.outs.length + sc.length := by
  induction sc with
  | nil => intro st; rfl
  | cons p sc ih => intro st; rw [List.foldl_cons, ih, pstep_outs]; simp; omega
theorem outs_prefix (k most : Int) (sc : List Post) : ∀ st : PS, ∃ l, (sc.foldl (pstep k most) st).outs = st.outs ++ l := by
  induction sc with
  | nil => intro st; exact ⟨[], by simp⟩
  | cons p sc ih =>
    intro st
    obtain ⟨l, hl⟩ := ih (pstep k most st p)
    exact ⟨pout k most st p :: l, by rw [List.foldl_cons, hl, pstep_outs]; simp⟩
theorem prun_outs_length (k most : Int) (sc : List Post) : (prun k most sc).outs.length = sc.length := by
  have := outs_length k most sc PS.init
  rw [show PS.init.outs.length = 0 from rfl, Nat.zero_add] at this
  exact this
theorem prun_out_at (k most : Int) (sc : List Post) (i : Nat) (hi : i < sc.length) : (prun k most sc).outs[i]? = some (pout k most (prun k most (sc.take i)) sc[i]) := by
  have e : prun k most sc = (sc.drop (i + 1)).foldl (pstep k most) (prun k most (sc.take (i + 1))) := by
    rw [prun, prun, ← List.foldl_append, List.take_append_drop]
  obtain ⟨l, hl⟩ := outs_prefix k most (sc.drop (i + 1)) (prun k most (sc.take (i + 1)))
  rw [e, hl, List.take_succ_eq_append_getElem hi, prun_snoc, pstep_outs]
  have hlen := prun_outs_length k most (sc.take i)
  rw [List.length_take, Nat.min_eq_left (by omega)] at hlen
  simp [hlen]
/-- the message has come -/
def Came (st : PS) (j : Nat) : Prop := j < st.at_ ∧ j ∉ st.kept
theorem came_step {k most : Int} {st : PS} (p : Post) {j : Nat} (h : Came st j) : Came (pstep k most st p) j := by
  unfold pstep
  split
  · split <;> exact h
  · split
    · exact h
    · split
      · exact h
      · split
        · split
          · exact ⟨h.1, fun hj => h.2 (List.mem_filter.1 hj).1⟩
          · exact h
        · split
          · exact h
          · rename_i hat _
            refine ⟨by have := h.1; simp only []; omega, fun hj => ?_⟩
            rcases List.mem_append.1 hj with hj | hj
            · exact h.2 hj
            · have := List.mem_range'_1.1 hj
              have := h.1
              omega
theorem sent_step (k most : Int) (st : PS) (p : Post) : (pstep k most st p).sent = if p.1 = 1 ∧ (pout k most st p).1 = 0 then st.sent ++ [p.2.2] else st.sent := by
  unfold pstep pout
  by_cases h1 : p.1 = 1
  · simp only [h1, if_true, true_and]
    by_cases h2 : 0 ≤ p.2.2 ∧ p.2.2 < 65536
    · simp [h2]
    · rw [if_neg h2, if_neg h2]; simp [PS.say]
  · simp only [h1, if_false, false_and]
    repeat' split
    all_goals rfl
theorem take_step {k most : Int} {st : PS} (hF : st.Fine) (p : Post) (h1 : p.1 = 2) (h0 : (pout k most st p).1 = 0) :
    ∃ m : Nat, p.2.1 = m ∧ m < st.sent.length ∧ (pout k most st p).2 = st.sent.getD m 0 ∧ ¬ Came st m ∧ Came (pstep k most st p) m := by
  have n1 : ¬ p.1 = 1 := by omega
  have n2 : ¬ p.1 ≠ 2 := by simp [h1]
  unfold pout at *
  rw [if_neg n1, if_neg n2] at *
  by_cases h3 : p.2.1 < 0 ∨ (st.sent.length : Int) ≤ p.2.1
  · rw [if_pos h3] at h0; cases h0
  · rw [if_neg h3] at *
    have hm : p.2.1 = (p.2.1.toNat : Int) := by omega
    refine ⟨p.2.1.toNat, hm, by omega, ?_⟩
    by_cases h4 : p.2.1.toNat < st.at_
    · rw [if_pos h4] at *
      by_cases h5 : p.2.1.toNat ∈ st.kept
      · rw [if_pos h5] at *
        have hs : pstep k most st p = { st with kept := st.kept.filter (· ≠ p.2.1.toNat), outs := st.outs ++ [(0, st.sent.getD p.2.1.toNat 0)] } := by
          unfold pstep; rw [if_neg n1, if_neg n2, if_neg h3, if_pos h4, if_pos h5]
        rw [hs]
        exact ⟨rfl, fun h => h.2 h5, h4, fun h => by have := (List.mem_filter.1 h).2; simp at this⟩
      · rw [if_neg h5] at h0; cases h0
    · rw [if_neg h4] at *
      by_cases h6 : most < (st.kept.length : Int) + p.2.1 - st.at_
      · rw [if_pos h6] at h0; cases h0
      · rw [if_neg h6] at *
        have hs : pstep k most st p = { st with at_ := p.2.1.toNat + 1, kept := st.kept ++ List.range' st.at_ (p.2.1.toNat - st.at_), outs := st.outs ++ [(0, st.sent.getD p.2.1.toNat 0)] } := by
          unfold pstep; rw [if_neg n1, if_neg n2, if_neg h3, if_neg h4, if_neg h6]
        rw [hs]
        refine ⟨rfl, fun h => h4 h.1, by simp, fun h => ?_⟩
        rcases List.mem_append.1 h with h | h
        · have := hF.lt _ h; omega
        · have := List.mem_range'_1.1 h; omega
end Go.Proofs.Ytifegnpdclcolaa
