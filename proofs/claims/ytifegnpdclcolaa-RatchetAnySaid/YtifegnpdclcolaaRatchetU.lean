/-
  The plain law of RatchetAny: all sent, then each taken once in any order: each comes, if as many keys as there are messages may be kept.
-/
import Derived.Test.YtifegnpdclcolaaRatchetR
namespace Go.Proofs.Ytifegnpdclcolaa
open Go.RowKit
def sendsOf (ls : List Int) : List Post := ls.map fun (x : Int) => ((1, 0, x) : Post)
def takesOf (T : List Nat) : List Post := T.map fun (m : Nat) => ((2, (m : Int), 0) : Post)
theorem sends_state (k most : Int) (ls : List Int) (hls : ∀ x ∈ ls, 0 ≤ x ∧ x < 65536) : (prun k most (sendsOf ls)).sent = ls ∧ (prun k most (sendsOf ls)).at_ = 0 ∧ (prun k most (sendsOf ls)).kept = [] := by
  have h : ∀ n, n ≤ ls.length → (prun k most (sendsOf (ls.take n))).sent = ls.take n ∧ (prun k most (sendsOf (ls.take n))).at_ = 0 ∧ (prun k most (sendsOf (ls.take n))).kept = [] := by
    intro n
    induction n with
    | zero => intro _; simp [sendsOf, prun, PS.init]
    | succ n ih =>
      intro hn
      have hlt : n < ls.length := by omega
      obtain ⟨i1, i2, i3⟩ := ih (by omega)
      have hx := hls ls[n] (List.getElem_mem hlt)
      have e : sendsOf (ls.take (n + 1)) = sendsOf (ls.take n) ++ [(1, 0, ls[n])] := by
        rw [List.take_succ_eq_append_getElem hlt]; simp only [sendsOf, List.map_append, List.map_cons, List.map_nil]
      rw [e, prun_snoc]
      have hs : pstep k most (prun k most (sendsOf (ls.take n))) (1, 0, ls[n]) = { prun k most (sendsOf (ls.take n)) with sent := (prun k most (sendsOf (ls.take n))).sent ++ [ls[n]], outs := (prun k most (sendsOf (ls.take n))).outs ++ [(0, xorI ls[n] (mkey k (prun k most (sendsOf (ls.take n))).sent.length))] } := by
        unfold pstep
        rw [if_pos rfl, if_pos hx]
      rw [hs]
      exact ⟨by simp only []; rw [i1, List.take_succ_eq_append_getElem hlt], i2, i3⟩
  have := h ls.length (Nat.le_refl _)
  rw [List.take_length] at this
  exact this
theorem nodup_take {T : List Nat} (hT : T.Nodup) {j : Nat} (hj : j < T.length) : T[j] ∉ T.take j := by
  have h : T = T.take j ++ T[j] :: T.drop (j + 1) := by rw [← List.drop_eq_getElem_cons hj, List.take_append_drop]
  rw [h, List.nodup_append] at hT
  exact fun hm => hT.2.2 _ hm _ (List.mem_cons_self ..) (by rfl)
/-- what holds while messages are taken -/
def Taking (ls : List Int) (T : List Nat) (st : PS) : Prop := st.Fine ∧ st.sent = ls ∧ st.at_ ≤ ls.length ∧ ∀ j, j < st.at_ → j ∉ T → j ∈ st.kept
theorem take_out {k : Int} {ls : List Int} {T : List Nat} {st : PS} (h : Taking ls T st) {m : Nat} (hm : m < ls.length) (hT : m ∉ T) : pout k ls.length st (2, (m : Int), 0) = (0, ls.getD m 0) := by
  obtain ⟨hF, hs, hat, hk⟩ := h
  unfold pout
  rw [if_neg (by simp), if_neg (by simp)]
  rw [if_neg (by simp only []; rw [hs]; omega)]
  simp only [Int.toNat_natCast]
  by_cases h1 : m < st.at_
  · rw [if_pos h1, if_pos (hk m h1 hT), hs]
  · have := hF.kept_le
    rw [if_neg h1, if_neg (by omega), hs]
theorem take_state {k : Int} {ls : List Int} {T : List Nat} {st : PS} (h : Taking ls T st) {m : Nat} (hm : m < ls.length) (hT : m ∉ T) : Taking ls (T ++ [m]) (pstep k ls.length st (2, (m : Int), 0)) := by
  have hF' := (fine_step (k := k) (most := ls.length) h.1 (2, (m : Int), 0)).1
  refine ⟨hF', ?_⟩
  obtain ⟨hF, hs, hat, hk⟩ := h
  have hn : ¬ ((m : Int) < 0 ∨ (st.sent.length : Int) ≤ m) := by rw [hs]; omega
  by_cases h1 : m < st.at_
  · have e : pstep k ls.length st (2, (m : Int), 0) = { st with kept := st.kept.filter (· ≠ m), outs := st.outs ++ [(0, st.sent.getD m 0)] } := by
      unfold pstep
      rw [if_neg (by simp), if_neg (by simp), if_neg hn]
      simp only [Int.toNat_natCast]
      rw [if_pos h1, if_pos (hk m h1 hT)]
    rw [e]
    refine ⟨hs, hat, fun j hj hjT => ?_⟩
    have hjm : j ≠ m := fun e => hjT (by simp [e])
    exact List.mem_filter.2 ⟨hk j hj (fun h => hjT (List.mem_append_left _ h)), by simpa using hjm⟩
  · have hle := hF.kept_le
    have e : pstep k ls.length st (2, (m : Int), 0) = { st with at_ := m + 1, kept := st.kept ++ List.range' st.at_ (m - st.at_), outs := st.outs ++ [(0, st.sent.getD m 0)] } := by
      unfold pstep
      rw [if_neg (by simp), if_neg (by simp), if_neg hn]
      simp only [Int.toNat_natCast]
      rw [if_neg h1, if_neg (by omega)]
    rw [e]
    refine ⟨hs, by simp only []; omega, fun j hj hjT => ?_⟩
    have hjm : j ≠ m := fun e => hjT (by simp [e])
    simp only [] at hj
    by_cases hja : j < st.at_
    · exact List.mem_append_left _ (hk j hja (fun h => hjT (List.mem_append_left _ h)))
    · exact List.mem_append_right _ (List.mem_range'_1.2 ⟨by omega, by omega⟩)
theorem taking (k : Int) (ls : List Int) (hls : ∀ x ∈ ls, 0 ≤ x ∧ x < 65536) (T : List Nat) (hT : T.Nodup) (hlt : ∀ m ∈ T, m < ls.length) :
    ∀ n, n ≤ T.length → Taking ls (T.take n) (prun k ls.length (sendsOf ls ++ takesOf (T.take n))) := by
  intro n
  induction n with
  | zero =>
    intro _
    obtain ⟨h1, h2, h3⟩ := sends_state k ls.length ls hls
    rw [List.take_zero, show takesOf [] = [] from rfl, List.append_nil]
    exact ⟨(fine_run _ _ _).1, h1, by rw [h2]; omega, fun j hj => by rw [h2] at hj; omega⟩
  | succ n ih =>
    intro hn
    have hlt' : n < T.length := by omega
    have e : sendsOf ls ++ takesOf (T.take (n + 1)) = (sendsOf ls ++ takesOf (T.take n)) ++ [(2, (T[n] : Int), 0)] := by
      rw [List.take_succ_eq_append_getElem hlt']; simp only [takesOf, List.map_append, List.map_cons, List.map_nil, List.append_assoc]
    rw [e, prun_snoc, List.take_succ_eq_append_getElem hlt']
    refine take_state (ih (by omega)) (hlt _ (List.getElem_mem hlt')) ?_
    exact nodup_take hT hlt'
theorem any_law (k : Int) (ls : List Int) (hls : ∀ x ∈ ls, 0 ≤ x ∧ x < 65536) (T : List Nat) (hT : T.Nodup) (hlt : ∀ m ∈ T, m < ls.length) (j : Nat) (hj : j < T.length) :
    (prun k ls.length (sendsOf ls ++ takesOf T)).outs[ls.length + j]? = some (0, ls.getD T[j] 0) := by
  have hlen : (sendsOf ls).length = ls.length := by simp [sendsOf]
  have hlen2 : (takesOf T).length = T.length := by simp [takesOf]
  rw [prun_out_at k _ _ (ls.length + j) (by rw [List.length_append, hlen, hlen2]; omega)]
  have e1 : (sendsOf ls ++ takesOf T).take (ls.length + j) = sendsOf ls ++ takesOf (T.take j) := by
    rw [← hlen, List.take_length_add_append]; simp [takesOf]
  have e2 : (sendsOf ls ++ takesOf T)[ls.length + j]'(by rw [List.length_append, hlen, hlen2]; omega) = (2, (T[j] : Int), 0) := by
    rw [List.getElem_append_right (by omega)]
    simp [takesOf, hlen]
  rw [e1, e2]
  congr 1
  refine take_out (taking k ls hls T hT hlt j (by omega)) (hlt _ (List.getElem_mem hj)) ?_
  exact nodup_take hT hj
/-- one message picked out of those that are left -/
theorem pick {L T : List Nat} {N : Nat} (h : (L ++ T).Nodup ∧ ∀ x ∈ L ++ T, x < N) {a : Nat} (ha : a < L.length) :
    ((L.take a ++ L.drop (a + 1)) ++ (T ++ [L[a]])).Nodup ∧ ∀ x ∈ (L.take a ++ L.drop (a + 1)) ++ (T ++ [L[a]]), x < N := by
  have hL : L = L.take a ++ L[a] :: L.drop (a + 1) := by rw [← List.drop_eq_getElem_cons ha, List.take_append_drop]
  have hp : ((L.take a ++ L.drop (a + 1)) ++ (T ++ [L[a]])).Perm (L ++ T) := by
    have h1 : (L.take a ++ L[a] :: L.drop (a + 1)).Perm (L[a] :: (L.take a ++ L.drop (a + 1))) := List.perm_middle
    have h2 : ((L.take a ++ L.drop (a + 1)) ++ (T ++ [L[a]])).Perm (L[a] :: ((L.take a ++ L.drop (a + 1)) ++ T)) := by
      rw [← List.append_assoc]
      exact List.perm_append_singleton _ _
    refine h2.trans ?_
    rw [← List.cons_append]
    refine List.Perm.append_right T ?_
    rw [← hL] at h1
    exact h1.symm
  exact ⟨hp.nodup_iff.2 h.1, fun x hx => h.2 x (hp.mem_iff.1 hx)⟩
end Go.Proofs.Ytifegnpdclcolaa
