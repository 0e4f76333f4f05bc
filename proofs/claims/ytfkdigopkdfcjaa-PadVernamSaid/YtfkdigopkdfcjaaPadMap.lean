/-
  Pad: a map of counts, and maps.Equal over two such maps.
-/
import Derived.Test.YtfkdigopkdfcjaaIMap
import Derived.Test.YtfkdigopkdfcjaaShelfP
namespace Go.Proofs.Ytfkdigopkdfcjaa
open Go.RowKit Go.Maps Go.Shelf
/-- how often each number stands in a list -/
def cntM (l : List Int) : Int → Option Int := fun x => if x ∈ l then some (l.count x : Int) else none
/-- how many numbers stand in a list -/
def nd : List Int → Nat
  | [] => 0
  | x :: t => (if x ∈ t then 0 else 1) + nd t
theorem nd_le (l : List Int) : nd l ≤ l.length := by
  induction l with
  | nil => exact Nat.le_refl _
  | cons x t ih => unfold nd; split <;> simp <;> omega
theorem nd_lt (l : List Int) : nd l < l.length ↔ ¬ l.Nodup := by
  induction l with
  | nil => simp [nd]
  | cons x t ih =>
    have h := nd_le t
    unfold nd
    rw [List.nodup_cons]
    by_cases hx : x ∈ t
    · simp only [hx, if_true, List.length_cons, not_true, false_and, not_false_eq_true, iff_true]; omega
    · simp only [hx, if_false, List.length_cons, not_false_eq_true, true_and]; rw [← ih]; omega
theorem nd_perm {l l' : List Int} (h : l.Perm l') : nd l = nd l' := by
  induction h with
  | nil => rfl
  | cons x p ih => unfold nd; rw [ih]; simp only [p.mem_iff]
  | swap x y l =>
    simp only [nd, List.mem_cons]
    by_cases e : y = x
    · subst e; rfl
    · have e' : ¬ x = y := fun h => e h.symm
      simp only [e, e', false_or]; omega
  | trans _ _ h1 h2 => exact h1.trans h2
theorem cntM_snoc (l : List Int) (x : Int) : cntM (l ++ [x]) = mput (cntM l) x (((cntM l x).getD 0) + 1) := by
  funext y
  unfold cntM mput
  by_cases e : y = x
  · subst e
    simp only [List.mem_append, List.mem_singleton, or_true, if_true, List.count_append, List.count_singleton_self]
    by_cases hy : y ∈ l
    · rw [if_pos hy]; simp
    · rw [if_neg hy, List.count_eq_zero_of_not_mem hy]; simp
  · rw [if_neg e]
    have : y ∈ l ++ [x] ↔ y ∈ l := by simp [e]
    simp only [this]
    split
    · rw [List.count_append]
      have : List.count y [x] = 0 := List.count_eq_zero_of_not_mem (by simpa using e)
      rw [this]; rfl
    · rfl
theorem perm_of_counts : ∀ (l1 l2 : List Int), l1.length = l2.length → (∀ x ∈ l1, l1.count x = l2.count x) → l1.Perm l2
  | [], l2, h, _ => by have : l2 = [] := List.eq_nil_of_length_eq_zero h.symm; rw [this]
  | a :: t, l2, h, hc => by
    have ha : a ∈ l2 := by
      have := hc a (List.mem_cons_self ..)
      rw [List.count_cons_self] at this
      exact List.count_pos_iff.1 (by omega)
    have hp := List.perm_cons_erase ha
    refine (List.Perm.cons a (perm_of_counts t (l2.erase a) ?_ ?_)).trans hp.symm
    · rw [List.length_erase_of_mem ha, ← h]; simp
    · intro x hx
      have := hc x (List.mem_cons_of_mem _ hx)
      rw [hp.count_eq] at this
      simp only [List.count_cons] at this
      omega
def sameI {H : Type} : DataW H → DataW H → Bool
  | .lit (.int _ x), .lit (.int _ y) => x == y
  | _, _ => false
theorem neq_int {H : Type} {P : Program} {e : TypeId} (he : P.underlying e = some (.int .i64)) (W : World) (x y : Value) (xd yd : DataW H) (xp yp : List MemPlace) (hx : plainElem P e x = some (xd, xp)) (hy : plainElem P e y = some (yd, yp)) :
    (binOp .neq e x y).run P W = .ok (.bool (!sameI xd yd)) W ∧ ∀ (a b : Operand), (eqGuard .neq e a b x y).run P W = .ok () W := by
  obtain ⟨a, rfl, h1, _⟩ := plainElem_int_inv he hx
  obtain ⟨b, rfl, h2, _⟩ := plainElem_int_inv he hy
  obtain rfl : xd = .lit (.int .i64 a) := by simpa using (congrArg Prod.fst h1)
  obtain rfl : yd = .lit (.int .i64 b) := by simpa using (congrArg Prod.fst h2)
  refine ⟨?_, fun _ _ => by rw [eqGuard_at_int]; rfl⟩
  simp [go_sem, sameI, binOp]
  rfl
/-- the keys of a map of integers are integers -/
theorem keys_int {P : Program} {kt et : TypeId} {kq : IntKind} (hkt : P.underlying kt = some (.int kq)) {w : World} {b n : Nat} {D : DataW Unit} (h : w.ownsMap P kt (plainElem P et) b n D) : ∀ p ∈ Lib.entriesD D, ∃ k, p.1 = .int kq k := by
  obtain ⟨es, clock, _, F, _, rfl⟩ := h
  intro p hp
  have hp' := mem_sorted.1 hp
  obtain ⟨v, hv⟩ := fit_keys F p hp'
  cases v <;> simp [keyOf, hkt, mapKey] at hv
  exact ⟨_, hv.2.symm⟩
theorem equal_counts {P : Program} {kt et : TypeId} (hkt : P.underlying kt = some (.int .i64)) {w : World} {b1 b2 : Nat} {D1 D2 : DataW Unit} {l1 l2 : List Int} {s1 s2 : Nat}
    (o1 : w.ownsMap P kt (plainElem P et) b1 s1 D1) (o2 : w.ownsMap P kt (plainElem P et) b2 s2 D2)
    (z1 : Maps.size D1 = s1) (z2 : Maps.size D2 = s2) (e1 : s1 = nd l1) (e2 : s2 = nd l2)
    (h1 : ∀ k, Maps.has D1 (.int .i64 k) = (cntM l1 k).isSome) (h2 : ∀ k, Maps.has D2 (.int .i64 k) = (cntM l2 k).isSome)
    (a1 : ∀ k v, cntM l1 k = some v → ∀ z, D1.atKey (.int .i64 k) z = .lit (.int .i64 v)) (a2 : ∀ k v, cntM l2 k = some v → ∀ z, D2.atKey (.int .i64 k) z = .lit (.int .i64 v))
    (hlen : l1.length = l2.length) : Lib.equalFuncD sameI D1 D2 = decide (l1.Perm l2) := by
  have hk1 := keys_int hkt o1
  obtain ⟨es1, rfl, hap, hkeys⟩ := o1.entries (int_keyed hkt)
  have key : ∀ k d, (Lit.int .i64 k, d) ∈ es1 → ∃ v, cntM l1 k = some v ∧ d = .lit (.int .i64 v) := by
    intro k d hm
    have hh : Maps.has (DataW.map es1) (.int .i64 k) = true := List.any_eq_true.2 ⟨_, hm, WideAt.sameKey_self (hkeys _ hm)⟩
    rw [h1] at hh
    obtain ⟨v, hv⟩ := Option.isSome_iff_exists.1 hh
    refine ⟨v, hv, ?_⟩
    rw [← a1 k v hv .nil]
    exact (WideAt.atKey_mem .nil (hkeys _ hm) hap hm).symm
  rw [Bool.eq_iff_iff, decide_eq_true_eq]
  unfold Lib.equalFuncD
  rw [Bool.and_eq_true, decide_eq_true_eq, List.all_eq_true]
  constructor
  · rintro ⟨_, hall⟩
    refine perm_of_counts l1 l2 hlen fun x hx => ?_
    have hv : cntM l1 x = some (l1.count x : Int) := by unfold cntM; rw [if_pos hx]
    have hh : Maps.has (DataW.map es1) (.int .i64 x) = true := by rw [h1, hv]; rfl
    obtain ⟨p, hp, hs⟩ := List.any_eq_true.1 (show es1.any (fun p => p.1.sameKey (.int .i64 x)) = true from hh)
    have ep : p.1 = .int .i64 x := WideAt.sameKey_eq hs
    obtain ⟨pk, pd⟩ := p
    simp only at ep
    subst ep
    obtain ⟨v, hv1, rfl⟩ := key x pd hp
    have hg := hall _ hp
    unfold Lib.goodD at hg
    rw [Bool.and_eq_true, h2] at hg
    obtain ⟨u, hu⟩ := Option.isSome_iff_exists.1 hg.1
    have hg2 := hg.2
    simp only [a2 x u hu .nil, sameI, beq_iff_eq] at hg2
    subst hg2
    rw [hv] at hv1
    unfold cntM at hu
    split at hu
    · injection hv1 with hv1; injection hu with hu; omega
    · cases hu
  · intro hp
    refine ⟨by rw [z1, z2, e1, e2, nd_perm hp], fun p hpm => ?_⟩
    obtain ⟨k, hk⟩ := hk1 p hpm
    obtain ⟨pk, pd⟩ := p
    simp only at hk
    subst hk
    obtain ⟨v, hv, rfl⟩ := key k pd hpm
    have hv2 : cntM l2 k = some v := by
      rw [← hv]; unfold cntM
      simp only [hp.mem_iff, hp.count_eq]
    unfold Lib.goodD
    rw [h2, hv2, a2 k v hv2 .nil]
    simp [sameI]
/-- block b holds the counts of a list -/
def Counts (w : World) (b : Nat) (l : List Int) : Prop := IMap Try.prog 3 3 .i64 .i64 w b (cntM l) (nd l.reverse)
theorem equal_any (b1 b2 : Nat) (l1 l2 : List Int) (w : World) (h1 : Counts w b1 l1) (h2 : Counts w b2 l2) (hlen : l1.length = l2.length) :
    Calls Try.prog 11 #[.map (some b1), .map (some b2)] w fun e w' => e = .returned (.bool (decide (l1.Perm l2))) ∧ Keep (fun _ => False) w w' := by
  obtain ⟨D1, o1, z1, hh1, a1⟩ := h1
  obtain ⟨D2, o2, z2, hh2, a2⟩ := h2
  have he := equal_counts Try.underlying3 (by rw [z1] at *; exact o1) (by rw [z2] at *; exact o2) z1 z2 (nd_perm (List.reverse_perm l1)) (nd_perm (List.reverse_perm l2)) hh1 hh2 a1 a2 hlen
  refine (AnyEq.maps_Equal Try.eqM (int_keyed Try.underlying3) (plainElem Try.prog 3) (plainElem Try.prog 3) sameI b1 b2 _ _ D1 D2 w o1 o2 (.int .i64 0) Try.zeroValue3 (.lit (.int .i64 0)) [] (plainElem_int Try.underlying3 (by decide)) (neq_int Try.underlying3)).mono ?_
  rintro e w' ⟨rfl, hg⟩
  exact ⟨by rw [he], Keep.of_grown hg (fun _ h => by cases h)⟩
end Go.Proofs.Ytfkdigopkdfcjaa
