/-
  A map from integers to truths that the call makes, as a partial function.
-/
import Derived.Test.YtcbjdodpgnmhnaaIMap
namespace Go.Proofs.Ytcbjdodpgnmhnaa
open Go.RowKit Go.Maps
def bput (M : Int → Option Bool) (k : Int) (v : Bool) : Int → Option Bool := fun x => if x = k then some v else M x
/-- block b holds the map M of s entries -/
def BMap (P : Program) (kt et : TypeId) (kq : IntKind) (w : World) (b : Nat) (M : Int → Option Bool) (s : Nat) : Prop :=
  ∃ D : DataW Unit, w.ownsMap P kt (plainElem P et) b s D ∧ Maps.size D = s ∧ (∀ k, Maps.has D (.int kq k) = (M k).isSome) ∧ ∀ k v, M k = some v → ∀ z, D.atKey (.int kq k) z = .lit (.bool v)
theorem plainElem_bool_inv {H : Type} {P : Program} {e : TypeId} (he : P.underlying e = some .bool) {v : Value} {x : DataW H × List MemPlace} (h : plainElem P e v = some x) : ∃ b, v = .bool b ∧ x = (.lit (.bool b), []) := by
  unfold plainElem at h
  rw [he] at h
  cases v <;> simp at h
  exact ⟨_, rfl, h.symm⟩
section
variable {P : Program} {kt et t : TypeId} {kq : IntKind} {w w' : World} {b s : Nat} {M : Int → Option Bool}
theorem BMap.lt (h : BMap P kt et kq w b M s) : b < w.heap.size := by
  obtain ⟨D, ho, _⟩ := h
  exact ho.lt
theorem BMap.made (w : World) : BMap P kt et kq (w.alloc (.map #[] 0)) w.heap.size (fun _ => none) 0 :=
  ⟨.map [], World.ownsMap_made _ _ _ _, rfl, fun _ => rfl, fun _ _ h => by cases h⟩
theorem BMap.keep {S : Nat → Prop} (h : BMap P kt et kq w b M s) (hk : Keep S w w') (hs : ¬ S b) : BMap P kt et kq w' b M s := by
  have hlt := h.lt
  obtain ⟨D, ⟨es, clock, hb, r⟩, r2⟩ := h
  exact ⟨D, ⟨es, clock, by rw [hk.block b hlt hs]; exact hb, r⟩, r2⟩
theorem BMap.look1 (h : BMap P kt et kq w b M s) (ht : P.underlying t = some (.map kt et)) (hkt : P.underlying kt = some (.int kq)) (het : P.underlying et = some .bool) (hz : (zeroValue et).run P w = .ok (.bool false) w)
    (k : Int) (hw : (Lit.int kq k).wf = true) : (Instr.lookup t (.map (some b)) (.int kq k) false).run P w = .ok (.bool ((M k).getD false)) w := by
  obtain ⟨D, ho, _, hh, ha⟩ := h
  obtain ⟨v, ps, hrun, hv⟩ := ho.lookup (int_keyed hkt) ht hz (plainElem_bool het false) (keyOf_int_mk hkt hw)
  obtain ⟨c, rfl, hc⟩ := plainElem_bool_inv het hv
  rw [hrun]
  have hc := congrArg Prod.fst hc
  cases hM : M k with
  | none =>
    have hno : Maps.has D (.int kq k) = false := by rw [hh, hM]; rfl
    rw [Maps.atKey_of_not_has hno] at hc
    injection hc with hc; injection hc with hc
    rw [← hc]; rfl
  | some y =>
    rw [ha k y hM] at hc
    injection hc with hc; injection hc with hc
    rw [← hc]; rfl
theorem BMap.store (h : BMap P kt et kq w b M s) (ht : P.underlying t = some (.map kt et)) (hkt : P.underlying kt = some (.int kq)) (het : P.underlying et = some .bool) (hs : s < maxLen)
    (k : Int) (v : Bool) (hw : (Lit.int kq k).wf = true) :
    ∃ w', (Instr.mapUpdate t (.map (some b)) (.int kq k) (.bool v)).run P w = .ok () w' ∧ BMap P kt et kq w' b (bput M k v) (if (M k).isSome then s else s + 1) ∧ Keep (· = b) w w' := by
  obtain ⟨D, ho, hsz, hh, ha⟩ := h
  obtain ⟨w', hrun, ho', hturn⟩ := ho.store (int_keyed hkt) ht hs (keyOf_int_mk hkt hw) (plainElem_bool het v)
  refine ⟨w', hrun, ?_, turned_keep hturn⟩
  have htidy := ho.tidy (int_keyed hkt)
  have hsize := Maps.size_put (k := .int kq k) htidy (.lit (.bool v))
  rw [hh, hsz] at hsize
  refine ⟨D.put (.int kq k) (.lit (.bool v)), by rw [← hsize]; exact owns_tight ho', hsize, fun x => ?_, fun x y hxy z => ?_⟩
  · by_cases e : x = k
    · subst e; rw [Maps.has_put_same htidy.isMap (by trivial)]; simp [bput]
    · rw [Maps.has_put_other (key_ne e), hh]; simp [bput, e]
  · by_cases e : x = k
    · subst e
      rw [Maps.atKey_put_same htidy.isMap (by trivial)]
      simp only [bput, if_true] at hxy
      injection hxy with hxy; rw [hxy]
    · rw [Maps.atKey_put_other (key_ne e)]
      simp only [bput, e, if_false] at hxy
      exact ha x y hxy z
end
end Go.Proofs.Ytcbjdodpgnmhnaa
