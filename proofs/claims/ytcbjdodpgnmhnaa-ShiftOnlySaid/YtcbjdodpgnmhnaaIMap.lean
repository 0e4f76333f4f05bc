/-
  A map from integers to integers that the call makes, as a partial function: look-up, store, delete, len, and what keeps it. Plain words over the laws of maps, for any program.
-/
import Derived.Test.YtcbjdodpgnmhnaaBytes
import Derived.Maps.OwnSet
import Derived.Maps.Views
namespace Go.Proofs.Ytcbjdodpgnmhnaa
open Go.RowKit Go.Maps
def mput (M : Int → Option Int) (k v : Int) : Int → Option Int := fun x => if x = k then some v else M x
def mdel (M : Int → Option Int) (k : Int) : Int → Option Int := fun x => if x = k then none else M x
theorem mput_same (M : Int → Option Int) (k v : Int) : mput M k v k = some v := by simp [mput]
theorem mput_other (M : Int → Option Int) {k x : Int} (v : Int) (h : x ≠ k) : mput M k v x = M x := by simp [mput, h]
theorem mdel_same (M : Int → Option Int) (k : Int) : mdel M k k = none := by simp [mdel]
theorem mdel_other (M : Int → Option Int) {k x : Int} (h : x ≠ k) : mdel M k x = M x := by simp [mdel, h]
/-- block b holds the map M of s entries -/
def IMap (P : Program) (kt et : TypeId) (kq eq : IntKind) (w : World) (b : Nat) (M : Int → Option Int) (s : Nat) : Prop :=
  ∃ D : DataW Unit, w.ownsMap P kt (plainElem P et) b s D ∧ Maps.size D = s ∧ (∀ k, Maps.has D (.int kq k) = (M k).isSome) ∧ ∀ k v, M k = some v → ∀ z, D.atKey (.int kq k) z = .lit (.int eq v)
section
variable {P : Program} {kt et t : TypeId} {kq eq : IntKind} {w w' : World} {b s : Nat} {M : Int → Option Int}
theorem owns_tight {R : Value → Option (DataW Unit × List MemPlace)} {n : Nat} {D : DataW Unit} (h : w.ownsMap P kt R b n D) : w.ownsMap P kt R b (Maps.size D) D := by
  obtain ⟨es, clock, hb, F, hs, rfl⟩ := h
  exact ⟨es, clock, hb, F, by simp [Maps.size, length_sorted], rfl⟩
theorem turned_keep (h : w.mapTurned w' b) : Keep (· = b) w w' := by
  obtain ⟨es, clock, es', clock', hb, rfl⟩ := h
  have hs : (Go.ChangeMaps.setBlock w b (.map es' clock')).heap.size = w.heap.size := by simp [Go.ChangeMaps.setBlock]
  refine ⟨rfl, rfl, rfl, by omega, fun k _ hk => ?_⟩
  exact Go.ChangeMaps.heap_setBlock_other hb _ (fun e => hk e)
theorem IMap.lt (h : IMap P kt et kq eq w b M s) : b < w.heap.size := by
  obtain ⟨D, ho, _⟩ := h
  exact ho.lt
theorem IMap.made (w : World) : IMap P kt et kq eq (w.alloc (.map #[] 0)) w.heap.size (fun _ => none) 0 :=
  ⟨.map [], World.ownsMap_made _ _ _ _, rfl, fun _ => rfl, fun _ _ h => by cases h⟩
theorem IMap.keep {S : Nat → Prop} (h : IMap P kt et kq eq w b M s) (hk : Keep S w w') (hs : ¬ S b) : IMap P kt et kq eq w' b M s := by
  have hlt := h.lt
  obtain ⟨D, ⟨es, clock, hb, r⟩, r2⟩ := h
  exact ⟨D, ⟨es, clock, by rw [hk.block b hlt hs]; exact hb, r⟩, r2⟩
theorem IMap.look (h : IMap P kt et kq eq w b M s) (ht : P.underlying t = some (.map kt et)) (hkt : P.underlying kt = some (.int kq)) (het : P.underlying et = some (.int eq)) (hz : (zeroValue et).run P w = .ok (.int eq 0) w)
    (k : Int) (hw : (Lit.int kq k).wf = true) : (Instr.lookup t (.map (some b)) (.int kq k) true).run P w = .ok (.tuple #[.int eq ((M k).getD 0), .bool (M k).isSome]) w := by
  obtain ⟨D, ho, _, hh, ha⟩ := h
  obtain ⟨v, ps, hrun, hv⟩ := ho.look_ok (int_keyed hkt) ht hz (plainElem_int (a := 0) het (by cases eq <;> decide)) (keyOf_int_mk hkt hw)
  obtain ⟨c, rfl, hc, _⟩ := plainElem_int_inv het hv
  rw [hrun, hh]
  have hc := congrArg Prod.fst hc
  cases hM : M k with
  | none =>
    have hno : Maps.has D (.int kq k) = false := by rw [hh, hM]; rfl
    rw [Maps.atKey_of_not_has hno] at hc
    injection hc with hc; injection hc with _ hc
    rw [← hc]; rfl
  | some y =>
    rw [ha k y hM] at hc
    injection hc with hc; injection hc with _ hc
    rw [← hc]; rfl
theorem IMap.look1 (h : IMap P kt et kq eq w b M s) (ht : P.underlying t = some (.map kt et)) (hkt : P.underlying kt = some (.int kq)) (het : P.underlying et = some (.int eq)) (hz : (zeroValue et).run P w = .ok (.int eq 0) w)
    (k : Int) (hw : (Lit.int kq k).wf = true) : (Instr.lookup t (.map (some b)) (.int kq k) false).run P w = .ok (.int eq ((M k).getD 0)) w := by
  obtain ⟨D, ho, _, hh, ha⟩ := h
  obtain ⟨c, hrun, hc, _⟩ := ho.lookup_int (int_keyed hkt) ht het hz (keyOf_int_mk hkt hw)
  rw [hrun]
  cases hM : M k with
  | none =>
    have hno : Maps.has D (.int kq k) = false := by rw [hh, hM]; rfl
    rw [Maps.atKey_of_not_has hno] at hc
    injection hc with hc; injection hc with _ hc
    rw [← hc]; rfl
  | some y =>
    rw [ha k y hM] at hc
    injection hc with hc; injection hc with _ hc
    rw [← hc]; rfl
theorem IMap.len (h : IMap P kt et kq eq w b M s) (ht : P.underlying t = some (.map kt et)) (ty : TypeId) : (Builtin.len_ #[t] ty #[.map (some b)]).run P w = .ok (.int .i64 s) w := by
  obtain ⟨D, ho, hs, _⟩ := h
  rw [ho.len ht ty, hs]
theorem key_ne {a c : Int} (h : a ≠ c) : (Lit.int kq a) ≠ Lit.int kq c := by intro e; injection e with _ e; exact h e
theorem IMap.store (h : IMap P kt et kq eq w b M s) (ht : P.underlying t = some (.map kt et)) (hkt : P.underlying kt = some (.int kq)) (het : P.underlying et = some (.int eq)) (hs : s < maxLen)
    (k v : Int) (hw : (Lit.int kq k).wf = true) (hv : (Lit.int eq v).wf = true) :
    ∃ w', (Instr.mapUpdate t (.map (some b)) (.int kq k) (.int eq v)).run P w = .ok () w' ∧ IMap P kt et kq eq w' b (mput M k v) (if (M k).isSome then s else s + 1) ∧ Keep (· = b) w w' := by
  obtain ⟨D, ho, hsz, hh, ha⟩ := h
  obtain ⟨w', hrun, ho', hturn⟩ := ho.store (int_keyed hkt) ht hs (keyOf_int_mk hkt hw) (plainElem_int het hv)
  refine ⟨w', hrun, ?_, turned_keep hturn⟩
  have htidy := ho.tidy (int_keyed hkt)
  have hsize := Maps.size_put (k := .int kq k) htidy (.lit (.int eq v))
  rw [hh, hsz] at hsize
  refine ⟨D.put (.int kq k) (.lit (.int eq v)), by rw [← hsize]; exact owns_tight ho', hsize, fun x => ?_, fun x y hxy z => ?_⟩
  · by_cases e : x = k
    · subst e; rw [Maps.has_put_same htidy.isMap (by trivial), mput_same]; rfl
    · rw [Maps.has_put_other (key_ne e), hh, mput_other M v e]
  · by_cases e : x = k
    · subst e
      rw [Maps.atKey_put_same htidy.isMap (by trivial)]
      rw [mput_same] at hxy
      injection hxy with hxy; rw [hxy]
    · rw [Maps.atKey_put_other (key_ne e)]
      rw [mput_other M v e] at hxy
      exact ha x y hxy z
theorem IMap.drop (h : IMap P kt et kq eq w b M s) (ht : P.underlying t = some (.map kt et)) (hkt : P.underlying kt = some (.int kq)) (k : Int) (hw : (Lit.int kq k).wf = true) (ty : TypeId) :
    ∃ w', (Builtin.delete_ #[t, kt] ty #[.map (some b), .int kq k]).run P w = .ok (.tuple #[]) w' ∧ IMap P kt et kq eq w' b (mdel M k) (if (M k).isSome then s - 1 else s) ∧ Keep (· = b) w w' := by
  obtain ⟨D, ho, hsz, hh, ha⟩ := h
  obtain ⟨w', hrun, ho', hturn⟩ := ho.drop (int_keyed hkt) ht (keyOf_int_mk hkt hw) ty
  refine ⟨w', hrun, ?_, turned_keep hturn⟩
  have htidy := ho.tidy (int_keyed hkt)
  have hsize := Maps.size_del (k := .int kq k) htidy
  rw [hh, hsz] at hsize
  have hsize' : Maps.size (D.del (.int kq k)) = if (M k).isSome then s - 1 else s := by
    cases hM : M k with
    | none => rw [hM] at hsize; simpa using hsize
    | some y => rw [hM] at hsize; simp at hsize ⊢; omega
  refine ⟨D.del (.int kq k), by rw [← hsize']; exact owns_tight ho', hsize', fun x => ?_, fun x y hxy z => ?_⟩
  · by_cases e : x = k
    · subst e; rw [Maps.has_del_same, mdel_same]; rfl
    · rw [Maps.has_del_other (key_ne e), hh, mdel_other M e]
  · by_cases e : x = k
    · subst e; rw [mdel_same] at hxy; cases hxy
    · rw [Maps.atKey_del_other (key_ne e)]
      rw [mdel_other M e] at hxy
      exact ha x y hxy z
end
section
variable {P : Program} (w : World) {ops : Array Oper} {rest : List Oper} {o : Oper} {a : Act} {Q : Exit → Act → World → Prop}
theorem wpList_look_run (hgd : o.guard = none) (m x : Operand) (t : TypeId) (ok : Bool) (hop : o.op = Op.lookup t m x ok) (vm vx v : Value) (hm : a.eval m = vm) (hx : a.eval x = vx)
    (hr : (Instr.lookup t vm vx ok).run P w = .ok v w) (h : wpList P ops Q rest (a.put o.dst v) w) : wpList P ops Q (o :: rest) a w := by
  refine wpList_plain hgd fun K hK => ?_
  unfold Oper.wp
  simp [execOp, hop, hm, hx, hr, Result.andThen]
  exact hK _ _ h
theorem wpList_store_run (hgd : o.guard = none) (m x v : Operand) (t : TypeId) (hop : o.op = Op.mapUpdate t m x v) (vm vx vv : Value) (hm : a.eval m = vm) (hx : a.eval x = vx) (hv : a.eval v = vv)
    (w' : World) (hr : (Instr.mapUpdate t vm vx vv).run P w = .ok () w') (h : wpList P ops Q rest (a.put o.dst undef) w') : wpList P ops Q (o :: rest) a w := by
  refine wpList_plain hgd fun K hK => ?_
  unfold Oper.wp
  simp [execOp, hop, hm, hx, hv, hr, Result.andThen]
  exact hK _ _ h
theorem step_store_run {K : Act → World → Prop} {E : Prop} (hgd : o.guard = none) (m x v : Operand) (t : TypeId) (hop : o.op = Op.mapUpdate t m x v) (vm vx vv : Value) (hm : a.eval m = vm) (hx : a.eval x = vx) (hv : a.eval v = vv)
    (w' : World) (hr : (Instr.mapUpdate t vm vx vv).run P w = .ok () w') (h : K (a.put o.dst undef) w') : if Region.wanted o (yielded ops a.tmps) = true then Oper.wp P o a w K Q else E := by
  have hw : Region.wanted o (yielded ops a.tmps) = true := by simp [Region.wanted, hgd]
  rw [if_pos hw]
  unfold Oper.wp
  simp [execOp, hop, hm, hx, hv, hr, Result.andThen]
  exact h
theorem wpList_delete_run (hgd : o.guard = none) (m x : Operand) (t k : TypeId) (hop : o.op = Op.call { callee := Callee.builtin Builtin.delete, args := #[m, x], argTypes := #[t, k] }) (vm vx : Value) (hm : a.eval m = vm) (hx : a.eval x = vx)
    (w' : World) (hr : (Builtin.delete_ #[t, k] o.type #[vm, vx]).run P w = .ok (.tuple #[]) w') (h : wpList P ops Q rest (a.put o.dst (.tuple #[])) w') : wpList P ops Q (o :: rest) a w := by
  refine wpList_plain hgd fun K hK => ?_
  unfold Oper.wp
  simp [execOp, hop, resolve, invoke, builtin, hm, hx, hr, Result.andThen]
  exact hK _ _ h
end
end Go.Proofs.Ytcbjdodpgnmhnaa
