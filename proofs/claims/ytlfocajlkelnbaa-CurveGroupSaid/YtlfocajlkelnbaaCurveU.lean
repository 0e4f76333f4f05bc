/-
  CurveGroup: the given statement: whatever the input, the law returns true, and the input reads as it did.
-/
import Derived.Test.YtlfocajlkelnbaaCurveT
import Derived.Test.YtlfocajlkelnbaaRows
import Derived.WalkKit
import Derived.ProofKit
import Derived.OpenShut
import Derived.ChangeSame
import Derived.ChangeSlices
import Derived.ChangeOld
import Derived.SizedLaws
import Derived.Lib.SmallJoins
import Derived.Below
namespace Go.Proofs.Ytlfocajlkelnbaa
open Go.RowKit Go.WideShapes Go.ChangeShapes Go.Joins Go.Deep
namespace curveGroupDone
theorem ownK : ownKnob Try.prog.godebug = none := by kernel_rfl
theorem laidOut : laidOutB Try.prog = true := by kernel_rfl
set_option maxRecDepth 100000 in
theorem lifted (os : Os) (started : os.Started) (H : Type) (enc : TypeId × Value → H) :
    ReturnsInHanded {} Try.checked os 4 .any (Rows.curveGroupSpec.pre6 enc Try.prog Try.f4 Rows.curveGroupRow.domain false) (Rows.curveGroupSpec.post enc Try.prog Try.f4 false true false false) := by
  refine returnsInHanded_of_change_sized (C := Try.checked) ownK started (by kernel_rfl) Try.func4
    (ChangeSpec.witness6 (enc := enc) (C := Try.checked) false ⟨#[], #[.agg #[.int .i64 0, .int .i64 0, .int .i64 0], .agg #[.int .i64 0, .int .i64 0, .bool false], .agg #[.int .i64 0, .int .i64 0, .bool false]], []⟩ 8 (by kernel_rfl) (by kernel_rfl) (by kernel_rfl) (by kernel_rfl)) ?_
  intro W base args ds gs before hval0 hW hcnd hsz _
  have hval : ∀ (j : Nat) t v, Try.f4.params[j]? = some t → args[j]? = some v → Value.okWide Try.prog W .any base t v := hval0
  have hW' := hW
  obtain ⟨p, q, hA0, hV, rfl, hfz, hnd⟩ := hW
  have hA : DataW.TrodAll enc Try.prog W 0 (fun _ => true) true Try.f4.params.toList args.toList ds p := hA0
  rw [Try.params4] at hA hval hsz
  obtain ⟨v0, vs0, d0, ds0, p0, q0, hargs, rfl, rfl, h0, r0⟩ := trodAll_cons hA
  obtain ⟨v1, vs1, d1, ds1, p1, q1, rfl, rfl, rfl, h1, r1⟩ := trodAll_cons r0
  obtain ⟨v2, vs2, d2, ds2, p2, q2, rfl, rfl, rfl, h2, r2⟩ := trodAll_cons r1
  obtain ⟨rfl, rfl, rfl⟩ := trodAll_nil r2
  obtain rfl : args = #[v0, v1, v2] := by cases args; simp_all
  obtain ⟨rfl, rfl⟩ := trodVars_none hV
  have k0 := h0
  have lt0 : ∀ x ∈ p0, x.block < W.heap.size := by obtain ⟨m, hm⟩ := k0; exact DataW.trod_lt m _ _ _ hm
  have k1 := h1
  have lt1 : ∀ x ∈ p1, x.block < W.heap.size := by obtain ⟨m, hm⟩ := k1; exact DataW.trod_lt m _ _ _ hm
  have k2 := h2
  have lt2 : ∀ x ∈ p2, x.block < W.heap.size := by obtain ⟨m, hm⟩ := k2; exact DataW.trod_lt m _ _ _ hm
  obtain ⟨c00, c01, c02, _, _, _, _, rfl, _, _, g00, g01, g02⟩ := open_agg3 Try.underlying23 (by kernel_rfl) (by kernel_rfl) (hval 0 _ v0 rfl rfl) h0
  obtain ⟨z00, e00, _, _⟩ := DataW.trod_int Try.underlying2 g00
  obtain rfl := (List.cons.inj e00).1
  obtain ⟨z01, e01, _, _⟩ := DataW.trod_int Try.underlying2 g01
  obtain rfl := (List.cons.inj e01).1
  obtain ⟨z02, e02, _, _⟩ := DataW.trod_int Try.underlying2 g02
  obtain rfl := (List.cons.inj e02).1
  obtain ⟨c10, c11, c12, _, _, _, _, rfl, _, _, g10, g11, g12⟩ := open_agg3 Try.underlying25 (by kernel_rfl) (by kernel_rfl) (hval 1 _ v1 rfl rfl) h1
  obtain ⟨z10, e10, _, _⟩ := DataW.trod_int Try.underlying2 g10
  obtain rfl := (List.cons.inj e10).1
  obtain ⟨z11, e11, _, _⟩ := DataW.trod_int Try.underlying2 g11
  obtain rfl := (List.cons.inj e11).1
  obtain ⟨z12, e12, _⟩ := DataW.trod_bool Try.underlying4 g12
  obtain rfl := (List.cons.inj e12).1
  obtain ⟨c20, c21, c22, _, _, _, _, rfl, _, _, g20, g21, g22⟩ := open_agg3 Try.underlying25 (by kernel_rfl) (by kernel_rfl) (hval 2 _ v2 rfl rfl) h2
  obtain ⟨z20, e20, _, _⟩ := DataW.trod_int Try.underlying2 g20
  obtain rfl := (List.cons.inj e20).1
  obtain ⟨z21, e21, _, _⟩ := DataW.trod_int Try.underlying2 g21
  obtain rfl := (List.cons.inj e21).1
  obtain ⟨z22, e22, _⟩ := DataW.trod_bool Try.underlying4 g22
  obtain rfl := (List.cons.inj e22).1
  clear hA0 hval0
  refine (low (group_any z00 z01 z02 z10 z11 z12 z20 z21 z22 W)).mono fun e W' ⟨he, bel⟩ => ?_
  subst he
  exact ⟨_, rfl, _, _, _, [], _, [], hW', trodAll_mk1 (shut_bool Try.underlying4 _), (trodAll_cons_mk (Below.trod laidOut (by kernel_rfl) (of_decide_eq_true (by kernel_rfl)) k0 bel lt0) (trodAll_cons_mk (Below.trod laidOut (by kernel_rfl) (of_decide_eq_true (by kernel_rfl)) k1 bel lt1) (trodAll_cons_mk (Below.trod laidOut (by kernel_rfl) (of_decide_eq_true (by kernel_rfl)) k2 bel lt2) trodAll_mk0))), rfl, bel.frame _, fun h => by cases h⟩
theorem over : Rows.curveGroupRow.holds Try.pinned (OpenSpec.ofChange Rows.curveGroupSpec) :=
  OpenClaim.holds_of_wide 4 Try.f4 rfl rfl rfl rfl rfl rfl rfl ⟨rfl, rfl, rfl, rfl, rfl⟩ rfl rfl rfl rfl rfl (by kernel_rfl) Try.func4 (by kernel_rfl)
    (of_decide_eq_true (by kernel_rfl)) (by unfold Func.isWrapper; first | (rw [if_pos (by decide +kernel)]; kernel_rfl) | (rw [if_neg (by decide +kernel)]; exact ⟨rfl, rfl⟩))
    (fun os started H enc _ => lifted os started H enc)
theorem curve_group : Rows.CurveGroupSaid := over
#print axioms curve_group
end curveGroupDone
end Go.Proofs.Ytlfocajlkelnbaa
