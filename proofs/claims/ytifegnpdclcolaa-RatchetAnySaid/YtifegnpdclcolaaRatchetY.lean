/-
  The row's step of RatchetAny.
-/
import Derived.Test.YtifegnpdclcolaaRatchetX
import Derived.Test.YtifegnpdclcolaaRatchetT
import Derived.ChangeSlices
import Derived.SizedLaws
namespace Go.Proofs.Ytifegnpdclcolaa
open Go.ChangeShapes Go.WideShapes Go.ChangeAt Go.RowKit
set_option linter.unusedVariables false
/-- numbers that came in, opened to their cells -/
theorem open_nums {H : Type} {enc : TypeId × Value → H} {w : World} {held : Bool} {fuel : Nat} {A : Option Addr} {n c : Nat} {t e : TypeId} {k : IntKind} {x : DataW H × List MemPlace}
    (ht : Try.prog.underlying t = some (.slice e)) (he : Try.prog.underlying e = some (.int k)) (hc : Try.prog.cellsOf e = 1)
    (h : DataW.trod enc Try.prog w 0 (fun _ => true) held fuel t [.slice A n c] = some x) :
    ∃ zs, Nums k w w.heap.size A n zs ∧ (∀ z ∈ zs, (Lit.int k z).wf = true) ∧ (n = 0 ∨ ∃ es sp, x.1 = .slice es sp ∧ n ≤ es.length + sp.length) := by
  rcases open_ints ht he hc h with ⟨hcs, _⟩ | ⟨a, len, cap, zs, hcs, _, hl, hm, hz, hx, hcell, hwz⟩
  · injection hcs with e _
    injection e with e1 e2 e3
    subst e2
    exact ⟨[], ⟨rfl, fun h => absurd h (Nat.lt_irrefl 0)⟩, (fun _ h => by cases h), .inl rfl⟩
  · injection hcs with e _
    injection e with e1 e2 e3
    subst e1 e2
    have hzl : n ≤ zs.length := by rw [hz]; simpa using hl
    refine ⟨zs.take n, ⟨by simp; omega, fun hn => ?_⟩, fun z hzm => hwz z (List.mem_of_mem_take hzm), .inr ⟨_, _, by rw [hx], by simp [lits]; omega⟩⟩
    obtain ⟨b, off, spot⟩ := a
    have hc0 := hcell 0 (by omega)
    have hspot : spot = none := by simpa [Addr.add] using World.cell?_spot hc0
    subst hspot
    have hb : b < w.heap.size := by simpa [Addr.add] using World.block_lt_of_cell? w _ hc0
    refine ⟨b, off, rfl, hb, fun j z hj => ?_⟩
    have hadd : ∀ k, (⟨b, off, none⟩ : Addr).add k = ⟨b, off + k, none⟩ := by intro k; unfold Addr.add; split <;> simp_all
    have hjn : j < n := by have := (List.getElem?_eq_some_iff.1 hj).1; simp at this; omega
    have h1 := hcell j (by omega)
    rw [hadd, List.getD_eq_getElem?_getD] at h1
    rw [List.getElem?_take, if_pos hjn] at hj
    rw [hj] at h1
    exact h1
namespace ratchetAnyDone
set_option maxRecDepth 100000 in
theorem lifted (os : Os) (started : os.Started) (H : Type) (enc : TypeId × Value → H) :
    ReturnsInHanded {} Try.checked os 4 .any (Rows.ratchetAnySpec.pre6 enc Try.prog Try.f4 Rows.ratchetAnyRow.domain false) (Rows.ratchetAnySpec.post enc Try.prog Try.f4 false true false false) := by
  refine returnsInHanded_of_change_sized (C := Try.checked) ownK started (by kernel_rfl) Try.func4
    (ChangeSpec.witness6 (enc := enc) (C := Try.checked) false ⟨#[], #[.int .i64 0, .slice none 0 0, .slice none 0 0], []⟩ 8 (by kernel_rfl) (by kernel_rfl) (by kernel_rfl) (by kernel_rfl)) ?_
  intro W base args ds gs before hval0 hW hcnd hsz _
  have hval : ∀ (j : Nat) t v, Try.f4.params[j]? = some t → args[j]? = some v → Value.okWide Try.prog W .any base t v := hval0
  have hW' := hW
  obtain ⟨p, q, hA0, hV, rfl, hfz, hnd⟩ := hW
  have hA : DataW.TrodAll enc Try.prog W 0 (fun _ => true) true Try.f4.params.toList args.toList ds p := hA0
  rw [Try.params4] at hA hval hsz
  obtain ⟨v0, vs0, d0, ds0, p0, q0, hargs, rfl, rfl, h0, r0⟩ := trodAll_cons hA
  obtain ⟨v1, vs1, d1, ds1, p1, q1, rfl, rfl, rfl, h1, r1⟩ := trodAll_cons r0
  obtain ⟨v2, vs2, d2, ds2, p2, q2, rfl, rfl, rfl, h2, r2⟩ := trodAll_cons r1
  obtain ⟨rfl, rfl, rfl⟩ := trodAll_nil r2
  obtain rfl : args = #[v0, v1, v2] := by cases args; simp_all
  obtain ⟨rfl, rfl⟩ := trodVars_none hV
  obtain ⟨a0, rfl, rfl, rfl, w0⟩ := open_int Try.underlying3 (hval 0 _ v0 rfl rfl) h0
  obtain ⟨a1, len1, cap1, rfl⟩ := okWide_slice Try.underlying27 (hval 1 _ v1 rfl rfl)
  obtain ⟨a2, len2, cap2, rfl⟩ := okWide_slice Try.underlying33 (hval 2 _ v2 rfl rfl)
  have k1 := h1
  have k2 := h2
  have lt1 : ∀ x ∈ p1, x.block < W.heap.size := by obtain ⟨m, hm⟩ := k1; exact DataW.trod_lt m _ _ _ hm
  have lt2 : ∀ x ∈ p2, x.block < W.heap.size := by obtain ⟨m, hm⟩ := k2; exact DataW.trod_lt m _ _ _ hm
  have hb1 : Try.checked.prog.bytesOf 3 = 8 := by kernel_rfl
  have hb2 : Try.checked.prog.bytesOf 5 = 1 := by kernel_rfl
  have hrb : reachBytes = 140737488351232 := by kernel_rfl
  obtain ⟨z1, n1, wf1, s1⟩ : ∃ zs, Nums .i64 W W.heap.size a1 len1 zs ∧ (∀ z ∈ zs, (Lit.int .i64 z).wf = true) ∧ len1 ≤ 17592186044416 := by
    obtain ⟨fuel, hf⟩ := h1
    obtain ⟨zs, hn, hw, hs⟩ := open_nums Try.underlying27 Try.underlying3 (by kernel_rfl) hf
    refine ⟨zs, hn, hw, ?_⟩
    rcases hs with rfl | ⟨es, sp, he, hle⟩
    · omega
    · simp only [] at he
      have := sized_slice hsz (j := 1) (t := 27) (e := 3) (elems := es) (spare := sp) rfl (by rw [← he]; rfl) Try.underlying27
      rw [hb1, hrb] at this
      omega
  obtain ⟨z2, n2, wf2, s2⟩ : ∃ zs, Nums .u8 W W.heap.size a2 len2 zs ∧ (∀ z ∈ zs, (Lit.int .u8 z).wf = true) ∧ len2 ≤ 140737488355328 := by
    obtain ⟨fuel, hf⟩ := h2
    obtain ⟨zs, hn, hw, hs⟩ := open_nums Try.underlying33 Try.underlying5 (by kernel_rfl) hf
    refine ⟨zs, hn, hw, ?_⟩
    rcases hs with rfl | ⟨es, sp, he, hle⟩
    · omega
    · simp only [] at he
      have := sized_slice hsz (j := 2) (t := 33) (e := 5) (elems := es) (spare := sp) rfl (by rw [← he]; rfl) Try.underlying33
      rw [hb2, hrb] at this
      omega
  have hob : ∀ x ∈ z2, 0 ≤ x ∧ x < 256 := fun x hx => by
    have := wf2 x hx
    have e0 : IntKind.u8.min = 0 := by decide
    have e1 : IntKind.u8.max = 255 := by decide
    simp [Lit.wf, e0, e1] at this
    omega
  clear hA0 hval0
  refine (any_any a0 a1 len1 cap1 z1 a2 len2 cap2 z2 W n1 n2 hob s1 s2).mono fun e W' ⟨he, bel⟩ => ?_
  subst he
  exact ⟨_, rfl, _, _, _, [], _, [], hW', trodAll_mk1 (shut_bool Try.underlying4 _), (trodAll_cons_mk (shut_int Try.underlying3 w0) (trodAll_cons_mk (Below.trod laidOut (by kernel_rfl) (of_decide_eq_true (by kernel_rfl)) k1 bel lt1) (trodAll_cons_mk (Below.trod laidOut (by kernel_rfl) (of_decide_eq_true (by kernel_rfl)) k2 bel lt2) trodAll_mk0))), rfl, bel.frame _, fun h => by cases h⟩
theorem over : Rows.ratchetAnyRow.holds Try.pinned (OpenSpec.ofChange Rows.ratchetAnySpec) :=
  OpenClaim.holds_of_wide 4 Try.f4 rfl rfl rfl rfl rfl rfl rfl ⟨rfl, rfl, rfl, rfl, rfl⟩ rfl rfl rfl rfl rfl (by kernel_rfl) Try.func4 (by kernel_rfl)
    (of_decide_eq_true (by kernel_rfl)) (by unfold Func.isWrapper; first | (rw [if_pos (by decide +kernel)]; kernel_rfl) | (rw [if_neg (by decide +kernel)]; exact ⟨rfl, rfl⟩))
    (fun os started H enc _ => lifted os started H enc)
theorem ratchet_any : Rows.RatchetAnySaid := over
#print axioms ratchet_any
end ratchetAnyDone
end Go.Proofs.Ytifegnpdclcolaa
