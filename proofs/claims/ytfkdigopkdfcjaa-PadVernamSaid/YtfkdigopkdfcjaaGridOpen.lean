/-
  Rows of numbers that came in, opened to a Grid.
-/
import Derived.Test.YtfkdigopkdfcjaaGrid
import Derived.Deep.Matrix
import Derived.Lib.SmallJoins
import Derived.Test.YtfkdigopkdfcjaaRows
import Derived.ChangeSame
import Derived.Below
import Derived.ProofKit
import Derived.OpenShut
namespace Go.Proofs.Ytfkdigopkdfcjaa
open Go.RowKit Go.WideShapes Go.ChangeShapes Go.Joins Go.Deep
theorem open_grid {H : Type} {enc : TypeId × Value → H} {w : World} {held : Bool} {fuel : Nat} {A : Option Addr} {n c : Nat} {t e q : TypeId} {x : DataW H × List MemPlace}
    (ht : Try.prog.underlying t = some (.slice e)) (he : Try.prog.underlying e = some (.slice q)) (hq : Try.prog.underlying q = some (.int .i64)) (ce : Try.prog.cellsOf e = 1) (cq : Try.prog.cellsOf q = 1)
    (h : DataW.trod enc Try.prog w 0 (fun _ => true) held fuel t [.slice A n c] = some x) : ∃ rows, Grid w w.heap.size A n rows := by
  rcases open_int_rows ht he hq ce cq h with ⟨hcs, _⟩ | ⟨a, len, cap, R, L, C, Z, hcs, _, hl, hm, _, hrow⟩
  · injection hcs with e _
    injection e with e1 e2 e3
    subst e2
    exact ⟨[], rfl, fun h => absurd h (Nat.lt_irrefl 0)⟩
  · injection hcs with e _
    injection e with e1 e2 e3
    subst e1 e2 e3
    refine ⟨(List.range n).map fun r => (Z r).take (L r), by simp, fun hn => ?_⟩
    have hadd : ∀ (b off k : Nat), (⟨b, off, none⟩ : Addr).add k = ⟨b, off + k, none⟩ := by intro b off k; unfold Addr.add; split <;> simp_all
    obtain ⟨b, off, spot⟩ := a
    have hc0 := (hrow 0 (by omega)).1
    have hspot : spot = none := by simpa [Addr.add] using World.cell?_spot hc0
    subst hspot
    have hb : b < w.heap.size := by simpa [Addr.add] using World.block_lt_of_cell? w _ hc0
    refine ⟨b, off, rfl, hb, fun i r hr => ?_⟩
    have hin : i < n := by have := (List.getElem?_eq_some_iff.1 hr).1; simpa using this
    obtain ⟨h1, h2, h3, h4, h5, h6, h7⟩ := hrow i (by omega)
    have hr' : r = (Z i).take (L i) := by
      rw [List.getElem?_map, List.getElem?_range hin] at hr
      simpa using hr.symm
    have hlr : r.length = L i := by rw [hr', List.length_take, h4]; omega
    rw [hadd] at h1
    refine ⟨R i, C i, by rw [hlr]; exact h1, rfl, fun h0 => ?_⟩
    cases hR : R i with
    | none => have := h6 hR; omega
    | some a' =>
      obtain ⟨_, h8⟩ := h7 a' hR
      obtain ⟨b', off', spot'⟩ := a'
      have hc1 := h8 0 (by omega)
      have hspot' : spot' = none := by simpa [Addr.add] using World.cell?_spot hc1
      subst hspot'
      refine ⟨b', off', rfl, by simpa [Addr.add] using World.block_lt_of_cell? w _ hc1, fun j x hj => ?_⟩
      have hjl : j < L i := by have := (List.getElem?_eq_some_iff.1 hj).1; omega
      have := h8 j (by omega)
      rw [hadd] at this
      rw [this]
      congr 2
      rw [hr', List.getElem?_take, if_pos hjl] at hj
      rw [List.getD_eq_getElem?_getD, hj]
      rfl
end Go.Proofs.Ytfkdigopkdfcjaa
