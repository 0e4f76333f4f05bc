/-
  A row of bits that came in, opened.
-/
import Derived.Test.YtcbjdodpgnmhnaaShiftB
import Derived.Deep.Slices
import Derived.Lib.SmallJoins
import Derived.ChangeSame
import Derived.ProofKit
import Derived.OpenShut
namespace Go.Proofs.Ytcbjdodpgnmhnaa
open Go.RowKit Go.WideShapes Go.ChangeShapes Go.Joins Go.Deep
theorem open_bts {H : Type} {enc : TypeId × Value → H} {w : World} {held : Bool} {fuel : Nat} {A : Option Addr} {n c : Nat} {t e : TypeId} {x : DataW H × List MemPlace}
    (ht : Try.prog.underlying t = some (.slice e)) (he : Try.prog.underlying e = some .bool) (hc : Try.prog.cellsOf e = 1)
    (h : DataW.trod enc Try.prog w 0 (fun _ => true) held fuel t [.slice A n c] = some x) : ∃ l, Bts w w.heap.size A n l ∧ n ≤ c ∧ n ≤ maxLen := by
  rcases open_slice1 ht hc h with ⟨hcs, _⟩ | ⟨a, len, cap, m, k, V, D, Pl, hcs, _, hl, hm, hmm, _, hx⟩
  · injection hcs with e _
    injection e with e1 e2 e3
    subst e1 e2 e3
    exact ⟨[], ⟨rfl, fun h => absurd h (Nat.lt_irrefl 0)⟩, Nat.le_refl _, Nat.zero_le _⟩
  · injection hcs with e _
    injection e with e1 e2 e3
    subst e1 e2 e3
    simp only [if_true] at hmm
    subst hmm
    have hV : ∀ i, i < m → ∃ b, V i = .bool b := fun i hi => by
      obtain ⟨b, hb, _⟩ := DataW.trod_bool he (hx i hi).2
      injection hb with hb
      exact ⟨b, hb⟩
    have hadd : ∀ (b off k : Nat), (⟨b, off, none⟩ : Addr).add k = ⟨b, off + k, none⟩ := by intro b off k; unfold Addr.add; split <;> simp_all
    refine ⟨(List.range n).map fun i => (match V i with | .bool b => b | _ => false), ⟨by simp, fun hn => ?_⟩, hl, Nat.le_trans hl hm⟩
    obtain ⟨b, off, spot⟩ := a
    have hc0 := (hx 0 (by omega)).1
    have hspot : spot = none := by simpa [Addr.add] using World.cell?_spot hc0
    subst hspot
    refine ⟨b, off, rfl, by simpa [Addr.add] using World.block_lt_of_cell? w _ hc0, fun j y hj => ?_⟩
    have hjn : j < n := by have := (List.getElem?_eq_some_iff.1 hj).1; simpa using this
    have h1 := (hx j (by omega)).1
    rw [hadd] at h1
    rw [h1]
    obtain ⟨z, hz⟩ := hV j (by omega)
    rw [List.getElem?_map, List.getElem?_range hjn] at hj
    simp only [Option.map_some, Option.some.injEq, hz] at hj
    rw [hz, hj]
end Go.Proofs.Ytcbjdodpgnmhnaa
