/-
  What a row of these laws asks beside its walk: the table that is laid, as cells; the law of Siegenthaler, as its row and as its card.
-/
import Derived.Test.YtdljapemhpeaeaaDoorF
import Derived.Test.YtdljapemhpeaeaaDoorRows
import Derived.Test.YtdljapemhpeaeaaDoorCards
import Derived.Test.YtdljapemhpeaeaaDoorTie
import Derived.ProofKit
import Derived.OpenShut
import Derived.ChangeOld
import Derived.ChangeVars
import Derived.JoinedOf
import Derived.LaidLaws
import Derived.LaidHandle
import Derived.Stop.Joined
import Derived.SevenTiedAt
namespace Go.Proofs.YtdljapemhpeaeaaDoor
open Go.ChangeShapes Go.WideShapes Go.ChangeAt Go.RowKit
theorem own : ownKnob Tryd.prog.godebug = none := by kernel_rfl
theorem laidOut : laidOutB Tryd.prog = true := by kernel_rfl
theorem tabName : Tryd.prog.globalNamed "math/bits.deBruijn32tab" = some 0 := by kernel_rfl
theorem tabType : (Tryd.prog.globals[0]?).map (·.type) = some 42 := by kernel_rfl
theorem cells5 : Tryd.prog.cellsOf 5 = 1 := by kernel_rfl
theorem cells42 : Tryd.prog.cellsOf 42 = 32 := by kernel_rfl
theorem int_of_trod {H : Type} {enc : TypeId × Value → H} {P : Program} {w : World} {base : Nat} {sp : Nat → Bool} {held : Bool} {fuel : Nat} {t : TypeId} {k : IntKind} {c : Value} {y : DataW H × List MemPlace}
    (ht : P.underlying t = some (.int k)) (h : DataW.trod enc P w base sp held fuel t [c] = some y) : ∃ n, c = .int k n ∧ y = (.lit (.int k n), []) := by
  cases fuel with
  | zero => simp [DataW.trod] at h
  | succ fuel =>
    cases c <;> simp [DataW.trod, ht] at h
    rename_i k' n
    obtain ⟨⟨rfl, _⟩, rfl⟩ := h
    exact ⟨n, rfl, rfl⟩
def tabLaid : List (String × DataW Unit) := [("math/bits.deBruijn32tab", Rows.laid_math_bits_deBruijn32tab)]
theorem tab_data : ∀ i < 32, ∀ x : DataW Unit, (match (Rows.laid_math_bits_deBruijn32tab : DataW Unit) with | .agg l => l | _ => [])[i]? = some x → x = .lit (.int .u8 (tabD.getD i 0)) := by
  intro i hi x hx
  rcases thirtytwo hi with rfl | rfl | rfl | rfl | rfl | rfl | rfl | rfl | rfl | rfl | rfl | rfl | rfl | rfl | rfl | rfl | rfl | rfl | rfl | rfl | rfl | rfl | rfl | rfl | rfl | rfl | rfl | rfl | rfl | rfl | rfl | rfl
  all_goals exact (Option.some.inj hx).symm
theorem tab_of_laid {W : World} (h : laidMetH Tryd.prog tabLaid W) : HasTab W := by
  have h' : laidMet Tryd.prog tabLaid W := h
  obtain ⟨ps, ⟨g, t, cs, fuel, p, q, hg, ht, hvar, hd, _, _⟩, _⟩ := h'
  obtain rfl := Option.some.inj (tabName.symm.trans hg)
  obtain rfl := Option.some.inj (tabType.symm.trans ht)
  obtain ⟨xs, m, rfl, hx, hl, hn, hf⟩ := DataW.trod_array Tryd.underlying42 hd
  rw [cells42] at hl
  intro i hi
  have hfi := hf i hi
  rw [cells5, Nat.mul_one] at hfi
  have hc : (cs.toList.drop i).take 1 = [cs.toList[i]'(by omega)] := by
    rw [List.drop_eq_getElem_cons (by omega)]; rfl
  rw [hc] at hfi
  have hxi : xs[i]? = some (xs[i]'(by omega)) := List.getElem?_eq_getElem (by omega)
  rw [hxi] at hfi
  obtain ⟨n, hcn, hy⟩ := int_of_trod Tryd.underlying5 hfi
  have hagg := (Prod.mk.inj hx).1
  have hlist := DataW.agg.inj hagg
  have hdat := tab_data i hi (.lit (.int .u8 n)) (by
    show (match (Rows.laid_math_bits_deBruijn32tab : DataW Unit) with | .agg l => l | _ => [])[i]? = _
    have e : (match (Rows.laid_math_bits_deBruijn32tab : DataW Unit) with | .agg l => l | _ => []) = xs.map (·.1) := hlist
    rw [e, List.getElem?_map, hxi, hy]; rfl)
  have hn : n = tabD.getD i 0 := by injection hdat with h; injection h
  have hv := World.var?_cell hg hvar i
  rw [hv]
  rw [← hn, ← hcn]
  simp
end Go.Proofs.YtdljapemhpeaeaaDoor
