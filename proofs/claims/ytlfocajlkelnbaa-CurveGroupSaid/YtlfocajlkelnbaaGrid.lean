/-
  Numbers that came in, and rows of numbers that came in: what the walks are told of []int and [][]int.
-/
import Derived.Test.YtlfocajlkelnbaaBytes
namespace Go.Proofs.Ytlfocajlkelnbaa
open Go.RowKit
/-- numbers that came in -/
def Nums (kd : IntKind) (w : World) (B : Nat) (A : Option Addr) (n : Nat) (l : List Int) : Prop :=
  l.length = n ∧ (0 < n → ∃ b off, A = some ⟨b, off, none⟩ ∧ b < B ∧ ∀ (j : Nat) (x : Int), l[j]? = some x → w.cell? ⟨b, off + j, none⟩ = some (.int kd x))
theorem Nums.below {kd : IntKind} {w w' : World} {B : Nat} {A : Option Addr} {n : Nat} {l : List Int} (h : Nums kd w B A n l) (hb : Below B w w') : Nums kd w' B A n l := by
  refine ⟨h.1, fun hn => ?_⟩
  obtain ⟨b, off, e, hlt, hc⟩ := h.2 hn
  exact ⟨b, off, e, hlt, fun j x hj => (hb.cell (p := ⟨b, _, none⟩) hlt).trans (hc j x hj)⟩
theorem Nums.at_ {kd : IntKind} {w w' : World} {B : Nat} {A : Option Addr} {n : Nat} {l : List Int} (h : Nums kd w B A n l) (hb : Below B w w') {j : Nat} (hj : j < n) : ∃ b off, A = some ⟨b, off, none⟩ ∧ b < B ∧ w'.cell? ⟨b, off + j, none⟩ = some (.int kd (l.getD j 0)) := by
  obtain ⟨b, off, e, hlt, hc⟩ := h.2 (by omega)
  have hl := h.1
  refine ⟨b, off, e, hlt, (hb.cell (p := ⟨b, _, none⟩) hlt).trans (hc j _ ?_)⟩
  rw [List.getD_eq_getElem?_getD, List.getElem?_eq_getElem (by omega)]; rfl
/-- rows of numbers that came in -/
def Grid (w : World) (B : Nat) (A : Option Addr) (n : Nat) (rows : List (List Int)) : Prop :=
  rows.length = n ∧ (0 < n → ∃ b off, A = some ⟨b, off, none⟩ ∧ b < B ∧ ∀ (i : Nat) (r : List Int), rows[i]? = some r → ∃ Ar c, w.cell? ⟨b, off + i, none⟩ = some (.slice Ar r.length c) ∧ Nums .i64 w B Ar r.length r)
theorem Grid.below {w w' : World} {B : Nat} {A : Option Addr} {n : Nat} {rows : List (List Int)} (h : Grid w B A n rows) (hb : Below B w w') : Grid w' B A n rows := by
  refine ⟨h.1, fun hn => ?_⟩
  obtain ⟨b, off, e, hlt, hc⟩ := h.2 hn
  refine ⟨b, off, e, hlt, fun i r hr => ?_⟩
  obtain ⟨Ar, c, h1, h2⟩ := hc i r hr
  exact ⟨Ar, c, (hb.cell (p := ⟨b, _, none⟩) hlt).trans h1, h2.below hb⟩
theorem Nums.more {kd : IntKind} {w : World} {B B' : Nat} {A : Option Addr} {n : Nat} {l : List Int} (h : Nums kd w B A n l) (hB : B ≤ B') : Nums kd w B' A n l := by
  refine ⟨h.1, fun hn => ?_⟩
  obtain ⟨b, off, e, hlt, hc⟩ := h.2 hn
  exact ⟨b, off, e, by omega, hc⟩
theorem Grid.more {w : World} {B B' : Nat} {A : Option Addr} {n : Nat} {rows : List (List Int)} (h : Grid w B A n rows) (hB : B ≤ B') : Grid w B' A n rows := by
  refine ⟨h.1, fun hn => ?_⟩
  obtain ⟨b, off, e, hlt, hc⟩ := h.2 hn
  refine ⟨b, off, e, by omega, fun i r hr => ?_⟩
  obtain ⟨Ar, c, h1, h2⟩ := hc i r hr
  exact ⟨Ar, c, h1, h2.more hB⟩
theorem Grid.at_ {w w' : World} {B : Nat} {A : Option Addr} {n : Nat} {rows : List (List Int)} (h : Grid w B A n rows) (hb : Below B w w') {i : Nat} (hi : i < n) :
    ∃ b off Ar c, A = some ⟨b, off, none⟩ ∧ b < B ∧ w'.cell? ⟨b, off + i, none⟩ = some (.slice Ar (rows.getD i []).length c) ∧ Nums .i64 w' B Ar (rows.getD i []).length (rows.getD i []) := by
  obtain ⟨b, off, e, hlt, hc⟩ := (h.below hb).2 (by omega)
  have hl := h.1
  obtain ⟨Ar, c, h1, h2⟩ := hc i (rows.getD i []) (by rw [List.getD_eq_getElem?_getD, List.getElem?_eq_getElem (by omega)]; rfl)
  exact ⟨b, off, Ar, c, e, hlt, h1, h2⟩
end Go.Proofs.Ytlfocajlkelnbaa
