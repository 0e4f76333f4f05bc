/-
  Pad: slices.Min, slices.Max.
-/
import Derived.Test.YtfkdigopkdfcjaaPadA
import Derived.Lib.Slices
import Derived.Lib.Walk
namespace Go.Proofs.Ytfkdigopkdfcjaa
open Go.RowKit
theorem minOf_mem : ∀ (l : List Int), l ≠ [] → Lib.minOf l ∈ l ∧ ∀ x ∈ l, Lib.minOf l ≤ x := by
  have h : ∀ (l : List Int) (a : Int), (l.foldl min a = a ∨ l.foldl min a ∈ l) ∧ l.foldl min a ≤ a ∧ ∀ x ∈ l, l.foldl min a ≤ x := by
    intro l
    induction l with
    | nil => intro a; exact ⟨.inl rfl, Int.le_refl _, fun _ h => by cases h⟩
    | cons y l ih =>
      intro a
      obtain ⟨h1, h2, h3⟩ := ih (min a y)
      simp only [List.foldl_cons]
      refine ⟨?_, by omega, fun x hx => ?_⟩
      · rcases h1 with h1 | h1
        · rw [h1]
          by_cases hay : a ≤ y
          · exact .inl (by omega)
          · exact .inr (by rw [show min a y = y by omega]; exact List.mem_cons_self ..)
        · exact .inr (List.mem_cons_of_mem _ h1)
      · rcases List.mem_cons.1 hx with rfl | hx
        · omega
        · exact h3 x hx
  intro l hl
  cases l with
  | nil => exact absurd rfl hl
  | cons y l =>
    obtain ⟨h1, h2, h3⟩ := h l (min y y)
    have e : Lib.minOf (y :: l) = l.foldl min (min y y) := by simp [Lib.minOf]
    rw [e]
    refine ⟨?_, fun x hx => ?_⟩
    · rcases h1 with h1 | h1
      · rw [h1, show min y y = y by omega]; exact List.mem_cons_self ..
      · exact List.mem_cons_of_mem _ h1
    · rcases List.mem_cons.1 hx with rfl | hx
      · omega
      · exact h3 x hx
theorem maxOf_mem : ∀ (l : List Int), l ≠ [] → Lib.maxOf l ∈ l ∧ ∀ x ∈ l, x ≤ Lib.maxOf l := by
  have h : ∀ (l : List Int) (a : Int), (l.foldl max a = a ∨ l.foldl max a ∈ l) ∧ a ≤ l.foldl max a ∧ ∀ x ∈ l, x ≤ l.foldl max a := by
    intro l
    induction l with
    | nil => intro a; exact ⟨.inl rfl, Int.le_refl _, fun _ h => by cases h⟩
    | cons y l ih =>
      intro a
      obtain ⟨h1, h2, h3⟩ := ih (max a y)
      simp only [List.foldl_cons]
      refine ⟨?_, by omega, fun x hx => ?_⟩
      · rcases h1 with h1 | h1
        · rw [h1]
          by_cases hay : y ≤ a
          · exact .inl (by omega)
          · exact .inr (by rw [show max a y = y by omega]; exact List.mem_cons_self ..)
        · exact .inr (List.mem_cons_of_mem _ h1)
      · rcases List.mem_cons.1 hx with rfl | hx
        · omega
        · exact h3 x hx
  intro l hl
  cases l with
  | nil => exact absurd rfl hl
  | cons y l =>
    obtain ⟨h1, h2, h3⟩ := h l (max y y)
    have e : Lib.maxOf (y :: l) = l.foldl max (max y y) := by simp [Lib.maxOf]
    rw [e]
    refine ⟨?_, fun x hx => ?_⟩
    · rcases h1 with h1 | h1
      · rw [h1, show max y y = y by omega]; exact List.mem_cons_self ..
      · exact List.mem_cons_of_mem _ h1
    · rcases List.mem_cons.1 hx with rfl | hx
      · omega
      · exact h3 x hx
set_option maxHeartbeats 1000000 in
theorem min_any (A : Option Addr) (n c : Nat) (l : List Int) (w : World) (h : Nums .i64 w w.heap.size A n l) (hn : 0 < n) (hn2 : n ≤ 1000) :
    Calls Try.prog 15 #[.slice A n c] w fun e w' => e = .returned (.int .i64 (Lib.minOf l)) ∧ w = w' := by
  have hl := h.1
  obtain ⟨b, off, rfl, hb, hc0⟩ := h.at_ (Below.refl _ _) hn
  rw [Nat.add_zero] at hc0
  have H := Lib.hid h; clear h
  go_enter Try.func15, Try.ntmps15
  go_wp2
  go_loop [3, 4] (fun m i => ∃ k : Nat, 0 < k ∧ k ≤ n ∧ i = .int .i64 k ∧ m = .int .i64 (Lib.minOf (l.take k))) (fun _ i => n - (intOf i).toNat)
  case atStart => exact ⟨1, Nat.one_pos, hn, rfl, by rw [Lib.minOf_one]; simp [show 0 < l.length by omega]⟩
  case round =>
    obtain ⟨k, hk0, hk, rfl, rfl⟩ := hrel
    by_cases hlt : k < n
    · obtain ⟨b', off', e, _, hc⟩ := H.out.at_ (Below.refl _ _) hlt
      obtain ⟨rfl, rfl⟩ : b' = b ∧ off' = off := by injection e with e; injection e with e1 e2 e3; exact ⟨e1.symm, e2.symm⟩
      have hst := Lib.minOf_step l k hk0 (by omega)
      have HST := Lib.hid hst; clear hst hc0
      go_wp2
      refine ⟨⟨k + 1, Nat.succ_pos k, by omega, rfl, ?_⟩, by simp [intOf]; omega⟩
      rw [HST.out]
      simp [show k < l.length by omega]
    · obtain rfl : k = n := by omega
      go_wp2
      go_ret
      rw [List.take_of_length_le (by omega)]
      exact ⟨rfl, rfl⟩
set_option maxHeartbeats 1000000 in
theorem max_any (A : Option Addr) (n c : Nat) (l : List Int) (w : World) (h : Nums .i64 w w.heap.size A n l) (hn : 0 < n) (hn2 : n ≤ 1000) :
    Calls Try.prog 16 #[.slice A n c] w fun e w' => e = .returned (.int .i64 (Lib.maxOf l)) ∧ w = w' := by
  have hl := h.1
  obtain ⟨b, off, rfl, hb, hc0⟩ := h.at_ (Below.refl _ _) hn
  rw [Nat.add_zero] at hc0
  have H := Lib.hid h; clear h
  go_enter Try.func16, Try.ntmps16
  go_wp2
  go_loop [3, 4] (fun m i => ∃ k : Nat, 0 < k ∧ k ≤ n ∧ i = .int .i64 k ∧ m = .int .i64 (Lib.maxOf (l.take k))) (fun _ i => n - (intOf i).toNat)
  case atStart => exact ⟨1, Nat.one_pos, hn, rfl, by rw [Lib.maxOf_one]; simp [show 0 < l.length by omega]⟩
  case round =>
    obtain ⟨k, hk0, hk, rfl, rfl⟩ := hrel
    by_cases hlt : k < n
    · obtain ⟨b', off', e, _, hc⟩ := H.out.at_ (Below.refl _ _) hlt
      obtain ⟨rfl, rfl⟩ : b' = b ∧ off' = off := by injection e with e; injection e with e1 e2 e3; exact ⟨e1.symm, e2.symm⟩
      have hst := Lib.maxOf_step l k hk0 (by omega)
      have HST := Lib.hid hst; clear hst hc0
      go_wp2
      refine ⟨⟨k + 1, Nat.succ_pos k, by omega, rfl, ?_⟩, by simp [intOf]; omega⟩
      rw [HST.out]
      simp [show k < l.length by omega]
    · obtain rfl : k = n := by omega
      go_wp2
      go_ret
      rw [List.take_of_length_le (by omega)]
      exact ⟨rfl, rfl⟩
end Go.Proofs.Ytfkdigopkdfcjaa
