/-
  Pad: the searches for a row of a wrong length: by two closures.
-/
import Derived.Test.YtfkdigopkdfcjaaGrid
namespace Go.Proofs.Ytfkdigopkdfcjaa
open Go.RowKit
theorem Nums.own {w : World} {base : Nat} {e : TypeId} {A : Option Addr} {c n : Nat} {l : List Int} (h : w.ownsRow base e 1 (.slice A n c) n (vals .i64 l)) : Nums .i64 w w.heap.size A n l := by
  refine ⟨by simpa using h.1, fun hn => ?_⟩
  obtain ⟨g, cap, hv, _, hlt⟩ := h.form hn
  have hA : A = some ⟨g, 0, none⟩ := by injection hv
  subst hA
  refine ⟨g, 0, rfl, hlt, fun j x hj => ?_⟩
  have := h.cells (g := g) rfl j (.int .i64 x) (by simp [vals, hj])
  have hadd : (⟨g, 0, none⟩ : Addr).add j = ⟨g, 0 + j, none⟩ := by unfold Addr.add; split <;> simp_all
  rwa [hadd] at this
theorem bad1_any (A : Option Addr) (n c : Nat) (w : World) :
    Calls Try.prog 13 #[.slice A n c] w fun e w' => e = .returned (.bool (decide ((16 : Int) < (n : Int)))) ∧ w = w' := by
  go_enter Try.func13, Try.ntmps13
  go_wp2
  go_ret
  exact ⟨rfl, rfl⟩
theorem bad2_any (A : Option Addr) (n c : Nat) (B0 b off : Nat) (n0 c0 m cm : Nat) (Am : Option Addr) (w : World) (hbox : w.cell? ⟨B0, 0, none⟩ = some (.slice (some ⟨b, off, none⟩) n0 c0)) (hn0 : 0 < n0) (hrow : w.cell? ⟨b, off, none⟩ = some (.slice Am m cm)) :
    Calls Try.prog 14 #[.slice A n c, .pointer (some ⟨B0, 0, none⟩)] w fun e w' => e = .returned (.bool ((n : Int) != (m : Int))) ∧ w = w' := by
  have h0 : (0 : Int) < (n0 : Int) := by omega
  go_enter Try.func14, Try.ntmps14
  go_wp2
  go_ret
  exact ⟨rfl, rfl⟩
set_option maxHeartbeats 1000000 in
theorem index1_any (A : Option Addr) (n c : Nat) (rows : List (List Int)) (w : World) (h : Grid w w.heap.size A n rows) (hn : n ≤ 16) :
    Calls Try.prog 17 #[.slice A n c, .func (.func 13) #[] #[]] w fun e w' => (∃ i : Int, e = .returned (.int .i64 i) ∧ (0 ≤ i ↔ ∃ r ∈ rows, 16 < r.length)) ∧ w = w' := by
  have H := Lib.hid h; clear h
  go_enter Try.func17, Try.ntmps17
  go_wp2
  go_loop [8] (fun t => ∃ i : Nat, i ≤ n ∧ t = .int .i64 i ∧ ∀ j < i, ¬ (16 < (rows.getD j []).length)) (fun t => n - (intOf t).toNat)
  case atStart => exact ⟨0, Nat.zero_le _, rfl, fun _ h => absurd h (Nat.not_lt_zero _)⟩
  case round =>
    obtain ⟨i, hi, rfl, hall⟩ := hrel
    have HALL := Lib.hid hall; clear hall
    have hlen := H.out.1
    by_cases hlt : i < n
    · obtain ⟨b, off, Ar, cr, hA, hb, hc, hr⟩ := H.out.at_ (Below.refl _ _) hlt
      subst hA
      have HR := Lib.hid hr; clear hr
      obtain ⟨r, her⟩ : ∃ r, r = rows.getD i [] := ⟨_, rfl⟩
      rw [← her] at hc
      have HER := Lib.hid her; clear her
      by_cases h16 : 16 < r.length
      · have e1 : decide ((16 : Int) < (r.length : Int)) = true := by simp; omega
        have E1 := Lib.hid e1; have H16 := Lib.hid h16; clear e1 h16
        go_wp2_with (go_at_call 13; refine (bad1_any _ _ _ _).mono ?_; rintro e w' ⟨rfl, rfl⟩; rw [E1.out])
        go_ret
        refine ⟨⟨_, rfl, ⟨fun _ => ⟨r, ?_, H16.out⟩, fun _ => by omega⟩⟩, rfl⟩
        rw [HER.out, List.getD_eq_getElem?_getD, List.getElem?_eq_getElem (by omega)]
        exact List.getElem_mem (by omega)
      · have e1 : decide ((16 : Int) < (r.length : Int)) = false := by simp; omega
        have E1 := Lib.hid e1; have H16 := Lib.hid h16; clear e1 h16
        go_wp2_with (go_at_call 13; refine (bad1_any _ _ _ _).mono ?_; rintro e w' ⟨rfl, rfl⟩; rw [E1.out])
        refine ⟨⟨i + 1, by omega, rfl, fun j hj => ?_⟩, by simp [intOf]; omega⟩
        by_cases hji : j < i
        · exact HALL.out j hji
        · obtain rfl : j = i := by omega
          rw [← HER.out]; exact H16.out
    · obtain rfl : i = n := by omega
      go_wp2_with fail
      go_ret
      refine ⟨⟨_, rfl, ⟨fun h => absurd h (by decide), ?_⟩⟩, rfl⟩
      rintro ⟨r, hr, hne⟩
      obtain ⟨j, hj, rfl⟩ := List.getElem_of_mem hr
      have := HALL.out j (by omega)
      rw [List.getD_eq_getElem?_getD, List.getElem?_eq_getElem hj] at this
      exact absurd hne this
theorem contains1_any (A : Option Addr) (n c : Nat) (rows : List (List Int)) (w : World) (h : Grid w w.heap.size A n rows) (hn : n ≤ 16) :
    Calls Try.prog 12 #[.slice A n c, .func (.func 13) #[] #[]] w fun e w' => e = .returned (.bool (decide (∃ r ∈ rows, 16 < r.length))) ∧ w = w' := by
  have H := Lib.hid h; clear h
  go_enter Try.func12, Try.ntmps12
  go_wp2_with (go_at_call 17; refine (index1_any _ _ _ rows _ H.out hn).mono ?_; rintro e w' ⟨⟨i, rfl, hi⟩, rfl⟩; have HI := Lib.hid hi; clear hi)
  go_ret
  refine ⟨?_, rfl⟩
  rw [show decide (0 ≤ i) = decide (∃ r ∈ rows, 16 < r.length) from decide_eq_decide.2 HI.out]
  rfl
set_option maxHeartbeats 1000000 in
theorem index2_any (A : Option Addr) (n c : Nat) (rows : List (List Int)) (w : World) (h : Grid w w.heap.size A n rows) (hn : n ≤ 16) (B0 b0 off0 m cm : Nat) (Am : Option Addr) (hA0 : A = some ⟨b0, off0, none⟩) (hbox : w.cell? ⟨B0, 0, none⟩ = some (.slice A n c)) (hn0 : 0 < n) (hrow0 : w.cell? ⟨b0, off0, none⟩ = some (.slice Am m cm)) :
    Calls Try.prog 17 #[.slice A n c, .func (.func 14) #[] #[.pointer (some ⟨B0, 0, none⟩)]] w fun e w' => (∃ i : Int, e = .returned (.int .i64 i) ∧ (0 ≤ i ↔ ∃ r ∈ rows, r.length ≠ m)) ∧ w = w' := by
  subst hA0
  have H := Lib.hid h; have HB := Lib.hid hbox; have HRW := Lib.hid hrow0; clear h hbox hrow0
  go_enter Try.func17, Try.ntmps17
  go_wp2
  go_loop [8] (fun t => ∃ i : Nat, i ≤ n ∧ t = .int .i64 i ∧ ∀ j < i, ¬ ((rows.getD j []).length ≠ m)) (fun t => n - (intOf t).toNat)
  case atStart => exact ⟨0, Nat.zero_le _, rfl, fun _ h => absurd h (Nat.not_lt_zero _)⟩
  case round =>
    obtain ⟨i, hi, rfl, hall⟩ := hrel
    have HALL := Lib.hid hall; clear hall
    have hlen := H.out.1
    by_cases hlt : i < n
    · obtain ⟨b, off, Ar, cr, hA, hb, hc, hr⟩ := H.out.at_ (Below.refl _ _) hlt
      obtain ⟨rfl, rfl⟩ : b0 = b ∧ off0 = off := by simpa using hA
      clear hA
      have HR := Lib.hid hr; clear hr
      obtain ⟨r, her⟩ : ∃ r, r = rows.getD i [] := ⟨_, rfl⟩
      rw [← her] at hc
      have HER := Lib.hid her; clear her
      by_cases h16 : r.length ≠ m
      · have e1 : ((r.length : Int) != (m : Int)) = true := by simp; omega
        have E1 := Lib.hid e1; have H16 := Lib.hid h16; clear e1 h16
        go_wp2_with (go_at_call 14; refine (bad2_any _ _ _ B0 b0 off0 n c m cm Am _ HB.out hn0 HRW.out).mono ?_; rintro e w' ⟨rfl, rfl⟩; rw [E1.out])
        go_ret
        refine ⟨⟨_, rfl, ⟨fun _ => ⟨r, ?_, H16.out⟩, fun _ => by omega⟩⟩, rfl⟩
        rw [HER.out, List.getD_eq_getElem?_getD, List.getElem?_eq_getElem (by omega)]
        exact List.getElem_mem (by omega)
      · have e1 : ((r.length : Int) != (m : Int)) = false := by simp; omega
        have E1 := Lib.hid e1; have H16 := Lib.hid h16; clear e1 h16
        go_wp2_with (go_at_call 14; refine (bad2_any _ _ _ B0 b0 off0 n c m cm Am _ HB.out hn0 HRW.out).mono ?_; rintro e w' ⟨rfl, rfl⟩; rw [E1.out])
        refine ⟨⟨i + 1, by omega, rfl, fun j hj => ?_⟩, by simp [intOf]; omega⟩
        by_cases hji : j < i
        · exact HALL.out j hji
        · obtain rfl : j = i := by omega
          rw [← HER.out]; exact H16.out
    · obtain rfl : i = n := by omega
      go_wp2_with fail
      go_ret
      refine ⟨⟨_, rfl, ⟨fun h => absurd h (by decide), ?_⟩⟩, rfl⟩
      rintro ⟨r, hr, hne⟩
      obtain ⟨j, hj, rfl⟩ := List.getElem_of_mem hr
      have := HALL.out j (by omega)
      rw [List.getD_eq_getElem?_getD, List.getElem?_eq_getElem hj] at this
      exact absurd hne this
theorem contains2_any (A : Option Addr) (n c : Nat) (rows : List (List Int)) (w : World) (h : Grid w w.heap.size A n rows) (hn : n ≤ 16) (B0 b0 off0 m cm : Nat) (Am : Option Addr) (hA0 : A = some ⟨b0, off0, none⟩) (hbox : w.cell? ⟨B0, 0, none⟩ = some (.slice A n c)) (hn0 : 0 < n) (hrow0 : w.cell? ⟨b0, off0, none⟩ = some (.slice Am m cm)) :
    Calls Try.prog 12 #[.slice A n c, .func (.func 14) #[] #[.pointer (some ⟨B0, 0, none⟩)]] w fun e w' => e = .returned (.bool (decide (∃ r ∈ rows, r.length ≠ m))) ∧ w = w' := by
  have H := Lib.hid h; have HB := Lib.hid hbox; have HRW := Lib.hid hrow0; have HA0 := Lib.hid hA0; clear h hbox hrow0 hA0
  go_enter Try.func12, Try.ntmps12
  go_wp2_with (go_at_call 17; refine (index2_any _ _ _ rows _ H.out hn B0 b0 off0 m cm Am HA0.out HB.out hn0 HRW.out).mono ?_; rintro e w' ⟨⟨i, rfl, hi⟩, rfl⟩; have HI := Lib.hid hi; clear hi)
  go_ret
  refine ⟨?_, rfl⟩
  rw [show decide (0 ≤ i) = decide (∃ r ∈ rows, r.length ≠ m) from decide_eq_decide.2 HI.out]
  rfl
end Go.Proofs.Ytfkdigopkdfcjaa
