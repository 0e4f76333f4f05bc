/-
  Feistel: what is asked of rounds: the search for a round of a wrong length.
-/
import Derived.Test.YtkhbopdjokicmaaGrid
namespace Go.Proofs.Ytkhbopdjokicmaa
open Go.RowKit
theorem bad_any (A : Option Addr) (n c : Nat) (w : World) :
    Calls Try.prog 13 #[.slice A n c] w fun e w' => e = .returned (.bool ((n : Int) != 16)) ∧ w = w' := by
  go_enter Try.func13, Try.ntmps13
  go_wp2
  go_ret
  exact ⟨rfl, rfl⟩
set_option maxHeartbeats 1000000 in
theorem index_any (A : Option Addr) (n c : Nat) (rows : List (List Int)) (w : World) (h : Grid w w.heap.size A n rows) (hn : n ≤ 64) :
    Calls Try.prog 19 #[.slice A n c, .func (.func 13) #[] #[]] w fun e w' => (∃ i : Int, e = .returned (.int .i64 i) ∧ (0 ≤ i ↔ ∃ r ∈ rows, r.length ≠ 16)) ∧ w = w' := by
  have H := Lib.hid h; clear h
  go_enter Try.func19, Try.ntmps19
  go_wp2
  go_loop [8] (fun t => ∃ i : Nat, i ≤ n ∧ t = .int .i64 i ∧ ∀ j < i, (rows.getD j []).length = 16) (fun t => n - (intOf t).toNat)
  case atStart => exact ⟨0, Nat.zero_le _, rfl, fun _ h => absurd h (Nat.not_lt_zero _)⟩
  case round =>
    obtain ⟨i, hi, rfl, hall⟩ := hrel
    have HALL := Lib.hid hall; clear hall
    have hlen := H.out.1
    by_cases hlt : i < n
    · obtain ⟨b, off, Ar, cr, rfl, hb, hc, hr⟩ := H.out.at_ (Below.refl _ _) hlt
      have HR := Lib.hid hr; clear hr
      obtain ⟨r, her⟩ : ∃ r, r = rows.getD i [] := ⟨_, rfl⟩
      rw [← her] at hc
      have HER := Lib.hid her; clear her
      by_cases h16 : r.length = 16
      · have e1 : ((r.length : Int) != 16) = false := by simp; omega
        have E1 := Lib.hid e1; have H16 := Lib.hid h16; clear e1 h16
        go_wp2_with (go_at_call 13; refine (bad_any _ _ _ _).mono ?_; rintro e w' ⟨rfl, rfl⟩; rw [E1.out])
        refine ⟨⟨i + 1, by omega, rfl, fun j hj => ?_⟩, by simp [intOf]; omega⟩
        by_cases hji : j < i
        · exact HALL.out j hji
        · obtain rfl : j = i := by omega
          rw [← HER.out]; exact H16.out
      · have e1 : ((r.length : Int) != 16) = true := by simp; omega
        have E1 := Lib.hid e1; have H16 := Lib.hid h16; clear e1 h16
        go_wp2_with (go_at_call 13; refine (bad_any _ _ _ _).mono ?_; rintro e w' ⟨rfl, rfl⟩; rw [E1.out])
        go_ret
        refine ⟨⟨_, rfl, ⟨fun _ => ⟨r, ?_, H16.out⟩, fun _ => by omega⟩⟩, rfl⟩
        rw [HER.out, List.getD_eq_getElem?_getD, List.getElem?_eq_getElem (by omega)]
        exact List.getElem_mem (by omega)
    · obtain rfl : i = n := by omega
      go_wp2_with fail
      go_ret
      refine ⟨⟨_, rfl, ⟨fun h => absurd h (by decide), ?_⟩⟩, rfl⟩
      rintro ⟨r, hr, hne⟩
      obtain ⟨j, hj, rfl⟩ := List.getElem_of_mem hr
      have := HALL.out j (by omega)
      rw [List.getD_eq_getElem?_getD, List.getElem?_eq_getElem hj] at this
      exact absurd this hne
def Wrong16 (rows : List (List Int)) : Prop := ∃ r ∈ rows, r.length ≠ 16
instance (rows : List (List Int)) : Decidable (Wrong16 rows) := inferInstanceAs (Decidable (∃ r ∈ rows, r.length ≠ 16))
theorem contains_any (A : Option Addr) (n c : Nat) (rows : List (List Int)) (w : World) (h : Grid w w.heap.size A n rows) (hn : n ≤ 64) :
    Calls Try.prog 12 #[.slice A n c, .func (.func 13) #[] #[]] w fun e w' => e = .returned (.bool (decide (Wrong16 rows))) ∧ w = w' := by
  have H := Lib.hid h; clear h
  go_enter Try.func12, Try.ntmps12
  go_wp2_with (go_at_call 19; refine (index_any _ _ _ rows _ H.out hn).mono ?_; rintro e w' ⟨⟨i, rfl, hi⟩, rfl⟩; have HI := Lib.hid hi; clear hi)
  go_ret
  refine ⟨?_, rfl⟩
  rw [show decide (0 ≤ i) = decide (Wrong16 rows) from decide_eq_decide.2 HI.out]
  rfl
end Go.Proofs.Ytkhbopdjokicmaa
