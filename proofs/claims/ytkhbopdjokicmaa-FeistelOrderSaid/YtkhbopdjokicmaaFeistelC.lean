/-
  Feistel: the two checks of rounds answer one code.
-/
import Derived.Test.YtkhbopdjokicmaaFeistelB
import Derived.BigQuiet
namespace Go.Proofs.Ytkhbopdjokicmaa
open Go.RowKit
def OutRow (r : List Int) : Prop := ∃ y ∈ r, y < 0 ∨ 16 ≤ y
def Out16 (rows : List (List Int)) : Prop := ∃ r ∈ rows, OutRow r
instance (r : List Int) : Decidable (OutRow r) := inferInstanceAs (Decidable (∃ y ∈ r, y < 0 ∨ 16 ≤ y))
instance (rows : List (List Int)) : Decidable (Out16 rows) := inferInstanceAs (Decidable (∃ r ∈ rows, OutRow r))
/-- what is wrong with rounds and a number -/
def roundsE (rows : List (List Int)) (x : Int) : Int :=
  if 64 < rows.length then 1 else if Wrong16 rows then 4 else if Out16 rows then 2 else if 0 ≤ x ∧ x < 256 then 0 else 2
theorem outRow_iff {r : List Int} (h : r ≠ []) : OutRow r ↔ (Lib.minOf r < 0 ∨ 16 ≤ Lib.maxOf r) := by
  obtain ⟨h1, h2⟩ := minOf_mem r h
  obtain ⟨h3, h4⟩ := maxOf_mem r h
  constructor
  · rintro ⟨y, hy, h0 | h0⟩
    · left; have := h2 y hy; omega
    · right; have := h4 y hy; omega
  · rintro (h0 | h0)
    · exact ⟨_, h1, .inl h0⟩
    · exact ⟨_, h3, .inr h0⟩
set_option maxHeartbeats 2000000 in
theorem wrong_any (A : Option Addr) (n c : Nat) (rows : List (List Int)) (x : Int) (w : World) (h : Grid w w.heap.size A n rows) :
    Calls Try.prog 8 #[.slice A n c, .int .i64 x] w fun e w' => e = .returned (.int .i64 (roundsE rows x)) ∧ w = w' := by
  have hl := h.1
  have H := Lib.hid h; clear h
  by_cases h64 : 64 < n
  · have hE : roundsE rows x = 1 := by unfold roundsE; rw [if_pos (by omega)]
    have HE := Lib.hid hE
    have e1 : decide ((64 : Int) < (n : Int)) = true := by simp; omega
    clear hE h64
    go_enter Try.func8, Try.ntmps8
    go_wp2_with fail
    go_ret
    exact ⟨by rw [HE.out]; rfl, rfl⟩
  have e1 : decide ((64 : Int) < (n : Int)) = false := by simp; omega
  by_cases hw : Wrong16 rows
  · have hE : roundsE rows x = 4 := by unfold roundsE; rw [if_neg (by omega), if_pos hw]
    have HE := Lib.hid hE; have HW := Lib.hid (decide_eq_true hw)
    clear hE hw
    have hn : n ≤ 64 := by omega
    clear h64
    go_enter Try.func8, Try.ntmps8
    go_wp2_with (go_at_call 12; refine (contains_any _ _ _ rows _ H.out hn).mono ?_; rintro e w' ⟨rfl, rfl⟩; rw [HW.out])
    go_ret
    exact ⟨by rw [HE.out]; rfl, rfl⟩
  have h16 : ∀ i, i < n → (rows.getD i []).length = 16 := by
    intro i hi
    apply Classical.byContradiction
    intro hne
    exact hw ⟨rows.getD i [], by rw [List.getD_eq_getElem?_getD, List.getElem?_eq_getElem (by omega)]; exact List.getElem_mem (by omega), hne⟩
  have hE : roundsE rows x = if Out16 rows then 2 else if 0 ≤ x ∧ x < 256 then 0 else 2 := by unfold roundsE; rw [if_neg (by omega), if_neg hw]
  have HE := Lib.hid hE; have HW := Lib.hid (decide_eq_false hw); have H16 := Lib.hid h16
  clear hE hw h16
  have hn : n ≤ 64 := by omega
  clear h64
  go_enter Try.func8, Try.ntmps8
  go_wp2_with (go_at_call 12; refine (contains_any _ _ _ rows _ H.out hn).mono ?_; rintro e w' ⟨rfl, rfl⟩; rw [HW.out])
  go_loop [14] (fun t => ∃ i : Nat, i ≤ n ∧ t = .int .i64 i ∧ ∀ j < i, ¬ OutRow (rows.getD j [])) (fun t => n - (intOf t).toNat)
  case atStart => exact ⟨0, Nat.zero_le _, rfl, fun _ h => absurd h (Nat.not_lt_zero _)⟩
  case round =>
    obtain ⟨i, hi, rfl, hall⟩ := hrel
    have HALL := Lib.hid hall; clear hall
    by_cases hlt : i < n
    · obtain ⟨b, off, Ar, cr, rfl, hb, hc, hr⟩ := H.out.at_ (Below.refl _ _) hlt
      have hmem : rows.getD i [] ∈ rows := by rw [List.getD_eq_getElem?_getD, List.getElem?_eq_getElem (by omega)]; exact List.getElem_mem (by omega)
      have hln := H16.out i hlt
      obtain ⟨r, her⟩ : ∃ r, r = rows.getD i [] := ⟨_, rfl⟩
      rw [← her] at hc hr hmem hln
      have HER := Lib.hid her; clear her
      rw [hln] at hc hr
      have hne : r ≠ [] := by rintro rfl; simp at hln
      have hio := outRow_iff hne
      have HR := Lib.hid hr; have HIO := Lib.hid hio; have HMEM := Lib.hid hmem; clear hr hio hmem hne hln
      by_cases hmin : Lib.minOf r < 0
      · have b1 : decide (Lib.minOf r < 0) = true := by simpa using hmin
        have HB := Lib.hid b1; clear b1
        have hO : Out16 rows := ⟨r, HMEM.out, HIO.out.2 (.inl hmin)⟩
        have HO := Lib.hid hO; clear hO
        go_wp2_with (first
          | (go_at_call 14; refine (min_any _ _ _ r _ HR.out (by omega) (by omega)).mono ?_; rintro e w' ⟨rfl, rfl⟩)
          | (go_at_call 15; refine (max_any _ _ _ r _ HR.out (by omega) (by omega)).mono ?_; rintro e w' ⟨rfl, rfl⟩))
        go_ret
        exact ⟨by rw [HE.out, if_pos HO.out]; rfl, rfl⟩
      · by_cases hmax : 16 ≤ Lib.maxOf r
        · have b1 : decide (Lib.minOf r < 0) = false := by simpa using hmin
          have b2 : decide (16 ≤ Lib.maxOf r) = true := by simpa using hmax
          have hO : Out16 rows := ⟨r, HMEM.out, HIO.out.2 (.inr hmax)⟩
          have HO := Lib.hid hO; clear hO
          go_wp2_with (first
            | (go_at_call 14; refine (min_any _ _ _ r _ HR.out (by omega) (by omega)).mono ?_; rintro e w' ⟨rfl, rfl⟩)
            | (go_at_call 15; refine (max_any _ _ _ r _ HR.out (by omega) (by omega)).mono ?_; rintro e w' ⟨rfl, rfl⟩))
          go_ret
          exact ⟨by rw [HE.out, if_pos HO.out]; rfl, rfl⟩
        · have b1 : decide (Lib.minOf r < 0) = false := by simpa using hmin
          have b2 : decide (16 ≤ Lib.maxOf r) = false := by simpa using hmax
          go_wp2_with (first
            | (go_at_call 14; refine (min_any _ _ _ r _ HR.out (by omega) (by omega)).mono ?_; rintro e w' ⟨rfl, rfl⟩)
            | (go_at_call 15; refine (max_any _ _ _ r _ HR.out (by omega) (by omega)).mono ?_; rintro e w' ⟨rfl, rfl⟩))
          refine ⟨⟨i + 1, by omega, rfl, fun j hj => ?_⟩, by simp [intOf]; omega⟩
          by_cases hji : j < i
          · exact HALL.out j hji
          · obtain rfl : j = i := by omega
            rw [← HER.out]
            intro ho
            rcases HIO.out.1 ho with h | h
            · omega
            · omega
    · obtain rfl : i = n := by omega
      have hO : ¬ Out16 rows := by
        rintro ⟨r, hr, ho⟩
        obtain ⟨j, hj, rfl⟩ := List.getElem_of_mem hr
        have := HALL.out j (by omega)
        rw [List.getD_eq_getElem?_getD, List.getElem?_eq_getElem hj] at this
        exact this ho
      have HO := Lib.hid hO; clear hO
      by_cases hx0 : x < 0
      · have b1 : decide (x < 0) = true := by simpa using hx0
        go_wp2_with fail
        go_ret
        exact ⟨by rw [HE.out, if_neg HO.out, if_neg (by omega)]; rfl, rfl⟩
      · have b1 : decide (x < 0) = false := by simpa using hx0
        by_cases hx1 : 256 ≤ x
        · have b2 : decide (256 ≤ x) = true := by simpa using hx1
          go_wp2_with fail
          go_ret
          exact ⟨by rw [HE.out, if_neg HO.out, if_neg (by omega)]; rfl, rfl⟩
        · have b2 : decide (256 ≤ x) = false := by simpa using hx1
          go_wp2_with fail
          go_ret
          exact ⟨by rw [HE.out, if_neg HO.out, if_pos (by omega)]; rfl, rfl⟩
set_option maxHeartbeats 2000000 in
theorem check_any (A : Option Addr) (n c : Nat) (rows : List (List Int)) (x : Int) (w : World) (h : Grid w w.heap.size A n rows) :
    Calls Try.prog 5 #[.slice A n c, .int .i64 x] w fun e w' => e = .returned (.int .i64 (roundsE rows x)) ∧ w = w' := by
  have hl := h.1
  have H := Lib.hid h; clear h
  by_cases h64 : 64 < n
  · have hE : roundsE rows x = 1 := by unfold roundsE; rw [if_pos (by omega)]
    have HE := Lib.hid hE
    have e1 : decide ((64 : Int) < (n : Int)) = true := by simp; omega
    clear hE h64
    go_enter Try.func5, Try.ntmps5
    go_wp2_with fail
    go_ret
    exact ⟨by rw [HE.out]; rfl, rfl⟩
  have e1 : decide ((64 : Int) < (n : Int)) = false := by simp; omega
  have hn : n ≤ 64 := by omega
  have hE0 : ¬ 64 < rows.length := by omega
  have HE0 := Lib.hid hE0
  clear h64 hE0
  go_enter Try.func5, Try.ntmps5
  go_wp2_with fail
  go_loop [16] (fun t => ∃ i : Nat, i ≤ n ∧ t = .int .i64 i ∧ ∀ j < i, (rows.getD j []).length = 16) (fun t => n - (intOf t).toNat)
  case atStart => exact ⟨0, Nat.zero_le _, rfl, fun _ h => absurd h (Nat.not_lt_zero _)⟩
  case round =>
    obtain ⟨i, hi, rfl, hall⟩ := hrel
    have HALL := Lib.hid hall; clear hall
    by_cases hlt : i < n
    · obtain ⟨b, off, Ar, cr, rfl, hb, hc, hr⟩ := H.out.at_ (Below.refl _ _) hlt
      have hmem : rows.getD i [] ∈ rows := by rw [List.getD_eq_getElem?_getD, List.getElem?_eq_getElem (by omega)]; exact List.getElem_mem (by omega)
      obtain ⟨r, her⟩ : ∃ r, r = rows.getD i [] := ⟨_, rfl⟩
      rw [← her] at hc hr hmem
      have HER := Lib.hid her; have HMEM := Lib.hid hmem; clear her hmem hr
      by_cases h16 : r.length = 16
      · have b1 : ((r.length : Int) != 16) = false := by simp; omega
        have HL16 := Lib.hid h16; clear h16
        go_wp2_with fail
        refine ⟨⟨i + 1, by omega, rfl, fun j hj => ?_⟩, by simp [intOf]; omega⟩
        by_cases hji : j < i
        · exact HALL.out j hji
        · obtain rfl : j = i := by omega
          rw [← HER.out]; exact HL16.out
      · have b1 : ((r.length : Int) != 16) = true := by simp; omega
        have hW : Wrong16 rows := ⟨r, HMEM.out, h16⟩
        have HW := Lib.hid hW; clear hW h16
        go_wp2_with fail
        go_ret
        exact ⟨by unfold roundsE; rw [if_neg HE0.out, if_pos HW.out]; rfl, rfl⟩
    · obtain rfl : i = n := by omega
      clear hlt hi
      have hW : ¬ Wrong16 rows := by
        rintro ⟨r, hr, hne⟩
        obtain ⟨j, hj, rfl⟩ := List.getElem_of_mem hr
        have := HALL.out j (by omega)
        rw [List.getD_eq_getElem?_getD, List.getElem?_eq_getElem hj] at this
        exact hne this
      have hE : roundsE rows x = if Out16 rows then 2 else if 0 ≤ x ∧ x < 256 then 0 else 2 := by unfold roundsE; rw [if_neg HE0.out, if_neg hW]
      have HE := Lib.hid hE; clear hE hW
      go_wp2_with fail
      go_loop [26] (fun t => ∃ i' : Nat, i' ≤ i ∧ t = .int .i64 i' ∧ ∀ j < i', ¬ OutRow (rows.getD j [])) (fun t => i - (intOf t).toNat)
      case atStart => exact ⟨0, Nat.zero_le _, rfl, fun _ h => absurd h (Nat.not_lt_zero _)⟩
      case round =>
        obtain ⟨i', hi', rfl, hno⟩ := hrel
        have HNO := Lib.hid hno; clear hno
        by_cases hlt : i' < i
        · obtain ⟨b, off, Ar, cr, rfl, hb, hc, hr⟩ := H.out.at_ (Below.refl _ _) hlt
          have hmem : rows.getD i' [] ∈ rows := by rw [List.getD_eq_getElem?_getD, List.getElem?_eq_getElem (by omega)]; exact List.getElem_mem (by omega)
          have hln := HALL.out i' hlt
          obtain ⟨r, her⟩ : ∃ r, r = rows.getD i' [] := ⟨_, rfl⟩
          rw [← her] at hc hr hmem hln
          have HER := Lib.hid her; clear her
          rw [hln] at hc hr
          have HR := Lib.hid hr; have HMEM := Lib.hid hmem; have HLN := Lib.hid hln; clear hr hmem hln
          go_wp2_with fail
          go_loop [32] (fun t => ∃ k : Nat, k ≤ 16 ∧ t = .int .i64 k ∧ ∀ j < k, 0 ≤ r.getD j 0 ∧ r.getD j 0 < 16) (fun t => 16 - (intOf t).toNat)
          case atStart => exact ⟨0, Nat.zero_le _, rfl, fun _ h => absurd h (Nat.not_lt_zero _)⟩
          case round =>
            obtain ⟨k, hk, rfl, hok⟩ := hrel
            have HOK := Lib.hid hok; clear hok
            by_cases hk16 : k < 16
            · obtain ⟨rb, ro, rfl, hrb, hrc⟩ := HR.out.at_ (Below.refl _ _) hk16
              have hym : r.getD k 0 ∈ r := by rw [List.getD_eq_getElem?_getD, List.getElem?_eq_getElem (by have := HLN.out; omega)]; exact List.getElem_mem _
              obtain ⟨y, hy⟩ : ∃ y, y = r.getD k 0 := ⟨_, rfl⟩
              rw [← hy] at hrc hym
              have HY := Lib.hid hy; have HYM := Lib.hid hym; clear hy hym
              by_cases hy0 : y < 0
              · have b1 : decide (y < 0) = true := by simpa using hy0
                have HO := Lib.hid (show Out16 rows from ⟨r, HMEM.out, y, HYM.out, .inl hy0⟩)
                go_wp2_with fail
                go_ret
                exact ⟨by rw [HE.out, if_pos HO.out]; rfl, rfl⟩
              · have b1 : decide (y < 0) = false := by simpa using hy0
                by_cases hy1 : 15 < y
                · have b2 : decide (15 < y) = true := by simpa using hy1
                  have HO := Lib.hid (show Out16 rows from ⟨r, HMEM.out, y, HYM.out, .inr (by omega)⟩)
                  go_wp2_with fail
                  go_ret
                  exact ⟨by rw [HE.out, if_pos HO.out]; rfl, rfl⟩
                · have b2 : decide (15 < y) = false := by simpa using hy1
                  go_wp2_with fail
                  refine ⟨⟨k + 1, by omega, rfl, fun j hj => ?_⟩, by simp [intOf]; omega⟩
                  by_cases hjk : j < k
                  · exact HOK.out j hjk
                  · obtain rfl : j = k := by omega
                    rw [← HY.out]; omega
            · obtain rfl : k = 16 := by omega
              go_wp2_with fail
              refine ⟨⟨i' + 1, by omega, rfl, fun j hj => ?_⟩, by simp [intOf]; omega⟩
              by_cases hji : j < i'
              · exact HNO.out j hji
              · obtain rfl : j = i' := by omega
                rw [← HER.out]
                rintro ⟨y, hy, ho⟩
                obtain ⟨q, hq, rfl⟩ := List.getElem_of_mem hy
                have := HOK.out q (by have := HLN.out; omega)
                rw [List.getD_eq_getElem?_getD, List.getElem?_eq_getElem hq] at this
                simp only [Option.getD_some] at this
                omega
        · obtain rfl : i' = i := by omega
          have hO : ¬ Out16 rows := by
            rintro ⟨r, hr, ho⟩
            obtain ⟨j, hj, rfl⟩ := List.getElem_of_mem hr
            have := HNO.out j (by omega)
            rw [List.getD_eq_getElem?_getD, List.getElem?_eq_getElem hj] at this
            exact this ho
          have HO := Lib.hid hO; clear hO
          by_cases hx0 : x < 0
          · have b1 : decide (x < 0) = true := by simpa using hx0
            go_wp2_with fail
            go_ret
            exact ⟨by rw [HE.out, if_neg HO.out, if_neg (by omega)]; rfl, rfl⟩
          · have b1 : decide (x < 0) = false := by simpa using hx0
            by_cases hx1 : 255 < x
            · have b2 : decide (255 < x) = true := by simpa using hx1
              go_wp2_with fail
              go_ret
              exact ⟨by rw [HE.out, if_neg HO.out, if_neg (by omega)]; rfl, rfl⟩
            · have b2 : decide (255 < x) = false := by simpa using hx1
              go_wp2_with fail
              go_ret
              exact ⟨by rw [HE.out, if_neg HO.out, if_pos (by omega)]; rfl, rfl⟩
end Go.Proofs.Ytkhbopdjokicmaa
