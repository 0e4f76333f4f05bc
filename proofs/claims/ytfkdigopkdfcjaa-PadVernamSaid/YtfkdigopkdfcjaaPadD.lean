/-
  Pad: what is wrong with a cipher: the code's check.
-/
import Derived.Test.YtfkdigopkdfcjaaPadB
import Derived.Test.YtfkdigopkdfcjaaPadC
import Derived.BigQuiet
namespace Go.Proofs.Ytfkdigopkdfcjaa
open Go.RowKit
def OutC (r : List Int) : Prop := ∃ y ∈ r, y < 0 ∨ 4096 ≤ y
def Long16 (rows : List (List Int)) : Prop := ∃ r ∈ rows, 16 < r.length
def Odd16 (rows : List (List Int)) : Prop := ∃ r ∈ rows, r.length ≠ (rows.getD 0 []).length
def OutRows (rows : List (List Int)) : Prop := ∃ r ∈ rows, OutC r
instance (r : List Int) : Decidable (OutC r) := inferInstanceAs (Decidable (∃ y ∈ r, y < 0 ∨ 4096 ≤ y))
instance (rows : List (List Int)) : Decidable (Long16 rows) := inferInstanceAs (Decidable (∃ r ∈ rows, 16 < r.length))
instance (rows : List (List Int)) : Decidable (Odd16 rows) := inferInstanceAs (Decidable (∃ r ∈ rows, r.length ≠ (rows.getD 0 []).length))
instance (rows : List (List Int)) : Decidable (OutRows rows) := inferInstanceAs (Decidable (∃ r ∈ rows, OutC r))
/-- what is wrong with a cipher -/
def cipherE (rows : List (List Int)) : Int :=
  if 16 < rows.length ∨ Long16 rows then 1 else if rows.length = 0 ∨ (rows.getD 0 []).length = 0 then 5 else if Odd16 rows then 4 else if OutRows rows then 2 else 0
theorem outC_iff {r : List Int} (h : r ≠ []) : OutC r ↔ (Lib.minOf r < 0 ∨ 4096 ≤ Lib.maxOf r) := by
  obtain ⟨h1, h2⟩ := minOf_mem r h
  obtain ⟨h3, h4⟩ := maxOf_mem r h
  constructor
  · rintro ⟨y, hy, h0 | h0⟩
    · left; have := h2 y hy; omega
    · right; have := h4 y hy; omega
  · rintro (h0 | h0)
    · exact ⟨_, h1, .inl h0⟩
    · exact ⟨_, h3, .inr h0⟩
theorem getD_mem {rows : List (List Int)} {i : Nat} (h : i < rows.length) : rows.getD i [] ∈ rows := by
  rw [List.getD_eq_getElem?_getD, List.getElem?_eq_getElem h]; exact List.getElem_mem _
theorem all_getD {rows : List (List Int)} {P : List Int → Prop} (h : ∀ j < rows.length, ¬ P (rows.getD j [])) : ¬ ∃ r ∈ rows, P r := by
  rintro ⟨r, hr, hp⟩
  obtain ⟨j, hj, rfl⟩ := List.getElem_of_mem hr
  have := h j hj
  rw [List.getD_eq_getElem?_getD, List.getElem?_eq_getElem hj] at this
  exact this hp
def EndsInt (v : Int) (w : World) (e : Ending) (w' : World) : Prop := e = .returned (.int .i64 v) ∧ Keep (fun _ => False) w w'
set_option maxRecDepth 100000 in
set_option maxHeartbeats 4000000 in
theorem check_any (A : Option Addr) (n c : Nat) (rows : List (List Int)) (w : World) (h : Grid w w.heap.size A n rows) :
    Calls Try.prog 8 #[.slice A n c] w (EndsInt (cipherE rows) w) := by
  have hl := h.1
  have hg : Grid (w.alloc (.cells #[.slice A n c] 22)) (w.alloc (.cells #[.slice A n c] 22)).heap.size A n rows := (h.below ((Keep.refl _ w).alloc _).toBelow).more (by simp)
  have H := Lib.hid hg; clear hg h
  have hkp : Keep (fun _ => False) w (w.alloc (.cells #[.slice A n c] 22)) := (Keep.refl _ w).alloc _
  have HKP := Lib.hid hkp; clear hkp
  by_cases h16 : 16 < n
  · have hE : cipherE rows = 1 := by unfold cipherE; rw [if_pos (.inl (by omega))]
    have HE := Lib.hid hE
    have e1 : decide ((16 : Int) < (n : Int)) = true := by simp; omega
    clear hE h16 hl
    go_enter Try.func8, Try.ntmps8
    go_wp2_with fail
    go_ret
    exact ⟨by rw [HE.out]; rfl, HKP.out⟩
  have e1 : decide ((16 : Int) < (n : Int)) = false := by simp; omega
  have hn : n ≤ 16 := by omega
  by_cases hL : Long16 rows
  · have hE : cipherE rows = 1 := by unfold cipherE; rw [if_pos (.inr hL)]
    have HE := Lib.hid hE; have HW := Lib.hid (decide_eq_true (show ∃ r ∈ rows, 16 < r.length from hL))
    clear hE h16 hl hL
    go_enter Try.func8, Try.ntmps8
    go_wp2_with (go_at_call 12; refine (contains1_any _ _ _ rows _ H.out hn).mono ?_; rintro e w' ⟨rfl, rfl⟩; rw [HW.out])
    go_ret
    exact ⟨by rw [HE.out]; rfl, HKP.out⟩
  have HW := Lib.hid (decide_eq_false (show ¬ ∃ r ∈ rows, 16 < r.length from hL))
  by_cases hn0 : n = 0
  · subst hn0
    have hE : cipherE rows = 5 := by unfold cipherE; rw [if_neg (by rintro (h | h) <;> first | omega | exact hL h), if_pos (.inl hl)]
    have HE := Lib.hid hE
    clear hE h16 hl hL
    go_enter Try.func8, Try.ntmps8
    go_wp2_with (go_at_call 12; refine (contains1_any _ _ _ rows _ H.out hn).mono ?_; rintro e w' ⟨rfl, rfl⟩; rw [HW.out])
    go_ret
    exact ⟨by rw [HE.out]; rfl, HKP.out⟩
  have hn1 : 0 < n := by omega
  have b0 : ((n : Int) == 0) = false := by simp; omega
  have i0 : (0 : Int) < (n : Int) := by omega
  obtain ⟨b, off, Ar, cr, hA, hb, hc, hrow⟩ := H.out.at_ (Below.refl _ _) hn1
  subst hA
  have hoff : off + 0 = off := rfl
  rw [hoff] at hc
  obtain ⟨m, hm⟩ : ∃ m, m = (rows.getD 0 []).length := ⟨_, rfl⟩
  rw [← hm] at hc
  have HROW := Lib.hid hrow; clear hrow hoff
  by_cases hm0 : m = 0
  · have hE : cipherE rows = 5 := by unfold cipherE; rw [if_neg (by rintro (h | h) <;> first | omega | exact hL h), if_pos (.inr (by omega))]
    subst hm0
    have HE := Lib.hid hE; have HM := Lib.hid hm
    clear hE h16 hl hL hm hn0
    go_enter Try.func8, Try.ntmps8
    go_wp2_with (go_at_call 12; refine (contains1_any _ _ _ rows _ H.out hn).mono ?_; rintro e w' ⟨rfl, rfl⟩; rw [HW.out])
    go_ret
    exact ⟨by rw [HE.out]; rfl, HKP.out⟩
  have b1 : ((m : Int) == 0) = false := by simp; omega
  have hbox : (w.alloc (.cells #[.slice (some ⟨b, off, none⟩) n c] 22)).cell? ⟨w.heap.size, 0, none⟩ = some (.slice (some ⟨b, off, none⟩) n c) := by
    rw [cell_of_row _ _ _ _ _ _ (heap_alloc_new w _)]; rfl
  have HBX := Lib.hid hbox; have HCC := Lib.hid hc; clear hbox
  by_cases hO : Odd16 rows
  · have hE : cipherE rows = 4 := by unfold cipherE; rw [if_neg (by rintro (h | h) <;> first | omega | exact hL h), if_neg (by omega), if_pos hO]
    have HO := Lib.hid (decide_eq_true (show ∃ r ∈ rows, r.length ≠ m by rw [hm]; exact hO))
    have HE := Lib.hid hE; have HM := Lib.hid hm
    clear hE h16 hl hL hm hn0 hm0 hO
    go_enter Try.func8, Try.ntmps8
    go_wp2_with (first
      | (go_at_call 12; ((with_reducible refine (contains1_any _ _ _ rows _ H.out hn).mono ?_); rintro e w' ⟨rfl, rfl⟩; rw [HW.out]))
      | (go_at_call 12; ((with_reducible refine (contains2_any _ _ _ rows _ H.out hn w.heap.size b off m cr Ar rfl HBX.out hn1 HCC.out).mono ?_); rintro e w' ⟨rfl, rfl⟩; rw [HO.out])))
    go_ret
    exact ⟨by rw [HE.out]; rfl, HKP.out⟩
  have HO := Lib.hid (decide_eq_false (show ¬ ∃ r ∈ rows, r.length ≠ m by rw [hm]; exact hO))
  have hrows : ∀ j < n, (rows.getD j []).length = m ∧ m ≤ 16 := by
    intro j hj
    have hmem := getD_mem (rows := rows) (i := j) (by omega)
    have h1 : (rows.getD j []).length = m := by
      rw [hm]; apply Classical.byContradiction; intro hne; exact hO ⟨_, hmem, hne⟩
    refine ⟨h1, ?_⟩
    apply Classical.byContradiction; intro hne
    exact hL ⟨_, hmem, by omega⟩
  have hE : cipherE rows = if OutRows rows then 2 else 0 := by unfold cipherE; rw [if_neg (by rintro (h | h) <;> first | omega | exact hL h), if_neg (by omega), if_neg hO]
  have hm16 := (hrows 0 hn1).2
  have hm1 : 0 < m := by omega
  have HR := Lib.hid hrows; have HE := Lib.hid hE; have HM := Lib.hid hm; have HL := Lib.hid hl
  clear hrows hE h16 hl hL hm hn0 hm0 hO
  go_enter Try.func8, Try.ntmps8
  go_wp2_with (first
    | (go_at_call 12; ((with_reducible refine (contains1_any _ _ _ rows _ H.out hn).mono ?_); rintro e w' ⟨rfl, rfl⟩; rw [HW.out]))
    | (go_at_call 12; ((with_reducible refine (contains2_any _ _ _ rows _ H.out hn w.heap.size b off m cr Ar rfl HBX.out hn1 HCC.out).mono ?_); rintro e w' ⟨rfl, rfl⟩; rw [HO.out])))
  go_loop [27] (fun t => ∃ i : Nat, i ≤ n ∧ t = .int .i64 i ∧ ∀ j < i, ¬ OutC (rows.getD j [])) (fun t => n - (intOf t).toNat)
  case atStart => exact ⟨0, Nat.zero_le _, rfl, fun _ h => absurd h (Nat.not_lt_zero _)⟩
  case round =>
    obtain ⟨i, hi, rfl, hall⟩ := hrel
    have HALL := Lib.hid hall; clear hall
    by_cases hlt : i < n
    · obtain ⟨b', off', Ar', cr', hA', hb', hc', hr⟩ := H.out.at_ (Below.refl _ _) hlt
      obtain ⟨rfl, rfl⟩ : b = b' ∧ off = off' := by simpa using hA'
      clear hA'
      have hmem := getD_mem (rows := rows) (i := i) (by have := HL.out; omega)
      have hln := (HR.out i hlt).1
      obtain ⟨r, her⟩ : ∃ r, r = rows.getD i [] := ⟨_, rfl⟩
      rw [← her] at hc' hr hmem hln
      have HER := Lib.hid her; clear her
      rw [hln] at hc' hr
      have hne : r ≠ [] := by rintro rfl; simp at hln; omega
      have hio := outC_iff hne
      have HR2 := Lib.hid hr; have HIO := Lib.hid hio; have HMEM := Lib.hid hmem; clear hr hio hmem hne hln
      by_cases hmin : Lib.minOf r < 0
      · have b1 : decide (Lib.minOf r < 0) = true := by simpa using hmin
        have HO2 := Lib.hid (show OutRows rows from ⟨r, HMEM.out, HIO.out.2 (.inl hmin)⟩)
        go_wp2_with (first
          | (go_at_call 15; refine (min_any _ _ _ r _ HR2.out hm1 (by omega)).mono ?_; rintro e w' ⟨rfl, rfl⟩)
          | (go_at_call 16; refine (max_any _ _ _ r _ HR2.out hm1 (by omega)).mono ?_; rintro e w' ⟨rfl, rfl⟩))
        go_ret
        exact ⟨by rw [HE.out, if_pos HO2.out]; rfl, HKP.out⟩
      · have b1 : decide (Lib.minOf r < 0) = false := by simpa using hmin
        by_cases hmax : 4096 ≤ Lib.maxOf r
        · have b2 : decide (4096 ≤ Lib.maxOf r) = true := by simpa using hmax
          have HO2 := Lib.hid (show OutRows rows from ⟨r, HMEM.out, HIO.out.2 (.inr hmax)⟩)
          go_wp2_with (first
            | (go_at_call 15; refine (min_any _ _ _ r _ HR2.out hm1 (by omega)).mono ?_; rintro e w' ⟨rfl, rfl⟩)
            | (go_at_call 16; refine (max_any _ _ _ r _ HR2.out hm1 (by omega)).mono ?_; rintro e w' ⟨rfl, rfl⟩))
          go_ret
          exact ⟨by rw [HE.out, if_pos HO2.out]; rfl, HKP.out⟩
        · have b2 : decide (4096 ≤ Lib.maxOf r) = false := by simpa using hmax
          go_wp2_with (first
            | (go_at_call 15; refine (min_any _ _ _ r _ HR2.out hm1 (by omega)).mono ?_; rintro e w' ⟨rfl, rfl⟩)
            | (go_at_call 16; refine (max_any _ _ _ r _ HR2.out hm1 (by omega)).mono ?_; rintro e w' ⟨rfl, rfl⟩))
          refine ⟨⟨i + 1, by omega, rfl, fun j hj => ?_⟩, by simp [intOf]; omega⟩
          by_cases hji : j < i
          · exact HALL.out j hji
          · obtain rfl : j = i := by omega
            rw [← HER.out]
            intro ho
            rcases HIO.out.1 ho with h | h <;> omega
    · obtain rfl : i = n := by omega
      have HO2 := Lib.hid (show ¬ OutRows rows from all_getD fun j hj => HALL.out j (by have := HL.out; omega))
      go_wp2_with fail
      go_ret
      exact ⟨by rw [HE.out, if_neg HO2.out]; rfl, HKP.out⟩
end Go.Proofs.Ytfkdigopkdfcjaa
