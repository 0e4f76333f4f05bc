/-
  Pad: Perfect, Plain.
-/
import Derived.Test.YtfkdigopkdfcjaaPadE
namespace Go.Proofs.Ytfkdigopkdfcjaa
open Go.RowKit
/-- what the check lets by -/
structure GoodC (rows : List (List Int)) (n m : Nat) : Prop where
  len : rows.length = n
  n1 : 0 < n
  n16 : n ≤ 16
  m1 : 0 < m
  m16 : m ≤ 16
  row : ∀ r ∈ rows, r.length = m
  range : ∀ r ∈ rows, ∀ y ∈ r, 0 ≤ y ∧ y < 4096
theorem goodC_of {rows : List (List Int)} (h : cipherE rows = 0) : GoodC rows rows.length (rows.getD 0 []).length := by
  unfold cipherE at h
  split at h
  · cases h
  rename_i h1
  split at h
  · cases h
  rename_i h2
  split at h
  · cases h
  rename_i h3
  split at h
  · cases h
  rename_i h4
  have hr : ∀ r ∈ rows, r.length = (rows.getD 0 []).length := fun r hr => Classical.byContradiction fun hne => h3 ⟨r, hr, hne⟩
  have hm0 := getD_mem (rows := rows) (i := 0) (by omega)
  refine ⟨rfl, by omega, by omega, by omega, ?_, hr, fun r hr y hy => ?_⟩
  · apply Classical.byContradiction; intro hn; exact h1 (.inr ⟨_, hm0, by omega⟩)
  · have : ¬ (y < 0 ∨ 4096 ≤ y) := fun ho => h4 ⟨r, hr, y, hy, ho⟩
    omega
/-- each message becomes each number by as many keys -/
def PerfP (rows : List (List Int)) : Prop := ∀ j < (rows.getD 0 []).length, (col rows 0).Perm (col rows j)
instance (rows : List (List Int)) : Decidable (PerfP rows) := inferInstanceAs (Decidable (∀ j < (rows.getD 0 []).length, (col rows 0).Perm (col rows j)))
/-- no row has a number twice -/
def PlainP (rows : List (List Int)) : Prop := ∀ r ∈ rows, r.Nodup
instance (rows : List (List Int)) : Decidable (PlainP rows) := inferInstanceAs (Decidable (∀ r ∈ rows, r.Nodup))
theorem col_wf {rows : List (List Int)} {n m : Nat} (h : GoodC rows n m) (j : Nat) : ∀ x ∈ col rows j, (Lit.int .i64 x).wf = true := by
  intro x hx
  obtain ⟨r, hr, rfl⟩ := List.mem_map.1 hx
  have : 0 ≤ r.getD j 0 ∧ r.getD j 0 < 4096 := by
    rw [List.getD_eq_getElem?_getD]
    cases e : r[j]? with
    | none => simp
    | some y => exact h.range r hr y (List.mem_of_getElem? e)
  exact WalkArith.wf_i64 (by omega)
def EndsBool (b : Bool) (c : Int) (w : World) (e : Ending) (w' : World) : Prop := e = .returned (.tuple #[.bool b, .int .i64 c]) ∧ Keep (fun _ => False) w w'
set_option maxHeartbeats 1000000 in
theorem perfect_bad (A : Option Addr) (n c : Nat) (rows : List (List Int)) (w : World) (h : Grid w w.heap.size A n rows) (h0 : cipherE rows ≠ 0) :
    Calls Try.prog 5 #[.slice A n c] w (EndsBool false (cipherE rows) w) := by
  have H := Lib.hid h
  generalize he : cipherE rows = e0 at *
  have b1 : (e0 != 0) = true := by simpa using h0
  have HE := Lib.hid he; clear he h0 h
  go_enter Try.func5, Try.ntmps5
  go_wp2_with (go_at_call 8; refine (check_any _ _ _ rows _ H.out).mono ?_; rintro e w' ⟨rfl, hk⟩; have HK := Lib.hid hk; clear hk; rw [HE.out])
  go_ret2
  exact ⟨rfl, HK.out⟩
set_option maxHeartbeats 1000000 in
theorem plain_bad (A : Option Addr) (n c : Nat) (rows : List (List Int)) (w : World) (h : Grid w w.heap.size A n rows) (h0 : cipherE rows ≠ 0) :
    Calls Try.prog 6 #[.slice A n c] w (EndsBool false (cipherE rows) w) := by
  have H := Lib.hid h
  generalize he : cipherE rows = e0 at *
  have b1 : (e0 != 0) = true := by simpa using h0
  have HE := Lib.hid he; clear he h0 h
  go_enter Try.func6, Try.ntmps6
  go_wp2_with (go_at_call 8; refine (check_any _ _ _ rows _ H.out).mono ?_; rintro e w' ⟨rfl, hk⟩; have HK := Lib.hid hk; clear hk; rw [HE.out])
  go_ret2
  exact ⟨rfl, HK.out⟩
theorem grid_keep {w w' : World} {A : Option Addr} {n : Nat} {rows : List (List Int)} (h : Grid w w.heap.size A n rows) (hk : Keep (fun _ => False) w w') : Grid w' w'.heap.size A n rows := (h.below hk.toBelow).more hk.size
theorem counts_keep {w w' : World} {b : Nat} {l : List Int} (h : Counts w b l) (hk : Keep (fun _ => False) w w') : Counts w' b l := IMap.keep h hk fun h => h
set_option maxRecDepth 100000 in
set_option maxHeartbeats 2000000 in
theorem plain_ok (A : Option Addr) (n c : Nat) (rows : List (List Int)) (w : World) (h : Grid w w.heap.size A n rows) (h0 : cipherE rows = 0) :
    Calls Try.prog 6 #[.slice A n c] w (EndsBool (decide (PlainP rows)) 0 w) := by
  have hg := goodC_of h0
  have hl := h.1
  rw [hl] at hg
  have hn16 := hg.n16
  have H := Lib.hid h; have H0 := Lib.hid h0; have HG := Lib.hid hg; have HL := Lib.hid hl; clear h h0 hg hl
  go_enter Try.func6, Try.ntmps6
  go_wp2_with (go_at_call 8; refine (check_any _ _ _ rows _ H.out).mono ?_; rintro e w1 ⟨rfl, hk⟩; have HK := Lib.hid hk; clear hk; rw [H0.out])
  go_loopw [14] (fun t wr => ∃ i : Nat, i ≤ n ∧ t = .int .i64 i ∧ (∀ j < i, (rows.getD j []).Nodup) ∧ Keep (fun _ => False) w wr) (fun t _ => n - (intOf t).toNat)
  case atStart => exact ⟨0, Nat.zero_le _, rfl, fun _ h => absurd h (Nat.not_lt_zero _), HK.out⟩
  case round =>
    obtain ⟨i, hi, rfl, hall, hk⟩ := hrel
    have HALL := Lib.hid hall; have HK2 := Lib.hid hk; clear hall hk
    by_cases hlt : i < n
    · obtain ⟨b, off, Ar, cr, rfl, hb, hc, hr⟩ := (grid_keep H.out HK2.out).at_ (Below.refl _ _) hlt
      have hmem := getD_mem (rows := rows) (i := i) (by have := HL.out; omega)
      obtain ⟨r, her⟩ : ∃ r, r = rows.getD i [] := ⟨_, rfl⟩
      rw [← her] at hc hr hmem
      have hwf : ∀ x ∈ r, (Lit.int .i64 x).wf = true := fun x hx => by have := HG.out.range r hmem x hx; exact WalkArith.wf_i64 (by omega)
      have hr16 : r.length ≤ 16 := by have := HG.out.row r hmem; have := HG.out.m16; omega
      have hnd := nd_lt r.reverse
      have hndr : r.reverse.Nodup ↔ r.Nodup := (List.reverse_perm r).nodup_iff
      rw [List.length_reverse, hndr] at hnd
      have HER := Lib.hid her; have HR := Lib.hid hr; have HM := Lib.hid hmem; have HWF := Lib.hid hwf; clear her hr hmem hwf hndr
      by_cases hd : r.Nodup
      · have b1 : decide (nd r.reverse < r.length) = false := decide_eq_false fun hq => hnd.1 hq hd
        have HB := Lib.hid b1; have HD := Lib.hid hd; clear hd b1 hnd
        go_wp2_with (first
          | (go_at_call 9; refine (counted_any _ _ _ r _ HR.out hr16 HWF.out).mono ?_; rintro e w2 ⟨bm, rfl, hcm, hbm, hk2⟩; have hlen := fun ty => IMap.len hcm Try.underlying30 ty; have HCM := Lib.hid hcm; have HK3 := Lib.hid hk2; clear hcm hk2; have b1 := HB.out))
        refine ⟨⟨i + 1, by omega, rfl, fun j hj => ?_, HK2.out.trans HK3.out⟩, by simp [intOf]; omega⟩
        by_cases hji : j < i
        · exact HALL.out j hji
        · obtain rfl : j = i := by omega
          rw [← HER.out]; exact HD.out
      · have b1 : decide (nd r.reverse < r.length) = true := decide_eq_true (hnd.2 hd)
        have HB := Lib.hid b1; have HD := Lib.hid hd; clear hd b1 hnd
        have HP := Lib.hid (show decide (PlainP rows) = false from decide_eq_false fun hp => HD.out (hp r HM.out))
        go_wp2_with (first
          | (go_at_call 9; refine (counted_any _ _ _ r _ HR.out hr16 HWF.out).mono ?_; rintro e w2 ⟨bm, rfl, hcm, hbm, hk2⟩; have hlen := fun ty => IMap.len hcm Try.underlying30 ty; have HCM := Lib.hid hcm; have HK3 := Lib.hid hk2; clear hcm hk2; have b1 := HB.out))
        go_ret2
        exact ⟨by rw [HP.out]; rfl, HK2.out.trans HK3.out⟩
    · obtain rfl : i = n := by omega
      have HP := Lib.hid (show decide (PlainP rows) = true from decide_eq_true fun r hr => by
        obtain ⟨j, hj, rfl⟩ := List.getElem_of_mem hr
        have := HALL.out j (by have := HL.out; omega)
        rwa [List.getD_eq_getElem?_getD, List.getElem?_eq_getElem hj] at this)
      go_wp2_with fail
      go_ret2
      exact ⟨by rw [HP.out]; rfl, HK2.out⟩
set_option maxRecDepth 100000 in
set_option maxHeartbeats 2000000 in
theorem perfect_ok (A : Option Addr) (n c : Nat) (rows : List (List Int)) (w : World) (h : Grid w w.heap.size A n rows) (h0 : cipherE rows = 0) :
    Calls Try.prog 5 #[.slice A n c] w (EndsBool (decide (PerfP rows)) 0 w) := by
  have hg := goodC_of h0
  have hl := h.1
  rw [hl] at hg
  obtain ⟨m, hm⟩ : ∃ m, m = (rows.getD 0 []).length := ⟨_, rfl⟩
  rw [← hm] at hg
  have hn16 := hg.n16
  have hm16 := hg.m16
  have hm1 := hg.m1
  have hn1 := hg.n1
  have i0 : (0 : Int) < (n : Int) := by omega
  have H := Lib.hid h; have H0 := Lib.hid h0; have HG := Lib.hid hg; have HL := Lib.hid hl; have HM := Lib.hid hm; clear h h0 hg hl hm
  have hcl : ∀ j, (col rows j).length = n := fun j => by unfold col; rw [List.length_map]; exact HL.out
  have HCL := Lib.hid hcl; clear hcl
  go_enter Try.func5, Try.ntmps5
  go_wp2_with (first
    | (go_at_call 8; refine (check_any _ _ _ rows _ H.out).mono ?_; rintro e w1 ⟨rfl, hk⟩; have HK := Lib.hid hk; clear hk; rw [H0.out])
    | (go_at_call 10; refine (column_any _ _ _ 0 rows _ (grid_keep H.out HK.out) hn16 (fun r hr => by rw [HG.out.row r hr]; exact hm1) (by omega)).mono ?_; rintro e w2 ⟨A2, c2, rfl, hn2, hk2⟩; have HN2 := Lib.hid hn2; have HK2 := Lib.hid hk2; clear hn2 hk2)
    | (go_at_call 9; refine (counted_any _ _ _ (col rows 0) _ HN2.out (by rw [HCL.out]; exact hn16) (col_wf HG.out 0)).mono ?_; rintro e w3 ⟨bm, rfl, hcm, hbm, hk3⟩; have HCM := Lib.hid hcm; have HK3 := Lib.hid (HK.out.trans (HK2.out.trans hk3)); clear hcm hk3))
  have hg3 := grid_keep H.out HK3.out
  obtain ⟨b, off, Ar, cr, hA, hb, hc, hrow⟩ := hg3.at_ (Below.refl _ _) hn1
  subst hA
  rw [← HM.out] at hc
  have hoff : off + 0 = off := rfl
  rw [hoff] at hc
  have HG3 := Lib.hid hg3
  clear hrow hoff hg3
  go_simp
  go_wp2_with fail
  clear hc
  go_loopw [19] (fun t wr => ∃ i : Nat, i ≤ m ∧ t = .int .i64 i ∧ (∀ j < i, (col rows 0).Perm (col rows j)) ∧ Counts wr bm (col rows 0) ∧ Keep (fun _ => False) w wr) (fun t _ => m - (intOf t).toNat)
  case atStart => exact ⟨0, Nat.zero_le _, rfl, fun _ h => absurd h (Nat.not_lt_zero _), HCM.out, HK3.out⟩
  case round =>
    obtain ⟨i, hi, rfl, hall, hcnt, hk⟩ := hrel
    have HALL := Lib.hid hall; have HCN := Lib.hid hcnt; have HKR := Lib.hid hk; clear hall hcnt hk
    by_cases hlt : i < m
    · by_cases hd : (col rows 0).Perm (col rows i)
      · have HD := Lib.hid hd; have HDD := Lib.hid (decide_eq_true hd); clear hd
        go_wp2_with (first
          | (go_at_call 10; refine (column_any _ _ _ i rows _ (grid_keep H.out HKR.out) hn16 (fun r hr => by rw [HG.out.row r hr]; exact hlt) (by omega)).mono ?_; rintro e w4 ⟨A4, c4, rfl, hn4, hk4⟩; have HN4 := Lib.hid hn4; have HK4 := Lib.hid hk4; clear hn4 hk4)
          | (go_at_call 9; refine (counted_any _ _ _ (col rows i) _ HN4.out (by rw [HCL.out]; exact hn16) (col_wf HG.out i)).mono ?_; rintro e w5 ⟨b5, rfl, hc5, hb5, hk5⟩; have HC5 := Lib.hid hc5; have HK5 := Lib.hid (HK4.out.trans hk5); clear hc5 hk5)
          | (go_at_call 11; refine (equal_any bm b5 (col rows 0) (col rows i) _ (counts_keep HCN.out HK5.out) HC5.out (by rw [HCL.out, HCL.out])).mono ?_; rintro e w6 ⟨rfl, hk6⟩; have HK6 := Lib.hid (HK5.out.trans hk6); clear hk6; rw [HDD.out]))
        refine ⟨⟨i + 1, by omega, rfl, fun j hj => ?_, counts_keep HCN.out HK6.out, HKR.out.trans HK6.out⟩, by simp [intOf]; omega⟩
        by_cases hji : j < i
        · exact HALL.out j hji
        · obtain rfl : j = i := by omega
          exact HD.out
      · have HD := Lib.hid hd; have HDD := Lib.hid (decide_eq_false hd); clear hd
        have HP := Lib.hid (show decide (PerfP rows) = false from decide_eq_false fun hp => HD.out (hp i (by rw [← HM.out]; exact hlt)))
        go_wp2_with (first
          | (go_at_call 10; refine (column_any _ _ _ i rows _ (grid_keep H.out HKR.out) hn16 (fun r hr => by rw [HG.out.row r hr]; exact hlt) (by omega)).mono ?_; rintro e w4 ⟨A4, c4, rfl, hn4, hk4⟩; have HN4 := Lib.hid hn4; have HK4 := Lib.hid hk4; clear hn4 hk4)
          | (go_at_call 9; refine (counted_any _ _ _ (col rows i) _ HN4.out (by rw [HCL.out]; exact hn16) (col_wf HG.out i)).mono ?_; rintro e w5 ⟨b5, rfl, hc5, hb5, hk5⟩; have HC5 := Lib.hid hc5; have HK5 := Lib.hid (HK4.out.trans hk5); clear hc5 hk5)
          | (go_at_call 11; refine (equal_any bm b5 (col rows 0) (col rows i) _ (counts_keep HCN.out HK5.out) HC5.out (by rw [HCL.out, HCL.out])).mono ?_; rintro e w6 ⟨rfl, hk6⟩; have HK6 := Lib.hid (HK5.out.trans hk6); clear hk6; rw [HDD.out]))
        go_ret2
        exact ⟨by rw [HP.out]; rfl, HKR.out.trans HK6.out⟩
    · obtain rfl : i = m := by omega
      have HP := Lib.hid (show decide (PerfP rows) = true from decide_eq_true fun j hj => HALL.out j (by rw [HM.out]; exact hj))
      go_wp2_with fail
      go_ret2
      exact ⟨by rw [HP.out]; rfl, HKR.out⟩
end Go.Proofs.Ytfkdigopkdfcjaa
