/-
  Pad: what is wrong with a cipher: the other check answers the same code.
-/
import Derived.Test.YtfkdigopkdfcjaaPadD
namespace Go.Proofs.Ytfkdigopkdfcjaa
open Go.RowKit
set_option maxRecDepth 100000 in
set_option maxHeartbeats 4000000 in
theorem cipher_any (A : Option Addr) (n c : Nat) (rows : List (List Int)) (w : World) (h : Grid w w.heap.size A n rows) :
    Calls Try.prog 7 #[.slice A n c] w fun e w' => e = .returned (.int .i64 (cipherE rows)) ∧ w = w' := by
  have hl := h.1
  have H := Lib.hid h; clear h
  by_cases h16 : 16 < n
  · have hE : cipherE rows = 1 := by unfold cipherE; rw [if_pos (.inl (by omega))]
    have HE := Lib.hid hE
    have e1 : decide ((16 : Int) < (n : Int)) = true := by simp; omega
    clear hE h16 hl
    go_enter Try.func7, Try.ntmps7
    go_wp2_with fail
    go_ret
    exact ⟨by rw [HE.out]; rfl, rfl⟩
  have e1 : decide ((16 : Int) < (n : Int)) = false := by simp; omega
  have hn : n ≤ 16 := by omega
  have h16' : ¬ 16 < rows.length := by omega
  have HL := Lib.hid hl; have H16 := Lib.hid h16'
  clear h16 hl h16'
  go_enter Try.func7, Try.ntmps7
  go_wp2_with fail
  clear e1
  go_loop [16] (fun t => ∃ i : Nat, i ≤ n ∧ t = .int .i64 i ∧ ∀ j < i, ¬ 16 < (rows.getD j []).length) (fun t => n - (intOf t).toNat)
  case atStart => exact ⟨0, Nat.zero_le _, rfl, fun _ h => absurd h (Nat.not_lt_zero _)⟩
  case round =>
    obtain ⟨i, hi, rfl, hall⟩ := hrel
    have HALL := Lib.hid hall; clear hall
    by_cases hlt : i < n
    · obtain ⟨b, off, Ar, cr, rfl, hb, hc, hr⟩ := H.out.at_ (Below.refl _ _) hlt
      have hmem := getD_mem (rows := rows) (i := i) (by have := HL.out; omega)
      obtain ⟨r, her⟩ : ∃ r, r = rows.getD i [] := ⟨_, rfl⟩
      rw [← her] at hc hmem
      have HER := Lib.hid her; have HMEM := Lib.hid hmem; clear her hmem hr
      by_cases hr16 : 16 < r.length
      · have b1 : decide ((16 : Int) < (r.length : Int)) = true := by simp; omega
        have HE := Lib.hid (show cipherE rows = 1 by unfold cipherE; rw [if_pos (.inr ⟨r, HMEM.out, hr16⟩)])
        clear hr16
        go_wp2_with fail
        go_ret
        exact ⟨by rw [HE.out]; rfl, rfl⟩
      · have b1 : decide ((16 : Int) < (r.length : Int)) = false := by simp; omega
        have HN := Lib.hid hr16; clear hr16
        go_wp2_with fail
        refine ⟨⟨i + 1, by omega, rfl, fun j hj => ?_⟩, by simp [intOf]; omega⟩
        by_cases hji : j < i
        · exact HALL.out j hji
        · obtain rfl : j = i := by omega
          rw [← HER.out]; exact HN.out
    · obtain rfl : i = n := by omega
      clear hlt hi
      have hL : ¬ Long16 rows := all_getD fun j hj => HALL.out j (by have := HL.out; omega)
      by_cases hn0 : i = 0
      · subst hn0
        have HE := Lib.hid (show cipherE rows = 5 by unfold cipherE; rw [if_neg (by rintro (h | h); exact H16.out h; exact hL h), if_pos (.inl HL.out)])
        clear hL
        go_wp2_with fail
        go_ret
        exact ⟨by rw [HE.out]; rfl, rfl⟩
      have hn1 : 0 < i := by omega
      have b0 : ((i : Int) == 0) = false := by simp; omega
      have i0 : (0 : Int) < (i : Int) := by omega
      clear hn0
      obtain ⟨b, off, Ar, cr, hA, hb, hc, hrow⟩ := H.out.at_ (Below.refl _ _) hn1
      subst hA
      have hoff : off + 0 = off := rfl
      rw [hoff] at hc
      obtain ⟨m, hm⟩ : ∃ m, m = (rows.getD 0 []).length := ⟨_, rfl⟩
      rw [← hm] at hc
      clear hrow hoff
      by_cases hm0 : m = 0
      · have HE := Lib.hid (show cipherE rows = 5 by unfold cipherE; rw [if_neg (by rintro (h | h); exact H16.out h; exact hL h), if_pos (.inr (by omega))])
        subst hm0
        have HM := Lib.hid hm; clear hL hm
        go_wp2_with fail
        go_ret
        exact ⟨by rw [HE.out]; rfl, rfl⟩
      have b1 : ((m : Int) == 0) = false := by simp; omega
      have hne5 : ¬ (rows.length = 0 ∨ (rows.getD 0 []).length = 0) := by have := HL.out; omega
      have HM := Lib.hid hm; have HL16 := Lib.hid hL; have H5 := Lib.hid hne5; clear hm0 hm hL hne5
      go_wp2_with fail
      go_loop [36] (fun t => ∃ k : Nat, k ≤ i ∧ t = .int .i64 k ∧ ∀ j < k, ¬ (rows.getD j []).length ≠ m) (fun t => i - (intOf t).toNat)
      case atStart => exact ⟨0, Nat.zero_le _, rfl, fun _ h => absurd h (Nat.not_lt_zero _)⟩
      case round =>
        obtain ⟨k, hk, rfl, hall⟩ := hrel
        have HSAME := Lib.hid hall; clear hall
        by_cases hlt : k < i
        · obtain ⟨b', off', Ar', cr', hA', hb', hc', hr⟩ := H.out.at_ (Below.refl _ _) hlt
          obtain ⟨rfl, rfl⟩ : b = b' ∧ off = off' := by simpa using hA'
          clear hA' hr
          have hmem := getD_mem (rows := rows) (i := k) (by have := HL.out; omega)
          obtain ⟨r, her⟩ : ∃ r, r = rows.getD k [] := ⟨_, rfl⟩
          rw [← her] at hc' hmem
          have HER := Lib.hid her; have HMEM := Lib.hid hmem; clear her hmem
          by_cases hrm : r.length ≠ m
          · have c1 : ((r.length : Int) != (m : Int)) = true := by simp; omega
            have HE := Lib.hid (show cipherE rows = 4 by unfold cipherE; rw [if_neg (by rintro (h | h); exact H16.out h; exact HL16.out h), if_neg H5.out, if_pos ⟨r, HMEM.out, by rw [← HM.out]; exact hrm⟩])
            clear hrm
            go_wp2_with fail
            go_ret
            exact ⟨by rw [HE.out]; rfl, rfl⟩
          · have c1 : ((r.length : Int) != (m : Int)) = false := by simp; omega
            have HN := Lib.hid hrm; clear hrm
            go_wp2_with fail
            refine ⟨⟨k + 1, by omega, rfl, fun j hj => ?_⟩, by simp [intOf]; omega⟩
            by_cases hji : j < k
            · exact HSAME.out j hji
            · obtain rfl : j = k := by omega
              rw [← HER.out]; exact HN.out
        · obtain rfl : k = i := by omega
          clear hlt hk
          have hO : ¬ Odd16 rows := all_getD fun j hj => by rw [← HM.out]; exact HSAME.out j (by have := HL.out; omega)
          have hm16 : m ≤ 16 := by
            have := HALL.out 0 hn1
            rw [← HM.out] at this; omega
          have HE := Lib.hid (show cipherE rows = if OutRows rows then 2 else 0 by unfold cipherE; rw [if_neg (by rintro (h | h); exact H16.out h; exact HL16.out h), if_neg H5.out, if_neg hO])
          clear hO
          go_wp2_with fail
          go_loop [50] (fun t => ∃ q : Nat, q ≤ k ∧ t = .int .i64 q ∧ ∀ j < q, ¬ OutC (rows.getD j [])) (fun t => k - (intOf t).toNat)
          case atStart => exact ⟨0, Nat.zero_le _, rfl, fun _ h => absurd h (Nat.not_lt_zero _)⟩
          case round =>
            obtain ⟨q, hq, rfl, hall⟩ := hrel
            have HNO := Lib.hid hall; clear hall
            by_cases hlt : q < k
            · obtain ⟨b', off', Ar', cr', hA', hb', hc', hr⟩ := H.out.at_ (Below.refl _ _) hlt
              obtain ⟨rfl, rfl⟩ : b = b' ∧ off = off' := by simpa using hA'
              clear hA'
              have hmem := getD_mem (rows := rows) (i := q) (by have := HL.out; omega)
              have hln : (rows.getD q []).length = m := Decidable.not_not.1 (HSAME.out q hlt)
              obtain ⟨r, her⟩ : ∃ r, r = rows.getD q [] := ⟨_, rfl⟩
              rw [← her] at hc' hmem hr hln
              rw [hln] at hc' hr
              have HER := Lib.hid her; have HMEM := Lib.hid hmem; have HR := Lib.hid hr; have HLN := Lib.hid hln; clear her hmem hr hln
              go_wp2_with fail
              go_loop [56] (fun t => ∃ d : Nat, d ≤ m ∧ t = .int .i64 d ∧ ∀ j < d, 0 ≤ r.getD j 0 ∧ r.getD j 0 < 4096) (fun t => m - (intOf t).toNat)
              case atStart => exact ⟨0, Nat.zero_le _, rfl, fun _ h => absurd h (Nat.not_lt_zero _)⟩
              case round =>
                obtain ⟨d, hd, rfl, hok⟩ := hrel
                have HOK := Lib.hid hok; clear hok
                by_cases hdm : d < m
                · obtain ⟨rb, ro, rfl, hrb, hrc⟩ := HR.out.at_ (Below.refl _ _) hdm
                  have hym : r.getD d 0 ∈ r := by rw [List.getD_eq_getElem?_getD, List.getElem?_eq_getElem (by have := HLN.out; omega)]; exact List.getElem_mem _
                  obtain ⟨y, hy⟩ : ∃ y, y = r.getD d 0 := ⟨_, rfl⟩
                  rw [← hy] at hrc hym
                  have HY := Lib.hid hy; have HYM := Lib.hid hym; clear hy hym
                  by_cases hy0 : y < 0
                  · have b1 : decide (y < 0) = true := by simpa using hy0
                    have HO := Lib.hid (show OutRows rows from ⟨r, HMEM.out, y, HYM.out, .inl hy0⟩)
                    go_wp2_with fail
                    go_ret
                    exact ⟨by rw [HE.out, if_pos HO.out]; rfl, rfl⟩
                  · have b1 : decide (y < 0) = false := by simpa using hy0
                    by_cases hy1 : 4096 ≤ y
                    · have b2 : decide (4096 ≤ y) = true := by simpa using hy1
                      have HO := Lib.hid (show OutRows rows from ⟨r, HMEM.out, y, HYM.out, .inr hy1⟩)
                      go_wp2_with fail
                      go_ret
                      exact ⟨by rw [HE.out, if_pos HO.out]; rfl, rfl⟩
                    · have b2 : decide (4096 ≤ y) = false := by simpa using hy1
                      go_wp2_with fail
                      refine ⟨⟨d + 1, by omega, rfl, fun j hj => ?_⟩, by simp [intOf]; omega⟩
                      by_cases hjk : j < d
                      · exact HOK.out j hjk
                      · obtain rfl : j = d := by omega
                        rw [← HY.out]; omega
                · obtain rfl : d = m := by omega
                  go_wp2_with fail
                  refine ⟨⟨q + 1, by omega, rfl, fun j hj => ?_⟩, by simp [intOf]; omega⟩
                  by_cases hji : j < q
                  · exact HNO.out j hji
                  · obtain rfl : j = q := by omega
                    rw [← HER.out]
                    rintro ⟨y, hy, ho⟩
                    obtain ⟨z, hz, rfl⟩ := List.getElem_of_mem hy
                    have := HOK.out z (by have := HLN.out; omega)
                    rw [List.getD_eq_getElem?_getD, List.getElem?_eq_getElem hz] at this
                    simp only [Option.getD_some] at this
                    omega
            · obtain rfl : q = k := by omega
              have HO := Lib.hid (show ¬ OutRows rows from all_getD fun j hj => HNO.out j (by have := HL.out; omega))
              go_wp2_with fail
              go_ret
              exact ⟨by rw [HE.out, if_neg HO.out]; rfl, rfl⟩
end Go.Proofs.Ytfkdigopkdfcjaa
