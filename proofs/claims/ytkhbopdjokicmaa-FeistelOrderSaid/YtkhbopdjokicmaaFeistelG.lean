/-
  Feistel: the other Seal.
-/
import Derived.Test.YtkhbopdjokicmaaFeistelF
namespace Go.Proofs.Ytkhbopdjokicmaa
open Go.RowKit
set_option maxHeartbeats 1000000 in
theorem refseal_any (A : Option Addr) (n c : Nat) (rows : List (List Int)) (x : Nat) (w : World) (h : Grid w w.heap.size A n rows) (hg : Good rows) (hn : n ≤ 64) (hx : x < 256) :
    Calls Try.prog 7 #[.slice A n c, .int .i64 x] w fun e w' => e = .returned (.int .i64 (sealN rows x)) ∧ w = w' := by
  have hl := h.1
  have H := Lib.hid h; have HG := Lib.hid hg; clear h hg
  go_enter Try.func7, Try.ntmps7
  go_wp2_with fail
  go_loop [1, 9] (fun xv t => ∃ i : Nat, i ≤ n ∧ t = .int .i64 i ∧ xv = .int .i64 (((hal rows x i).1 * 16 + (hal rows x i).2 : Nat) : Int)) (fun _ t => n - (intOf t).toNat)
  case atStart => exact ⟨0, Nat.zero_le _, rfl, by simp [hal]; omega⟩
  case round =>
    obtain ⟨i, hi, rfl, rfl⟩ := hrel
    obtain ⟨h1, h2⟩ := hal_lt HG.out hx i
    by_cases hlt : i < n
    · have hst := hal_succ (rows := rows) (i := i) (by omega) x
      have hgr : rows.getD i [] ∈ rows := by rw [List.getD_eq_getElem?_getD, List.getElem?_eq_getElem (by omega)]; exact List.getElem_mem (by omega)
      have hgood := HG.out _ hgr
      obtain ⟨b, off, Ar, cr, rfl, hb, hc, hrow⟩ := H.out.at_ (Below.refl _ _) hlt
      generalize rows.getD i [] = r at *
      rw [hgood.1] at hc hrow
      generalize hal rows x i = p at *
      obtain ⟨l, q⟩ := p
      simp only [] at h1 h2
      obtain ⟨rb, ro, rfl, hrb, hrc⟩ := hrow.at_ (Below.refl _ _) h2
      have hm : r.getD q 0 ∈ r := by rw [List.getD_eq_getElem?_getD, List.getElem?_eq_getElem (by omega)]; exact List.getElem_mem _
      obtain ⟨y, hy⟩ := Int.eq_ofNat_of_zero_le (hgood.2 _ hm).1
      have hy16 : y < 16 := by have := (hgood.2 _ hm).2; omega
      rw [hy] at hrc
      have hst2 : rstep (l, q) r = (q, l ^^^ y) := by unfold rstep; simp only [hy, Int.toNat_natCast]
      rw [hst2] at hst
      have hx16 : l ^^^ y < 16 := Nat.xor_lt_two_pow (n := 4) h1 hy16
      obtain ⟨z, hz⟩ : ∃ z, z = l * 16 + q := ⟨_, rfl⟩
      have q1 : (z : Int).tmod 16 = (q : Int) := by rw [hz]; show (((l * 16 + q) % 16 : Nat) : Int) = _; omega
      have q2 : (z : Int).tdiv 16 = (l : Int) := by rw [hz]; show (((l * 16 + q) / 16 : Nat) : Int) = _; omega
      have hz256 : z < 256 := by omega
      rw [← hz]
      have HST := Lib.hid hst; clear hst hst2 hgood hgr hm hy hrow hz
      go_wp2_with (go_at_call 11; refine (xor_any l y h1 hy16 _).mono ?_; rintro e w' ⟨rfl, rfl⟩)
      refine ⟨⟨i + 1, by omega, rfl, ?_⟩, by simp [intOf]; omega⟩
      rw [HST.out]
      simp
    · obtain rfl : i = n := by omega
      have hs : sealN rows x = (hal rows x i).1 * 16 + (hal rows x i).2 := by unfold sealN halves hal; rw [List.take_of_length_le (by omega)]
      have HS := Lib.hid hs; clear hs
      go_wp2_with fail
      go_ret
      rw [HS.out]
      exact ⟨rfl, rfl⟩
end Go.Proofs.Ytkhbopdjokicmaa
