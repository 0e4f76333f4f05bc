/-
  Pad: the law PadShannon, walked.
-/
import Derived.Test.YtfkdigopkdfcjaaPadF
namespace Go.Proofs.Ytfkdigopkdfcjaa
open Go.RowKit
theorem shannon {rows : List (List Int)} {n m : Nat} (h : GoodC rows n m) (hp : PerfP rows) (hq : PlainP rows) (hm : m = (rows.getD 0 []).length) : m ≤ n := by
  have hmem := getD_mem (rows := rows) (i := 0) (by rw [h.len]; exact h.n1)
  have hsub : rows.getD 0 [] ⊆ col rows 0 := by
    intro x hx
    obtain ⟨j, hj, rfl⟩ := List.getElem_of_mem hx
    refine (hp j hj).mem_iff.2 (List.mem_map.2 ⟨_, hmem, ?_⟩)
    rw [List.getD_eq_getElem?_getD, List.getElem?_eq_getElem hj]; rfl
  have := List.Nodup.length_le_of_subset (hq _ hmem) hsub
  unfold col at this
  rw [List.length_map, h.len] at this
  omega
theorem grid_one (w : World) (x : Int) : Grid ((w.alloc (.cells #[.int .i64 x] 3)).alloc (.cells #[.slice (some ⟨w.heap.size, 0, none⟩) 1 1] 27)) ((w.alloc (.cells #[.int .i64 x] 3)).alloc (.cells #[.slice (some ⟨w.heap.size, 0, none⟩) 1 1] 27)).heap.size (some ⟨w.heap.size + 1, 0, none⟩) 1 [[x]] := by
  have h1 := heap_alloc_new w (.cells #[.int .i64 x] 3)
  have h1' := (Below.heap_alloc (w.alloc (.cells #[.int .i64 x] 3)) (.cells #[.slice (some ⟨w.heap.size, 0, none⟩) 1 1] 27) w.heap.size (by simp)).trans h1
  have h2 := heap_alloc_new (w.alloc (.cells #[.int .i64 x] 3)) (.cells #[.slice (some ⟨w.heap.size, 0, none⟩) 1 1] 27)
  rw [World.size_alloc] at h2
  refine ⟨rfl, fun _ => ⟨_, _, rfl, by simp, fun i r hr => ?_⟩⟩
  match i, hr with
  | 0, hr =>
    obtain rfl : r = [x] := by simpa using hr.symm
    refine ⟨some ⟨w.heap.size, 0, none⟩, 1, ?_, rfl, fun _ => ⟨_, _, rfl, by simp; omega, fun j y hj => ?_⟩⟩
    · rw [cell_of_row _ _ _ _ _ _ h2]; rfl
    · match j, hj with
      | 0, hj =>
        obtain rfl : y = x := by simpa using hj.symm
        rw [cell_of_row _ _ _ _ _ _ h1']; rfl
theorem grid_first {w : World} {b off n m : Nat} {rows : List (List Int)} (h : Grid w w.heap.size (some ⟨b, off, none⟩) n rows) (hn : 0 < n) (hm : m = (rows.getD 0 []).length) : ∃ Ar cr, w.cell? ⟨b, off, none⟩ = some (.slice Ar m cr) := by
  obtain ⟨b', off', Ar, cr, hA, _, hc, _⟩ := h.at_ (Below.refl _ _) hn
  obtain ⟨rfl, rfl⟩ : b = b' ∧ off = off' := by simpa using hA
  exact ⟨Ar, cr, by rw [hm]; exact hc⟩
def TrueKeep (w : World) (e : Ending) (w' : World) : Prop := e = .returned (.bool true) ∧ Below w.heap.size w w'
set_option maxRecDepth 100000 in
set_option maxHeartbeats 4000000 in
theorem shannon_any (A : Option Addr) (n c : Nat) (rows : List (List Int)) (w : World) (h : Grid w w.heap.size A n rows) :
    Calls Try.prog 3 #[.slice A n c] w (TrueKeep w) := by
  have H := Lib.hid h
  by_cases h0 : cipherE rows = 0
  case neg =>
    have hb := h0
    generalize he : cipherE rows = e0 at *
    have b1 : (e0 != 0) = true := by simpa using h0
    have HE := Lib.hid he; have HB := Lib.hid hb; clear he h0 h hb
    go_enter Try.func3, Try.ntmps3
    go_wp2_with (first
      | (go_at_call 5; refine (perfect_bad _ _ _ rows _ H.out (by rw [HE.out]; exact HB.out)).mono ?_; rintro e w1 ⟨rfl, hk⟩; have HK := Lib.hid hk; clear hk; rw [HE.out])
      | (go_at_call 6; refine (plain_bad _ _ _ rows _ (grid_keep H.out HK.out) (by rw [HE.out]; exact HB.out)).mono ?_; rintro e w2 ⟨rfl, hk⟩; have HK2 := Lib.hid (HK.out.trans hk); clear hk; rw [HE.out])
      | (go_at_call 7; refine (cipher_any _ _ _ rows _ (grid_keep H.out HK2.out)).mono ?_; rintro e w3 ⟨rfl, rfl⟩; rw [HE.out]))
    go_ret
    exact ⟨rfl, HK2.out.toBelow⟩
  case pos =>
    have hg := goodC_of h0
    have hl := h.1
    rw [hl] at hg
    obtain ⟨m, hm⟩ : ∃ m, m = (rows.getD 0 []).length := ⟨_, rfl⟩
    rw [← hm] at hg
    have hn1 := hg.n1
    have i0 : (0 : Int) < (n : Int) := by omega
    have hs := fun hp hq => shannon hg hp hq hm
    have c0 : cipherE [[0]] = 0 := by decide
    have c1 : decide (PerfP [[0]]) = true := by decide
    obtain ⟨b, off, rfl⟩ : ∃ b off, A = some ⟨b, off, none⟩ := by
      obtain ⟨b, off, _, _, hA, _⟩ := h.at_ (Below.refl _ _) hn1
      exact ⟨b, off, hA⟩
    have H0 := Lib.hid h0; have HM := Lib.hid hm; have HS := Lib.hid hs; have C0 := Lib.hid c0; have C1 := Lib.hid c1; clear h h0 hg hl hm hs c0 c1
    obtain ⟨p, hp⟩ : ∃ p, p = decide (PerfP rows) := ⟨_, rfl⟩
    obtain ⟨q, hq⟩ : ∃ q, q = decide (PlainP rows) := ⟨_, rfl⟩
    have HP := Lib.hid hp; have HQ := Lib.hid hq; clear hp hq
    go_enter Try.func3, Try.ntmps3
    go_wp2_with (first
      | (go_at_call 5; ((with_reducible refine (perfect_ok _ _ _ rows _ H.out H0.out).mono ?_); rintro e w1 ⟨rfl, hk⟩; have HK := Lib.hid hk; clear hk; rw [← HP.out]))
      | (go_at_call 6; ((with_reducible refine (plain_ok _ _ _ rows _ (grid_keep H.out HK.out) H0.out).mono ?_); rintro e w2 ⟨rfl, hk⟩; have HK2 := Lib.hid (HK.out.trans hk); clear hk; rw [← HQ.out]))
      | (go_at_call 7; ((with_reducible refine (cipher_any _ _ _ rows _ (grid_keep H.out HK2.out)).mono ?_); rintro e w3 ⟨rfl, rfl⟩; rw [H0.out])))
    cases p with
    | false =>
      go_wp2_with (go_at_call 5; refine (perfect_ok _ _ _ [[0]] _ (grid_one w2 0) C0.out).mono ?_; rintro e w4 ⟨rfl, hk⟩; have HK4 := Lib.hid (((HK2.out.alloc _).alloc _).trans hk); clear hk; rw [C1.out])
      go_ret
      exact ⟨rfl, HK4.out.toBelow⟩
    | true =>
      cases q with
      | false =>
        go_wp2_with (go_at_call 5; refine (perfect_ok _ _ _ [[0]] _ (grid_one w2 0) C0.out).mono ?_; rintro e w4 ⟨rfl, hk⟩; have HK4 := Lib.hid (((HK2.out.alloc _).alloc _).trans hk); clear hk; rw [C1.out])
        go_ret
        exact ⟨rfl, HK4.out.toBelow⟩
      | true =>
        have hmn : m ≤ n := HS.out (of_decide_eq_true HP.out.symm) (of_decide_eq_true HQ.out.symm)
        have b1 : decide (m ≤ n) = true := decide_eq_true hmn
        go_wp2_with (go_at_call 5; refine (perfect_ok _ _ _ [[0]] _ (grid_one w2 0) C0.out).mono ?_; rintro e w4 ⟨rfl, hk⟩; have HK4 := Lib.hid (((HK2.out.alloc _).alloc _).trans hk); clear hk; rw [C1.out]; obtain ⟨Ar, cr, hc⟩ := grid_first (grid_keep H.out HK4.out) hn1 HM.out)
        go_ret
        exact ⟨rfl, HK4.out.toBelow⟩
end Go.Proofs.Ytfkdigopkdfcjaa
