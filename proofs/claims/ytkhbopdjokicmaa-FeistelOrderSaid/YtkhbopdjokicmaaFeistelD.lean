/-
  Feistel: seal.
-/
import Derived.Test.YtkhbopdjokicmaaFeistelC
import Derived.Deep.QuietTactic
namespace Go.Proofs.Ytkhbopdjokicmaa
open Go.RowKit
def rstep (p : Nat × Nat) (r : List Int) : Nat × Nat := (p.2, p.1 ^^^ (r.getD p.2 0).toNat)
def halves (rows : List (List Int)) (x : Nat) : Nat × Nat := rows.foldl rstep (x / 16, x % 16)
def sealN (rows : List (List Int)) (x : Nat) : Nat := (halves rows x).1 * 16 + (halves rows x).2
/-- rounds that may be -/
def Good (rows : List (List Int)) : Prop := ∀ r ∈ rows, r.length = 16 ∧ ∀ y ∈ r, 0 ≤ y ∧ y < 16
theorem good_of {rows : List (List Int)} {x : Int} (h : roundsE rows x = 0) : rows.length ≤ 64 ∧ Good rows ∧ 0 ≤ x ∧ x < 256 := by
  unfold roundsE at h
  split at h
  · cases h
  · split at h
    · cases h
    · split at h
      · cases h
      · split at h
        · rename_i h1 h2 h3 h4
          refine ⟨by omega, fun r hr => ⟨?_, fun y hy => ?_⟩, h4⟩
          · apply Classical.byContradiction; intro hne; exact h2 ⟨r, hr, hne⟩
          · have : ¬ (y < 0 ∨ 16 ≤ y) := fun ho => h3 ⟨r, hr, y, hy, ho⟩
            omega
        · cases h
theorem rstep_lt {p : Nat × Nat} {r : List Int} (hp : p.1 < 16 ∧ p.2 < 16) (hr : r.length = 16 ∧ ∀ y ∈ r, 0 ≤ y ∧ y < 16) : (rstep p r).1 < 16 ∧ (rstep p r).2 < 16 := by
  have hm : r.getD p.2 0 ∈ r := by rw [List.getD_eq_getElem?_getD, List.getElem?_eq_getElem (by omega)]; exact List.getElem_mem _
  have := hr.2 _ hm
  refine ⟨hp.2, ?_⟩
  show p.1 ^^^ (r.getD p.2 0).toNat < 2 ^ 4
  exact Nat.xor_lt_two_pow (by omega) (by omega)
theorem fold_lt (rows : List (List Int)) (hg : Good rows) : ∀ p : Nat × Nat, p.1 < 16 ∧ p.2 < 16 → (rows.foldl rstep p).1 < 16 ∧ (rows.foldl rstep p).2 < 16 := by
  induction rows with
  | nil => intro p hp; exact hp
  | cons r rows ih => intro p hp; exact ih (fun r hr => hg r (List.mem_cons_of_mem _ hr)) _ (rstep_lt hp (hg r (List.mem_cons_self ..)))
theorem sealN_lt (rows : List (List Int)) (hg : Good rows) (x : Nat) (hx : x < 256) : sealN rows x < 256 := by
  have := fold_lt rows hg (x / 16, x % 16) ⟨by simp only []; omega, by simp only []; omega⟩
  unfold sealN halves
  omega
theorem bits_xor64 (a b : Nat) (ha : a < 2 ^ 62) (hb : b < 2 ^ 62) : bits .xor .i64 a b = ((a ^^^ b : Nat) : Int) := by
  have hx : a ^^^ b < 2 ^ 62 := Nat.xor_lt_two_pow ha hb
  simp only [bits, BitVec.ofInt_natCast, BitVec.toNat_xor, BitVec.toNat_ofNat]
  have e : 2 ^ IntKind.i64.bits = 4 * 2 ^ 62 := rfl
  rw [e, Nat.mod_eq_of_lt (by omega), Nat.mod_eq_of_lt (by omega), IntKind.wrap_i64]
  have : (2 : Nat) ^ 62 = 4611686018427387904 := rfl
  omega
/-- where the halves stand behind so many rounds -/
def hal (rows : List (List Int)) (x i : Nat) : Nat × Nat := (rows.take i).foldl rstep (x / 16, x % 16)
theorem hal_lt {rows : List (List Int)} (hg : Good rows) {x : Nat} (hx : x < 256) (i : Nat) : (hal rows x i).1 < 16 ∧ (hal rows x i).2 < 16 :=
  fold_lt _ (fun r hr => hg r (List.mem_of_mem_take hr)) _ ⟨by simp only []; omega, by simp only []; omega⟩
theorem hal_succ {rows : List (List Int)} {i : Nat} (hi : i < rows.length) (x : Nat) : hal rows x (i + 1) = rstep (hal rows x i) (rows.getD i []) := by
  unfold hal
  rw [List.take_succ_eq_append_getElem hi, List.foldl_append, List.getD_eq_getElem?_getD, List.getElem?_eq_getElem hi]
  rfl
set_option maxHeartbeats 1000000 in
theorem seal_any (A : Option Addr) (n c : Nat) (rows : List (List Int)) (x : Nat) (w : World) (h : Grid w w.heap.size A n rows) (hg : Good rows) (hn : n ≤ 64) (hx : x < 256) :
    Calls Try.prog 9 #[.slice A n c, .int .i64 x] w fun e w' => e = .returned (.int .i64 (sealN rows x)) ∧ Keep (fun _ => False) w w' := by
  have hl := h.1
  have H := Lib.hid h; have HG := Lib.hid hg; clear h hg
  have hq : (x : Int).tdiv 16 = ((x / 16 : Nat) : Int) := rfl
  have hr : (x : Int).tmod 16 = ((x % 16 : Nat) : Int) := rfl
  go_enter Try.func9, Try.ntmps9
  go_wp2_with fail
  clear hq hr
  go_loopw [5, 6, 15] (fun lv rv t wr => ∃ i : Nat, i ≤ n ∧ t = .int .i64 i ∧ lv = .int .i64 ((hal rows x i).1 : Nat) ∧ rv = .int .i64 ((hal rows x i).2 : Nat) ∧ Keep (fun _ => False) w wr) (fun _ _ t _ => n - (intOf t).toNat)
  case atStart => exact ⟨0, Nat.zero_le _, rfl, rfl, rfl, Keep.refl _ _⟩
  case round =>
    obtain ⟨i, hi, rfl, rfl, rfl, hk⟩ := hrel
    have HK := Lib.hid hk; clear hk
    obtain ⟨h1, h2⟩ := hal_lt HG.out hx i
    by_cases hlt : i < n
    · have hst := hal_succ (rows := rows) (i := i) (by omega) x
      have hgr : rows.getD i [] ∈ rows := by rw [List.getD_eq_getElem?_getD, List.getElem?_eq_getElem (by omega)]; exact List.getElem_mem (by omega)
      have hgood := HG.out _ hgr
      obtain ⟨b, off, Ar, cr, rfl, hb, hc, hrow⟩ := H.out.at_ (HK.out.below (Nat.le_refl _) (fun _ h => h.elim)) hlt
      generalize rows.getD i [] = r at *
      rw [hgood.1] at hc hrow
      generalize hal rows x i = p at *
      obtain ⟨l, q⟩ := p
      simp only [] at h1 h2
      obtain ⟨rb, ro, rfl, hrb, hrc⟩ := hrow.at_ (Below.refl _ _) h2
      have hm : r.getD q 0 ∈ r := by rw [List.getD_eq_getElem?_getD, List.getElem?_eq_getElem (by omega)]; exact List.getElem_mem _
      obtain ⟨y, hy⟩ := Int.eq_ofNat_of_zero_le (hgood.2 _ hm).1
      have hy16 : y < 16 := by have := (hgood.2 _ hm).2; omega
      rw [hy] at hrc
      have hxor := bits_xor64 l y (Nat.lt_trans h1 (by decide)) (Nat.lt_trans hy16 (by decide))
      have hst2 : rstep (l, q) r = (q, l ^^^ y) := by unfold rstep; simp only [hy, Int.toNat_natCast]
      rw [hst2] at hst
      have HST := Lib.hid hst; clear hst hst2 hgood hgr hm hy hrow
      go_wp2_with fail
      go_quiet (fail)
      go_wp2_with fail
      refine ⟨⟨i + 1, by omega, rfl, ?_, ?_, HK.out.trans ⟨rfl, rfl, rfl, Nat.le_refl _, fun _ _ _ => rfl⟩⟩, by simp [intOf]; omega⟩
      · rw [HST.out]
      · rw [HST.out]
    · obtain rfl : i = n := by omega
      have hs : sealN rows x = (hal rows x i).1 * 16 + (hal rows x i).2 := by unfold sealN halves hal; rw [List.take_of_length_le (by omega)]
      have HS := Lib.hid hs; clear hs
      generalize hal rows x i = p at *
      obtain ⟨l, q⟩ := p
      simp only [] at h1 h2
      go_wp2_with fail
      go_ret
      refine ⟨?_, HK.out⟩
      rw [HS.out]
      simp
end Go.Proofs.Ytkhbopdjokicmaa
