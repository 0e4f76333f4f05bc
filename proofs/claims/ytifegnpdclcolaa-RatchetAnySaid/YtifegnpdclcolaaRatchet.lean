/-
  The walks of package ratchet's keys: what a key becomes.
-/
import Derived.Test.YtifegnpdclcolaaHash
namespace Go.Proofs.Ytifegnpdclcolaa
open Go.RowKit
theorem out_any (n : Int) (w : World) : Calls Try.prog 6 #[.int .i64 n] w fun e w' => e = .returned (.bool (!decide (0 ≤ n ∧ n < 65536))) ∧ w = w' := by
  have e : (!decide (0 ≤ n ∧ n < 65536)) = (decide (n < 0) || decide (65536 ≤ n)) := by
    rw [Bool.eq_iff_iff]; simp
  rw [e]
  have HE := Lib.hid e; clear e
  go_enter Try.func6, Try.ntmps6
  go_wp2
  all_goals
    go_ret
    exact ⟨by simp, rfl⟩
def partI (k b : Int) : Int := hashOf [k % 256, k / 256 % 256, b]
theorem partI_bd (k b : Int) : 0 ≤ partI k b ∧ partI k b < 65536 := hashOf_bd _
set_option maxHeartbeats 1000000 in
theorem part_any (k b : Int) (w : World) (hb0 : 0 ≤ b) (hb1 : b < 256) :
    Calls Try.prog 9 #[.int .i64 k, .int .u8 b] w fun e w' => e = .returned (.int .i64 (partI k b)) ∧ Below w.heap.size w w' := by
  have hbd := partI_bd k b
  have b0 := hbd.1
  have b1 := hbd.2
  clear hbd
  have HO : Hid (∀ W : World, (∀ j u, (vals .u8 [k % 256, k / 256 % 256, b])[j]? = some u → W.cell? ((⟨w.heap.size, 0, none⟩ : Addr).add j) = some u) → w.heap.size < W.heap.size → Calls Try.prog 10 #[.slice (some ⟨w.heap.size, 0, none⟩) 3 3] W fun e w' => e = .returned (.int .u32 (partI k b)) ∧ Below W.heap.size W w') :=
    Lib.hid fun W hc hW => of_any (some ⟨w.heap.size, 0, none⟩) 3 [k % 256, k / 256 % 256, b] W ⟨rfl, fun _ => ⟨_, rfl, hW, hc⟩⟩ (show 3 ≤ 140737488350000 by decide) (by
      intro x hx
      simp at hx
      rcases hx with rfl | rfl | rfl
      · exact ⟨Int.emod_nonneg _ (by decide), Int.emod_lt_of_pos _ (by decide)⟩
      · exact ⟨Int.emod_nonneg _ (by decide), Int.emod_lt_of_pos _ (by decide)⟩
      · exact ⟨hb0, hb1⟩)
  go_enter Try.func9, Try.ntmps9
  go_wp2_with fail
  refine (HO.out _ ?hc (by simp)).mono ?_
  case hc =>
    intro j u hu
    match j, hu with
    | 0, hu => simp at hu; subst hu; simp [Addr.add]
    | 1, hu => simp at hu; subst hu; simp [Addr.add]
    | 2, hu => simp at hu; subst hu; simp [Addr.add]
  rintro e w1 ⟨rfl, hb⟩
  go_wp2
  go_ret
  exact ⟨rfl, ((Below.refl w.heap.size w).alloc (Nat.le_refl _) _).trans (hb.mono (by simp))⟩
set_option maxHeartbeats 1000000 in
theorem turn_any (b off : Nat) (k : Int) (w : World) (hc : w.cell? ⟨b, off, none⟩ = some (.int .i64 k)) (hf : w.frozen? ⟨b, off, none⟩ = false) :
    Calls Try.prog 7 #[.pointer (some ⟨b, off, none⟩)] w fun e w' => e = .returned (.int .i64 (partI k 1)) ∧ ∃ w2, Below w.heap.size w w2 ∧ w' = w2.setCell ⟨b, off, none⟩ (.int .i64 (partI k 2)) := by
  have hlt : b < w.heap.size := World.block_lt_of_cell? w _ hc
  go_enter Try.func7, Try.ntmps7
  go_wp2_with fail
  refine (part_any k 1 _ (by decide) (by decide)).mono ?_
  rintro e w1 ⟨rfl, hb1⟩
  have hc1 := (hb1.cell (p := ⟨b, off, none⟩) hlt).trans hc
  have hf1 := (hb1.frozen (p := ⟨b, off, none⟩) hlt).trans hf
  go_wp2_with fail
  refine (part_any k 2 _ (by decide) (by decide)).mono ?_
  rintro e w2 ⟨rfl, hb2⟩
  have hb := hb1.trans (hb2.mono hb1.size)
  have hc2 := (hb.cell (p := ⟨b, off, none⟩) hlt).trans hc
  have hf2 := (hb.frozen (p := ⟨b, off, none⟩) hlt).trans hf
  go_wp2
  go_ret
  exact ⟨rfl, w2, hb, rfl⟩
end Go.Proofs.Ytifegnpdclcolaa
