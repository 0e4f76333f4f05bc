/-
  Feistel: Seal.
-/
import Derived.Test.YtkhbopdjokicmaaFeistelD
namespace Go.Proofs.Ytkhbopdjokicmaa
open Go.RowKit
set_option maxHeartbeats 1000000 in
theorem sealE_bad (A : Option Addr) (n c : Nat) (rows : List (List Int)) (x : Int) (w : World) (h : Grid w w.heap.size A n rows) (hb : roundsE rows x ≠ 0) :
    Calls Try.prog 6 #[.slice A n c, .int .i64 x] w fun e w' => e = .returned (.tuple #[.int .i64 0, .int .i64 (roundsE rows x)]) ∧ w = w' := by
  have H := Lib.hid h
  generalize he : roundsE rows x = e0 at *
  have b1 : (e0 != 0) = true := by simpa using hb
  have HE := Lib.hid he; clear he hb h
  go_enter Try.func6, Try.ntmps6
  go_wp2_with (go_at_call 8; refine (wrong_any _ _ _ rows _ _ H.out).mono ?_; rintro e w' ⟨rfl, rfl⟩; rw [HE.out])
  go_ret2
  exact ⟨rfl, rfl⟩
set_option maxHeartbeats 1000000 in
theorem sealE_ok (A : Option Addr) (n c : Nat) (rows : List (List Int)) (x : Nat) (w : World) (h : Grid w w.heap.size A n rows) (hb : roundsE rows x = 0) :
    Calls Try.prog 6 #[.slice A n c, .int .i64 x] w fun e w' => e = .returned (.tuple #[.int .i64 (sealN rows x), .int .i64 0]) ∧ Keep (fun _ => False) w w' := by
  have hg := good_of hb
  have hl := h.1
  have hn : n ≤ 64 := by omega
  have hx : x < 256 := by omega
  have H := Lib.hid h; have HB := Lib.hid hb; have HG := Lib.hid hg.2.1; clear h hb hg
  go_enter Try.func6, Try.ntmps6
  go_wp2_with (first
    | (go_at_call 8; refine (wrong_any _ _ _ rows _ _ H.out).mono ?_; rintro e w' ⟨rfl, rfl⟩; rw [HB.out])
    | (go_at_call 9; refine (seal_any _ _ _ rows x _ H.out HG.out hn hx).mono ?_; rintro e w' ⟨rfl, hk⟩; have HK := Lib.hid hk; clear hk))
  go_ret2
  exact ⟨rfl, HK.out⟩
end Go.Proofs.Ytkhbopdjokicmaa
