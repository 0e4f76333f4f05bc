/-
  Feistel: the law FeistelOrder, walked.
-/
import Derived.Test.YtkhbopdjokicmaaFeistelJ
import Derived.Test.YtkhbopdjokicmaaFeistelE
namespace Go.Proofs.Ytkhbopdjokicmaa
open Go.RowKit
theorem order_bad (A : Option Addr) (n c : Nat) (rows : List (List Int)) (w : World) (h : Grid w w.heap.size A n rows) (h0 : roundsE rows 0 ≠ 0) :
    Calls Try.prog 4 #[.slice A n c] w fun e w' => e = .returned (.tuple #[.int .i64 0, .int .i64 (roundsE rows 0)]) ∧ w = w' := by
  have H := Lib.hid h
  generalize he : roundsE rows 0 = e0 at *
  have b1 : (e0 != 0) = true := by simpa using h0
  have HE := Lib.hid he; clear he h0 h
  go_enter Try.func4, Try.ntmps4
  go_wp2_with (go_at_call 8; refine (wrong_any _ _ _ rows _ _ H.out).mono ?_; rintro e w' ⟨rfl, rfl⟩; rw [HE.out])
  go_ret2
  exact ⟨rfl, rfl⟩
theorem rounds_zero {rows : List (List Int)} {x : Int} (h : roundsE rows x = 0) : roundsE rows 0 = 0 := by
  unfold roundsE at *
  split at h
  · cases h
  · split at h
    · cases h
    · split at h
      · cases h
      · rw [if_neg (by assumption), if_neg (by assumption), if_neg (by assumption), if_pos (by omega)]
def TrueBelow (w : World) (e : Ending) (w' : World) : Prop := e = .returned (.bool true) ∧ Below w.heap.size w w'
set_option maxRecDepth 100000 in
set_option maxHeartbeats 2000000 in
theorem keep_any (A : Option Addr) (n c : Nat) (rows : List (List Int)) (x d : Int) (w : World) (h : Grid w w.heap.size A n rows) :
    Calls Try.prog 3 #[.slice A n c, .int .i64 x, .int .i64 d] w (TrueBelow w) := by
  have H := Lib.hid h
  by_cases h0 : roundsE rows 0 = 0
  case neg =>
    have hx : roundsE rows x ≠ 0 := fun hx => h0 (rounds_zero hx)
    have H0 := Lib.hid h0
    generalize he : roundsE rows x = e1 at *
    have b1 : (e1 != 0) = true := by simpa using hx
    generalize he0 : roundsE rows 0 = e0 at *
    have b2 : (e0 == 0) = false := by simpa using h0
    have HE := Lib.hid he; have HE0 := Lib.hid he0; clear he h he0 hx h0
    go_enter Try.func3, Try.ntmps3
    go_wp2_with (first
      | (go_at_call 4; refine (order_bad _ _ _ rows _ H.out (by rw [HE0.out]; exact H0.out)).mono ?_; rintro e w' ⟨rfl, rfl⟩; rw [HE0.out])
      | (go_at_call 5; refine (check_any _ _ _ rows _ _ H.out).mono ?_; rintro e w' ⟨rfl, rfl⟩; rw [HE.out]))
    go_ret
    exact ⟨rfl, Below.refl _ _⟩
  case pos =>
    have H0 := Lib.hid h0; clear h h0
    go_enter Try.func3, Try.ntmps3
    go_wp2_with (go_at_call 4; refine (order_ok _ _ _ rows _ H.out H0.out).mono ?_; rintro e w1 ⟨o, S, rfl, hord, hall, hk⟩; have HORD := Lib.hid hord; have HALL := Lib.hid hall; have HK := Lib.hid hk; clear hord hall hk)
    have ho63 := HORD.out.lt
    have ho1 := HORD.out.pos
    have hg1 : Grid w1 w1.heap.size A n rows := (H.out.below (HK.out.below (Nat.le_refl _) fun _ h => h.elim)).more HK.out.size
    have HG1 := Lib.hid hg1; clear hg1
    have hbel : Below w.heap.size w w1 := HK.out.below (Nat.le_refl _) fun _ h => h.elim
    have HBEL := Lib.hid hbel; clear hbel
    by_cases hx : roundsE rows x = 0
    case neg =>
      generalize he : roundsE rows x = e1 at *
      have b1 : (e1 != 0) = true := by simpa using hx
      have HE := Lib.hid he; clear he hx
      go_wp2_with (go_at_call 5; refine (check_any _ _ _ rows _ _ HG1.out).mono ?_; rintro e w' ⟨rfl, rfl⟩; rw [HE.out])
      go_ret
      exact ⟨rfl, HBEL.out⟩
    case pos =>
      obtain ⟨hn64, hgood, hx0, hx1⟩ := good_of hx
      have hl := H.out.1
      have hn : n ≤ 64 := by omega
      have HX := Lib.hid hx; have HGD := Lib.hid hgood; clear hx hgood hl hn64
      by_cases ho : 3000 < o
      · have b1 : decide ((3000 : Int) < (o : Int)) = true := by simp; omega
        go_wp2_with (go_at_call 5; refine (check_any _ _ _ rows _ _ HG1.out).mono ?_; rintro e w' ⟨rfl, rfl⟩; rw [HX.out])
        go_ret
        exact ⟨rfl, HBEL.out⟩
      · have b1 : decide ((3000 : Int) < (o : Int)) = false := by simp; omega
        have b2 : decide ((o : Int) < 1) = false := by simp; omega
        obtain ⟨y, rfl⟩ := Int.eq_ofNat_of_zero_le hx0
        have hy : y < 256 := by omega
        clear hx0 hx1
        go_wp2_with (go_at_call 5; refine (check_any _ _ _ rows _ _ HG1.out).mono ?_; rintro e w' ⟨rfl, rfl⟩; rw [HX.out])
        go_loopw [9, 10] (fun yv kv wr => ∃ k : Nat, k ≤ o ∧ kv = .int .i64 k ∧ yv = .int .i64 (it (sealN rows) k y : Nat) ∧ Below w.heap.size w wr) (fun _ kv _ => o - (intOf kv).toNat)
        case atStart => exact ⟨0, Nat.zero_le _, rfl, rfl, HBEL.out⟩
        case round =>
          obtain ⟨k, hk, rfl, rfl, hb⟩ := hrel
          have hp := seal_perm rows HGD.out
          have hz256 := hp.it_lt k y hy
          have HB := Lib.hid hb; have HP := Lib.hid hp; clear hb hp
          obtain ⟨z, hz⟩ : ∃ z, z = it (sealN rows) k y := ⟨_, rfl⟩
          rw [← hz] at hz256 ⊢
          have HZ := Lib.hid hz; clear hz
          by_cases hlt : k < o
          · have hE : roundsE rows (z : Int) = 0 := by
              have := HX.out
              unfold roundsE at *
              split at this
              · cases this
              · split at this
                · cases this
                · split at this
                  · cases this
                  · rw [if_neg (by assumption), if_neg (by assumption), if_neg (by assumption), if_pos (by omega)]
            have hgr : Grid wr wr.heap.size A n rows := (H.out.below HB.out).more HB.out.size
            have HGR := Lib.hid hgr; have HE := Lib.hid hE; clear hgr hE
            go_wp2_with (go_at_call 6; refine (sealE_ok _ _ _ rows z _ HGR.out HE.out).mono ?_; rintro e w' ⟨rfl, hk3⟩; have HK3 := Lib.hid hk3; clear hk3)
            refine ⟨⟨k + 1, by omega, rfl, ?_, HB.out.trans ((HK3.out.below (Nat.le_refl _) fun _ h => h.elim).mono HB.out.size)⟩, by simp [intOf]; omega⟩
            rw [it_succ', ← HZ.out]
          · obtain rfl : k = o := by omega
            have hzy : z = y := by rw [HZ.out]; exact HORD.out.back y hy (HALL.out y hy)
            subst hzy
            clear hlt hk b1
            by_cases hd1 : d < 1
            · have c1 : decide (d < 1) = true := by simpa using hd1
              go_wp2_with fail
              go_ret
              exact ⟨rfl, HB.out⟩
            have c1 : decide (d < 1) = false := by simpa using hd1
            by_cases hd2 : (k : Int) ≤ d
            · have c2 : decide ((k : Int) ≤ d) = true := by simpa using hd2
              go_wp2_with fail
              go_ret
              exact ⟨rfl, HB.out⟩
            have c2 : decide ((k : Int) ≤ d) = false := by simpa using hd2
            obtain ⟨q, rfl⟩ := Int.eq_ofNat_of_zero_le (show 0 ≤ d by omega)
            have hm : (k : Int) % (q : Int) = ((k % q : Nat) : Int) := rfl
            obtain ⟨r, hr⟩ : ∃ r, r = k % q := ⟨_, rfl⟩
            rw [← hr] at hm
            by_cases hr0 : r = 0
            case neg =>
              have c3 : (((r : Nat) : Int) != 0) = true := by simp; omega
              clear hr
              go_wp2_with fail
              go_ret
              exact ⟨rfl, HB.out⟩
            case pos =>
              have c3 : (((r : Nat) : Int) != 0) = false := by simp; omega
              have hq1 : 1 ≤ q := by omega
              have hqk : q < k := by omega
              clear hr hr0 hd1 hd2
              have hgr : Grid wr wr.heap.size A n rows := (H.out.below HB.out).more HB.out.size
              have HGR := Lib.hid hgr; clear hgr
              go_wp2_with fail
              go_loop [1] (fun xv => ∃ j : Nat, j ≤ 256 ∧ xv = .int .i64 j ∧ ∀ i < j, it (sealN rows) q i = i) (fun xv => 256 - (intOf xv).toNat)
              case atStart => exact ⟨0, Nat.zero_le _, rfl, fun i hi => absurd hi (Nat.not_lt_zero _)⟩
              case round =>
                obtain ⟨j, hj, rfl, hall⟩ := hrel
                have HA := Lib.hid hall; clear hall
                by_cases hlt : j < 256
                · have b0 : decide ((j : Int) < 256) = true := by simp; omega
                  go_wp2_with fail
                  clear b0
                  go_loop [9, 13] (fun yv tv => ∃ t : Nat, t ≤ q ∧ tv = .int .i64 t ∧ yv = .int .i64 (it (sealN rows) t j : Nat)) (fun _ tv => q - (intOf tv).toNat)
                  case atStart => exact ⟨0, Nat.zero_le _, rfl, rfl⟩
                  case round =>
                    obtain ⟨t, ht, rfl, rfl⟩ := hrel
                    have hz256 := HP.out.it_lt t j hlt
                    obtain ⟨z', hz'⟩ : ∃ z', z' = it (sealN rows) t j := ⟨_, rfl⟩
                    rw [← hz'] at hz256 ⊢
                    have HZ' := Lib.hid hz'; clear hz'
                    by_cases htq : t < q
                    · go_wp2_with (go_at_call 7; refine (refseal_any _ _ _ rows z' _ HGR.out HGD.out hn hz256).mono ?_; rintro e w' ⟨rfl, rfl⟩)
                      refine ⟨⟨t + 1, by omega, rfl, ?_⟩, by simp [intOf]; omega⟩
                      rw [it_succ', ← HZ'.out]
                    · obtain rfl : t = q := by omega
                      by_cases hzj : z' = j
                      · have b4 : ((z' : Int) != (j : Int)) = false := by simp; omega
                        go_wp2_with fail
                        refine ⟨⟨j + 1, by omega, rfl, fun i hi => ?_⟩, by simp [intOf]; omega⟩
                        by_cases hij : i < j
                        · exact HA.out i hij
                        · obtain rfl : i = j := by omega
                          rw [← HZ'.out]; exact hzj
                      · have b4 : ((z' : Int) != (j : Int)) = true := by simp; omega
                        go_wp2_with fail
                        go_ret
                        exact ⟨rfl, HB.out⟩
                · obtain rfl : j = 256 := by omega
                  have hdv := HORD.out.least q fun i hi _ => HA.out i hi
                  have := Nat.le_of_dvd (by omega) hdv
                  omega
end Go.Proofs.Ytkhbopdjokicmaa
