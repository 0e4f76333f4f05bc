/-
  Shift: least.
-/
import Derived.Test.YtcbjdodpgnmhnaaShiftC
import Derived.Test.YtcbjdodpgnmhnaaShiftQ
import Derived.Test.YtcbjdodpgnmhnaaBMap
import Derived.Test.YtcbjdodpgnmhnaaShelfP
namespace Go.Proofs.Ytcbjdodpgnmhnaa
open Go.RowKit
theorem bitLen_row (x : Nat) (h0 : x ≠ 0) (h : x < 2 ^ 64) : 1 ≤ Lib.bitLen x ∧ 2 ^ (Lib.bitLen x - 1) ≤ x ∧ x < 2 ^ Lib.bitLen x := by
  induction x using Nat.strongRecOn with
  | _ x ih =>
    rw [Lib.bitLen_half x h0 h]
    by_cases h1 : x / 2 = 0
    · have : x = 1 := by omega
      subst this
      have : Lib.bitLen (1 / 2) = 0 := by decide
      rw [this]; decide
    · obtain ⟨a, b, c⟩ := ih (x / 2) (by omega) h1 (by omega)
      obtain ⟨d, hd⟩ : ∃ d, Lib.bitLen (x / 2) = d + 1 := ⟨Lib.bitLen (x / 2) - 1, by omega⟩
      rw [hd] at b c ⊢
      rw [Nat.add_sub_cancel] at b
      have e : 1 + (d + 1) - 1 = d + 1 := by omega
      have e2 : (2 : Nat) ^ (1 + (d + 1)) = 2 * 2 ^ (d + 1) := by rw [Nat.add_comm, Nat.pow_succ]; omega
      have e3 : (2 : Nat) ^ (d + 1) = 2 * 2 ^ d := by rw [Nat.pow_succ]; omega
      rw [e, e2, e3] at *
      omega
/-- the two maps of least -/
def Maps2 (w : World) (g : Nat) (M : Int → Option Int) (W : Int → Option Bool) (c : Nat) : Prop :=
  ∃ s1 s2, s1 ≤ c ∧ s2 ≤ c ∧ IMap Try.prog 3 29 .i64 .u64 w g M s1 ∧ BMap Try.prog 3 4 .i64 w (g + 1) W s2
theorem Maps2.keep {w w' : World} {g c : Nat} {M : Int → Option Int} {W : Int → Option Bool} (h : Maps2 w g M W c) (hk : Keep (fun _ => False) w w') : Maps2 w' g M W c := by
  obtain ⟨s1, s2, a, b, h1, h2⟩ := h
  exact ⟨s1, s2, a, b, h1.keep hk fun h => h, h2.keep hk fun h => h⟩
theorem Maps2.more {w : World} {g c c' : Nat} {M : Int → Option Int} {W : Int → Option Bool} (h : Maps2 w g M W c) (hc : c ≤ c') : Maps2 w g M W c' := by
  obtain ⟨s1, s2, a, b, h1, h2⟩ := h
  exact ⟨s1, s2, by omega, by omega, h1, h2⟩
theorem Maps2.lt {w : World} {g c : Nat} {M : Int → Option Int} {W : Int → Option Bool} (h : Maps2 w g M W c) : g + 1 < w.heap.size := by
  obtain ⟨s1, s2, a, b, h1, h2⟩ := h
  exact h2.lt
theorem Maps2.rows {w : World} {g c : Nat} {M : Int → Option Int} {W : Int → Option Bool} (h : Maps2 w g M W c) (k : Nat) (hk : k < 100) :
    (Instr.lookup 38 (.map (some g)) (.int .i64 k) true).run Try.prog w = .ok (.tuple #[.int .u64 ((M k).getD 0), .bool (M k).isSome]) w := by
  obtain ⟨s1, s2, a, b, h1, h2⟩ := h
  exact h1.look Try.underlying38 Try.underlying3 Try.underlying29 (Try.zeroValue29 _) k (WalkArith.wf_i64 (by omega))
theorem Maps2.want {w : World} {g c : Nat} {M : Int → Option Int} {W : Int → Option Bool} (h : Maps2 w g M W c) (k : Nat) (hk : k < 100) :
    (Instr.lookup 39 (.map (some (g + 1))) (.int .i64 k) false).run Try.prog w = .ok (.bool ((W k).getD false)) w := by
  obtain ⟨s1, s2, a, b, h1, h2⟩ := h
  exact h2.look1 Try.underlying39 Try.underlying3 Try.underlying4 (Try.zeroValue4 _) k (WalkArith.wf_i64 (by omega))
theorem Maps2.store {w : World} {g c : Nat} {M : Int → Option Int} {W : Int → Option Bool} (h : Maps2 w g M W c) (hc : c < 1000) (k : Nat) (hk : k < 100) (x : Nat) (hx : x < 18446744073709551616) (b : Bool) :
    ∃ w1 w2, (Instr.mapUpdate 38 (.map (some g)) (.int .i64 k) (.int .u64 x)).run Try.prog w = .ok () w1 ∧ (Instr.mapUpdate 39 (.map (some (g + 1))) (.int .i64 k) (.bool b)).run Try.prog w1 = .ok () w2 ∧
      Maps2 w2 g (mput M k x) (bput W k b) (c + 1) ∧ Keep (fun b => b = g ∨ b = g + 1) w w2 := by
  obtain ⟨s1, s2, q1, q2, h1, h2⟩ := h
  have wk : (Lit.int .i64 (k : Int)).wf = true := WalkArith.wf_i64 (by omega)
  have wx : (Lit.int .u64 (x : Int)).wf = true := by
    have e0 : IntKind.u64.min = 0 := by decide
    have e1 : IntKind.u64.max = 18446744073709551615 := by decide
    simp [Lit.wf, e0, e1]; omega
  obtain ⟨w1, r1, m1, k1⟩ := h1.store Try.underlying38 Try.underlying3 Try.underlying29 (by unfold maxLen; omega) k x wk wx
  have h2' := h2.keep k1 (by omega)
  obtain ⟨w2, r2, m2, k2⟩ := h2'.store Try.underlying39 Try.underlying3 Try.underlying4 (by unfold maxLen; omega) k b wk
  refine ⟨w1, w2, r1, r2, ⟨_, _, ?_, ?_, m1.keep k2 (by omega), m2⟩, (k1.mono fun b _ h => .inl h).trans (k2.mono fun b _ h => .inr h)⟩
  · split <;> omega
  · split <;> omega
def LeastEnd (s : Nat → Bool) (L n : Nat) (w : World) (e : Ending) (w' : World) : Prop := ∃ t, BitsEnd (bitsOf t L) w e w' ∧ Sol s L n t.testBit
set_option maxRecDepth 100000 in
set_option maxHeartbeats 4000000 in
theorem least_any (A : Option Addr) (n c L : Nat) (l : List Bool) (w : World) (h : Bts w w.heap.size A n l) (hn : n ≤ 64) (hL : L ≤ n) (hex : ∃ t, Sol (fun i => l.getD i false) L n t) :
    Calls Try.prog 11 #[.slice A n c, .int .i64 L] w (LeastEnd (fun i => l.getD i false) L n w) := by
  have H := Lib.hid h; have HEX := Lib.hid hex; clear h hex
  have hmm := @run_makeMap Try.prog
  go_enter Try.func11, Try.ntmps11
  go_wp2
  clear hmm
  obtain ⟨g, hg⟩ : ∃ g, g = w.heap.size := ⟨_, rfl⟩
  rw [← hg]
  have HG := Lib.hid hg; clear hg
  go_loopw [7] (fun tv wr => ∃ (i : Nat) (M : Int → Option Int) (W : Int → Option Bool), L ≤ i ∧ i ≤ n ∧ tv = .int .i64 i ∧ Maps2 wr g M W i ∧ Sys (fun i => l.getD i false) L n i M W ∧ Keep (fun _ => False) w wr) (fun tv _ => n - (intOf tv).toNat)
  case atStart =>
    refine ⟨L, _, _, Nat.le_refl _, hL, rfl, ⟨0, 0, Nat.zero_le _, Nat.zero_le _, ?_, ?_⟩, Sys.start _ _ _, ((Keep.refl _ _).alloc _).alloc _⟩
    · rw [HG.out]
      exact (IMap.made w).keep ((Keep.refl (fun _ => False) _).alloc _) fun h => h
    · rw [HG.out]
      have := BMap.made (P := Try.prog) (kt := 3) (et := 4) (kq := .i64) (w.alloc (.map #[] 0))
      rwa [World.size_alloc] at this
  case round =>
    obtain ⟨i, M, W, hLi, hin, rfl, hm, hs, hk⟩ := hrel
    have HM := Lib.hid hm; have HS := Lib.hid hs; have HK := Lib.hid hk; clear hm hs hk
    by_cases hlt : i < n
    · have b0 : decide (i < n) = true := decide_eq_true hlt
      go_wp2_with fail
      clear b0
      obtain ⟨wo, rfl⟩ : ∃ wo : World, wo = wr := ⟨_, rfl⟩
      go_loop [8, 9] (fun pv jv => ∃ j : Nat, j ≤ L ∧ jv = .int .i64 (j + 1 : Nat) ∧ pv = .int .u64 (wdN (fun x => l.getD (i - 1 - x) false) j)) (fun _ jv => L + 1 - (intOf jv).toNat)
      case atStart => exact ⟨0, Nat.zero_le _, rfl, rfl⟩
      case round =>
        obtain ⟨j, hj, rfl, rfl⟩ := hrel
        by_cases hjL : j < L
        · have hidx : i - 1 - j < n := by omega
          obtain ⟨b, off, rfl, hb, hc⟩ := (H.out.keep HK.out).at_ (Below.refl _ _) hidx
          have hs : wdN (fun x => l.getD (i - 1 - x) false) (j + 1) = wdN (fun x => l.getD (i - 1 - x) false) j ||| (if l.getD (i - 1 - j) false then 2 ^ j else 0) := rfl
          have hw := Nat.lt_of_lt_of_le (wdN_lt (fun x => l.getD (i - 1 - x) false) j) (pow64 (by omega))
          have e1 : (i : Int) - ((j : Int) + 1) = ((i - 1 - j : Nat) : Int) := by omega
          have HS2 := Lib.hid hs; clear hs
          generalize l.getD (i - 1 - j) false = x at *
          generalize wdN (fun x => l.getD (i - 1 - x) false) j = y at *
          obtain ⟨d, hd⟩ : ∃ d, d = i - 1 - j := ⟨_, rfl⟩
          rw [← hd] at hc e1 hidx
          have HD := Lib.hid hd; clear hd
          cases x with
          | false =>
            go_wp2_with fail
            refine ⟨⟨j + 1, by omega, by go_num, ?_⟩, by simp [intOf]; omega⟩
            rw [HS2.out]; simp
          | true =>
            go_wp2_with fail
            refine ⟨⟨j + 1, by omega, by go_num, ?_⟩, by simp [intOf]; omega⟩
            rw [HS2.out, or_pow hw (by omega)]; simp
        · obtain rfl : j = L := by omega
          clear hjL hj
          obtain ⟨b, off, rfl, hb, hc⟩ := (H.out.keep HK.out).at_ (Below.refl _ _) hlt
          have hcur := Cur.start (fun i => l.getD i false) j n i M W hLi hlt
          have hp : wdN (fun x => l.getD (i - 1 - x) false) j = pastW (fun i => l.getD i false) j i := rfl
          rw [hp]
          generalize pastW (fun i => l.getD i false) j i = p at *
          obtain ⟨x, hx⟩ : ∃ x, x = l.getD i false := ⟨_, rfl⟩
          simp only [← hx] at hcur
          rw [← hx] at hc
          have HCUR := Lib.hid hcur; clear hcur hp hx
          go_wp2_with fail
          clear hc
          go_loop [8, 10] (fun pv bv => ∃ (q : Nat) (y : Bool), pv = .int .u64 q ∧ bv = .bool y ∧ Cur (fun i => l.getD i false) j n i M W q y) (fun pv _ => (intOf pv).toNat)
          case atStart => exact ⟨p, x, rfl, rfl, HCUR.out⟩
          case round =>
            obtain ⟨q, y, rfl, rfl, hcur⟩ := hrel
            by_cases hq0 : q = 0
            · subst hq0
              have hs' := hcur.done HS.out HEX.out
              have HS' := Lib.hid hs'; clear hs' hcur
              go_wp2_with fail
              exact ⟨⟨i + 1, M, W, by omega, by omega, rfl, HM.out.more (by omega), HS'.out, HK.out⟩, by simp [intOf]; omega⟩
            · have hq64 : q < 18446744073709551616 := Nat.lt_of_lt_of_le hcur.lt (pow64 (by omega))
              obtain ⟨t1, t2, t3⟩ := bitLen_row q hq0 hq64
              have hrow := row_of hcur.lt t1 t2 t3
              have hcall : ∀ V : World, Calls Try.prog 15 #[.int .u64 q] V fun e w' => e = .returned (.int .i64 (Lib.bitLen q)) ∧ V = w' := fun V =>
                (Try.bits_Len64 (q : Int) V (by omega) (by omega)).mono fun _ _ h => ⟨by simpa using h.1, h.2.symm⟩
              generalize Lib.bitLen q = top at *
              have htop : top ≤ j := hrow.le
              have b1 : ((q : Int) != 0) = true := by simp; omega
              have HCALL := Lib.hid hcall; have HROW := Lib.hid hrow; have HC2 := Lib.hid hcur; clear hcall hrow hcur hq0 t2 t3
              have hlook := HM.out.rows top (by omega)
              cases hMt : M (top : Int) with
              | none =>
                rw [hMt] at hlook
                simp only [Option.getD_none, Option.isSome_none] at hlook
                obtain ⟨w1, w2, r1, r2, hm2, hk2⟩ := HM.out.store (by omega) top (by omega) q hq64 y
                have hs' := HC2.out.store HS.out HROW.out hMt (M' := mput M top q) (W' := bput W top y) (fun k => rfl) (fun k => rfl)
                have HL := Lib.hid hlook; have R1 := Lib.hid r1; have R2 := Lib.hid r2; have HM2 := Lib.hid hm2; have HK2 := Lib.hid hk2; have HS' := Lib.hid hs'
                clear hlook r1 r2 hm2 hk2 hs' hMt
                go_wp2_with (first
                  | (go_at_call 15; refine (HCALL.out _).mono ?_; rintro e w' ⟨rfl, rfl⟩)
                  | (at_lookup; refine wpList_look_run _ rfl (.tmp 52) (.tmp 53) 38 true rfl _ _ _ rfl rfl HL.out ?_)
                  | (at_mapUpdate; refine wpList_store_run _ rfl (.tmp 59) (.tmp 60) (.tmp 63) 38 rfl _ _ _ rfl rfl rfl _ R1.out ?_)
                  | (at_mapUpdate; refine wpList_store_run _ rfl (.tmp 61) (.tmp 62) (.tmp 64) 39 rfl _ _ _ rfl rfl rfl _ R2.out ?_))
                refine ⟨⟨i + 1, _, _, by omega, by omega, rfl, HM2.out, HS'.out, HK.out.then_ HK2.out (fun b hb => by have := HG.out; omega)⟩, by simp [intOf]; omega⟩
              | some r =>
                obtain ⟨top', q', e1, e2, hr'⟩ := HS.out.form _ _ hMt
                subst e2
                have e1 : top = top' := by omega
                subst e1
                have hq'64 : q' < 18446744073709551616 := Nat.lt_of_lt_of_le (row_lt hr') (pow64 (by omega))
                rw [hMt] at hlook
                simp only [Option.getD_some, Option.isSome_some] at hlook
                have hwant := HM.out.want top (by omega)
                obtain ⟨hc2, hlt2⟩ := HC2.out.less HS.out HROW.out hMt
                have hx := u64_xor_nat q q' hq64 hq'64
                obtain ⟨z, hz⟩ : ∃ z, z = q ^^^ q' := ⟨_, rfl⟩
                rw [← hz] at hc2 hlt2 hx
                obtain ⟨v, hv⟩ : ∃ v, v = (W (top : Int)).getD false := ⟨_, rfl⟩
                rw [← hv] at hc2 hwant
                have HL := Lib.hid hlook; have HW := Lib.hid hwant; have HC3 := Lib.hid hc2
                clear hlook hwant hc2 hz hMt hr' hv
                go_wp2_with (first
                  | (go_at_call 15; refine (HCALL.out _).mono ?_; rintro e w' ⟨rfl, rfl⟩)
                  | (at_lookup; refine wpList_look_run _ rfl (.tmp 52) (.tmp 53) 38 true rfl _ _ _ rfl rfl HL.out ?_)
                  | (at_lookup; refine wpList_look_run _ rfl (.tmp 69) (.tmp 70) 39 false rfl _ _ _ rfl rfl HW.out ?_))
                refine ⟨⟨z, y != v, rfl, rfl, HC3.out⟩, by simp [intOf]; omega⟩
    · obtain rfl : i = n := by omega
      go_wp2_with fail
      go_loopw [14, 74] (fun xv tv wr => ∃ (k t : Nat), k ≤ L ∧ tv = .int .i64 k ∧ xv = .int .u64 t ∧ Fin_ k M W t ∧ Maps2 wr g M W i ∧ Keep (fun _ => False) w wr) (fun _ tv _ => L - (intOf tv).toNat)
      case atStart => exact ⟨0, 0, Nat.zero_le _, rfl, rfl, Fin_.start _ _ _ _ _ _ HS.out, HM.out, HK.out⟩
      case round =>
        obtain ⟨k, t, hkL, rfl, rfl, hfin, hm2, hk2⟩ := hrel
        have ht64 : t < 18446744073709551616 := Nat.lt_of_lt_of_le hfin.lt (pow64 (by omega))
        have HF := Lib.hid hfin; have HM2 := Lib.hid hm2; have HK2 := Lib.hid hk2; clear hfin hm2 hk2
        by_cases hkl : k < L
        · have hlook := HM2.out.rows (k + 1) (by omega)
          have ecast : ((k + 1 : Nat) : Int) = (k : Int) + 1 := by simp
          cases hMt : M ((k + 1 : Nat) : Int) with
          | none =>
            rw [hMt, ecast] at hlook
            simp only [Option.getD_none, Option.isSome_none] at hlook
            have hf2 := HF.out.none_ (fun q hq => by rw [hMt] at hq; cases hq)
            have HL := Lib.hid hlook; have HF2 := Lib.hid hf2; clear hlook hf2 hMt ecast
            go_wp2_with (at_lookup; refine wpList_look_run _ rfl (.tmp 78) (.tmp 80) 38 true rfl _ _ _ rfl rfl HL.out ?_)
            go_quiet (fail)
            generalize hw2 : wr.drewN _ = w2
            have hk3 : Keep (fun _ => False) wr w2 := by rw [← hw2]; exact (Keep.refl _ _).drewN _
            have HK3 := Lib.hid hk3; clear hw2 hk3
            go_wp2_with fail
            exact ⟨⟨k + 1, t, by omega, by go_num, rfl, HF2.out, HM2.out.keep HK3.out, HK2.out.trans HK3.out⟩, by simp [intOf]; omega⟩
          | some r =>
            obtain ⟨top', q, e1, e2, hr⟩ := HS.out.form _ _ hMt
            subst e2
            have hq64 : q < 18446744073709551616 := Nat.lt_of_lt_of_le (row_lt hr) (pow64 (by have := hr.le; omega))
            rw [hMt, ecast] at hlook
            simp only [Option.getD_some, Option.isSome_some] at hlook
            have hwant : ∀ m, (Instr.lookup 39 (.map (some (g + 1))) (.int .i64 ((k : Int) + 1)) false).run Try.prog (wr.drewN m) = .ok (.bool ((W ((k + 1 : Nat) : Int)).getD false)) (wr.drewN m) := fun m => by
              have := (HM2.out.keep ((Keep.refl (fun _ => False) wr).drewN m)).want (k + 1) (by omega)
              rwa [ecast] at this
            have hwant0 : (Instr.lookup 39 (.map (some (g + 1))) (.int .i64 ((k : Int) + 1)) false).run Try.prog wr = .ok (.bool ((W ((k + 1 : Nat) : Int)).getD false)) wr := by
              have := HM2.out.want (k + 1) (by omega)
              rwa [ecast] at this
            have ha := u64_and_nat q t hq64 ht64
            obtain ⟨z, hz⟩ : ∃ z, z = q &&& t := ⟨_, rfl⟩
            have hz64 : z < 18446744073709551616 := by rw [hz]; exact Nat.and_lt_two_pow (n := 64) _ ht64
            rw [← hz] at ha
            have hdot : xs 64 (fun i => z.testBit i) = dot q t.testBit := by
              unfold dot
              exact xs_congr fun i _ => by rw [hz, Nat.testBit_and]
            have hodd : ∀ V : World, Calls Try.prog 14 #[.int .u64 z] V fun e w' => e = .returned (.bool (dot q t.testBit)) ∧ w' = V := fun V => (odd_any z hz64 V).mono fun _ _ h => ⟨by rw [h.1, hdot], h.2.symm⟩
            have HL := Lib.hid hlook; have HODD := Lib.hid hodd
            by_cases hne : dot q t.testBit = (W ((k + 1 : Nat) : Int)).getD false
            · have hf2 := HF.out.none_ (fun q' hq' => by
                rw [hMt] at hq'
                have hq' := Option.some.inj hq'
                have : q = q' := by omega
                rw [← this]; exact hne)
              have HF2 := Lib.hid hf2
              obtain ⟨u, hu⟩ : ∃ u, u = dot q t.testBit := ⟨_, rfl⟩
              obtain ⟨v, hv⟩ : ∃ v, v = (W ((k + 1 : Nat) : Int)).getD false := ⟨_, rfl⟩
              rw [← hu, ← hv] at hne
              simp only [← hv] at hwant hwant0
              rw [← hu] at HODD
              have huv : (u != v) = false := by rw [hne]; simp
              clear hlook hf2 hMt ecast hodd hz hdot hr e1 hu hv hne
              cases u <;> cases v
              rotate_left
              · exact absurd huv (by decide)
              · exact absurd huv (by decide)
              all_goals clear huv
              all_goals
                go_wp2_with (at_lookup; refine wpList_look_run _ rfl (.tmp 78) (.tmp 80) 38 true rfl _ _ _ rfl rfl HL.out ?_)
                go_quiet ((go_at_call 14; exact Calls.quiet_of_same (HODD.out _)))
                generalize hw2 : wr.drewN _ = w2
                have hk3 : Keep (fun _ => False) wr w2 := by rw [← hw2]; exact (Keep.refl _ _).drewN _
                have HK3 := Lib.hid hk3; clear hw2 hk3 hwant hwant0
                go_wp2_with fail
                exact ⟨⟨k + 1, t, by omega, by go_num, rfl, HF2.out, HM2.out.keep HK3.out, HK2.out.trans HK3.out⟩, by simp [intOf]; omega⟩
            · have hf2 := HF.out.set_ HS.out (by omega) hMt hne
              have HF2 := Lib.hid hf2
              have huv : (dot q t.testBit != (W ((k + 1 : Nat) : Int)).getD false) = true := by simpa using hne
              obtain ⟨u, hu⟩ : ∃ u, u = dot q t.testBit := ⟨_, rfl⟩
              obtain ⟨v, hv⟩ : ∃ v, v = (W ((k + 1 : Nat) : Int)).getD false := ⟨_, rfl⟩
              rw [← hu, ← hv] at huv
              simp only [← hv] at hwant hwant0
              rw [← hu] at HODD
              have hor := or_pow (y := t) (i := k) ht64 (by omega)
              have HOR := Lib.hid hor
              clear hlook hf2 hMt ecast hodd hz hdot hr e1 hu hv hne hor
              cases u <;> cases v
              · exact absurd huv (by decide)
              rotate_left 2
              · exact absurd huv (by decide)
              all_goals clear huv
              all_goals
                go_wp2_with (at_lookup; refine wpList_look_run _ rfl (.tmp 78) (.tmp 80) 38 true rfl _ _ _ rfl rfl HL.out ?_)
                go_quiet ((go_at_call 14; exact Calls.quiet_of_same (HODD.out _)))
                generalize hw2 : wr.drewN _ = w2
                have hk3 : Keep (fun _ => False) wr w2 := by rw [← hw2]; exact (Keep.refl _ _).drewN _
                have HK3 := Lib.hid hk3; clear hw2 hk3 hwant hwant0
                go_wp2_with fail
                refine ⟨⟨k + 1, t ||| 2 ^ k, by omega, by go_num, ?_, HF2.out, HM2.out.keep HK3.out, HK2.out.trans HK3.out⟩, by simp [intOf]; omega⟩
                rw [HOR.out]
        · obtain rfl : k = L := by omega
          have hsol := HF.out.done HS.out
          have HSOL := Lib.hid hsol; clear hsol
          go_wp2_with (go_at_call 16; refine (list_any t k ht64 (by omega) _).mono ?_; rintro e w' ⟨A2, c2, rfl, hb2, hk4⟩; have HB2 := Lib.hid hb2; have HK4 := Lib.hid hk4; clear hb2 hk4)
          go_ret
          exact ⟨t, ⟨A2, c2, rfl, HB2.out, HK2.out.trans HK4.out⟩, HSOL.out⟩
end Go.Proofs.Ytcbjdodpgnmhnaa
