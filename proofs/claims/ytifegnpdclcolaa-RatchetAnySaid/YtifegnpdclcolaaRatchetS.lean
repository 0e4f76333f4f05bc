/-
  RatchetRight, step by step.
-/
import Derived.Test.YtifegnpdclcolaaRatchetR
namespace Go.Proofs.Ytifegnpdclcolaa
open Go.RowKit
set_option maxRecDepth 100000 in
set_option maxHeartbeats 4000000 in
theorem right_any (k most : Int) (A : Option Addr) (n c : Nat) (sc : List Post) (w : World) (hp : Posts w w.heap.size A n sc) :
    Calls Try.prog 3 #[.int .i64 k, .int .i64 most, .slice A n c] w fun e w' => e = .returned (.bool true) ∧ Below w.heap.size w w' := by
  by_cases hbad : ¬ (0 ≤ k ∧ k < 65536) ∨ most < 0 ∨ 100 < most
  · clear hp
    go_enter Try.func3, Try.ntmps3
    go_wp2_with (go_at_call 5; refine (play_bad _ _ _ _ _ _ hbad).mono ?_; rintro e w' ⟨rfl, rfl⟩)
    go_ret
    exact ⟨rfl, Below.refl _ _⟩
  by_cases hlong : 100 < n
  · clear hp
    go_enter Try.func3, Try.ntmps3
    go_wp2_with (go_at_call 5; refine (play_long _ _ _ _ _ _ (by omega) (by omega) hlong).mono ?_; rintro e w' ⟨rfl, rfl⟩)
    go_ret
    exact ⟨rfl, Below.refl _ _⟩
  have hk : 0 ≤ k ∧ k < 65536 := by omega
  have hm : 0 ≤ most ∧ most ≤ 100 := by omega
  have hn : n ≤ 100 := by omega
  clear hbad hlong
  have HP := Lib.hid hp; clear hp
  have hcall := play_ok k most A n c sc w hk hm hn HP.out
  have HC := Lib.hid hcall; clear hcall
  have HK := Lib.hid hk; have HM := Lib.hid hm; clear hk hm
  go_enter Try.func3, Try.ntmps3
  go_wp2_with (go_at_call 5; refine HC.out.mono ?_; rintro e w1 ⟨v, rfl, hv, hbl⟩; have HV := Lib.hid hv; have HBL := Lib.hid hbl; obtain ⟨lA, lc, rfl⟩ := own_form2 hv; clear hv hbl)
  clear HC
  have hsz1 := HBL.out.size
  have hlen0 := HP.out.1
  go_loopw [9, 10, 40] (fun sv cv t wr => ∃ (i : Nat) (come : List Int), i ≤ n ∧ come.length ≤ i ∧ t = .int .i64 i ∧ RR w1.heap.size w1 wr (prun k most (sc.take i)) sv cv come) (fun _ _ t _ => n - (intOf t).toNat)
  case atStart => exact ⟨0, [], Nat.zero_le _, Nat.le_refl _, rfl, World.ownsRow_nil _ _ _ _, World.ownsRow_nil _ _ _ _, (fun _ _ h => by cases h), (fun _ h => by cases h), Below.refl _ _, Nat.le_refl _⟩
  case round =>
    obtain ⟨i, come, hi, hcl, rfl, hr⟩ := hrel
    have HR := Lib.hid hr; clear hr
    by_cases hlt : i < n
    · have hil : i < sc.length := by omega
      obtain ⟨b, off, rfl, hbB, hcells⟩ := ((HP.out.below HBL.out)).2 (by omega)
      obtain ⟨q0, q1, q2⟩ := hcells i sc[i] (List.getElem?_eq_getElem hil)
      have q0 := (HR.out.below.cell (p := ⟨b, _, none⟩) (show b < w1.heap.size by omega)).trans q0
      have q1 := (HR.out.below.cell (p := ⟨b, _, none⟩) (show b < w1.heap.size by omega)).trans q1
      have q2 := (HR.out.below.cell (p := ⟨b, _, none⟩) (show b < w1.heap.size by omega)).trans q2
      clear hcells
      have hot := prun_out_at k most sc i hil
      obtain ⟨lg, lc', e, hlg, r0, r1⟩ := out_cells HV.out HR.out.below hlt hot
      obtain ⟨rfl, rfl⟩ : lA = some ⟨lg, 0, none⟩ ∧ lc' = lc := by injection e with e1 e2 e3; exact ⟨e1, e3.symm⟩
      clear e
      have hst : prun k most (sc.take (i + 1)) = pstep k most (prun k most (sc.take i)) sc[i] := by rw [List.take_succ_eq_append_getElem hil, prun_snoc]
      have hss := sent_step k most (prun k most (sc.take i)) sc[i]
      have hts := take_step (k := k) (most := most) (fine_run k most (sc.take i)).1 sc[i]
      have hF := (fine_run k most (sc.take i))
      have hsl : (prun k most (sc.take i)).sent.length ≤ i := by have := hF.2; simp at this; omega
      have HST := Lib.hid hst; have HSS := Lib.hid hss; have HTS := Lib.hid hts; have HF := Lib.hid hF
      clear hst hss hts hF hot
      generalize pout k most (prun k most (sc.take i)) sc[i] = o at *
      obtain ⟨cd, ov⟩ := o
      generalize prun k most (sc.take i) = st at *
      generalize sc[i] = pp at *
      obtain ⟨kd, mg, nn⟩ := pp
      simp only [] at q0 q1 q2 r0 r1
      obtain ⟨sA, scap, rfl⟩ := own_form HR.out.own1
      obtain ⟨cA, ccap, rfl⟩ := own_form HR.out.own2
      have hszr := HR.out.size
      have hlg2 : lg < wr.heap.size := by omega
      obtain ⟨ipI, hpiI, hpI0, hpI1, hpI2⟩ := info_parts Try.infoI
      have hcl2 : come.length ≤ 100 := by omega
      by_cases hkd : kd = 1
      · subst hkd
        by_cases hcd : cd = 0
        · subst hcd
          go_wp2_with (at_builtin; (refine wpList_append_own_at _ rfl (.tmp 56) (.tmp 59) 27 rfl w1.heap.size 3 ipI (.int .i64 0) 1 8 Try.underlying27 hpiI hpI0 hpI1 hpI2 rfl (by decide) (.slice sA st.sent.length scap) st.sent.length (vals .i64 st.sent) rfl ((((Keep.refl (fun _ => False) wr).alloc _).alloc _).own HR.out.own1 (fun _ _ h => h)) ⟨_, 0, none⟩ 1 1 [.int .i64 nn] rfl rfl (cells_one (by go_simp; try rfl)) (by simp [Value.oneCell']) (by unfold maxLen; omega) (by omega) (by simp; omega) ?_; intro lv' w5 hown' hgrow _ hloc; have HO5 := Lib.hid hown'; have HG5 := Lib.hid hgrow; have HL5 := Lib.hid hloc; have f0 := (Keep.of_grown (S := fun g => (Value.slice sA st.sent.length scap).ownBlock = some g) hgrow (fun _ h => h)).cellV (p := ⟨wr.heap.size, 0, none⟩) (v := .int .i64 1) (by go_simp) (fun e => by { have : wr.heap.size < wr.heap.size := (own_block_ge HR.out.own1 _ e).2; omega }); clear hown' hgrow hloc))
          refine ⟨⟨i + 1, come, by omega, by omega, rfl, ?_⟩, by simp [intOf]; omega⟩
          rw [HST.out]
          exact (HR.out.same (st' := st) (((Keep.refl _ wr).alloc _).alloc _) rfl (fun _ h => h)).sent1 HO5.out HG5.out HL5.out (by rw [HSS.out, if_pos ⟨rfl, rfl⟩]) (fun _ h => came_step _ h)
        · have b1 : (cd == 0) = false := by simpa using hcd
          go_wp2_with fail
          refine ⟨⟨i + 1, come, by omega, by omega, rfl, ?_⟩, by simp [intOf]; omega⟩
          rw [HST.out]
          exact HR.out.same ((Keep.refl _ wr).alloc _) (by rw [HSS.out, if_neg (fun h => hcd h.2)]) (fun _ h => came_step _ h)
      · have b1 : (kd == 1) = false := by simpa using hkd
        have hsent : (pstep k most st (kd, mg, nn)).sent = st.sent := by rw [HSS.out, if_neg (fun h => hkd h.1)]
        by_cases hk2 : kd = 2
        · subst hk2
          clear b1 hkd
          by_cases hcd : cd = 0
          · subst hcd
            obtain ⟨m, em, hml, eo, hnc, hcm⟩ := HTS.out rfl rfl
            simp only [] at em eo
            subst em
            subst eo
            obtain ⟨sg, sc', e, gs⟩ := own_at HR.out.own1 (Keep.refl _ _) hml
            obtain ⟨rfl, rfl⟩ : sA = some ⟨sg, 0, none⟩ ∧ sc' = scap := by injection e with e1 e2 e3; exact ⟨e1, e3.symm⟩
            clear e
            have hsg : sg < wr.heap.size := (own_block_ge HR.out.own1 sg rfl).2
            have hno : ∀ j, j < come.length → come.getD j 0 ≠ (m : Int) := by
              intro j hj e
              obtain ⟨j', ej, hc⟩ := HR.out.came (come.getD j 0) (by rw [List.getD_eq_getElem?_getD, List.getElem?_eq_getElem hj]; exact List.getElem_mem hj)
              have : j' = m := by omega
              exact hnc (this ▸ hc)
            have hHE : Keep (fun _ => False) wr (wr.alloc (.cells #[.int .i64 2, .int .i64 m, .int .i64 nn] 29)) := (Keep.refl _ wr).alloc _
            have HNO := Lib.hid hno; have HCM := Lib.hid hcm; have HHE := Lib.hid hHE
            clear hno hnc hcm HTS hHE
            go_wp2_with fail
            go_quiet (fail)
            go_wp2_with fail
            go_loop [97] (fun t => ∃ j : Nat, j ≤ come.length ∧ t = .int .i64 j) (fun t => come.length - (intOf t).toNat)
            case atStart => exact ⟨0, Nat.zero_le _, rfl⟩
            case round =>
              obtain ⟨j, hj, rfl⟩ := hrel
              by_cases hjl : j < come.length
              · obtain ⟨cg, cc', e, gc⟩ := own_at HR.out.own2 HHE.out hjl
                obtain ⟨rfl, rfl⟩ : cA = some ⟨cg, 0, none⟩ ∧ cc' = ccap := by injection e with e1 e2 e3; exact ⟨e1, e3.symm⟩
                clear e
                have hne0 := HNO.out j hjl
                generalize come.getD j 0 = xj at *
                have hne : (xj == (m : Int)) = false := by simpa using hne0
                clear hne0
                go_wp2_with fail
                exact ⟨⟨j + 1, by omega, rfl⟩, by simp [intOf]; omega⟩
              · obtain rfl : j = come.length := by omega
                go_wp2_with (at_builtin; (refine wpList_append_own_at _ rfl (.tmp 106) (.tmp 109) 27 rfl w1.heap.size 3 ipI (.int .i64 0) 1 8 Try.underlying27 hpiI hpI0 hpI1 hpI2 rfl (by decide) (.slice cA come.length ccap) come.length (vals .i64 come) rfl ((((Keep.refl (fun _ => False) wr).alloc _).alloc _).own HR.out.own2 (fun _ _ h => h)) ⟨_, 0, none⟩ 1 1 [.int .i64 m] rfl rfl (cells_one (by go_simp; try rfl)) (by simp [Value.oneCell']) (by unfold maxLen; omega) (by omega) (by simp; omega) ?_; intro lv' w5 hown' hgrow _ hloc; have HO5 := Lib.hid hown'; have HG5 := Lib.hid hgrow; have HL5 := Lib.hid hloc; clear hown' hgrow hloc))
                refine ⟨⟨i + 1, come ++ [(m : Int)], by omega, by simp; omega, rfl, ?_⟩, by simp [intOf]; omega⟩
                rw [HST.out]
                refine RR.came1 (RR.same (st' := st) HR.out ?_ rfl (fun _ h => h)) HO5.out HG5.out HL5.out hsent (fun _ h => came_step _ h) HCM.out
                refine Keep.alloc ?_ _
                exact Keep.trans (w' := wr.alloc (.cells #[.int .i64 2, .int .i64 m, .int .i64 nn] 29)) ((Keep.refl _ wr).alloc _) ⟨rfl, rfl, rfl, Nat.le_refl _, fun _ _ _ => rfl⟩
          · have b1 : (cd != 0) = true := by simpa using hcd
            go_wp2_with fail
            refine ⟨⟨i + 1, come, by omega, by omega, rfl, ?_⟩, by simp [intOf]; omega⟩
            rw [HST.out]
            exact HR.out.same ((Keep.refl _ wr).alloc _) hsent (fun _ h => came_step _ h)
        · have b2 : (kd != 2) = true := by simpa using hk2
          go_wp2_with fail
          refine ⟨⟨i + 1, come, by omega, by omega, rfl, ?_⟩, by simp [intOf]; omega⟩
          rw [HST.out]
          exact HR.out.same ((Keep.refl _ wr).alloc _) hsent (fun _ h => came_step _ h)
    · obtain rfl : i = n := by omega
      obtain ⟨sA, scap, rfl⟩ := own_form HR.out.own1
      obtain ⟨cA, ccap, rfl⟩ := own_form HR.out.own2
      go_wp2_with fail
      go_ret
      exact ⟨rfl, HBL.out.trans (HR.out.below.mono hsz1)⟩
end Go.Proofs.Ytifegnpdclcolaa
