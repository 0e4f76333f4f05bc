/-
  The loop of Play.
-/
import Derived.Test.YtifegnpdclcolaaRatchetP
namespace Go.Proofs.Ytifegnpdclcolaa
open Go.RowKit
set_option maxRecDepth 100000 in
set_option maxHeartbeats 4000000 in
theorem play_ok (k most : Int) (A : Option Addr) (n c : Nat) (sc : List Post) (w : World) (hk : 0 ≤ k ∧ k < 65536) (hm : 0 ≤ most ∧ most ≤ 100) (hn : n ≤ 100) (hp : Posts w w.heap.size A n sc) :
    Calls Try.prog 5 #[.int .i64 k, .int .i64 most, .slice A n c] w fun e w' => ∃ v, e = .returned (.tuple #[v, .int .i64 0]) ∧ w'.ownsRow w.heap.size 31 2 v n (outV (prun k most sc).outs) ∧ Below w.heap.size w w' := by
  have e1 : (!decide (0 ≤ k ∧ k < 65536)) = false := by simp; omega
  have e2 : decide (most < 0) = false := by simp; omega
  have e3 : decide (100 < most) = false := by simp; omega
  have e4 : decide ((100 : Int) < (n : Int)) = false := by simp; omega
  have E := Lib.hid e1; have HP := Lib.hid hp; clear hm e1 hp
  have hmm := @run_makeMap Try.prog
  go_enter Try.func5, Try.ntmps5
  go_wp2_with (go_at_call 6; refine (out_any _ _).mono ?_; rintro e w' ⟨rfl, rfl⟩; rw [E.out])
  have hW : PC w.heap.size (w.heap.size + 2) (w.heap.size + 1) w.heap.size k most w (((w.alloc (.map #[] 0)).alloc (.cells #[.int .i64 k, .int .i64 0, .int .i64 most, .map (some w.heap.size)] 40)).alloc (.cells #[.int .i64 k] 36)) [] 0 [] (.slice none 0 0) := by
    exact start_world w k most
  have HW := Lib.hid hW; clear hW hmm
  go_loopw [10, 11, 37] (fun sv lv t wr => ∃ i : Nat, i ≤ n ∧ t = .int .i64 i ∧ PC w.heap.size (w.heap.size + 2) (w.heap.size + 1) w.heap.size k most w wr (prun k most (sc.take i)).sent (prun k most (sc.take i)).at_ (prun k most (sc.take i)).kept sv ∧
      wr.ownsRow w.heap.size 31 2 lv i (outV (prun k most (sc.take i)).outs)) (fun _ _ t _ => n - (intOf t).toNat)
  case atStart => exact ⟨0, Nat.zero_le _, rfl, HW.out, World.ownsRow_nil _ _ _ _⟩
  case round =>
    obtain ⟨i, hi, rfl, hc, ho⟩ := hrel
    have HC := Lib.hid hc; have HO := Lib.hid ho; clear hc ho
    by_cases hlt : i < n
    · have hil : i < sc.length := by rw [HP.out.1]; exact hlt
      obtain ⟨b, off, rfl, hbB, hcells⟩ := (HP.out.below HC.out.below).2 (by omega)
      obtain ⟨q0, q1, q2⟩ := hcells i sc[i] (List.getElem?_eq_getElem hil)
      clear hcells
      obtain ⟨⟨kd, mg, nn⟩, hp⟩ : ∃ p : Post, p = sc[i] := ⟨_, rfl⟩
      rw [← hp] at q0 q1 q2
      have hst : prun k most (sc.take (i + 1)) = pstep k most (prun k most (sc.take i)) (kd, mg, nn) := by rw [List.take_succ_eq_append_getElem hil, prun_snoc, hp]
      have HST := Lib.hid hst; clear hst hp
      have HF := fine_run k most (sc.take i)
      have hsl : (prun k most (sc.take i)).sent.length ≤ i := by have := HF.2; simp at this; omega
      generalize prun k most (sc.take i) = st at *
      obtain ⟨sA, scap, rfl⟩ := own_form HC.out.seal_
      have hsz := HC.out.b1.2.2.2
      obtain ⟨ip, hpi, hp0, hp1, hp2⟩ := info_parts Try.infoP
      by_cases hkd : kd = 1
      · subst hkd
        by_cases hnn : 0 ≤ nn ∧ nn < 65536
        · have hs2 : pstep k most st (1, mg, nn) = { st with sent := st.sent ++ [nn], outs := st.outs ++ [(0, xorI nn (mkey k st.sent.length))] } := by simp only [pstep, if_true]; rw [if_pos hnn]
          have e1 : (!decide (0 ≤ nn ∧ nn < 65536)) = false := by rw [decide_eq_true hnn]; rfl
          have E1 := Lib.hid e1; have HS2 := Lib.hid hs2
          clear e1 hnn hs2
          have htl := HC.out.tk.lt
          have hkl := lt_of_heap HC.out.key
          have hkb : (((wr.alloc (.cells #[.int .i64 1, .int .i64 mg, .int .i64 nn] 29)).alloc (.cells #[.int .i64 0, .int .i64 0] 31)).drew).heap[w.heap.size + 2]? = some (.cells #[.int .i64 (kseq k st.sent.length)] 36 (0, 0)) :=
            ((((Keep.refl (fun _ => False) wr).alloc _).alloc _).drew.block _ hkl (fun h => h)).trans HC.out.key
          have HKB := Lib.hid hkb; clear hkb
          obtain ⟨ipI, hpiI, hpI0, hpI1, hpI2⟩ := info_parts Try.infoI
          have hcall : ∀ W, W.cell? ⟨w.heap.size + 2, 0, none⟩ = some (.int .i64 (kseq k st.sent.length)) → W.frozen? ⟨w.heap.size + 2, 0, none⟩ = false → Calls Try.prog 7 #[.pointer (some ⟨w.heap.size + 2, 0, none⟩)] W fun e w' => e = .returned (.int .i64 (mkey k st.sent.length)) ∧ ∃ w2, Below W.heap.size W w2 ∧ w' = w2.setCell ⟨w.heap.size + 2, 0, none⟩ (.int .i64 (kseq k (st.sent.length + 1))) :=
            fun W hc hf => turn_any (w.heap.size + 2) 0 (kseq k st.sent.length) W hc hf
          have HCALL := Lib.hid hcall; clear hcall
          have hkc : (((wr.alloc (.cells #[.int .i64 1, .int .i64 mg, .int .i64 nn] 29)).alloc (.cells #[.int .i64 0, .int .i64 0] 31)).drew).cell? ⟨w.heap.size + 2, 0, none⟩ = some (.int .i64 (kseq k st.sent.length)) := by simp [World.cell?, HKB.out]
          have hkf : (((wr.alloc (.cells #[.int .i64 1, .int .i64 mg, .int .i64 nn] 29)).alloc (.cells #[.int .i64 0, .int .i64 0] 31)).drew).frozen? ⟨w.heap.size + 2, 0, none⟩ = false := by simp [World.frozen?, HKB.out]
          have hn0 : ¬ wr.heap.size = w.heap.size + 2 := by omega
          have hn1 : ¬ wr.heap.size + 1 = w.heap.size + 2 := by omega
          have c2 : ((wr.alloc (.cells #[.int .i64 1, .int .i64 mg, .int .i64 nn] 29)).alloc (.cells #[.int .i64 0, .int .i64 0] 31)).cell? ⟨wr.heap.size, 2, none⟩ = some (.int .i64 nn) := post_kept2 (Keep.refl (fun _ => False) _) (fun h => h)
          have HKC := Lib.hid hkc; have HKF := Lib.hid hkf; have HC2 := Lib.hid c2
          clear hkc hkf c2
          go_wp2_with (go_at_call 6; refine (out_any _ _).mono ?_; rintro e w' ⟨rfl, rfl⟩; rw [E1.out])
          have c2 := HC2.out
          go_region_held3 (fun w' => w'.cell? ⟨wr.heap.size, 2, none⟩ = some (.int .i64 nn))
            (first | exact c2 | exact b2 | exact (Keep.cellV (Keep.setCell (S := fun g => g = wr.heap.size + 1) (p := ⟨wr.heap.size + 1, 1, none⟩) (Keep.refl _ _) (.inr rfl) _) b2 (fun e => by simp at e)))
            (first
              | (go_at_call 7; refine (HCALL.out _ HKC.out HKF.out).mono ?_; rintro e w' ⟨rfl, w2, hb2, rfl⟩; have HKT := Lib.hid ((Keep.refl (fun g => g = w.heap.size + 2) ((wr.alloc (.cells #[.int .i64 1, .int .i64 mg, .int .i64 nn] 29)).alloc (.cells #[.int .i64 0, .int .i64 0] 31))).drew.trans (Keep.turned hb2 (.int .i64 (kseq k (st.sent.length + 1))))); have HB2 := Lib.hid hb2; clear hb2; have b2 := post_kept2 HKT.out hn0; obtain ⟨d0, d1, d2, d3⟩ := box_kept HKT.out hn1)
              | fail)
          have hsb : ∀ g, (Value.slice sA st.sent.length scap).ownBlock = some g → g < wr.heap.size := fun g e => (own_block_ge HC.out.seal_ g e).2
          have hw2 : wr.heap.size + 2 ≤ w2.heap.size := by have := HB2.out.size; simp at this; omega
          have HSB := Lib.hid hsb
          have hw3 : wr.heap.size + 1 < w2.heap.size := by omega
          have hkey3 := key_set (y := .int .i64 (kseq k (st.sent.length + 1))) ((HB2.out.block _ (by simp; omega)).trans HKB.out)
          have HKEY3 := Lib.hid hkey3
          clear hsb hkey3
          go_wp2_with (first
            | (at_builtin; (refine wpList_append_own _ rfl (.tmp 80) (.tmp 83) 27 rfl w.heap.size 3 ipI (.int .i64 0) 1 8 Try.underlying27 hpiI hpI0 hpI1 hpI2 rfl (by decide) (.slice sA st.sent.length scap) st.sent.length (vals .i64 (sealL k st.sent)) rfl (by refine Keep.own (S := fun g => g = w.heap.size + 2) (w := wr) ?_ HC.out.seal_ (fun g hg => (HC.out.apartS g hg).2); repeat (first | exact Keep.refl _ _ | refine Keep.alloc ?_ _ | refine Keep.drew ?_ | (refine Keep.setCell ?_ ?_ _; rotate_left; (first | (refine Or.inl ?_; (simp <;> omega)) | (refine Or.inr ?_; rfl) | (refine Or.inr ?_; exact Or.inl rfl) | (refine Or.inr ?_; exact Or.inr rfl))) | refine Keep.trans ?_ (Keep.of_grown HG6.out (fun _ h => .inr h)) | refine Keep.trans ?_ HK4.out | refine Keep.trans ?_ HKT.out | refine Keep.trans ?_ (Keep.of_below HB2.out))) ⟨_, 0, none⟩ 1 1 [.int .i64 (xorI nn (mkey k st.sent.length))] rfl rfl (cells_one (by go_simp; try rfl)) (by simp [Value.oneCell']) (by unfold maxLen; omega) (by omega) (by simp; omega) ?_; intro sv' w6 hown' hgrow _; have HO6 := Lib.hid hown'; have HG6 := Lib.hid hgrow; have kg := Keep.of_grown (S := fun g => (Value.slice sA st.sent.length scap).ownBlock = some g) hgrow (fun _ h => h); have f0 := kg.cellV (p := ⟨wr.heap.size + 1, 0, none⟩) (v := .int .i64 0) (by go_simp) (fun e => by { have : wr.heap.size + 1 < wr.heap.size := HSB.out _ e; omega }); have f1 := kg.cellV (p := ⟨wr.heap.size + 1, 1, none⟩) (v := .int .i64 (xorI nn (mkey k st.sent.length))) (by go_simp; try rfl) (fun e => by { have : wr.heap.size + 1 < wr.heap.size := HSB.out _ e; omega }); have hz6 : w2.heap.size + 1 ≤ w6.heap.size := by { have hz := kg.size; simp at hz; omega }; have KG6 := Lib.hid kg; clear hown' hgrow kg))
            | (at_builtin; go_loud (refine wpList_append_own _ rfl (.tmp 102) (.tmp 104) 23 rfl w.heap.size 31 ip (.agg #[.int .i64 0, .int .i64 0]) 2 16 Try.underlying23 hpi hp0 hp1 hp2 rfl (by decide) u11 i (outV st.outs) rfl (by refine Keep.own (S := fun g => g = w.heap.size + 2 ∨ (Value.slice sA st.sent.length scap).ownBlock = some g) (w := wr) ?_ HO.out (fun g hg e => by { obtain ⟨_, h1, h2⟩ := HC.out.apart HO.out g hg; rcases e with e | e; exact h1 e; exact h2 e }); repeat (first | exact Keep.refl _ _ | refine Keep.alloc ?_ _ | refine Keep.drew ?_ | (refine Keep.setCell ?_ ?_ _; rotate_left; (first | (refine Or.inl ?_; (simp <;> omega)) | (refine Or.inr ?_; rfl) | (refine Or.inr ?_; exact Or.inl rfl) | (refine Or.inr ?_; exact Or.inr rfl))) | refine Keep.trans ?_ (Keep.of_grown HG6.out (fun _ h => .inr h)) | refine Keep.trans ?_ HK4.out | refine Keep.trans ?_ HKT.out | refine Keep.trans ?_ (Keep.of_below HB2.out))) ⟨_, 0, none⟩ 1 1 [.int .i64 0, .int .i64 (xorI nn (mkey k st.sent.length))] rfl rfl (cells_two (by go_simp) (by go_simp; try simpa [hml'] using hback)) (by simp [Value.oneCell']) (by unfold maxLen; omega) (by omega) (by simp; omega) ?_; intro lv' w5 hown' hgrow _; have HO5 := Lib.hid hown'; have HG5 := Lib.hid hgrow; clear hown' hgrow)))
          refine ⟨⟨i + 1, by omega, rfl, ?_, ?_⟩, by simp [intOf]; omega⟩
          · rw [HST.out, HS2.out]
            have kw : Keep (fun g => g = wr.heap.size + 1 ∨ (Value.slice sA st.sent.length scap).ownBlock = some g) (w2.setCell ⟨w.heap.size + 2, 0, none⟩ (.int .i64 (kseq k (st.sent.length + 1)))) w6 := by
              repeat (first | exact Keep.refl _ _ | refine Keep.alloc ?_ _ | refine Keep.drew ?_ | (refine Keep.setCell ?_ ?_ _; rotate_left; (first | (refine Or.inl ?_; (simp <;> omega)) | (refine Or.inr ?_; rfl) | (refine Or.inr ?_; exact Or.inl rfl) | (refine Or.inr ?_; exact Or.inr rfl))) | refine Keep.trans ?_ (Keep.of_grown HG6.out (fun _ h => .inr h)) | refine Keep.trans ?_ HK4.out | refine Keep.trans ?_ HKT.out | refine Keep.trans ?_ (Keep.of_below HB2.out))
            have hkey := (kw.block _ (lt_of_heap HKEY3.out) (by rintro (e | e); omega; exact (HC.out.apartS _ e).2 rfl)).trans HKEY3.out
            have P6 := PC.sent HC.out (by repeat (first | exact Keep.refl _ _ | refine Keep.alloc ?_ _ | refine Keep.drew ?_ | (refine Keep.setCell ?_ ?_ _; rotate_left; (first | (refine Or.inl ?_; (simp <;> omega)) | (refine Or.inr ?_; rfl) | (refine Or.inr ?_; exact Or.inl rfl) | (refine Or.inr ?_; exact Or.inr rfl))) | refine Keep.trans ?_ (Keep.of_grown HG6.out (fun _ h => .inr h)) | refine Keep.trans ?_ HK4.out | refine Keep.trans ?_ HKT.out | refine Keep.trans ?_ (Keep.of_below HB2.out))) hkey HO6.out
            refine PC.said (PC.keep (S := fun _ => False) P6 ?_ (fun h => h) (fun h => h) (fun h => h) (fun _ _ h => h) (fun _ h => h.elim)) (Keep.own (S := fun g => g = w.heap.size + 2 ∨ (Value.slice sA st.sent.length scap).ownBlock = some g) (w := wr) ?_ HO.out (fun g hg e => by { obtain ⟨_, h1, h2⟩ := HC.out.apart HO.out g hg; rcases e with e | e; exact h1 e; exact h2 e })) HG5.out
            · repeat (first | exact Keep.refl _ _ | refine Keep.alloc ?_ _ | refine Keep.drew ?_ | (refine Keep.setCell ?_ ?_ _; rotate_left; (first | (refine Or.inl ?_; (simp <;> omega)) | (refine Or.inr ?_; rfl) | (refine Or.inr ?_; exact Or.inl rfl) | (refine Or.inr ?_; exact Or.inr rfl))) | refine Keep.trans ?_ (Keep.of_grown HG6.out (fun _ h => .inr h)) | refine Keep.trans ?_ HK4.out | refine Keep.trans ?_ HKT.out | refine Keep.trans ?_ (Keep.of_below HB2.out))
            · repeat (first | exact Keep.refl _ _ | refine Keep.alloc ?_ _ | refine Keep.drew ?_ | (refine Keep.setCell ?_ ?_ _; rotate_left; (first | (refine Or.inl ?_; (simp <;> omega)) | (refine Or.inr ?_; rfl) | (refine Or.inr ?_; exact Or.inl rfl) | (refine Or.inr ?_; exact Or.inr rfl))) | refine Keep.trans ?_ (Keep.of_grown HG6.out (fun _ h => .inr h)) | refine Keep.trans ?_ HK4.out | refine Keep.trans ?_ HKT.out | refine Keep.trans ?_ (Keep.of_below HB2.out))
          · rw [HST.out, HS2.out]
            show World.ownsRow _ _ _ _ _ _ (outV (st.outs ++ [(0, xorI nn (mkey k st.sent.length))]))
            rw [outV_snoc]
            exact HO5.out
        · have hs2 : pstep k most st (1, mg, nn) = st.say 2 0 := by simp only [pstep, if_true]; rw [if_neg hnn]
          have e1 : (!decide (0 ≤ nn ∧ nn < 65536)) = true := by rw [decide_eq_false hnn]; rfl
          have E1 := Lib.hid e1; have HS2 := Lib.hid hs2
          clear e1 hnn hs2
          go_wp2_with (first
            | (go_at_call 6; refine (out_any _ _).mono ?_; rintro e w' ⟨rfl, rfl⟩; rw [E1.out])
            | (at_builtin; (refine wpList_append_own _ rfl (.tmp 102) (.tmp 104) 23 rfl w.heap.size 31 ip (.agg #[.int .i64 0, .int .i64 0]) 2 16 Try.underlying23 hpi hp0 hp1 hp2 rfl (by decide) u11 i (outV st.outs) rfl (by refine Keep.own (S := fun _ => False) (w := wr) ?_ HO.out (fun _ _ h => h); repeat (first | exact Keep.refl _ _ | refine Keep.alloc ?_ _ | refine Keep.drew ?_ | (refine Keep.setCell ?_ ?_ _; rotate_left; (first | (refine Or.inl ?_; (simp <;> omega)) | (refine Or.inr ?_; rfl) | (refine Or.inr ?_; exact Or.inl rfl) | (refine Or.inr ?_; exact Or.inr rfl))) | refine Keep.trans ?_ (Keep.of_grown HG6.out (fun _ h => .inr h)) | refine Keep.trans ?_ HK4.out | refine Keep.trans ?_ HKT.out | refine Keep.trans ?_ (Keep.of_below HB2.out))) ⟨_, 0, none⟩ 1 1 [.int .i64 2, .int .i64 0] rfl rfl (cells_two (by go_simp) (by go_simp; try simpa [hml'] using hback)) (by simp [Value.oneCell']) (by unfold maxLen; omega) (by omega) (by simp; omega) ?_; intro lv' w5 hown' hgrow _; have HO5 := Lib.hid hown'; have HG5 := Lib.hid hgrow; clear hown' hgrow)))
          refine ⟨⟨i + 1, by omega, rfl, ?_, ?_⟩, by simp [intOf]; omega⟩
          · rw [HST.out, HS2.out]
            refine PC.said (PC.keep (S := fun _ => False) HC.out ?_ (fun h => h) (fun h => h) (fun h => h) (fun _ _ h => h) (fun _ h => h.elim)) (Keep.own (S := fun _ => False) (w := wr) ?_ HO.out (fun _ _ h => h)) HG5.out
            all_goals repeat (first | exact Keep.refl _ _ | refine Keep.alloc ?_ _ | refine Keep.drew ?_ | (refine Keep.setCell ?_ ?_ _; rotate_left; (first | (refine Or.inl ?_; (simp <;> omega)) | (refine Or.inr ?_; rfl) | (refine Or.inr ?_; exact Or.inl rfl) | (refine Or.inr ?_; exact Or.inr rfl))) | refine Keep.trans ?_ (Keep.of_grown HG6.out (fun _ h => .inr h)) | refine Keep.trans ?_ HK4.out | refine Keep.trans ?_ HKT.out | refine Keep.trans ?_ (Keep.of_below HB2.out))
          · rw [HST.out, HS2.out]
            have := HO5.out
            rw [show (PS.say st 2 0).outs = st.outs ++ [(2, 0)] from rfl, outV_snoc]
            exact this
      · have b1 : (kd == 1) = false := by simpa using hkd
        by_cases hkd2 : kd = 2
        · subst hkd2
          clear b1 hkd
          by_cases hm0 : mg < 0
          · have hs2 : pstep k most st (2, mg, nn) = st.say 3 0 := by
              simp only [pstep]; rw [if_neg (by decide), if_neg (by simp), if_pos (.inl hm0)]
            have b2 : decide (mg < 0) = true := by simpa using hm0
            have HS2 := Lib.hid hs2; clear hs2 hm0
            go_wp2_with (at_builtin; (refine wpList_append_own _ rfl (.tmp 102) (.tmp 104) 23 rfl w.heap.size 31 ip (.agg #[.int .i64 0, .int .i64 0]) 2 16 Try.underlying23 hpi hp0 hp1 hp2 rfl (by decide) u11 i (outV st.outs) rfl (by refine Keep.own (S := fun _ => False) (w := wr) ?_ HO.out (fun _ _ h => h); repeat (first | exact Keep.refl _ _ | refine Keep.alloc ?_ _ | refine Keep.drew ?_ | (refine Keep.setCell ?_ ?_ _; rotate_left; (first | (refine Or.inl ?_; (simp <;> omega)) | (refine Or.inr ?_; rfl) | (refine Or.inr ?_; exact Or.inl rfl) | (refine Or.inr ?_; exact Or.inr rfl))) | refine Keep.trans ?_ (Keep.of_grown HG6.out (fun _ h => .inr h)) | refine Keep.trans ?_ HK4.out | refine Keep.trans ?_ HKT.out | refine Keep.trans ?_ (Keep.of_below HB2.out))) ⟨_, 0, none⟩ 1 1 [.int .i64 3, .int .i64 0] rfl rfl (cells_two (by go_simp) (by go_simp; try simpa [hml'] using hback)) (by simp [Value.oneCell']) (by unfold maxLen; omega) (by omega) (by simp; omega) ?_; intro lv' w5 hown' hgrow _; have HO5 := Lib.hid hown'; have HG5 := Lib.hid hgrow; clear hown' hgrow))
            refine ⟨⟨i + 1, by omega, rfl, ?_, ?_⟩, by simp [intOf]; omega⟩
            · rw [HST.out, HS2.out]
              refine PC.said (PC.keep (S := fun _ => False) HC.out ?_ (fun h => h) (fun h => h) (fun h => h) (fun _ _ h => h) (fun _ h => h.elim)) (Keep.own (S := fun _ => False) (w := wr) ?_ HO.out (fun _ _ h => h)) HG5.out
              all_goals repeat (first | exact Keep.refl _ _ | refine Keep.alloc ?_ _ | refine Keep.drew ?_ | (refine Keep.setCell ?_ ?_ _; rotate_left; (first | (refine Or.inl ?_; (simp <;> omega)) | (refine Or.inr ?_; rfl) | (refine Or.inr ?_; exact Or.inl rfl) | (refine Or.inr ?_; exact Or.inr rfl))) | refine Keep.trans ?_ (Keep.of_grown HG6.out (fun _ h => .inr h)) | refine Keep.trans ?_ HK4.out | refine Keep.trans ?_ HKT.out | refine Keep.trans ?_ (Keep.of_below HB2.out))
            · rw [HST.out, HS2.out]
              have := HO5.out
              rw [show (PS.say st 3 0).outs = st.outs ++ [(3, 0)] from rfl, outV_snoc]
              exact this
          · have b2 : decide (mg < 0) = false := by simpa using hm0
            by_cases hml : (st.sent.length : Int) ≤ mg
            · have hs2 : pstep k most st (2, mg, nn) = st.say 3 0 := by
                simp only [pstep]; rw [if_neg (by decide), if_neg (by simp), if_pos (.inr hml)]
              have b3 : decide ((st.sent.length : Int) ≤ mg) = true := by simpa using hml
              have HS2 := Lib.hid hs2; clear hs2 hml hm0
              go_wp2_with (at_builtin; (refine wpList_append_own _ rfl (.tmp 102) (.tmp 104) 23 rfl w.heap.size 31 ip (.agg #[.int .i64 0, .int .i64 0]) 2 16 Try.underlying23 hpi hp0 hp1 hp2 rfl (by decide) u11 i (outV st.outs) rfl (by refine Keep.own (S := fun _ => False) (w := wr) ?_ HO.out (fun _ _ h => h); repeat (first | exact Keep.refl _ _ | refine Keep.alloc ?_ _ | refine Keep.drew ?_ | (refine Keep.setCell ?_ ?_ _; rotate_left; (first | (refine Or.inl ?_; (simp <;> omega)) | (refine Or.inr ?_; rfl) | (refine Or.inr ?_; exact Or.inl rfl) | (refine Or.inr ?_; exact Or.inr rfl))) | refine Keep.trans ?_ (Keep.of_grown HG6.out (fun _ h => .inr h)) | refine Keep.trans ?_ HK4.out | refine Keep.trans ?_ HKT.out | refine Keep.trans ?_ (Keep.of_below HB2.out))) ⟨_, 0, none⟩ 1 1 [.int .i64 3, .int .i64 0] rfl rfl (cells_two (by go_simp) (by go_simp; try simpa [hml'] using hback)) (by simp [Value.oneCell']) (by unfold maxLen; omega) (by omega) (by simp; omega) ?_; intro lv' w5 hown' hgrow _; have HO5 := Lib.hid hown'; have HG5 := Lib.hid hgrow; clear hown' hgrow))
              refine ⟨⟨i + 1, by omega, rfl, ?_, ?_⟩, by simp [intOf]; omega⟩
              · rw [HST.out, HS2.out]
                refine PC.said (PC.keep (S := fun _ => False) HC.out ?_ (fun h => h) (fun h => h) (fun h => h) (fun _ _ h => h) (fun _ h => h.elim)) (Keep.own (S := fun _ => False) (w := wr) ?_ HO.out (fun _ _ h => h)) HG5.out
                all_goals repeat (first | exact Keep.refl _ _ | refine Keep.alloc ?_ _ | refine Keep.drew ?_ | (refine Keep.setCell ?_ ?_ _; rotate_left; (first | (refine Or.inl ?_; (simp <;> omega)) | (refine Or.inr ?_; rfl) | (refine Or.inr ?_; exact Or.inl rfl) | (refine Or.inr ?_; exact Or.inr rfl))) | refine Keep.trans ?_ (Keep.of_grown HG6.out (fun _ h => .inr h)) | refine Keep.trans ?_ HK4.out | refine Keep.trans ?_ HKT.out | refine Keep.trans ?_ (Keep.of_below HB2.out))
              · rw [HST.out, HS2.out]
                have := HO5.out
                rw [show (PS.say st 3 0).outs = st.outs ++ [(3, 0)] from rfl, outV_snoc]
                exact this
            · have b3 : decide ((st.sent.length : Int) ≤ mg) = false := by simpa using hml
              obtain ⟨m, rfl⟩ := Int.eq_ofNat_of_zero_le (show 0 ≤ mg by omega)
              have hml' : m < st.sent.length := by omega
              have hps : pstep k most st (2, (m : Int), nn) = if m < st.at_ then (if m ∈ st.kept then { st with kept := st.kept.filter (· ≠ m), outs := st.outs ++ [(0, st.sent.getD m 0)] } else st.say 5 0) else if most < (st.kept.length : Int) + m - st.at_ then st.say 1 0 else { st with at_ := m + 1, kept := st.kept ++ List.range' st.at_ (m - st.at_), outs := st.outs ++ [(0, st.sent.getD m 0)] } := by
                simp only [pstep]
                rw [if_neg (by decide), if_neg (by simp), if_neg (by omega)]
                rfl
              have HPS := Lib.hid hps; clear hps hm0 hml b2 b3
              have hkl := HF.1.kept_le
              have hal := HF.1.le
              have hT1 := (HC.out.tk.keep (S := fun _ => False) (w' := (wr.alloc (.cells #[.int .i64 2, .int .i64 m, .int .i64 nn] 29)).alloc (.cells #[.int .i64 0, .int .i64 0] 31)) (((Keep.refl _ wr).alloc _).alloc _) (fun h => h) (fun h => h))
              have HT1 := Lib.hid hT1; clear hT1
              by_cases hat : m < st.at_
              · by_cases hin : m ∈ st.kept
                · have hs2 : pstep k most st (2, (m : Int), nn) = { st with kept := st.kept.filter (· ≠ m), outs := st.outs ++ [(0, st.sent.getD m 0)] } := by rw [HPS.out, if_pos hat, if_pos hin]
                  have hM : MOf k st.kept (m : Int) = some (mkey k m) := by simp [MOf, hin]
                  have HS2 := Lib.hid hs2; have HM := Lib.hid hM; have HIN := Lib.hid hin; clear hs2 hM hin
                  obtain ⟨sg, rfl, hgT, hgl, hgc⟩ := HC.out.sealAt hml'
                  have hback := HF.1.back k hml'
                  have htl := HC.out.tk.lt
                  have hT0 : ¬ Two (w.heap.size + 1) w.heap.size wr.heap.size := by rintro (e | e) <;> omega
                  have hT1' : ¬ Two (w.heap.size + 1) w.heap.size (wr.heap.size + 1) := by rintro (e | e) <;> omega
                  have HGT := Lib.hid hgT; have HGC := Lib.hid hgc; have HT0 := Lib.hid hT0; have HT1' := Lib.hid hT1'
                  clear hgT hgc hT0 hT1'
                  go_wp2_with (first
                    | (go_at_call 8; refine (open_kept _ _ _ _ _ _ _ _ _ _ HT1.out (by omega) (by omega) (by omega) HM.out).mono ?_; rintro e w4 ⟨rfl, hT4, hk4⟩; have HKT := Lib.hid (hk4.mono (S' := Two (w.heap.size + 1) w.heap.size) (fun _ _ e => .inr e)); rw [MOf_del, ← filter_len HF.1.nodup HIN.out] at hT4; have HTT := Lib.hid hT4; clear hT4 hk4; obtain ⟨d0, d1, d2, d3⟩ := box_kept HKT.out HT1'.out; have ec1 := post_kept HKT.out HT0.out; have gc := seal_kept HKT.out hgl HGT.out HGC.out; have hz4 : wr.heap.size + 2 ≤ w4.heap.size := by { have hz := HKT.out.size; simp at hz; omega })
                    | (at_builtin; (refine wpList_append_own _ rfl (.tmp 102) (.tmp 104) 23 rfl w.heap.size 31 ip (.agg #[.int .i64 0, .int .i64 0]) 2 16 Try.underlying23 hpi hp0 hp1 hp2 rfl (by decide) u11 i (outV st.outs) rfl (by refine Keep.own (S := Two (w.heap.size + 1) w.heap.size) (w := wr) ?_ HO.out (fun g hg => (HC.out.apart HO.out g hg).1); repeat (first | exact Keep.refl _ _ | refine Keep.alloc ?_ _ | refine Keep.drew ?_ | (refine Keep.setCell ?_ ?_ _; rotate_left; (first | (refine Or.inl ?_; (simp <;> omega)) | (refine Or.inr ?_; rfl) | (refine Or.inr ?_; exact Or.inl rfl) | (refine Or.inr ?_; exact Or.inr rfl))) | refine Keep.trans ?_ (Keep.of_grown HG6.out (fun _ h => .inr h)) | refine Keep.trans ?_ HK4.out | refine Keep.trans ?_ HKT.out | refine Keep.trans ?_ (Keep.of_below HB2.out))) ⟨_, 0, none⟩ 1 1 [.int .i64 0, .int .i64 (st.sent.getD m 0)] rfl rfl (cells_two (by go_simp) (by go_simp; try simpa [hml'] using hback)) (by simp [Value.oneCell']) (by unfold maxLen; omega) (by omega) (by simp; omega) ?_; intro lv' w5 hown' hgrow _; have HO5 := Lib.hid hown'; have HG5 := Lib.hid hgrow; clear hown' hgrow)))
                  refine ⟨⟨i + 1, by omega, rfl, ?_, ?_⟩, by simp [intOf]; omega⟩
                  · rw [HST.out, HS2.out]
                    refine PC.said (PC.keep (S := fun g => g = wr.heap.size + 1) (PC.took (PC.keep (S := fun _ => False) HC.out (((Keep.refl _ wr).alloc _).alloc _) (fun h => h) (fun h => h) (fun h => h) (fun _ _ h => h) (fun _ h => h.elim)) HKT.out HTT.out) ?_ ?_ ?_ ?_ ?_ ?_) (Keep.own (S := Two (w.heap.size + 1) w.heap.size) (w := wr) ?_ HO.out (fun g hg => (HC.out.apart HO.out g hg).1)) HG5.out
                    · repeat (first | exact Keep.refl _ _ | refine Keep.alloc ?_ _ | refine Keep.drew ?_ | (refine Keep.setCell ?_ ?_ _; rotate_left; (first | (refine Or.inl ?_; (simp <;> omega)) | (refine Or.inr ?_; rfl) | (refine Or.inr ?_; exact Or.inl rfl) | (refine Or.inr ?_; exact Or.inr rfl))) | refine Keep.trans ?_ (Keep.of_grown HG6.out (fun _ h => .inr h)) | refine Keep.trans ?_ HK4.out | refine Keep.trans ?_ HKT.out | refine Keep.trans ?_ (Keep.of_below HB2.out))
                    · have := lt_of_heap HC.out.key; rintro e; omega
                    · rintro e; omega
                    · rintro e; omega
                    · rintro g hg e; have := (own_block_ge HC.out.seal_ g hg).2; omega
                    · rintro g rfl; omega
                    · repeat (first | exact Keep.refl _ _ | refine Keep.alloc ?_ _ | refine Keep.drew ?_ | (refine Keep.setCell ?_ ?_ _; rotate_left; (first | (refine Or.inl ?_; (simp <;> omega)) | (refine Or.inr ?_; rfl) | (refine Or.inr ?_; exact Or.inl rfl) | (refine Or.inr ?_; exact Or.inr rfl))) | refine Keep.trans ?_ (Keep.of_grown HG6.out (fun _ h => .inr h)) | refine Keep.trans ?_ HK4.out | refine Keep.trans ?_ HKT.out | refine Keep.trans ?_ (Keep.of_below HB2.out))
                  · rw [HST.out, HS2.out]
                    show World.ownsRow _ _ _ _ _ _ (outV (st.outs ++ [(0, st.sent.getD m 0)]))
                    rw [outV_snoc]
                    exact HO5.out
                · have hs2 : pstep k most st (2, (m : Int), nn) = st.say 5 0 := by rw [HPS.out, if_pos hat, if_neg hin]
                  have hM : MOf k st.kept (m : Int) = none := by simp [MOf, hin]
                  have HS2 := Lib.hid hs2; have HM := Lib.hid hM; clear hs2 hM hin
                  go_wp2_with (first
                    | (go_at_call 8; refine (open_gone _ _ _ _ _ _ _ _ _ HT1.out (by omega) (by omega) (by omega) HM.out).mono ?_; rintro e w' ⟨rfl, rfl⟩)
                    | (at_builtin; (refine wpList_append_own _ rfl (.tmp 102) (.tmp 104) 23 rfl w.heap.size 31 ip (.agg #[.int .i64 0, .int .i64 0]) 2 16 Try.underlying23 hpi hp0 hp1 hp2 rfl (by decide) u11 i (outV st.outs) rfl (by refine Keep.own (S := fun _ => False) (w := wr) ?_ HO.out (fun _ _ h => h); repeat (first | exact Keep.refl _ _ | refine Keep.alloc ?_ _ | refine Keep.drew ?_ | (refine Keep.setCell ?_ ?_ _; rotate_left; (first | (refine Or.inl ?_; (simp <;> omega)) | (refine Or.inr ?_; rfl) | (refine Or.inr ?_; exact Or.inl rfl) | (refine Or.inr ?_; exact Or.inr rfl))) | refine Keep.trans ?_ (Keep.of_grown HG6.out (fun _ h => .inr h)) | refine Keep.trans ?_ HK4.out | refine Keep.trans ?_ HKT.out | refine Keep.trans ?_ (Keep.of_below HB2.out))) ⟨_, 0, none⟩ 1 1 [.int .i64 5, .int .i64 0] rfl rfl (cells_two (by go_simp) (by go_simp; try simpa [hml'] using hback)) (by simp [Value.oneCell']) (by unfold maxLen; omega) (by omega) (by simp; omega) ?_; intro lv' w5 hown' hgrow _; have HO5 := Lib.hid hown'; have HG5 := Lib.hid hgrow; clear hown' hgrow)))
                  refine ⟨⟨i + 1, by omega, rfl, ?_, ?_⟩, by simp [intOf]; omega⟩
                  · rw [HST.out, HS2.out]
                    refine PC.said (PC.keep (S := fun _ => False) HC.out ?_ (fun h => h) (fun h => h) (fun h => h) (fun _ _ h => h) (fun _ h => h.elim)) (Keep.own (S := fun _ => False) (w := wr) ?_ HO.out (fun _ _ h => h)) HG5.out
                    all_goals repeat (first | exact Keep.refl _ _ | refine Keep.alloc ?_ _ | refine Keep.drew ?_ | (refine Keep.setCell ?_ ?_ _; rotate_left; (first | (refine Or.inl ?_; (simp <;> omega)) | (refine Or.inr ?_; rfl) | (refine Or.inr ?_; exact Or.inl rfl) | (refine Or.inr ?_; exact Or.inr rfl))) | refine Keep.trans ?_ (Keep.of_grown HG6.out (fun _ h => .inr h)) | refine Keep.trans ?_ HK4.out | refine Keep.trans ?_ HKT.out | refine Keep.trans ?_ (Keep.of_below HB2.out))
                  · rw [HST.out, HS2.out]
                    have := HO5.out
                    rw [show (PS.say st 5 0).outs = st.outs ++ [(5, 0)] from rfl, outV_snoc]
                    exact this
              · by_cases hbig : most < (st.kept.length : Int) + m - st.at_
                · have hs2 : pstep k most st (2, (m : Int), nn) = st.say 1 0 := by rw [HPS.out, if_neg hat, if_pos hbig]
                  have HS2 := Lib.hid hs2; clear hs2
                  go_wp2_with (first
                    | (go_at_call 8; go_loud (refine (open_large _ _ _ _ _ _ _ _ _ HT1.out (by omega) (by omega) (by omega) (by omega) hbig).mono ?_; rintro e w4 ⟨rfl, hk4⟩; have HK4 := Lib.hid hk4; clear hk4; obtain ⟨d0, d1, d2, d3⟩ := box_kept HK4.out (fun h => h); have hz4 : wr.heap.size + 2 ≤ w4.heap.size := by { have hz := HK4.out.size; simp at hz; omega }))
                    | (at_builtin; (refine wpList_append_own _ rfl (.tmp 102) (.tmp 104) 23 rfl w.heap.size 31 ip (.agg #[.int .i64 0, .int .i64 0]) 2 16 Try.underlying23 hpi hp0 hp1 hp2 rfl (by decide) u11 i (outV st.outs) rfl (by refine Keep.own (S := fun _ => False) (w := wr) ?_ HO.out (fun _ _ h => h); repeat (first | exact Keep.refl _ _ | refine Keep.alloc ?_ _ | refine Keep.drew ?_ | (refine Keep.setCell ?_ ?_ _; rotate_left; (first | (refine Or.inl ?_; (simp <;> omega)) | (refine Or.inr ?_; rfl) | (refine Or.inr ?_; exact Or.inl rfl) | (refine Or.inr ?_; exact Or.inr rfl))) | refine Keep.trans ?_ (Keep.of_grown HG6.out (fun _ h => .inr h)) | refine Keep.trans ?_ HK4.out | refine Keep.trans ?_ HKT.out | refine Keep.trans ?_ (Keep.of_below HB2.out))) ⟨_, 0, none⟩ 1 1 [.int .i64 1, .int .i64 0] rfl rfl (cells_two (by go_simp) (by go_simp; try simpa [hml'] using hback)) (by simp [Value.oneCell']) (by unfold maxLen; omega) (by omega) (by simp; omega) ?_; intro lv' w5 hown' hgrow _; have HO5 := Lib.hid hown'; have HG5 := Lib.hid hgrow; clear hown' hgrow)))
                  refine ⟨⟨i + 1, by omega, rfl, ?_, ?_⟩, by simp [intOf]; omega⟩
                  · rw [HST.out, HS2.out]
                    refine PC.said (PC.keep (S := fun _ => False) HC.out ?_ (fun h => h) (fun h => h) (fun h => h) (fun _ _ h => h) (fun _ h => h.elim)) (Keep.own (S := fun _ => False) (w := wr) ?_ HO.out (fun _ _ h => h)) HG5.out
                    all_goals repeat (first | exact Keep.refl _ _ | refine Keep.alloc ?_ _ | refine Keep.drew ?_ | (refine Keep.setCell ?_ ?_ _; rotate_left; (first | (refine Or.inl ?_; (simp <;> omega)) | (refine Or.inr ?_; rfl) | (refine Or.inr ?_; exact Or.inl rfl) | (refine Or.inr ?_; exact Or.inr rfl))) | refine Keep.trans ?_ (Keep.of_grown HG6.out (fun _ h => .inr h)) | refine Keep.trans ?_ HK4.out | refine Keep.trans ?_ HKT.out | refine Keep.trans ?_ (Keep.of_below HB2.out))
                  · rw [HST.out, HS2.out]
                    have := HO5.out
                    rw [show (PS.say st 1 0).outs = st.outs ++ [(1, 0)] from rfl, outV_snoc]
                    exact this
                · have hs2 : pstep k most st (2, (m : Int), nn) = { st with at_ := m + 1, kept := st.kept ++ List.range' st.at_ (m - st.at_), outs := st.outs ++ [(0, st.sent.getD m 0)] } := by rw [HPS.out, if_neg hat, if_neg hbig]
                  have hM : ∀ x : Int, (st.at_ : Int) ≤ x → MOf k st.kept x = none := by
                    intro x hx
                    have : x.toNat ∉ st.kept := fun h => by have := HF.1.lt _ h; omega
                    simp [MOf, this]
                  have hlen : (st.kept ++ List.range' st.at_ (m - st.at_)).length = st.kept.length + (m - st.at_) := by simp
                  have hfit : (st.kept.length : Int) + m - st.at_ ≤ most := by omega
                  have HS2 := Lib.hid hs2; have HM := Lib.hid hM; have HLN := Lib.hid hlen; have HFIT := Lib.hid hfit; clear hs2 hM hlen hbig hfit
                  obtain ⟨sg, rfl, hgT, hgl, hgc⟩ := HC.out.sealAt hml'
                  have hback := HF.1.back k hml'
                  have htl := HC.out.tk.lt
                  have hT0 : ¬ Two (w.heap.size + 1) w.heap.size wr.heap.size := by rintro (e | e) <;> omega
                  have hT1' : ¬ Two (w.heap.size + 1) w.heap.size (wr.heap.size + 1) := by rintro (e | e) <;> omega
                  have HGT := Lib.hid hgT; have HGC := Lib.hid hgc; have HT0 := Lib.hid hT0; have HT1' := Lib.hid hT1'
                  clear hgT hgc hT0 hT1'
                  go_wp2_with (first
                    | (go_at_call 8; refine (open_new _ _ _ _ _ _ _ _ _ HT1.out (by omega) (by omega) (by omega) HFIT.out HM.out).mono ?_; rintro e w4 ⟨rfl, hT4, hk4⟩; have HKT := Lib.hid hk4; rw [MOf_fill, ← HLN.out] at hT4; have HTT := Lib.hid hT4; clear hT4 hk4; obtain ⟨d0, d1, d2, d3⟩ := box_kept HKT.out HT1'.out; have ec1 := post_kept HKT.out HT0.out; have gc := seal_kept HKT.out hgl HGT.out HGC.out; have hz4 : wr.heap.size + 2 ≤ w4.heap.size := by { have hz := HKT.out.size; simp at hz; omega })
                    | (at_builtin; (refine wpList_append_own _ rfl (.tmp 102) (.tmp 104) 23 rfl w.heap.size 31 ip (.agg #[.int .i64 0, .int .i64 0]) 2 16 Try.underlying23 hpi hp0 hp1 hp2 rfl (by decide) u11 i (outV st.outs) rfl (by refine Keep.own (S := Two (w.heap.size + 1) w.heap.size) (w := wr) ?_ HO.out (fun g hg => (HC.out.apart HO.out g hg).1); repeat (first | exact Keep.refl _ _ | refine Keep.alloc ?_ _ | refine Keep.drew ?_ | (refine Keep.setCell ?_ ?_ _; rotate_left; (first | (refine Or.inl ?_; (simp <;> omega)) | (refine Or.inr ?_; rfl) | (refine Or.inr ?_; exact Or.inl rfl) | (refine Or.inr ?_; exact Or.inr rfl))) | refine Keep.trans ?_ (Keep.of_grown HG6.out (fun _ h => .inr h)) | refine Keep.trans ?_ HK4.out | refine Keep.trans ?_ HKT.out | refine Keep.trans ?_ (Keep.of_below HB2.out))) ⟨_, 0, none⟩ 1 1 [.int .i64 0, .int .i64 (st.sent.getD m 0)] rfl rfl (cells_two (by go_simp) (by go_simp; try simpa [hml'] using hback)) (by simp [Value.oneCell']) (by unfold maxLen; omega) (by omega) (by simp; omega) ?_; intro lv' w5 hown' hgrow _; have HO5 := Lib.hid hown'; have HG5 := Lib.hid hgrow; clear hown' hgrow)))
                  refine ⟨⟨i + 1, by omega, rfl, ?_, ?_⟩, by simp [intOf]; omega⟩
                  · rw [HST.out, HS2.out]
                    refine PC.said (PC.keep (S := fun g => g = wr.heap.size + 1) (PC.took (PC.keep (S := fun _ => False) HC.out (((Keep.refl _ wr).alloc _).alloc _) (fun h => h) (fun h => h) (fun h => h) (fun _ _ h => h) (fun _ h => h.elim)) HKT.out HTT.out) ?_ ?_ ?_ ?_ ?_ ?_) (Keep.own (S := Two (w.heap.size + 1) w.heap.size) (w := wr) ?_ HO.out (fun g hg => (HC.out.apart HO.out g hg).1)) HG5.out
                    · repeat (first | exact Keep.refl _ _ | refine Keep.alloc ?_ _ | refine Keep.drew ?_ | (refine Keep.setCell ?_ ?_ _; rotate_left; (first | (refine Or.inl ?_; (simp <;> omega)) | (refine Or.inr ?_; rfl) | (refine Or.inr ?_; exact Or.inl rfl) | (refine Or.inr ?_; exact Or.inr rfl))) | refine Keep.trans ?_ (Keep.of_grown HG6.out (fun _ h => .inr h)) | refine Keep.trans ?_ HK4.out | refine Keep.trans ?_ HKT.out | refine Keep.trans ?_ (Keep.of_below HB2.out))
                    · have := lt_of_heap HC.out.key; rintro e; omega
                    · rintro e; omega
                    · rintro e; omega
                    · rintro g hg e; have := (own_block_ge HC.out.seal_ g hg).2; omega
                    · rintro g rfl; omega
                    · repeat (first | exact Keep.refl _ _ | refine Keep.alloc ?_ _ | refine Keep.drew ?_ | (refine Keep.setCell ?_ ?_ _; rotate_left; (first | (refine Or.inl ?_; (simp <;> omega)) | (refine Or.inr ?_; rfl) | (refine Or.inr ?_; exact Or.inl rfl) | (refine Or.inr ?_; exact Or.inr rfl))) | refine Keep.trans ?_ (Keep.of_grown HG6.out (fun _ h => .inr h)) | refine Keep.trans ?_ HK4.out | refine Keep.trans ?_ HKT.out | refine Keep.trans ?_ (Keep.of_below HB2.out))
                  · rw [HST.out, HS2.out]
                    show World.ownsRow _ _ _ _ _ _ (outV (st.outs ++ [(0, st.sent.getD m 0)]))
                    rw [outV_snoc]
                    exact HO5.out
        · have hs2 : pstep k most st (kd, mg, nn) = st.say 6 0 := by simp only [pstep]; rw [if_neg hkd, if_pos hkd2]
          have b2 : (kd != 2) = true := by simpa using hkd2
          have HS2 := Lib.hid hs2; clear hs2 hkd hkd2
          go_wp2_with (at_builtin; (refine wpList_append_own _ rfl (.tmp 102) (.tmp 104) 23 rfl w.heap.size 31 ip (.agg #[.int .i64 0, .int .i64 0]) 2 16 Try.underlying23 hpi hp0 hp1 hp2 rfl (by decide) u11 i (outV st.outs) rfl (by refine Keep.own (S := fun _ => False) (w := wr) ?_ HO.out (fun _ _ h => h); repeat (first | exact Keep.refl _ _ | refine Keep.alloc ?_ _ | refine Keep.drew ?_ | (refine Keep.setCell ?_ ?_ _; rotate_left; (first | (refine Or.inl ?_; (simp <;> omega)) | (refine Or.inr ?_; rfl) | (refine Or.inr ?_; exact Or.inl rfl) | (refine Or.inr ?_; exact Or.inr rfl))) | refine Keep.trans ?_ (Keep.of_grown HG6.out (fun _ h => .inr h)) | refine Keep.trans ?_ HK4.out | refine Keep.trans ?_ HKT.out | refine Keep.trans ?_ (Keep.of_below HB2.out))) ⟨_, 0, none⟩ 1 1 [.int .i64 6, .int .i64 0] rfl rfl (cells_two (by go_simp) (by go_simp; try simpa [hml'] using hback)) (by simp [Value.oneCell']) (by unfold maxLen; omega) (by omega) (by simp; omega) ?_; intro lv' w5 hown' hgrow _; have HO5 := Lib.hid hown'; have HG5 := Lib.hid hgrow; clear hown' hgrow))
          refine ⟨⟨i + 1, by omega, rfl, ?_, ?_⟩, by simp [intOf]; omega⟩
          · rw [HST.out, HS2.out]
            refine PC.said (PC.keep (S := fun _ => False) HC.out ?_ (fun h => h) (fun h => h) (fun h => h) (fun _ _ h => h) (fun _ h => h.elim)) (Keep.own (S := fun _ => False) (w := wr) ?_ HO.out (fun _ _ h => h)) HG5.out
            all_goals repeat (first | exact Keep.refl _ _ | refine Keep.alloc ?_ _ | refine Keep.drew ?_ | (refine Keep.setCell ?_ ?_ _; rotate_left; (first | (refine Or.inl ?_; (simp <;> omega)) | (refine Or.inr ?_; rfl) | (refine Or.inr ?_; exact Or.inl rfl) | (refine Or.inr ?_; exact Or.inr rfl))) | refine Keep.trans ?_ (Keep.of_grown HG6.out (fun _ h => .inr h)) | refine Keep.trans ?_ HK4.out | refine Keep.trans ?_ HKT.out | refine Keep.trans ?_ (Keep.of_below HB2.out))
          · rw [HST.out, HS2.out]
            have := HO5.out
            rw [show (PS.say st 6 0).outs = st.outs ++ [(6, 0)] from rfl, outV_snoc]
            exact this
    · obtain rfl : i = n := by omega
      have htk : sc.take i = sc := List.take_of_length_le (by rw [HP.out.1]; exact Nat.le_refl _)
      rw [htk] at HC HO
      obtain ⟨sA, scap, rfl⟩ := own_form HC.out.seal_
      go_wp2_with fail
      go_ret2
      exact ⟨_, rfl, HO.out, HC.out.below⟩
end Go.Proofs.Ytifegnpdclcolaa
