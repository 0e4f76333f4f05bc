/-
  primes.powers: the iterator's contract.
-/
import Derived.Test.YtlfocajlkelnbaaRange
import Derived.Test.YtlfocajlkelnbaaFac
namespace Go.Proofs.Ytlfocajlkelnbaa
open Go.RowKit Go.Shelf
attribute [local go_sem] Oper.semAt_some
/-- a prime and how often, as it comes -/
def encP (x : Nat × Nat) : Array Value := #[.agg #[.int .i64 x.1, .int .i64 x.2]]
def OneInt (w : World) (b : Nat) (m : Nat) : Prop := w.heap[b]? = some (.cells #[.int .i64 m] 2 (0, 0))
theorem OneInt.cell {w : World} {b m : Nat} (h : OneInt w b m) : w.cell? ⟨b, 0, none⟩ = some (.int .i64 m) := by rw [cell_of_row _ _ _ _ _ _ h]; rfl
theorem OneInt.frozen {w : World} {b m : Nat} (h : OneInt w b m) : w.frozen? ⟨b, 0, none⟩ = false := by unfold OneInt at h; simp [World.frozen?, h]
theorem OneInt.set_ {w : World} {b m : Nat} (h : OneInt w b m) (m' : Nat) : OneInt (w.setCell ⟨b, 0, none⟩ (.int .i64 m')) b m' := by
  unfold OneInt at h ⊢
  simp [World.setCell, Array.getElem?_modify, h]
set_option maxRecDepth 100000 in
set_option maxHeartbeats 4000000 in
theorem powers_seq (b n : Nat) (hn0 : 0 < n) (hn : n ≤ 1048576) :
    SeqCell Try.prog 32 #[.pointer (some ⟨b, 0, none⟩)] encP b (fun W => OneInt W b n) (fun xs => Fac 2 n xs) (fun pre => ∃ post, Fac 2 n (pre ++ post)) := by
  intro l J Jx W hW hJ hY h0
  have HJ := Lib.hid hJ; have HY := Lib.hid hY; clear hJ hY
  have hro : Fence.wide.round = none := rfl
  refine callsIn_of_wp Try.func32 rfl trivial ?_ hro
  simp only [Try.ntmps32, List.size_toArray, List.length_cons, List.length_nil, Nat.reduceAdd, Nat.reduceSub, Array.replicate_succ, Array.replicate_zero, List.push_toArray, List.append_toArray, List.nil_append, List.cons_append]
  gi_wp2
  gi_loopw [3] (fun pv wr => ∃ (p m : Nat) (pre : List (Nat × Nat)), pv = .int .i64 p ∧ OneInt wr b m ∧ J pre wr ∧ 2 ≤ p ∧ p ≤ n + 1 ∧ 0 < m ∧ m ≤ n ∧ Free p m ∧ (∀ l, Fac p m l → Fac 2 n (pre ++ l))) (fun pv _ => n + 2 - (intOf pv).toNat)
  case atStart => exact ⟨2, n, [], rfl, hW, h0, Nat.le_refl _, by omega, hn0, Nat.le_refl _, free_two n, fun l h => h⟩
  case round =>
    obtain ⟨p, m, pre, rfl, hm, hj, hp2, hpn, hm0, hmn, hfree, hfac⟩ := hrel
    have HM := Lib.hid hm; have HJJ := Lib.hid hj; have HFREE := Lib.hid hfree; have HFAC := Lib.hid hfac; clear hm hj hfree hfac
    have hc := HM.out.cell
    by_cases h1 : 1 < m
    · have b0 : decide ((1 : Int) < (m : Int)) = true := by simp; omega
      obtain ⟨P, hP⟩ : ∃ P, P = p * p := ⟨_, rfl⟩
      have hPlt : P ≤ 1048577 * 1048577 := by rw [hP]; exact Nat.mul_le_mul (by omega) (by omega)
      have eP : (p : Int) * (p : Int) = (P : Int) := by rw [hP]; simp
      by_cases h2 : m < P
      · have b2 : decide (m < P) = true := decide_eq_true h2
        have HPP := Lib.hid (show m < p * p by omega)
        clear hP h2
        gi_wp2
        clear b0 b2 eP
        have hqq : (m : Nat) = if m < p * p then m else p := (by rw [if_pos (by have := HPP.out; omega)])
        obtain ⟨n1, n2, n3⟩ := HFREE.out.next hp2 h1 hqq
        have HQQ := Lib.hid hqq; have HN3 := Lib.hid n3; clear hqq n3
        have hQ2 : 2 ≤ m := by omega
        have hQn : m ≤ n := by omega
        clear hc
        obtain ⟨wo, rfl⟩ : ∃ wo : World, wo = wr := ⟨_, rfl⟩
        gi_loopw [4] (fun kv wr => ∃ (k m' : Nat), kv = .int .i64 k ∧ k ≤ 20 ∧ OneInt wr b m' ∧ J pre wr ∧ m = m ^ k * m' ∧ 0 < m') (fun kv _ => 30 - (intOf kv).toNat)
        case atStart => exact ⟨0, m, rfl, by omega, HM.out, HJJ.out, by simp, hm0⟩
        case round =>
          obtain ⟨k, m', rfl, hk20, hm', hj', hmk, hm'0⟩ := hrel
          have hle : m' ≤ m := by rw [hmk]; exact Nat.le_mul_of_pos_left _ (Nat.pow_pos (by omega))
          have HM' := Lib.hid hm'; have HJ' := Lib.hid hj'; have HMK := Lib.hid hmk; clear hm' hj' hmk
          have hc' := HM'.out.cell
          have hz' := HM'.out.frozen
          have e1 : (m' : Int) % (m : Int) = ((m' % m : Nat) : Int) := rfl
          have e2 : (m' : Int) / (m : Int) = ((m' / m : Nat) : Int) := rfl
          have e3 : m' % m + m * (m' / m) = m' := Nat.mod_add_div m' m
          obtain ⟨r, hr⟩ : ∃ r, r = m' % m := ⟨_, rfl⟩
          obtain ⟨u, hu⟩ : ∃ u, u = m' / m := ⟨_, rfl⟩
          rw [← hr] at e1 e3
          rw [← hu] at e2 e3
          have hum : u ≤ m' := by rw [hu]; exact Nat.div_le_self _ _
          have E3 := Lib.hid e3; have HRR := Lib.hid hr; clear hr hu e3
          by_cases hr0 : r = 0
          · subst hr0
            have hstep : m = m ^ (k + 1) * u := by
              have := E3.out
              rw [Nat.zero_add] at this
              exact HMK.out.trans (by rw [Nat.pow_succ, Nat.mul_assoc, this])
            have hu0 : 0 < u := by
              rcases Nat.eq_zero_or_pos u with h | h
              · subst h; have := hstep; simp at this; omega
              · exact h
            have hk19 : k + 1 ≤ 20 := by
              apply Classical.byContradiction
              intro hn20
              have a1 : 2 ^ 21 ≤ m ^ (k + 1) := Nat.le_trans (Nat.pow_le_pow_right (by decide) (show 21 ≤ k + 1 by omega)) (Nat.pow_le_pow_left hQ2 _)
              have a2 : m ^ (k + 1) ≤ m := Nat.le_of_dvd hm0 ⟨u, hstep⟩
              have a3 : (2 : Nat) ^ 21 = 2097152 := rfl
              omega
            have HST := Lib.hid hstep; clear hstep
            gi_wp2
            refine ⟨⟨k + 1, u, by go_num, hk19, HM'.out.set_ u, HJ.out _ _ _ HJ'.out, HST.out, hu0⟩, by simp [intOf]; omega⟩
          · have b3 : (((r : Nat) : Int) == 0) = false := by simp; omega
            have hnd : ¬ m ∣ m' := fun hd => hr0 (by rw [HRR.out]; exact Nat.mod_eq_zero_of_dvd hd)
            have HND := Lib.hid hnd; clear hnd hr0
            by_cases hk0 : k = 0
            · subst hk0
              have hmm : m = m' := by have := HMK.out; simpa using this
              subst hmm
              exact absurd (Nat.dvd_refl _) HND.out
            · have b4 : decide ((0 : Int) < (k : Int)) = true := by simp; omega
              obtain ⟨d, rfl⟩ : ∃ d, k = d + 1 := ⟨k - 1, by omega⟩
              obtain ⟨kk, hkk⟩ : ∃ kk, kk = d + 1 := ⟨_, rfl⟩
              rw [← hkk] at b4 hk20 hk0 ⊢
              have hk1 : 0 < kk := by omega
              obtain ⟨fn, tmps, assign, body, hy, hR⟩ := HY.out pre (m, kk) wr HJ'.out
              simp only [encP] at hy
              have HKK := Lib.hid hkk; have HRD := Lib.hid hR; clear hkk hk0 hR e2
              have hpost : ∃ post, Fac 2 n ((pre ++ [(m, kk)]) ++ post) ∧ ∀ l, Fac (m + 1) m' l → Fac 2 n ((pre ++ [(m, kk)]) ++ l) := by
                have hf : Free (m + 1) m' := HN3.out.strip HMK.out HND.out
                obtain ⟨l, hl⟩ := fac_total n _ (m + 1) m' (by omega) (Nat.le_refl _) (by omega) hm'0 hf
                have hall : ∀ l, Fac (m + 1) m' l → Fac 2 n ((pre ++ [(m, kk)]) ++ l) := fun l hl => by
                  rw [List.append_assoc]
                  refine HFAC.out _ ?_
                  rw [HKK.out]
                  exact .hit p m m d m' l h1 HQQ.out HMK.out HND.out hl
                exact ⟨l, hall l hl, hall⟩
              have HPOST := Lib.hid hpost; clear hpost
              gi_wp2
              refine HRD.out.mono ?_
              rintro e W' (⟨rfl, hJ2, hb2⟩ | ⟨rfl, hJx2⟩)
              · have hm2 : OneInt W' b m' := by unfold OneInt; rw [hb2]; exact HM'.out
                have HM2 := Lib.hid hm2; have HJ2 := Lib.hid hJ2; clear hm2 hJ2 hb2
                gi_wp2
                refine ⟨⟨m + 1, m', pre ++ [(m, kk)], by go_num, HM2.out, HJ2.out, by omega, by omega, hm'0, by omega, HN3.out.strip HMK.out HND.out, fun l hl => by obtain ⟨_, _, h⟩ := HPOST.out; exact h l hl⟩, by simp [intOf]; omega⟩
              · have HJX := Lib.hid hJx2; clear hJx2
                gi_wp2
                refine bodyPost_ret (results_none rfl _ _ _) rfl ?_
                obtain ⟨post, h, _⟩ := HPOST.out
                exact ⟨⟨_, rfl⟩, .inr ⟨_, ⟨post, h⟩, HJX.out⟩⟩
      · have b2 : decide (m < P) = false := decide_eq_false h2
        have HPP := Lib.hid (show ¬ m < p * p by omega)
        clear hP h2
        gi_wp2
        clear b0 b2 eP
        have hqq : (p : Nat) = if m < p * p then m else p := (by rw [if_neg (by have := HPP.out; omega)])
        obtain ⟨n1, n2, n3⟩ := HFREE.out.next hp2 h1 hqq
        have HQQ := Lib.hid hqq; have HN3 := Lib.hid n3; clear hqq n3
        have hQ2 : 2 ≤ p := by omega
        have hQn : p ≤ n := by omega
        clear hc
        obtain ⟨wo, rfl⟩ : ∃ wo : World, wo = wr := ⟨_, rfl⟩
        gi_loopw [4] (fun kv wr => ∃ (k m' : Nat), kv = .int .i64 k ∧ k ≤ 20 ∧ OneInt wr b m' ∧ J pre wr ∧ m = p ^ k * m' ∧ 0 < m') (fun kv _ => 30 - (intOf kv).toNat)
        case atStart => exact ⟨0, m, rfl, by omega, HM.out, HJJ.out, by simp, hm0⟩
        case round =>
          obtain ⟨k, m', rfl, hk20, hm', hj', hmk, hm'0⟩ := hrel
          have hle : m' ≤ m := by rw [hmk]; exact Nat.le_mul_of_pos_left _ (Nat.pow_pos (by omega))
          have HM' := Lib.hid hm'; have HJ' := Lib.hid hj'; have HMK := Lib.hid hmk; clear hm' hj' hmk
          have hc' := HM'.out.cell
          have hz' := HM'.out.frozen
          have e1 : (m' : Int) % (p : Int) = ((m' % p : Nat) : Int) := rfl
          have e2 : (m' : Int) / (p : Int) = ((m' / p : Nat) : Int) := rfl
          have e3 : m' % p + p * (m' / p) = m' := Nat.mod_add_div m' p
          obtain ⟨r, hr⟩ : ∃ r, r = m' % p := ⟨_, rfl⟩
          obtain ⟨u, hu⟩ : ∃ u, u = m' / p := ⟨_, rfl⟩
          rw [← hr] at e1 e3
          rw [← hu] at e2 e3
          have hum : u ≤ m' := by rw [hu]; exact Nat.div_le_self _ _
          have E3 := Lib.hid e3; have HRR := Lib.hid hr; clear hr hu e3
          by_cases hr0 : r = 0
          · subst hr0
            have hstep : m = p ^ (k + 1) * u := by
              have := E3.out
              rw [Nat.zero_add] at this
              exact HMK.out.trans (by rw [Nat.pow_succ, Nat.mul_assoc, this])
            have hu0 : 0 < u := by
              rcases Nat.eq_zero_or_pos u with h | h
              · subst h; have := hstep; simp at this; omega
              · exact h
            have hk19 : k + 1 ≤ 20 := by
              apply Classical.byContradiction
              intro hn20
              have a1 : 2 ^ 21 ≤ p ^ (k + 1) := Nat.le_trans (Nat.pow_le_pow_right (by decide) (show 21 ≤ k + 1 by omega)) (Nat.pow_le_pow_left hQ2 _)
              have a2 : p ^ (k + 1) ≤ m := Nat.le_of_dvd hm0 ⟨u, hstep⟩
              have a3 : (2 : Nat) ^ 21 = 2097152 := rfl
              omega
            have HST := Lib.hid hstep; clear hstep
            gi_wp2
            refine ⟨⟨k + 1, u, by go_num, hk19, HM'.out.set_ u, HJ.out _ _ _ HJ'.out, HST.out, hu0⟩, by simp [intOf]; omega⟩
          · have b3 : (((r : Nat) : Int) == 0) = false := by simp; omega
            have hnd : ¬ p ∣ m' := fun hd => hr0 (by rw [HRR.out]; exact Nat.mod_eq_zero_of_dvd hd)
            have HND := Lib.hid hnd; clear hnd hr0
            by_cases hk0 : k = 0
            · subst hk0
              have hmm : m = m' := by have := HMK.out; simpa using this
              subst hmm
              gi_wp2
              refine ⟨fun _ h => (by cases h), ?_⟩
              gi_wp2
              refine ⟨⟨p + 1, m, pre, by go_num, HM'.out, HJ'.out, by omega, by omega, hm0, hmn, HN3.out.strip (k := 0) (by simp) HND.out, fun l hl => HFAC.out l (.miss p m p l h1 HQQ.out HND.out hl)⟩, by simp [intOf]; omega⟩
            · have b4 : decide ((0 : Int) < (k : Int)) = true := by simp; omega
              obtain ⟨d, rfl⟩ : ∃ d, k = d + 1 := ⟨k - 1, by omega⟩
              obtain ⟨kk, hkk⟩ : ∃ kk, kk = d + 1 := ⟨_, rfl⟩
              rw [← hkk] at b4 hk20 hk0 ⊢
              have hk1 : 0 < kk := by omega
              obtain ⟨fn, tmps, assign, body, hy, hR⟩ := HY.out pre (p, kk) wr HJ'.out
              simp only [encP] at hy
              have HKK := Lib.hid hkk; have HRD := Lib.hid hR; clear hkk hk0 hR e2
              have hpost : ∃ post, Fac 2 n ((pre ++ [(p, kk)]) ++ post) ∧ ∀ l, Fac (p + 1) m' l → Fac 2 n ((pre ++ [(p, kk)]) ++ l) := by
                have hf : Free (p + 1) m' := HN3.out.strip HMK.out HND.out
                obtain ⟨l, hl⟩ := fac_total n _ (p + 1) m' (by omega) (Nat.le_refl _) (by omega) hm'0 hf
                have hall : ∀ l, Fac (p + 1) m' l → Fac 2 n ((pre ++ [(p, kk)]) ++ l) := fun l hl => by
                  rw [List.append_assoc]
                  refine HFAC.out _ ?_
                  rw [HKK.out]
                  exact .hit p m p d m' l h1 HQQ.out HMK.out HND.out hl
                exact ⟨l, hall l hl, hall⟩
              have HPOST := Lib.hid hpost; clear hpost
              gi_wp2
              refine HRD.out.mono ?_
              rintro e W' (⟨rfl, hJ2, hb2⟩ | ⟨rfl, hJx2⟩)
              · have hm2 : OneInt W' b m' := by unfold OneInt; rw [hb2]; exact HM'.out
                have HM2 := Lib.hid hm2; have HJ2 := Lib.hid hJ2; clear hm2 hJ2 hb2
                gi_wp2
                refine ⟨⟨p + 1, m', pre ++ [(p, kk)], by go_num, HM2.out, HJ2.out, by omega, by omega, hm'0, by omega, HN3.out.strip HMK.out HND.out, fun l hl => by obtain ⟨_, _, h⟩ := HPOST.out; exact h l hl⟩, by simp [intOf]; omega⟩
              · have HJX := Lib.hid hJx2; clear hJx2
                gi_wp2
                refine bodyPost_ret (results_none rfl _ _ _) rfl ?_
                obtain ⟨post, h, _⟩ := HPOST.out
                exact ⟨⟨_, rfl⟩, .inr ⟨_, ⟨post, h⟩, HJX.out⟩⟩
    · have b1 : decide ((1 : Int) < (m : Int)) = false := by simp; omega
      gi_wp2
      go_end0
      exact ⟨⟨_, rfl⟩, .inl ⟨pre, by have := HFAC.out [] (.done _ _ (by omega)); simpa using this, HJJ.out⟩⟩
end Go.Proofs.Ytlfocajlkelnbaa
