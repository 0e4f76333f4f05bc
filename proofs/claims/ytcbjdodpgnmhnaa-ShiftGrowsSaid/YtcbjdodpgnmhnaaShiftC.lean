/-
  Shift: massey.
-/
import Derived.Test.YtcbjdodpgnmhnaaShiftB
import Derived.Deep.QuietTactic
import Derived.BigQuiet
import Derived.RegionTactic
namespace Go.Proofs.Ytcbjdodpgnmhnaa
open Go.RowKit
/-- two words in a block of their own -/
def Two (w : World) (g : Nat) (lo hi : Nat) : Prop := w.heap[g]? = some (.cells #[.int .u64 lo, .int .u64 hi] 37 (0, 0))
theorem Two.c0 {w : World} {g lo hi : Nat} (h : Two w g lo hi) : w.cell? ⟨g, 0, none⟩ = some (.int .u64 lo) := by rw [cell_of_row _ _ _ _ _ _ h]; rfl
theorem Two.c1 {w : World} {g lo hi : Nat} (h : Two w g lo hi) : w.cell? ⟨g, 1, none⟩ = some (.int .u64 hi) := by rw [cell_of_row _ _ _ _ _ _ h]; rfl
theorem Two.frozen {w : World} {g lo hi : Nat} (h : Two w g lo hi) (i : Nat) : w.frozen? ⟨g, i, none⟩ = false := by
  unfold Two at h; simp [World.frozen?, h]
theorem Two.lt {w : World} {g lo hi : Nat} (h : Two w g lo hi) : g < w.heap.size := by
  rcases Nat.lt_or_ge g w.heap.size with hlt | hge
  · exact hlt
  · unfold Two at h; rw [Array.getElem?_eq_none hge] at h; cases h
theorem Two.set0 {w : World} {g lo hi : Nat} (h : Two w g lo hi) (x : Nat) : Two (w.setCell ⟨g, 0, none⟩ (.int .u64 x)) g x hi := by
  unfold Two at h ⊢
  simp [World.setCell, Array.getElem?_modify, h]
theorem Two.set1 {w : World} {g lo hi : Nat} (h : Two w g lo hi) (x : Nat) : Two (w.setCell ⟨g, 1, none⟩ (.int .u64 x)) g lo x := by
  unfold Two at h ⊢
  simp [World.setCell, Array.getElem?_modify, h]
theorem Two.far {w : World} {g lo hi : Nat} (h : Two w g lo hi) {p : Addr} (hp : g ≠ p.block) (u : Value) : Two (w.setCell p u) g lo hi := (Below.heap_setCell w p u g hp).trans h
theorem Two.drew {w : World} {g lo hi : Nat} (h : Two w g lo hi) : Two w.drew g lo hi := h
theorem Two.keep {S : Nat → Prop} {w w' : World} {g lo hi : Nat} (h : Two w g lo hi) (hk : Keep S w w') (hs : ¬ S g) : Two w' g lo hi := (hk.block g h.lt hs).trans h
def MasseyEnd (l : List Bool) (n : Nat) (w : World) (e : Ending) (w' : World) : Prop :=
  ∃ (x : Int) (L : Nat) (c b : Nat → Bool) (k : Nat), e = .returned (.tuple #[.int .u64 x, .int .i64 L]) ∧ Bm (fun i => l.getD i false) c b L k n ∧ Keep (fun _ => False) w w'
set_option maxRecDepth 100000 in
set_option maxHeartbeats 4000000 in
theorem massey_any (A : Option Addr) (n c : Nat) (l : List Bool) (w : World) (h : Bts w w.heap.size A n l) (hn : n ≤ 64) :
    Calls Try.prog 10 #[.slice A n c] w (MasseyEnd l n w) := by
  have H := Lib.hid h; clear h
  go_enter Try.func10, Try.ntmps10
  go_wp2
  obtain ⟨g, hg⟩ : ∃ g, g = w.heap.size := ⟨_, rfl⟩
  rw [← hg]
  have HG := Lib.hid hg; clear hg
  go_loopw [6, 7, 16] (fun Lv kv tv wr => ∃ (i L k lo hi lob hib : Nat), i ≤ n ∧ tv = .int .i64 i ∧ Lv = .int .i64 L ∧ kv = .int .i64 k ∧ lo < 18446744073709551616 ∧ hi < 18446744073709551616 ∧ lob < 18446744073709551616 ∧ hib < 18446744073709551616 ∧
    Two wr g lo hi ∧ Two wr (g + 1) lob hib ∧ Bm (fun i => l.getD i false) (cbit lo hi) (cbit lob hib) L k i ∧ Keep (fun _ => False) w wr) (fun _ _ tv _ => n - (intOf tv).toNat)
  case atStart =>
    have h1 := heap_alloc_new w (.cells #[.int .u64 1, .int .u64 0] 37)
    have h2 := heap_alloc_new (w.alloc (.cells #[.int .u64 1, .int .u64 0] 37)) (.cells #[.int .u64 1, .int .u64 0] 37)
    have h1' := (Below.heap_alloc (w.alloc (.cells #[.int .u64 1, .int .u64 0] 37)) (.cells #[.int .u64 1, .int .u64 0] 37) w.heap.size (by simp)).trans h1
    rw [World.size_alloc] at h2
    refine ⟨0, 0, 1, 1, 0, 1, 0, Nat.zero_le _, rfl, rfl, rfl, by decide, by decide, by decide, by decide, by unfold Two; rw [HG.out]; exact h1', by unfold Two; rw [HG.out]; exact h2, ?_, ((Keep.refl _ _).alloc _).alloc _⟩
    refine Bm.start _ _ (by decide) fun i hi => ?_
    unfold cbit
    split
    · cases hb : (1 : Nat).testBit i
      · rfl
      · have := Nat.testBit_one_eq_true_iff_self_eq_zero.1 hb; omega
    · simp
  case round =>
    obtain ⟨i, L, k, lo, hi, lob, hib, hin, rfl, rfl, rfl, q1, q2, q3, q4, ht1, ht2, hbm, hk⟩ := hrel
    have HT1 := Lib.hid ht1; have HT2 := Lib.hid ht2; have HBM := Lib.hid hbm; have HK := Lib.hid hk; clear ht1 ht2 hbm hk
    have hLi := HBM.out.le
    have hk1 := HBM.out.kpos
    have hkn := HBM.out.kle
    by_cases hlt : i < n
    · have b0 : decide (i < n) = true := decide_eq_true hlt
      go_wp2_with fail
      clear b0
      obtain ⟨wo, rfl⟩ : ∃ wo : World, wo = wr := ⟨_, rfl⟩
      go_loop [9, 10] (fun pv jv => ∃ j : Nat, j ≤ L ∧ jv = .int .i64 (j + 1 : Nat) ∧ pv = .int .u64 (wdN (fun x => l.getD (i - 1 - x) false) j)) (fun _ jv => L + 1 - (intOf jv).toNat)
      case atStart => exact ⟨0, Nat.zero_le _, rfl, rfl⟩
      case round =>
        obtain ⟨j, hj, rfl, rfl⟩ := hrel
        by_cases hjL : j < L
        · have hidx : i - 1 - j < n := by omega
          obtain ⟨b, off, rfl, hb, hc⟩ := (H.out.keep HK.out).at_ (Below.refl _ _) hidx
          have hs : wdN (fun x => l.getD (i - 1 - x) false) (j + 1) = wdN (fun x => l.getD (i - 1 - x) false) j ||| (if l.getD (i - 1 - j) false then 2 ^ j else 0) := rfl
          have hw := Nat.lt_of_lt_of_le (wdN_lt (fun x => l.getD (i - 1 - x) false) j) (pow64 (by omega))
          have e1 : (i : Int) - ((j : Int) + 1) = ((i - 1 - j : Nat) : Int) := by omega
          have HS := Lib.hid hs; clear hs
          generalize l.getD (i - 1 - j) false = x at *
          generalize wdN (fun x => l.getD (i - 1 - x) false) j = y at *
          obtain ⟨d, hd⟩ : ∃ d, d = i - 1 - j := ⟨_, rfl⟩
          rw [← hd] at hc e1 hidx
          have HD := Lib.hid hd; clear hd
          cases x with
          | false =>
            go_wp2_with fail
            refine ⟨⟨j + 1, by omega, by go_num, ?_⟩, by simp [intOf]; omega⟩
            rw [HS.out]; simp
          | true =>
            go_wp2_with fail
            refine ⟨⟨j + 1, by omega, by go_num, ?_⟩, by simp [intOf]; omega⟩
            rw [HS.out, or_pow hw (by omega)]; simp
        · obtain rfl : j = L := by omega
          clear hjL hj
          obtain ⟨b, off, rfl, hb, hc⟩ := (H.out.keep HK.out).at_ (Below.refl _ _) hlt
          obtain ⟨p, hp⟩ : ∃ p, p = wdN (fun x => l.getD (i - 1 - x) false) j := ⟨_, rfl⟩
          have hp64 : p < 18446744073709551616 := by rw [hp]; exact Nat.lt_of_lt_of_le (wdN_lt _ _) (pow64 (by omega))
          rw [← hp]
          have hc0 := HT1.out.c0
          have hc1 := HT1.out.c1
          obtain ⟨h1, hh1⟩ : ∃ h1, h1 = hi * 9223372036854775808 % 18446744073709551616 := ⟨_, rfl⟩
          have h1lt : h1 < 18446744073709551616 := by omega
          have f1 : IntKind.u64.wrap ((hi : Int) * 9223372036854775808) = (h1 : Int) := by rw [IntKind.wrap_u64]; omega
          obtain ⟨T, hT⟩ : ∃ T, T = lo / 2 ||| h1 := ⟨_, rfl⟩
          have f2 : bits .or .u64 ((lo : Int) / 2) (h1 : Int) = (T : Int) := by rw [hT]; exact u64_or_nat (lo / 2) h1 (by omega) h1lt
          have T64 : T < 18446744073709551616 := by rw [hT]; exact Nat.or_lt_two_pow (n := 64) (by omega) h1lt
          obtain ⟨z, hz⟩ : ∃ z, z = p &&& T := ⟨_, rfl⟩
          have f3 : bits .and .u64 (p : Int) (T : Int) = (z : Int) := by rw [hz]; exact u64_and_nat p T hp64 T64
          have z64 : z < 18446744073709551616 := by rw [hz]; exact Nat.and_lt_two_pow (n := 64) _ T64
          have hfo := foretell (s := fun x => l.getD x false) HBM.out.rule.one HBM.out.rule.deg hLi z (fun q hq => by
            rw [hz, Nat.testBit_and, hp, wdN_bit, hT, hh1, half_bit lo hi q q1 hq]) (by omega)
          obtain ⟨r, hr⟩ : ∃ r, r = xs 64 (fun i => z.testBit i) := ⟨_, rfl⟩
          rw [← hr] at hfo
          have HR := Lib.hid hr
          obtain ⟨x, hx⟩ : ∃ x, x = l.getD i false := ⟨_, rfl⟩
          rw [← hx] at hfo hc
          have HX := Lib.hid hx
          have hodd : ∀ W : World, Calls Try.prog 14 #[.int .u64 z] W fun e w' => e = .returned (.bool r) ∧ w' = W := fun W => (odd_any z z64 W).mono fun _ _ h => ⟨by rw [h.1, HR.out], h.2.symm⟩
          have HODD := Lib.hid hodd
          clear hp hh1 hT hz hr hx hodd
          cases hd : D (cbit lo hi) (fun x => l.getD x false) i with
          | false =>
            rw [hd] at hfo
            have hfo : (r == x) = true := hfo
            have HD := Lib.hid hd; clear hd
            go_wp2_with fail
            go_quiet ((go_at_call 14; exact Calls.quiet_of_same (HODD.out _)))
            generalize hw2 : wo.drewN _ = w2
            have hk2 : Keep (fun _ => False) wo w2 := by rw [← hw2]; exact (Keep.refl _ _).drewN _
            have HK2 := Lib.hid hk2; clear hw2 hk2 hc hc0 hc1 f1 f2 f3
            go_wp2_with fail
            refine ⟨⟨i + 1, j, k + 1, lo, hi, lob, hib, by omega, rfl, rfl, rfl, q1, q2, q3, q4, HT1.out.keep HK2.out (fun h => h), HT2.out.keep HK2.out (fun h => h), HBM.out.fits HD.out, HK.out.trans HK2.out⟩, by simp [intOf]; omega⟩
          | true =>
            rw [hd] at hfo
            have hfo : (r == x) = false := hfo
            have HD := Lib.hid hd; clear hd
            go_wp2_with fail
            go_quiet ((go_at_call 14; exact Calls.quiet_of_same (HODD.out _)))
            generalize hw2 : wo.drewN _ = w2
            have hk2 : Keep (fun _ => False) wo w2 := by rw [← hw2]; exact (Keep.refl _ _).drewN _
            have HK2 := Lib.hid hk2; clear hw2 hk2 hc hc0 hc1 f1 f2 f3
            have ht1 := HT1.out.keep HK2.out (fun h => h)
            have ht2 := HT2.out.keep HK2.out (fun h => h)
            have hd0 := ht1.c0; have hd1 := ht1.c1; have he0 := ht2.c0; have he1 := ht2.c1
            have hglt := ht1.lt; have hg1lt := ht2.lt
            have HT1' := Lib.hid ht1; have HT2' := Lib.hid ht2; clear ht1 ht2
            go_wp2_with fail
            clear hd0 hd1 he0 he1
            obtain ⟨G, hG⟩ : ∃ G, G = w2.heap.size := ⟨_, rfl⟩
            rw [← hG] at hglt hg1lt ⊢
            obtain ⟨w3, hw3⟩ : ∃ w3, w3 = w2.alloc (.cells #[.int .u64 lo, .int .u64 hi] 37) := ⟨_, rfl⟩
            rw [← hw3]
            have hk3 : Keep (fun _ => False) w2 w3 := by rw [hw3]; exact (Keep.refl _ _).alloc _
            have t1 : Two w3 g lo hi := HT1'.out.keep hk3 (fun h => h)
            have t2 : Two w3 (g + 1) lob hib := HT2'.out.keep hk3 (fun h => h)
            have t3 : Two w3 G lo hi := by unfold Two; rw [hw3, hG]; exact heap_alloc_new w2 _
            have HK3 := Lib.hid ((HK.out.trans HK2.out).trans hk3)
            clear hk3 hw3 hG
            have a0 := t1.c0; have a1 := t1.c1; have a2 := t2.c0; have a3 := t2.c1; have z0 := t1.frozen 0; have z1 := t1.frozen 1
            have T1 := Lib.hid t1; have T2 := Lib.hid t2; have T3 := Lib.hid t3; clear t1 t2 t3
            obtain ⟨s1, hs1⟩ : ∃ s1, s1 = lob * 2 ^ k % 18446744073709551616 := ⟨_, rfl⟩
            have f1 : IntKind.u64.wrap ((lob : Int) * 2 ^ k) = (s1 : Int) := by
              rw [IntKind.wrap_u64, hs1]; simp
            have s1lt : s1 < 18446744073709551616 := by omega
            obtain ⟨lo', hlo'⟩ : ∃ lo', lo' = lo ^^^ s1 := ⟨_, rfl⟩
            have f2 : bits .xor .u64 (lo : Int) (s1 : Int) = (lo' : Int) := by rw [hlo']; exact u64_xor_nat lo s1 q1 s1lt
            have lo'lt : lo' < 18446744073709551616 := by rw [hlo']; exact Nat.xor_lt_two_pow (n := 64) q1 s1lt
            have HS1 := Lib.hid hs1; have HLO := Lib.hid hlo'; clear hs1 hlo'
            go_region
            clear f1 f2 a0 a1 a2 a3 z0 z1
            obtain ⟨w4, hw4⟩ : ∃ w4, w4 = (w3.setCell ⟨g, 0, none⟩ (.int .u64 lo')).drew := ⟨_, rfl⟩
            rw [← hw4]
            have hk4 : Keep (fun b => b = g) w3 w4 := by rw [hw4]; exact ((Keep.refl (fun b => b = g) _).setCell (p := ⟨g, 0, none⟩) (.inr rfl) _).drew
            have t1 : Two w4 g lo' hi := by rw [hw4]; exact (T1.out.set0 lo').drew
            have t2 : Two w4 (g + 1) lob hib := T2.out.keep hk4 (by omega)
            have t3 : Two w4 G lo hi := T3.out.keep hk4 (by omega)
            have HK4 := Lib.hid (HK3.out.then_ hk4 (fun b hb => by rw [hb, HG.out]; exact Nat.le_refl _))
            clear hk4 hw4
            have a0 := t1.c0; have a1 := t1.c1; have a2 := t2.c0; have a3 := t2.c1; have z0 := t1.frozen 0; have z1 := t1.frozen 1
            have T1' := Lib.hid t1; have T2' := Lib.hid t2; have T3' := Lib.hid t3; clear t1 t2 t3
            obtain ⟨s2, hs2⟩ : ∃ s2, s2 = hib * 2 ^ k % 18446744073709551616 := ⟨_, rfl⟩
            have f1 : IntKind.u64.wrap ((hib : Int) * 2 ^ k) = (s2 : Int) := by
              rw [IntKind.wrap_u64, hs2]; simp
            have s2lt : s2 < 18446744073709551616 := by omega
            obtain ⟨r1, hr1⟩ : ∃ r1, r1 = lob / 2 ^ (64 - k) := ⟨_, rfl⟩
            have f2 : (lob : Int) / 2 ^ (64 - k) = (r1 : Int) := by rw [hr1]; simp
            have r1lt : r1 < 18446744073709551616 := by rw [hr1]; exact Nat.lt_of_le_of_lt (Nat.div_le_self _ _) q3
            have f3 : bits .or .u64 (s2 : Int) (r1 : Int) = ((s2 ||| r1 : Nat) : Int) := u64_or_nat s2 r1 s2lt r1lt
            have olt : s2 ||| r1 < 18446744073709551616 := Nat.or_lt_two_pow (n := 64) s2lt r1lt
            obtain ⟨o1, ho1⟩ : ∃ o1, o1 = s2 ||| r1 := ⟨_, rfl⟩
            rw [← ho1] at f3 olt
            obtain ⟨hi', hhi'⟩ : ∃ hi', hi' = hi ^^^ o1 := ⟨_, rfl⟩
            have f4 : bits .xor .u64 (hi : Int) (o1 : Int) = (hi' : Int) := by rw [hhi']; exact u64_xor_nat hi o1 q2 olt
            have hi'lt : hi' < 18446744073709551616 := by rw [hhi']; exact Nat.xor_lt_two_pow (n := 64) q2 olt
            have HS2 := Lib.hid hs2; have HR1 := Lib.hid hr1; have HO1 := Lib.hid ho1; have HHI := Lib.hid hhi'; clear hs2 hr1 ho1 hhi'
            go_wp2_with fail
            go_region
            clear f1 f2 f3 f4 a0 a1 a2 a3 z0 z1
            obtain ⟨w5, hw5⟩ : ∃ w5, w5 = (w4.setCell ⟨g, 1, none⟩ (.int .u64 hi')).drew := ⟨_, rfl⟩
            rw [← hw5]
            have hk5 : Keep (fun b => b = g) w4 w5 := by rw [hw5]; exact ((Keep.refl (fun b => b = g) _).setCell (p := ⟨g, 1, none⟩) (.inr rfl) _).drew
            have t1 : Two w5 g lo' hi' := by rw [hw5]; exact (T1'.out.set1 hi').drew
            have t2 : Two w5 (g + 1) lob hib := T2'.out.keep hk5 (by omega)
            have t3 : Two w5 G lo hi := T3'.out.keep hk5 (by omega)
            have HK5 := Lib.hid (HK4.out.then_ hk5 (fun b hb => by rw [hb, HG.out]; exact Nat.le_refl _))
            clear hk5 hw5
            have hbdeg : ∀ q, 64 ≤ q → cbit lob hib q = false := by
              intro q hq
              rcases HBM.out.mend with ⟨_, _, h3⟩ | ⟨m, Lb, h3, h4, h5, h6, h7, h8⟩
              · exact h3 q (by omega)
              · exact h7.deg q (by omega)
            have hnew : cbit lo' hi' = plus (cbit lo hi) (cbit lob hib) k := by
              funext q
              have := upd lo hi lob hib k q q3 hk1 (by omega) hbdeg
              rw [← HS1.out, ← HLO.out, ← HS2.out, ← HR1.out, ← HO1.out, ← HHI.out] at this
              exact this
            have HNEW := Lib.hid hnew; clear hnew hbdeg
            by_cases h2L : 2 * j ≤ i
            · have b2 : decide (2 * (j : Int) ≤ (i : Int)) = true := by simp; omega
              have hsh := HBM.out.short HD.out h2L
              rw [← HNEW.out] at hsh
              have HSH := Lib.hid hsh; clear hsh
              have d0 := t3.c0; have d1 := t3.c1; have e0 := t2.c0; have e1 := t2.c1; have z0 := t2.frozen 0; have z1 := t2.frozen 1
              have T1'' := Lib.hid t1; have T2'' := Lib.hid t2; clear t1 t2 t3
              go_wp2_with fail
              go_region
              obtain ⟨w6, hw6⟩ : ∃ w6, w6 = ((w5.setCell ⟨g + 1, 0, none⟩ (.int .u64 lo)).setCell ⟨g + 1, 1, none⟩ (.int .u64 hi)).drew := ⟨_, rfl⟩
              rw [← hw6]
              have hk6 : Keep (fun b => b = g + 1) w5 w6 := by rw [hw6]; exact (((Keep.refl (fun b => b = g + 1) _).setCell (p := ⟨g + 1, 0, none⟩) (.inr rfl) _).setCell (p := ⟨g + 1, 1, none⟩) (.inr rfl) _).drew
              have t1 : Two w6 g lo' hi' := T1''.out.keep hk6 (by omega)
              have t2 : Two w6 (g + 1) lo hi := by rw [hw6]; exact ((T2''.out.set0 lo).set1 hi).drew
              have T1f := Lib.hid t1; have T2f := Lib.hid t2
              have HK6 := Lib.hid (HK5.out.then_ hk6 (fun b hb => by have := HG.out; omega))
              clear hk6 hw6 t1 t2 d0 d1 e0 e1 z0 z1
              go_wp2_with fail
              refine ⟨⟨i + 1, i + 1 - j, 1, lo', hi', lo, hi, by omega, rfl, ?_, rfl, lo'lt, hi'lt, q1, q2, T1f.out, T2f.out, HSH.out, HK6.out⟩, by simp [intOf]; omega⟩
              congr 1; omega
            · have b2 : decide (2 * (j : Int) ≤ (i : Int)) = false := by simp; omega
              have hsh := HBM.out.long HD.out (by omega)
              rw [← HNEW.out] at hsh
              have HSH := Lib.hid hsh; clear hsh
              have T1'' := Lib.hid t1; have T2'' := Lib.hid t2; clear t1 t2 t3
              go_wp2_with fail
              refine ⟨⟨i + 1, j, k + 1, lo', hi', lob, hib, by omega, rfl, rfl, rfl, lo'lt, hi'lt, q3, q4, T1''.out, T2''.out, HSH.out, HK5.out⟩, by simp [intOf]; omega⟩
    · obtain rfl : i = n := by omega
      have hc0 := HT1.out.c0
      have hc1 := HT1.out.c1
      go_wp2_with fail
      go_ret2
      exact ⟨_, L, _, _, k, rfl, HBM.out, HK.out⟩
end Go.Proofs.Ytcbjdodpgnmhnaa
