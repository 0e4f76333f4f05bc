/-
  The walk of RatchetAny.
-/
import Derived.Test.YtifegnpdclcolaaRatchetV
namespace Go.Proofs.Ytifegnpdclcolaa
open Go.RowKit
set_option maxRecDepth 100000 in
set_option maxHeartbeats 4000000 in
theorem any_any (k : Int) (A : Option Addr) (N c : Nat) (ls : List Int) (A2 : Option Addr) (M c2 : Nat) (os : List Int) (w : World) (hl : Nums .i64 w w.heap.size A N ls) (ho : Nums .u8 w w.heap.size A2 M os) (hob : ∀ x ∈ os, 0 ≤ x ∧ x < 256) (hN : N ≤ 17592186044416) (hM : M ≤ 140737488355328) :
    Calls Try.prog 4 #[.int .i64 k, .slice A N c, .slice A2 M c2] w fun e w' => e = .returned (.bool true) ∧ Below w.heap.size w w' := by
  by_cases hk0 : k < 0
  · have e1 : decide (k < 0) = true := by simpa using hk0
    clear hl ho hob hk0
    go_enter Try.func4, Try.ntmps4
    go_wp2_with fail
    go_ret
    exact ⟨rfl, Below.refl _ _⟩
  have e1 : decide (k < 0) = false := by simpa using hk0
  by_cases hk1 : 65535 < k
  · have e2 : decide (65535 < k) = true := by simpa using hk1
    clear hl ho hob hk0 hk1
    go_enter Try.func4, Try.ntmps4
    go_wp2_with fail
    go_ret
    exact ⟨rfl, Below.refl _ _⟩
  have e2 : decide (65535 < k) = false := by simpa using hk1
  by_cases hN2 : 100 < 2 * (N : Int)
  · have e3 : decide (100 < 2 * (N : Int)) = true := by simpa using hN2
    clear hl ho hob hk0 hk1
    go_enter Try.func4, Try.ntmps4
    go_wp2_with fail
    go_ret
    exact ⟨rfl, Below.refl _ _⟩
  have e3 : decide (100 < 2 * (N : Int)) = false := by simpa using hN2
  have hK : 0 ≤ k ∧ k < 65536 := by omega
  have hN50 : N ≤ 50 := by omega
  have HK := Lib.hid hK; have HL := Lib.hid hl; have HO := Lib.hid ho; have HOB := Lib.hid hob
  clear hl ho hob hk0 hk1 hN2 hN hK
  obtain ⟨ipI, hpiI, hpI0, hpI1, hpI2⟩ := info_parts Try.infoI
  obtain ⟨ipP, hpiP, hpP0, hpP1, hpP2⟩ := info_parts Try.infoPost
  have hlen0 := HL.out.1
  go_enter Try.func4, Try.ntmps4
  go_wp2_with fail
  clear e1 e2 e3
  go_loopw [7, 33] (fun sv t wr => ∃ i : Nat, i ≤ N ∧ t = .int .i64 i ∧ (∀ x ∈ ls.take i, 0 ≤ x ∧ x < 65536) ∧ AR w.heap.size w wr sv (.slice none 0 0) (.slice none 0 0) (sendsOf (ls.take i)) [] []) (fun _ t _ => N - (intOf t).toNat)
  case atStart => exact ⟨0, Nat.zero_le _, rfl, (fun _ h => by cases h), World.ownsRow_nil _ _ _ _, World.ownsRow_nil _ _ _ _, World.ownsRow_nil _ _ _ _, (fun _ h => by cases h), Below.refl _ _, Nat.le_refl _⟩
  case round =>
    obtain ⟨i, hi, rfl, hall, har⟩ := hrel
    have HALL := Lib.hid hall; have HAR := Lib.hid har; clear hall har
    have hsn : (sendsOf (ls.take i)).length = i := by simp [sendsOf]; omega
    have hszr := HAR.out.size
    obtain ⟨sA, sc, rfl⟩ := own_form3 HAR.out.scr
    by_cases hlt : i < N
    · obtain ⟨lb, lo, rfl, hlb, hc⟩ := HL.out.at_ HAR.out.below hlt
      have hil : i < ls.length := by omega
      have hx : ls.getD i 0 = ls[i] := by rw [List.getD_eq_getElem?_getD, List.getElem?_eq_getElem hil]; rfl
      have hst : ls.take (i + 1) = ls.take i ++ [ls[i]] := List.take_succ_eq_append_getElem hil
      rw [hx] at hc
      have HST := Lib.hid hst; clear hst hx
      generalize ls[i] = x at *
      by_cases hx0 : x < 0
      · have b1 : decide (x < 0) = true := by simpa using hx0
        go_wp2_with fail
        go_ret
        exact ⟨rfl, HAR.out.below⟩
      · have b1 : decide (x < 0) = false := by simpa using hx0
        by_cases hx1 : 65535 < x
        · have b2 : decide (65535 < x) = true := by simpa using hx1
          go_wp2_with fail
          go_ret
          exact ⟨rfl, HAR.out.below⟩
        · have b2 : decide (65535 < x) = false := by simpa using hx1
          rw [hsn] at HAR ⊢
          have hscr := HAR.out.scr
          rw [hsn] at hscr
          have HSC := Lib.hid hscr; clear hscr
          go_wp2_with (at_builtin; go_loud (refine wpList_append_own _ rfl (.tmp 43) (.tmp 46) 22 rfl w.heap.size 29 ipP (.agg #[.int .i64 0, .int .i64 0, .int .i64 0]) 3 24 Try.underlying22 hpiP hpP0 hpP1 hpP2 rfl (by decide) (.slice sA i sc) i (postV (sendsOf (ls.take i))) rfl ((((Keep.refl (fun _ => False) wr).alloc _)).own HSC.out (fun _ _ h => h)) ⟨_, 0, none⟩ 1 1 [.int .i64 1, .int .i64 0, .int .i64 x] rfl rfl (cells_three (by go_simp; try rfl) (by go_simp; try rfl) (by go_simp; try rfl)) (by simp [Value.oneCell']) (by unfold maxLen; omega) (by omega) (by simp; omega) ?_; intro sv' w3 hown' hgrow _; have HO3 := Lib.hid hown'; have HG3 := Lib.hid hgrow; clear hown' hgrow))
          refine ⟨⟨i + 1, by omega, rfl, ?_, ?_⟩, by simp [intOf]; omega⟩
          · rw [HST.out]
            intro y hy
            rcases List.mem_append.1 hy with hy | hy
            · exact HALL.out y hy
            · have : y = x := by simpa using hy
              omega
          · rw [HST.out, show sendsOf (ls.take i ++ [x]) = sendsOf (ls.take i) ++ [(1, 0, x)] by simp only [sendsOf, List.map_append, List.map_cons, List.map_nil]]
            refine AR.scr1 (p := (1, 0, x)) (HAR.out.keep (((Keep.refl _ wr).alloc _))) ?_ HG3.out
            rw [hsn]; exact HO3.out
    · obtain rfl : i = N := by omega
      have htk : ls.take i = ls := List.take_of_length_le (by omega)
      rw [htk] at HAR HALL hsn
      have hscr := HAR.out.scr
      rw [hsn] at hscr
      rw [htk, hsn]
      rw [hsn] at HAR
      go_wp2_with fail
      go_loopw [10, 11] (fun lv t wr => ∃ m : Nat, m ≤ i ∧ t = .int .i64 m ∧ AR w.heap.size w wr (.slice sA i sc) lv (.slice none 0 0) (sendsOf ls) (List.range m) []) (fun _ t _ => i - (intOf t).toNat)
      case atStart => exact ⟨0, Nat.zero_le _, rfl, HAR.out⟩
      case round =>
        clear HAR hscr
        obtain ⟨m, hm, rfl, har⟩ := hrel
        have HAR := Lib.hid har; clear har
        have hszr := HAR.out.size
        obtain ⟨lA, lc, rfl⟩ := own_form3 HAR.out.left
        have hln : (List.range m).length = m := by simp
        by_cases hml : m < i
        · rw [hln] at HAR ⊢
          have hleft := HAR.out.left
          rw [hln] at hleft
          have HLF := Lib.hid hleft; clear hleft
          go_wp2_with (at_builtin; go_loud (refine wpList_append_own_at _ rfl (.tmp 55) (.tmp 57) 27 rfl w.heap.size 3 ipI (.int .i64 0) 1 8 Try.underlying27 hpiI hpI0 hpI1 hpI2 rfl (by decide) (.slice lA m lc) m (vals .i64 (nats (List.range m))) rfl ((((Keep.refl (fun _ => False) _).alloc _)).own HLF.out (fun _ _ h => h)) ⟨_, 0, none⟩ 1 1 [.int .i64 m] rfl rfl (cells_one (by go_simp; try rfl)) (by simp [Value.oneCell']) (by unfold maxLen; omega) (by omega) (by simp; omega) ?_; intro lv' w5 hown' hgrow _ hloc; have HO5 := Lib.hid hown'; have HG5 := Lib.hid hgrow; have HL5 := Lib.hid hloc; clear hown' hgrow hloc))
          refine ⟨⟨m + 1, by omega, rfl, ?_⟩, by simp [intOf]; omega⟩
          rw [List.range_succ]
          refine AR.left1 (HAR.out.keep (((Keep.refl _ _).alloc _))) ?_ HG5.out HL5.out
          rw [hln]; exact HO5.out
        · obtain rfl : m = i := by omega
          rw [hln]
          rw [hln] at HAR
          go_wp2_with fail
          clear hln
          go_loopw [7, 10, 12, 13] (fun sv lv tv t wr => ∃ L T : List Nat, L.length + T.length = m ∧ (L ++ T).Nodup ∧ (∀ x ∈ L ++ T, x < m) ∧ t = .int .i64 T.length ∧ AR w.heap.size w wr sv lv tv (sendsOf ls ++ takesOf T) L T) (fun _ lv _ _ _ => lenV lv)
          case atStart => exact ⟨List.range m, [], by simp, by simp [List.nodup_range], by simp, rfl, by rw [show takesOf [] = [] from rfl, List.append_nil]; exact HAR.out⟩
          case round =>
            clear HAR hszr hml hm
            obtain ⟨L, T, hLT, hnd, hlt, rfl, har⟩ := hrel
            have HAR := Lib.hid har; have HND := Lib.hid hnd; have HLT := Lib.hid hlt; clear har hnd hlt
            have hszr := HAR.out.size
            have hscn : (sendsOf ls ++ takesOf T).length = m + T.length := by rw [List.length_append, hsn]; simp [takesOf]
            obtain ⟨sA, sc, rfl⟩ := own_form3 HAR.out.scr
            obtain ⟨lA, lc, rfl⟩ := own_form3 HAR.out.left
            obtain ⟨tA, tc, rfl⟩ := own_form3 HAR.out.took
            rw [hscn] at HAR ⊢
            by_cases hL : 0 < L.length
            · obtain ⟨lg, rfl, hlg, hlc, hlm⟩ := own_some HAR.out.left hL
              have hscr := HAR.out.scr
              rw [hscn] at hscr
              have HSC := Lib.hid hscr; clear hscr
              by_cases hTM : T.length < M
              · obtain ⟨ob, oo, rfl, hob, hoc⟩ := HO.out.at_ HAR.out.below hTM
                have hoM := HO.out.1
                obtain ⟨o, hoe⟩ : ∃ o : Nat, os.getD T.length 0 = (o : Int) ∧ o < 256 := by
                  have hmem : os.getD T.length 0 ∈ os := by rw [List.getD_eq_getElem?_getD, List.getElem?_eq_getElem (by omega)]; exact List.getElem_mem (by omega)
                  have := HOB.out _ hmem
                  exact ⟨(os.getD T.length 0).toNat, by omega, by omega⟩
                rw [hoe.1] at hoc
                have ho256 := hoe.2
                clear hoe
                obtain ⟨a, ha⟩ : ∃ a : Nat, a = o % L.length := ⟨_, rfl⟩
                have hat : a < L.length := by rw [ha]; exact Nat.mod_lt _ hL
                have hrem : (o : Int).tmod (L.length : Int) = (a : Int) := by rw [ha]; rfl
                have HREM := Lib.hid ha; clear ha
                have gl := own_cell HAR.out.left hat
                rw [nats_getD hat] at gl
                obtain ⟨x, hx⟩ : ∃ x : Nat, x = L[a] := ⟨_, rfl⟩
                rw [← hx] at gl
                have HX := Lib.hid hx; clear hx
                go_wp2_with (first
                  | (at_builtin; go_loud (refine wpList_append_own _ rfl (.tmp 76) (.tmp 82) 22 rfl w.heap.size 29 ipP (.agg #[.int .i64 0, .int .i64 0, .int .i64 0]) 3 24 Try.underlying22 hpiP hpP0 hpP1 hpP2 rfl (by decide) (.slice sA (m + T.length) sc) (m + T.length) (postV (sendsOf ls ++ takesOf T)) rfl ((((Keep.refl (fun _ => False) wr).alloc _)).own HSC.out (fun _ _ h => h)) ⟨_, 0, none⟩ 1 1 [.int .i64 2, .int .i64 x, .int .i64 0] rfl rfl (cells_three (by go_simp; try rfl) (by go_simp; try rfl) (by go_simp; try rfl)) (by simp [Value.oneCell']) (by unfold maxLen; omega) (by omega) (by simp; omega) ?_; intro sv' w3 hown' hgrow _; have HO3 := Lib.hid hown'; have HG3 := Lib.hid hgrow; clear hown' hgrow; have HA3 := Lib.hid (AR.scr1 (p := (2, (x : Int), 0)) (HAR.out.keep (((Keep.refl _ wr).alloc _))) (by rw [hscn]; exact HO3.out) HG3.out); have gl3 := own_cell HA3.out.left hat; rw [nats_getD hat, ← HX.out] at gl3; have hz3 := HA3.out.size))
                  | (at_builtin; go_loud (refine wpList_append_own_at _ rfl (.tmp 84) (.tmp 89) 27 rfl w.heap.size 3 ipI (.int .i64 0) 1 8 Try.underlying27 hpiI hpI0 hpI1 hpI2 rfl (by decide) (.slice tA T.length tc) T.length (vals .i64 (nats T)) rfl ((((Keep.refl (fun _ => False) w3).alloc _)).own HA3.out.took (fun _ _ h => h)) ⟨_, 0, none⟩ 1 1 [.int .i64 x] rfl rfl (cells_one (by go_simp; try rfl)) (by simp [Value.oneCell']) (by unfold maxLen; omega) (by omega) (by simp; omega) ?_; intro lv' w5 hown' hgrow _ hloc; have HO5 := Lib.hid hown'; have HG5 := Lib.hid hgrow; have HL5 := Lib.hid hloc; clear hown' hgrow hloc)))
                have HA5 := Lib.hid (AR.took1 (HA3.out.keep (((Keep.refl _ _).alloc _))) HO5.out HG5.out HL5.out)
                clear gl gl3
                have hz5 := HA5.out.size
                have hlg5 := (own_block_ge HA5.out.left lg rfl).2
                have hal : a ≤ lc := by omega
                have hal1 : a + 1 ≤ L.length := hat
                have hbd0 : (0 : Int) ≤ ((a : Int) + 1) := by omega
                have hbd1 : ((a : Int) + 1) ≤ (L.length : Int) := by omega
                have hwr : IntKind.i64.wrap ((a : Int) + 1) = ((a + 1 : Nat) : Int) := by rw [IntKind.wrap_i64]; omega
                go_region_law (first
                  | (refine step_append_any _ rfl (.tmp 91) (.tmp 94) 27 rfl w5.heap.size 3 ipI (.int .i64 0) 8 Try.underlying27 hpiI hpI0 hpI1 hpI2 rfl (.slice (some ⟨w5.heap.size, 0, none⟩) 0 0) 0 [] (by simp [Act.eval, Act.put]) (by exact own_zero w5 3 1) w5.heap.size (some ⟨lg, 0, none⟩) a lc (vals .i64 (((nats L).take a).drop 0)) (by simp [Act.eval, Act.put]) (reads_part HA5.out.left (by first | exact ((Keep.refl (fun _ => False) w5).alloc _) | exact ((Keep.refl (fun _ => False) w5).alloc _).drew | exact ((Keep.refl (fun _ => False) w5).drew.alloc _) | exact ((Keep.refl (fun _ => False) w5).drew.alloc _).drew) 0 a (Nat.zero_le _) (by omega)) (vals_one _ _) (by unfold maxLen; omega) (by omega) (by simp) ?_; intro v7 w7 ho7 hg7; have HK7 := Lib.hid (Keep.of_fresh (w := w5) (by first | exact ((Keep.refl (fun _ => False) w5).alloc _) | exact ((Keep.refl (fun _ => False) w5).alloc _).drew | exact ((Keep.refl (fun _ => False) w5).drew.alloc _) | exact ((Keep.refl (fun _ => False) w5).drew.alloc _).drew) hg7 (fun k e => by { have : w5.heap.size = k := Option.some.inj e; omega })); have hz7 := HK7.out.size; have HO7 := Lib.hid ho7; clear ho7 hg7)
                  | (refine step_append_any _ rfl (.tmp 95) (.tmp 99) 27 rfl w5.heap.size 3 ipI (.int .i64 0) 8 Try.underlying27 hpiI hpI0 hpI1 hpI2 rfl v7 (0 + a) _ (by simp [Act.eval, Act.put]) HO7.out w5.heap.size (if lc = a + 1 then some ⟨lg, 0, none⟩ else some ⟨lg, a + 1, none⟩) (L.length - (a + 1)) (lc - (a + 1)) (vals .i64 ((nats L).drop (a + 1))) (by simp [Act.eval, Act.put]) (reads_tail HA5.out.left HK7.out (a + 1) hat hlc) (vals_one _ _) (by unfold maxLen; omega) (by omega) (by omega) ?_; intro v9 w9 ho9 hg9; have HK9 := Lib.hid (Keep.of_fresh HK7.out hg9 (fun k e => (own_block_ge HO7.out k e).1)); have HO9 := Lib.hid (picked_own hat ho9); clear ho9 hg9))
                go_wp2_with fail
                refine ⟨⟨L.take a ++ L.drop (a + 1), T ++ [x], ?_, ?_, ?_, ?_, ?_⟩, ?_⟩
                · simp; omega
                · rw [HX.out]; exact (pick ⟨HND.out, HLT.out⟩ hat).1
                · rw [HX.out]; exact (pick ⟨HND.out, HLT.out⟩ hat).2
                · simp
                · rw [show sendsOf ls ++ takesOf (T ++ [x]) = (sendsOf ls ++ takesOf T) ++ [(2, (x : Int), 0)] by simp only [takesOf, List.map_append, List.map_cons, List.map_nil, List.append_assoc]]
                  exact AR.leftNew HA5.out rfl HK9.out HO9.out
                · obtain ⟨nA, nc, rfl⟩ := own_form3 HO9.out
                  simp only [lenV, List.length_append, List.length_take, List.length_drop]; omega
              · have gl := own_cell HAR.out.left hL
                rw [nats_getD hL] at gl
                obtain ⟨x, hx⟩ : ∃ x : Nat, x = L[0] := ⟨_, rfl⟩
                rw [← hx] at gl
                have HX := Lib.hid hx; clear hx
                have hat := hL
                go_wp2_with (first
                  | (at_builtin; go_loud (refine wpList_append_own _ rfl (.tmp 76) (.tmp 82) 22 rfl w.heap.size 29 ipP (.agg #[.int .i64 0, .int .i64 0, .int .i64 0]) 3 24 Try.underlying22 hpiP hpP0 hpP1 hpP2 rfl (by decide) (.slice sA (m + T.length) sc) (m + T.length) (postV (sendsOf ls ++ takesOf T)) rfl ((((Keep.refl (fun _ => False) wr).alloc _)).own HSC.out (fun _ _ h => h)) ⟨_, 0, none⟩ 1 1 [.int .i64 2, .int .i64 x, .int .i64 0] rfl rfl (cells_three (by go_simp; try rfl) (by go_simp; try rfl) (by go_simp; try rfl)) (by simp [Value.oneCell']) (by unfold maxLen; omega) (by omega) (by simp; omega) ?_; intro sv' w3 hown' hgrow _; have HO3 := Lib.hid hown'; have HG3 := Lib.hid hgrow; clear hown' hgrow; have HA3 := Lib.hid (AR.scr1 (p := (2, (x : Int), 0)) (HAR.out.keep (((Keep.refl _ wr).alloc _))) (by rw [hscn]; exact HO3.out) HG3.out); have gl3 := own_cell HA3.out.left hat; rw [nats_getD hat, ← HX.out] at gl3; have hz3 := HA3.out.size))
                  | (at_builtin; go_loud (refine wpList_append_own_at _ rfl (.tmp 84) (.tmp 89) 27 rfl w.heap.size 3 ipI (.int .i64 0) 1 8 Try.underlying27 hpiI hpI0 hpI1 hpI2 rfl (by decide) (.slice tA T.length tc) T.length (vals .i64 (nats T)) rfl ((((Keep.refl (fun _ => False) w3).alloc _)).own HA3.out.took (fun _ _ h => h)) ⟨_, 0, none⟩ 1 1 [.int .i64 x] rfl rfl (cells_one (by go_simp; try rfl)) (by simp [Value.oneCell']) (by unfold maxLen; omega) (by omega) (by simp; omega) ?_; intro lv' w5 hown' hgrow _ hloc; have HO5 := Lib.hid hown'; have HG5 := Lib.hid hgrow; have HL5 := Lib.hid hloc; clear hown' hgrow hloc)))
                have HA5 := Lib.hid (AR.took1 (HA3.out.keep (((Keep.refl _ _).alloc _))) HO5.out HG5.out HL5.out)
                clear gl gl3
                have hz5 := HA5.out.size
                have hlg5 := (own_block_ge HA5.out.left lg rfl).2
                have hal : 0 ≤ lc := by omega
                have hal1 : 1 ≤ L.length := hat
                have hbd0 : (0 : Int) ≤ (1 : Int) := by omega
                have hbd1 : (1 : Int) ≤ (L.length : Int) := by omega
                have hwr : IntKind.i64.wrap (1 : Int) = ((1 : Nat) : Int) := by rw [IntKind.wrap_i64]; omega
                go_region_law (first
                  | (refine step_append_any _ rfl (.tmp 91) (.tmp 94) 27 rfl w5.heap.size 3 ipI (.int .i64 0) 8 Try.underlying27 hpiI hpI0 hpI1 hpI2 rfl (.slice (some ⟨w5.heap.size, 0, none⟩) 0 0) 0 [] (by simp [Act.eval, Act.put]) (by exact own_zero w5 3 1) w5.heap.size (some ⟨lg, 0, none⟩) 0 lc (vals .i64 (((nats L).take 0).drop 0)) (by simp [Act.eval, Act.put]) (reads_part HA5.out.left (by first | exact ((Keep.refl (fun _ => False) w5).alloc _) | exact ((Keep.refl (fun _ => False) w5).alloc _).drew | exact ((Keep.refl (fun _ => False) w5).drew.alloc _) | exact ((Keep.refl (fun _ => False) w5).drew.alloc _).drew) 0 0 (Nat.zero_le _) (by omega)) (vals_one _ _) (by unfold maxLen; omega) (by omega) (by simp) ?_; intro v7 w7 ho7 hg7; have HK7 := Lib.hid (Keep.of_fresh (w := w5) (by first | exact ((Keep.refl (fun _ => False) w5).alloc _) | exact ((Keep.refl (fun _ => False) w5).alloc _).drew | exact ((Keep.refl (fun _ => False) w5).drew.alloc _) | exact ((Keep.refl (fun _ => False) w5).drew.alloc _).drew) hg7 (fun k e => by { have : w5.heap.size = k := Option.some.inj e; omega })); have hz7 := HK7.out.size; have HO7 := Lib.hid ho7; clear ho7 hg7)
                  | (refine step_append_any _ rfl (.tmp 95) (.tmp 99) 27 rfl w5.heap.size 3 ipI (.int .i64 0) 8 Try.underlying27 hpiI hpI0 hpI1 hpI2 rfl v7 (0 + 0) _ (by simp [Act.eval, Act.put]) HO7.out w5.heap.size (if lc = 1 then some ⟨lg, 0, none⟩ else some ⟨lg, 1, none⟩) (L.length - (1)) (lc - (1)) (vals .i64 ((nats L).drop (1))) (by simp [Act.eval, Act.put]) (reads_tail HA5.out.left HK7.out (1) hat hlc) (vals_one _ _) (by unfold maxLen; omega) (by omega) (by omega) ?_; intro v9 w9 ho9 hg9; have HK9 := Lib.hid (Keep.of_fresh HK7.out hg9 (fun k e => (own_block_ge HO7.out k e).1)); have HO9 := Lib.hid (picked_own hat ho9); clear ho9 hg9))
                go_wp2_with fail
                refine ⟨⟨L.take 0 ++ L.drop (1), T ++ [x], ?_, ?_, ?_, ?_, ?_⟩, ?_⟩
                · simp; omega
                · rw [HX.out]; exact (pick ⟨HND.out, HLT.out⟩ hat).1
                · rw [HX.out]; exact (pick ⟨HND.out, HLT.out⟩ hat).2
                · simp
                · rw [show sendsOf ls ++ takesOf (T ++ [x]) = (sendsOf ls ++ takesOf T) ++ [(2, (x : Int), 0)] by simp only [takesOf, List.map_append, List.map_cons, List.map_nil, List.append_assoc]]
                  exact AR.leftNew HA5.out rfl HK9.out HO9.out
                · obtain ⟨nA, nc, rfl⟩ := own_form3 HO9.out
                  simp only [lenV, List.length_append, List.length_take, List.length_drop]; omega
            · obtain rfl : L = [] := List.eq_nil_of_length_eq_zero (by omega)
              have hTm : T.length = m := by simpa using hLT
              clear hL hLT
              have hscr := HAR.out.scr
              rw [hscn] at hscr
              have hcall := play_ok k m sA (m + T.length) sc (sendsOf ls ++ takesOf T) wr HK.out (by omega) (by omega) (Posts.of_own hscr)
              have hT : T.Nodup := by simpa using HND.out
              have hTl : ∀ x ∈ T, x < ls.length := fun x hx => by rw [hlen0]; exact HLT.out x (by simpa using hx)
              have hlaw := any_law k ls HALL.out T hT hTl
              rw [hlen0] at hlaw
              have HCALL := Lib.hid hcall; have HLAW := Lib.hid hlaw; clear hcall hlaw hscr
              have HTL := Lib.hid hTl; have hTm2 : T.length ≤ 50 := by omega
              clear hTl hT hTm
              go_wp2_with (go_at_call 5; refine HCALL.out.mono ?_; rintro e w6 ⟨v, rfl, hv, hbl⟩; have HV := Lib.hid hv; have HBL := Lib.hid hbl; obtain ⟨pA, pc, rfl⟩ := own_form2 hv; clear hv hbl)
              go_loopw [120] (fun t wr' => ∃ j : Nat, j ≤ T.length ∧ t = .int .i64 j ∧ Keep (fun _ => False) w6 wr') (fun t _ => T.length - (intOf t).toNat)
              case atStart => exact ⟨0, Nat.zero_le _, rfl, Keep.refl _ _⟩
              case round =>
                obtain ⟨j, hj, rfl, hk6⟩ := hrel
                have HK6 := Lib.hid hk6; clear hk6
                by_cases hjt : j < T.length
                · obtain ⟨tg, rfl, htg, htc, _⟩ := own_some HAR.out.took (by omega)
                  have gt := own_cell HAR.out.took hjt
                  rw [nats_getD hjt] at gt
                  have gt := ((HBL.out.cell (p := ⟨tg, j, none⟩) htg).trans gt)
                  have gt := HK6.out.cellV gt (fun h => h)
                  have hb6 : Below w6.heap.size w6 _ := HK6.out.below (Nat.le_refl _) (fun _ h => h.elim)
                  obtain ⟨pg, pc', e, hpg, r0, r1⟩ := out_cells HV.out hb6 (show m + j < m + T.length by omega) (HLAW.out j hjt)
                  obtain ⟨rfl, rfl⟩ : pA = some ⟨pg, 0, none⟩ ∧ pc' = pc := by injection e with e1 e2 e3; exact ⟨e1, e3.symm⟩
                  clear e
                  have hxl : T[j] < m := by have := HTL.out T[j] (List.getElem_mem hjt); omega
                  have hbw := HAR.out.below
                  have hb7 := (hbw.trans (HBL.out.mono hszr)).trans (hb6.mono (Nat.le_trans hszr HBL.out.size))
                  obtain ⟨lb, lo, rfl, hlb, gl⟩ := HL.out.at_ hb7 hxl
                  clear hb6 hb7 hbw
                  generalize ls.getD T[j] 0 = y at *
                  generalize T[j] = x at *
                  have hb0 : (0 : Int) ≤ (m : Int) + (j : Int) := by omega
                  have hb1 : (m : Int) + (j : Int) < (m : Int) + (T.length : Int) := by omega
                  have hb2 : (m : Int) + (j : Int) < ((m + T.length : Nat) : Int) := by omega
                  have hb3 : ((m : Int) + (j : Int)).toNat = m + j := by omega
                  have hb4 : (x : Int) < (m : Int) := by omega
                  go_wp2_with fail
                  go_quiet (fail)
                  go_wp2_with fail
                  refine ⟨⟨j + 1, by omega, rfl, HK6.out.trans ⟨rfl, rfl, rfl, Nat.le_refl _, fun _ _ _ => rfl⟩⟩, by simp [intOf]; omega⟩
                · obtain rfl : j = T.length := by omega
                  go_wp2_with fail
                  go_ret
                  exact ⟨rfl, (HAR.out.below.trans (HBL.out.mono hszr)).trans (HK6.out.below (Nat.le_trans hszr HBL.out.size) (fun _ h => h.elim))⟩
end Go.Proofs.Ytifegnpdclcolaa
