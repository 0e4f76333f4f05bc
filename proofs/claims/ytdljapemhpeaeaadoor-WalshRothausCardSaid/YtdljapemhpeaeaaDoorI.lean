/-
  The law of Rothaus, as its row and as its card: a bent function of four variables has degree two, and of an odd number of variables there is none.
-/
import Derived.Test.YtdljapemhpeaeaaDoorH
namespace Go.Proofs.YtdljapemhpeaeaaDoor
open Go.ChangeShapes Go.WideShapes Go.ChangeAt Go.RowKit Wp
/-- what the loop has found of the waves below m -/
def AllAs (A : Ar) (m : Nat) : Prop := ∀ u < m, A u = A 0 ∨ A u = -A 0
def BentIs (b : Bool) (A : Ar) (m : Nat) : Prop := b = true ↔ AllAs A m
theorem BentIs.no {A : Ar} {m : Nat} (h : BentIs false A m) : BentIs false A (m + 1) := by
  unfold BentIs at *
  simp only [Bool.false_eq_true, false_iff] at *
  exact fun h' => h fun u hu => h' u (by omega)
theorem BentIs.yes {A : Ar} {m : Nat} (h : BentIs true A m) (h1 : A m = A 0 ∨ A m = -A 0) : BentIs true A (m + 1) := by
  unfold BentIs at *
  simp only [true_iff] at *
  intro u hu
  by_cases e : u = m
  · subst e; exact h1
  · exact h u (by omega)
theorem BentIs.end_ {A : Ar} {m : Nat} (h1 : ¬ (A m = A 0 ∨ A m = -A 0)) : BentIs false A (m + 1) := by
  unfold BentIs
  simp only [Bool.false_eq_true, false_iff]
  exact fun h' => h1 (h' m (by omega))
theorem bent_fin (n F : Nat) (hn : n ≤ 5) (d : Int) (hd : DegSt (gnum (Av n F) (2 ^ n)) 0 d) (h : AllAs (Wv n F) (2 ^ n)) : (n = 0 ∨ n = 2 ∨ n = 4) ∧ (n = 4 → d = 2) := by
  have hW : ∀ u < 2 ^ n, W n (fun x => 1 - 2 * bv F x) u = W n (fun x => 1 - 2 * bv F x) 0 ∨ W n (fun x => 1 - 2 * bv F x) u = -W n (fun x => 1 - 2 * bv F x) 0 := by
    intro u hu
    rw [← (wv_eq n F hn u hu).1, ← (wv_eq n F hn 0 (Nat.two_pow_pos n)).1]
    exact h u hu
  have hc : n = 0 ∨ n = 1 ∨ n = 2 ∨ n = 3 ∨ n = 4 ∨ n = 5 := by omega
  constructor
  · rcases hc with rfl | rfl | rfl | rfl | rfl | rfl
    · simp
    · exact absurd hW (bent_odd (by simp) _ (bv01 F))
    · simp
    · exact absurd hW (bent_odd (by simp) _ (bv01 F))
    · simp
    · exact absurd hW (bent_odd (by simp) _ (bv01 F))
  · rintro rfl
    have h4 := bent_four (bv F) (bv01 F) hW
    obtain ⟨h1, h2⟩ := deg_spec 4 F hn d hd
    obtain ⟨s, hs, hp, he⟩ := four_ge (bv F) (bv01 F) h4
    have hlo := h1 s hs he
    rw [hp] at hlo
    rcases h2 with h | ⟨t, ht, hb, hp2⟩
    · omega
    · apply Classical.byContradiction
      intro hne
      have := four_le (bv F) h4 t ht (by omega)
      omega
set_option maxRecDepth 100000 in
set_option maxHeartbeats 2000000 in
theorem roth_walk (n f : Int) (h0 : 0 ≤ f) (h1 : f < 4294967296) (w : World) (ht : HasTab w) :
    Calls Tryd.prog 3 #[.int .i64 n, .int .u32 f] w fun e w' => e = .returned (.bool true) ∧ Below w.heap.size w w' := by
  cases hok : okW n f with
  | false =>
    have HK := Lib.hid hok
    go_enter Tryd.func3, Tryd.ntmps3
    go_wp2_with (first
      | (go_at_call 5; refine (waves_bad _ _ h0 h1 hok _).mono ?_; rintro e w' ⟨rfl, rfl⟩)
      | (go_at_call 6; refine (deg_bad _ _ h0 h1 hok _).mono ?_; rintro e w' ⟨rfl, rfl⟩)
      | (go_at_call 7; refine (function_any _ _ _ h0 h1).mono ?_; rintro e w' ⟨rfl, rfl⟩; rw [HK.out]))
    go_ret
    exact ⟨rfl, Below.refl _ _⟩
  | true =>
    obtain ⟨hn0, hn5⟩ := lt_of_ok hok
    obtain ⟨n, rfl⟩ := Int.eq_ofNat_of_zero_le hn0
    obtain ⟨F, rfl⟩ := Int.eq_ofNat_of_zero_le h0
    have HK := Lib.hid hok; clear hok
    have HT := Lib.hid ht; clear ht
    have hm5 : n ≤ 5 := by omega
    have hF : F < 4294967296 := by omega
    have hd : ∀ w', HasTab w' → Calls Tryd.prog 6 #[.int .i64 n, .int .u32 F] w' fun e w'' => ∃ d : Int, e = .returned (.tuple #[.int .i64 d, .int .i64 0]) ∧ Below w'.heap.size w' w'' ∧ DegSt (gnum (Av n F) (2 ^ n)) 0 d :=
      fun w' ht' => deg_ok n F hm5 hF HK.out (Lib.hid (av01 n F)) w' ht' _ rfl (gnum_32 n F hm5)
    have HD := Lib.hid hd; clear hd
    have hWv := waves_ok n F hm5 hF HK.out
    change ∀ w, Calls Tryd.prog 5 #[.int .i64 n, .int .u32 F] w fun e w' => ∃ b, e = .returned (.tuple #[.slice (some ⟨b, 0, none⟩) (2 ^ n) (2 ^ n), .int .i64 0]) ∧ w.heap.size ≤ b ∧ Below w.heap.size w w' ∧ Row w' b (2 ^ n) (Wv n F) at hWv
    have hfin := bent_fin n F hm5
    have hbd : ∀ u, u < 2 ^ n → -32 ≤ Wv n F u ∧ Wv n F u ≤ 32 := fun u hu => (wv_eq n F hm5 u hu).2
    have hp := pow_n n hm5
    have hpos : 0 < 2 ^ n := Nat.two_pow_pos n
    obtain ⟨A, hA⟩ : ∃ A, A = Wv n F := ⟨_, rfl⟩
    obtain ⟨N, hN⟩ : ∃ N, N = 2 ^ n := ⟨_, rfl⟩
    rw [← hN] at hp hpos
    rw [← hA, ← hN] at hWv hfin hbd
    rw [← hN] at HD
    have HW := Lib.hid hWv; have HFIN := Lib.hid hfin; have HBD := Lib.hid hbd
    have H1 := Lib.hid h1; have HF := Lib.hid hF
    clear hWv hA hN hfin hbd h1 hF
    have b0 := HBD.out 0 hpos
    have b1 := b0.1
    have b2 := b0.2
    clear b0
    go_enter Tryd.func3, Tryd.ntmps3
    go_wp2_with fail
    refine (HW.out _).mono ?_
    rintro e w1 ⟨b, rfl, hb, hb1, hr⟩
    have HR := Lib.hid hr; clear hr
    go_wp2_with fail
    refine (HD.out _ (HT.out.below hb1)).mono ?_
    rintro e w2 ⟨d, rfl, hb2, hst⟩
    have HF2 := Lib.hid (HFIN.out d hst); clear hst
    have hlt : b < w1.heap.size := World.block_lt_of_cell? w1 _ (HR.out.1 0 hpos)
    have HR2 : Hid (Row w2 b N A) := Lib.hid ⟨fun i hi => by rw [hb2.cell (p := ⟨b, i, none⟩) hlt]; exact HR.out.1 i hi, fun i => by rw [hb2.frozen (p := ⟨b, i, none⟩) hlt]; exact HR.out.2 i⟩
    have hbb := hb1.trans (hb2.mono hb1.size)
    go_wp2_with fail
    refine (function_true _ _ _ h0 H1.out HK.out).mono ?_
    rintro e w' ⟨rfl, rfl⟩
    have hlen : ((N : Int) == 0) = false := by simp; omega
    go_wp2_with fail
    go_loop [9, 47] (fun t i => ∃ (m : Nat) (B : Bool), m ≤ N ∧ i = .int .i64 m ∧ t = .bool B ∧ BentIs B A m) (fun _ i => N - (intOf i).toNat)
    case atStart => exact ⟨0, true, Nat.zero_le _, rfl, rfl, by unfold BentIs AllAs; simp⟩
    case round =>
      obtain ⟨m, B, hm, rfl, rfl, hB⟩ := hrel
      have HB := Lib.hid hB; clear hB
      by_cases hmt : m < N
      · have c1 := HR2.out.1 m hmt
        have c0 := HR2.out.1 0 hpos
        cases B with
        | false =>
          go_wp2
          exact ⟨⟨m + 1, false, by omega, rfl, rfl, HB.out.no⟩, by simp [intOf]; omega⟩
        | true =>
          by_cases e1 : A m = A 0
          · have t1 : (A m == A 0) = true := by rw [e1]; simp
            have E1 := Lib.hid e1; clear e1
            go_wp2
            exact ⟨⟨m + 1, true, by omega, rfl, rfl, HB.out.yes (.inl E1.out)⟩, by simp [intOf]; omega⟩
          · have t1 : (A m == A 0) = false := by simpa using e1
            have E1 := Lib.hid e1; clear e1
            by_cases e2 : A m = -A 0
            · have t2 : (A m == -A 0) = true := by rw [e2]; simp
              have E2 := Lib.hid e2; clear e2
              go_wp2
              exact ⟨⟨m + 1, true, by omega, rfl, rfl, HB.out.yes (.inr E2.out)⟩, by simp [intOf]; omega⟩
            · have t2 : (A m == -A 0) = false := by simpa using e2
              have E2 := Lib.hid e2; clear e2
              go_wp2
              exact ⟨⟨m + 1, false, by omega, rfl, rfl, BentIs.end_ fun h => h.elim E1.out E2.out⟩, by simp [intOf]; omega⟩
      · obtain rfl : m = N := by omega
        clear hmt
        cases B with
        | false =>
          go_wp2
          go_ret
          exact ⟨rfl, hbb⟩
        | true =>
          obtain ⟨f1, f2⟩ := HF2.out (HB.out.1 rfl)
          have t1 : ((n : Int) % 2 == 0) = true := by rcases f1 with rfl | rfl | rfl <;> rfl
          by_cases h4 : n = 4
          · have t2 : ((n : Int) != 4) = false := by rw [h4]; rfl
            have t3 : (d == 2) = true := by rw [f2 h4]; rfl
            have X1 := Lib.hid h4; have X2 := Lib.hid f1; have X3 := Lib.hid f2; clear h4 f1 f2
            go_wp2
            go_ret
            exact ⟨rfl, hbb⟩
          · have t2 : ((n : Int) != 4) = true := by simp; omega
            have X1 := Lib.hid h4; have X2 := Lib.hid f1; have X3 := Lib.hid f2; clear h4 f1 f2
            go_wp2
            go_ret
            exact ⟨rfl, hbb⟩
set_option maxRecDepth 100000 in
theorem roth_lifted (os : Os) (started : os.Started) (H : Type) (enc : TypeId × Value → H) :
    ReturnsInHanded {} Tryd.checked os 3 .any (fun w args => (Rows.walshRothausSpec.pre enc Tryd.prog Tryd.f3 [] false w args ∧ laidMetH Tryd.prog tabLaid w) ∧ sizedMet enc Tryd.prog Tryd.f3 (OpenSpec.ofChange Rows.walshRothausSpec) false w args)
      (Rows.walshRothausSpec.post enc Tryd.prog Tryd.f3 false true false false) := by
  refine returnsInHanded_of_change_and (C := Tryd.checked) (X := fun w _ => laidMetH Tryd.prog tabLaid w) (fun _ _ _ hh h => h.of_heap hh) own started (by kernel_rfl) Tryd.func3
    (ChangeSpec.witness_at (enc := enc) (C := Tryd.checked) (os := os) (X := fun w _ => laidMetH Tryd.prog tabLaid w) false (laidWorld os) #[.int .i64 0, .int .u32 0] 8 rfl (by kernel_rfl) (by kernel_rfl) (by kernel_rfl) (by kernel_rfl) (by kernel_rfl) (laidWorld_met os _)) ?_
  intro W base args ds gs before hval0 hW _ _ hL _
  have hval : ∀ (j : Nat) t v, Tryd.f3.params[j]? = some t → args[j]? = some v → Value.okWide Tryd.prog W .any base t v := hval0
  have hW' := hW
  obtain ⟨p, q, hA0, hV, rfl, hfz, hnd⟩ := hW
  have hA : DataW.TrodAll enc Tryd.prog W 0 (fun _ => true) true Tryd.f3.params.toList args.toList ds p := hA0
  rw [Tryd.params3] at hA hval
  obtain ⟨v0, vs0, d0, ds0, p0, q0, hargs, rfl, rfl, h0, r0⟩ := trodAll_cons hA
  obtain ⟨v1, vs1, d1, ds1, p1, q1, rfl, rfl, rfl, h1, r1⟩ := trodAll_cons r0
  obtain ⟨rfl, rfl, rfl⟩ := trodAll_nil r1
  obtain rfl : args = #[v0, v1] := by cases args; simp_all
  obtain ⟨rfl, rfl⟩ := trodVars_none hV
  obtain ⟨a0, rfl, rfl, rfl, w0⟩ := open_int Tryd.underlying3 (hval 0 3 v0 rfl rfl) h0
  obtain ⟨a1, rfl, rfl, rfl, w1⟩ := open_int Tryd.underlying22 (hval 1 22 v1 rfl rfl) h1
  clear hA0 hval0
  simp only [List.append_nil] at hW'
  have hw1 : 0 ≤ a1 ∧ a1 < 4294967296 := by
    have := w1
    simp [Lit.wf, IntKind.min, IntKind.max, IntKind.signed, IntKind.bits] at this
    omega
  refine (roth_walk a0 a1 hw1.1 hw1.2 W (tab_of_laid hL)).mono fun e W' ⟨he, hg⟩ => ?_
  subst he
  exact ⟨_, rfl, _, _, _, [], _, [], hW', trodAll_mk1 (shut_bool Tryd.underlying4 _), (trodAll_cons_mk (shut_int Tryd.underlying3 w0) (trodAll_cons_mk (shut_int Tryd.underlying22 w1) trodAll_mk0)), rfl, hg.frame _, fun h => by cases h⟩
theorem roth_holds : Rows.WalshRothausSaid :=
  OpenClaim.holds_of_wide 3 Tryd.f3 rfl rfl rfl rfl rfl rfl rfl ⟨rfl, rfl, rfl, rfl, rfl⟩ rfl rfl rfl rfl rfl (by kernel_rfl) Tryd.func3 (by kernel_rfl)
    (of_decide_eq_true (by kernel_rfl)) (by unfold Func.isWrapper; rw [if_neg (of_decide_eq_false (by kernel_rfl))]; exact ⟨rfl, rfl⟩)
    (fun os started H enc _ => roth_lifted os started H enc)
theorem roth_card : Rows.WalshRothausCardSaid :=
  Claim7.holds_tied_plain_at .later [] [.data] true (true, "1bdd4555b835879820f5825f49a9a126d581a5439c00926851fefbbf51a83008") false
    roth_holds (fun _ h => by cases h) (by kernel_rfl) (fun _ h => by cases h) walshRothaus_row_tie rfl ⟨rfl, rfl⟩ (by kernel_rfl) rfl
    (fun f fn hf hfn => by
      obtain rfl : f = 3 := Option.some.inj ((show Tryd.prog.funcNamed "lockwright/lockwrightkeep.WalshRothaus" = some 3 by kernel_rfl).symm.trans hf) |>.symm
      obtain rfl : fn = Tryd.f3 := (Option.some.inj (Tryd.func3.symm.trans hfn)).symm
      exact ⟨by kernel_rfl, fun j t ht => by
        rw [Tryd.params3] at ht
        have h3 : t = 3 ∨ t = 22 := by
          rcases j with _ | _ | j <;> simp at ht <;> simp [← ht]
        rcases h3 with rfl | rfl
        · exact (show Tryd.prog.wantsStandIn 3 = false by kernel_rfl)
        · exact (show Tryd.prog.wantsStandIn 22 = false by kernel_rfl)⟩)
    (by kernel_rfl)
#print axioms roth_card
end Go.Proofs.YtdljapemhpeaeaaDoor
