/-
  The two laws of package walsh walked: every call returns true and changes nothing that was there.
-/
import Derived.Test.YtdljapemhpeaeaaDoorE
import Derived.Test.YtdljapemhpeaeaaDoorPure2
namespace Go.Proofs.YtdljapemhpeaeaaDoor
open Go.RowKit Wp
theorem flyN_pres (P : Int → Prop) (g : Int → Int → Int × Int) (hg : ∀ a b, P a → P b → P (g a b).1 ∧ P (g a b).2) (N : Nat) : ∀ (k : Nat) (a : Ar), (∀ i, P (a i)) → ∀ i, P (flyN g N k a i) := by
  have row : ∀ (k m : Nat) (a : Ar), (∀ i, P (a i)) → ∀ i, P (rowN g k m a i) := by
    intro k m
    induction m with
    | zero => intro a h; exact h
    | succ m ih =>
      intro a h i
      have h1 := ih a h
      simp only [rowN, pairStep]
      split
      · exact h1 i
      · unfold upd
        split
        · exact (hg _ _ (h1 _) (h1 _)).2
        · split
          · exact (hg _ _ (h1 _) (h1 _)).1
          · exact h1 i
  intro k
  induction k with
  | zero => intro a h; exact h
  | succ k ih => intro a h; exact row k N _ (ih a h)
theorem bv01 (F x : Nat) : bv F x = 0 ∨ bv F x = 1 := by unfold bv; split <;> simp
theorem gx01 : ∀ a b : Int, (a = 0 ∨ a = 1) → (b = 0 ∨ b = 1) → gx a b = ga a b ∧ ((ga a b).1 = 0 ∨ (ga a b).1 = 1) ∧ ((ga a b).2 = 0 ∨ (ga a b).2 = 1) := by
  intro a b ha hb
  rcases ha with rfl | rfl <;> rcases hb with rfl | rfl <;> decide +kernel
def Av (n F : Nat) : Ar := flyN gx (2 ^ n) n (bv F)
theorem av01 (n F : Nat) (i : Nat) : Av n F i = 0 ∨ Av n F i = 1 :=
  flyN_pres (fun a => a = 0 ∨ a = 1) gx (fun a b ha hb => by rw [(gx01 a b ha hb).1]; exact (gx01 a b ha hb).2) _ _ _ (bv01 F) i
theorem av_par (n F : Nat) (hn : n ≤ 5) (s : Nat) (hs : s < 2 ^ n) : Av n F s = sub n s (bv F) % 2 := by
  unfold Av
  rw [flyN_eq gx hn _ n (Nat.le_refl _) s hs, (T_congr gx ga (fun _ a => a = 0 ∨ a = 1) (fun _ _ a b ha hb => gx01 a b ha hb) (bv F) (bv01 F) n hn s).1, anf_par n _ _ (bv01 F) hs]
theorem wv_eq (n F : Nat) (hn : n ≤ 5) (u : Nat) (hu : u < 2 ^ n) : Wv n F u = W n (fun x => 1 - 2 * bv F x) u ∧ -32 ≤ Wv n F u ∧ Wv n F u ≤ 32 := by
  unfold Wv
  have pp : ∀ k < 5, (2 : Int) ^ (k + 1) = 2 * 2 ^ k ∧ (1 : Int) ≤ 2 ^ k ∧ (2 : Int) ^ k ≤ 16 := by decide
  have h := T_congr gv gw (fun k a => -2 ^ k ≤ a ∧ a ≤ 2 ^ k) (fun k hk a b ha hb => by
    obtain ⟨p1, p2, p3⟩ := pp k hk
    simp only [gv, gw]
    rw [p1]
    generalize (2 : Int) ^ k = c at *
    refine ⟨?_, ⟨by omega, by omega⟩, by omega, by omega⟩
    unfold wrap64
    congr 1 <;> omega) (fun x => 1 - 2 * bv F x) (fun z => by rcases bv01 F z with h | h <;> rw [h] <;> decide) n hn u
  rw [flyN_eq gv hn _ n (Nat.le_refl _) u hu, h.1]
  refine ⟨rfl, ?_⟩
  have h5 : ∀ k ≤ 5, (2 : Int) ^ k ≤ 32 := by decide
  have := h5 n hn
  have := h.2
  omega
theorem pc5 : ∀ n ≤ 5, ∀ s < 2 ^ n, pc 5 s = pc n s := by decide +kernel
/-- what the degree is -/
theorem deg_spec (n F : Nat) (hn : n ≤ 5) (d : Int) (h : DegSt (gnum (Av n F) (2 ^ n)) 0 d) :
    (∀ s < 2 ^ n, sub n s (bv F) % 2 = 1 → (pc n s : Int) ≤ d) ∧ (d = -1 ∨ ∃ s, s < 2 ^ n ∧ sub n s (bv F) % 2 = 1 ∧ (pc n s : Int) = d) := by
  have bit : ∀ s, (gnum (Av n F) (2 ^ n)).testBit s = true ↔ s < 2 ^ n ∧ sub n s (bv F) % 2 = 1 := by
    intro s
    rw [gnum_bit (Av n F) (2 ^ n) (fun i _ => av01 n F i) _ (Nat.le_refl _)]
    simp only [Bool.and_eq_true, decide_eq_true_eq]
    constructor
    · intro ⟨a, b⟩; exact ⟨a, by rw [← av_par n F hn s a]; exact b⟩
    · intro ⟨a, b⟩; exact ⟨a, by rw [av_par n F hn s a]; exact b⟩
  obtain ⟨_, h2, h3, _⟩ := h
  refine ⟨fun s hs hb => ?_, ?_⟩
  · rcases h2 s ((bit s).2 ⟨hs, hb⟩) with h | h
    · simp at h
    · rw [← pc5 n hn s hs]; exact h
  · rcases h3 with h | ⟨s, _, hb, hp⟩
    · exact .inl h
    · obtain ⟨hs, hb⟩ := (bit s).1 hb
      exact .inr ⟨s, hs, hb, by rw [← pc5 n hn s hs]; exact hp⟩
theorem deg_le (n F : Nat) (hn : n ≤ 5) (d : Int) (h : DegSt (gnum (Av n F) (2 ^ n)) 0 d) : d ≤ n ∧ -1 ≤ d := by
  have h4 := h.2.2.2
  rcases (deg_spec n F hn d h).2 with h | ⟨s, _, _, h⟩
  · omega
  · have := pc_le n s; omega
theorem law_sieg (n F : Nat) (k : Int) (hn : n ≤ 5) (hk0 : 0 ≤ k) (hk : k ≤ n) (d : Int) (h : DegSt (gnum (Av n F) (2 ^ n)) 0 d)
    (hx : ∀ u < 2 ^ n, ¬ (1 ≤ pc 5 u ∧ (pc 5 u : Int) ≤ k ∧ Wv n F u ≠ 0)) : d + k ≤ n := by
  rcases (deg_spec n F hn d h).2 with h | ⟨s, hs, hb, hp⟩
  · omega
  · apply Classical.byContradiction
    intro hc
    have := sieg_even n k.toNat s (bv F) (by omega) (fun u hu h1 h2 => by
      apply Classical.byContradiction
      intro h0
      exact hx u hu ⟨by rw [pc5 n hn u hu]; exact h1, by rw [pc5 n hn u hu]; omega, by rw [(wv_eq n F hn u hu).1]; exact h0⟩) (by omega)
    omega
theorem lt_of_ok {n f : Int} (h : okW n f = true) : 0 ≤ n ∧ n ≤ 5 := by unfold okW at h; simp at h; omega
theorem gnum_32 (n F : Nat) (hn : n ≤ 5) : gnum (Av n F) (2 ^ n) < 4294967296 := by
  have h := gnum_lt (Av n F) (2 ^ n) (fun i _ => by rcases av01 n F i with h | h <;> omega)
  have h2 : (2 : Nat) ^ (2 ^ n) ≤ 2 ^ 32 := Nat.pow_le_pow_right (by decide) (pow_n n hn)
  omega
theorem function_true (n f : Int) (w : World) (h0 : 0 ≤ f) (h1 : f < 4294967296) (h : okW n f = true) :
    Calls Tryd.prog 7 #[.int .i64 n, .int .u32 f] w fun e w' => e = .returned (.bool true) ∧ w = w' := by
  rw [← h]; exact function_any n f w h0 h1
set_option maxRecDepth 100000 in
set_option maxHeartbeats 1000000 in
theorem sieg_walk (n f k : Int) (h0 : 0 ≤ f) (h1 : f < 4294967296) (w : World) (ht : HasTab w) :
    Calls Tryd.prog 4 #[.int .i64 n, .int .u32 f, .int .i64 k] w fun e w' => e = .returned (.bool true) ∧ Below w.heap.size w w' := by
  cases hok : okW n f with
  | false =>
    have HK := Lib.hid hok
    go_enter Tryd.func4, Tryd.ntmps4
    go_wp2_with (first
      | (go_at_call 8; refine (imm_bad _ _ _ h0 h1 hok _).mono ?_; rintro e w' ⟨rfl, rfl⟩)
      | (go_at_call 6; refine (deg_bad _ _ h0 h1 hok _).mono ?_; rintro e w' ⟨rfl, rfl⟩)
      | (go_at_call 7; refine (function_any _ _ _ h0 h1).mono ?_; rintro e w' ⟨rfl, rfl⟩; rw [HK.out]))
    go_ret
    exact ⟨rfl, Below.refl _ _⟩
  | true =>
    obtain ⟨hn0, hn5⟩ := lt_of_ok hok
    obtain ⟨m, rfl⟩ := Int.eq_ofNat_of_zero_le hn0
    obtain ⟨F, rfl⟩ := Int.eq_ofNat_of_zero_le h0
    have HK := Lib.hid hok; clear hok
    have HT := Lib.hid ht; clear ht
    have hm5 : m ≤ 5 := by omega
    have hF : F < 4294967296 := by omega
    have hd : ∀ w', HasTab w' → Calls Tryd.prog 6 #[.int .i64 m, .int .u32 F] w' fun e w'' => ∃ d : Int, e = .returned (.tuple #[.int .i64 d, .int .i64 0]) ∧ Below w'.heap.size w' w'' ∧ DegSt (gnum (Av m F) (2 ^ m)) 0 d :=
      fun w' ht' => deg_ok m F hm5 hF HK.out (Lib.hid (av01 m F)) w' ht' _ rfl (gnum_32 m F hm5)
    have HD := Lib.hid hd; clear hd
    have H1 := Lib.hid h1; have HF := Lib.hid hF; clear h1 hF
    by_cases hk : k < 0 ∨ (m : Int) < k
    · obtain ⟨c1, c2, hc1, hc2, hc⟩ : ∃ c1 c2, decide (k < 0) = c1 ∧ decide ((m : Int) < k) = c2 ∧ (c1 || c2) = true := ⟨_, _, rfl, rfl, by simpa using hk⟩
      have HKK := Lib.hid hk; clear hk
      cases c1
      all_goals cases c2
      all_goals (first | (cases hc; done) | skip)
      all_goals
        go_enter Tryd.func4, Tryd.ntmps4
        go_wp2_with (first
          | (go_at_call 8; refine (imm_out m F k hm5 HF.out HK.out HKK.out _).mono ?_; rintro e w1 ⟨rfl, hb1⟩)
          | (go_at_call 6; refine (HD.out _ (HT.out.below hb1)).mono ?_; rintro e w2 ⟨d, rfl, hb2, hst⟩; clear hst)
          | (go_at_call 7; refine (function_true _ _ _ h0 H1.out HK.out).mono ?_; rintro e w' ⟨rfl, rfl⟩))
      all_goals
        go_ret
        exact ⟨rfl, hb1.trans (hb2.mono hb1.size)⟩
    · have hk0 : 0 ≤ k := by omega
      have hk1 : k ≤ m := by omega
      clear hk
      have hc1 : decide (k < 0) = false := by simp; omega
      have hc2 : decide ((m : Int) < k) = false := by simp; omega
      go_enter Tryd.func4, Tryd.ntmps4
      go_wp2_with fail
      refine (imm_ok m F k hm5 HF.out HK.out hk0 hk1 _).mono ?_
      rintro e w1 ⟨x, rfl, hb1, hx⟩
      have HX := Lib.hid hx; clear hx
      go_wp2_with fail
      refine (HD.out _ (HT.out.below hb1)).mono ?_
      rintro e w2 ⟨d, rfl, hb2, hst⟩
      have hdl := deg_le m F hm5 d hst
      have hdk : x = true → d + k ≤ m := fun hx => law_sieg m F k hm5 hk0 hk1 d hst (HX.out.1 hx)
      have HX := Lib.hid hdk; clear hdk hst
      go_wp2_with fail
      refine (function_true _ _ _ h0 H1.out HK.out).mono ?_
      rintro e w' ⟨rfl, rfl⟩
      go_wp2_with fail
      refine (imm_ok m F 0 hm5 HF.out HK.out (by omega) (by omega) _).mono ?_
      rintro e w3 ⟨y, rfl, hb3, hy⟩
      obtain rfl : y = true := hy.2 (fun u _ h => by omega)
      clear hy
      have hb := hb1.trans ((hb2.mono hb1.size).trans (hb3.mono (Nat.le_trans hb1.size hb2.size)))
      cases x with
      | true =>
        have hdk := HX.out rfl
        clear HX
        go_wp2
        go_ret
        exact ⟨rfl, hb⟩
      | false =>
        clear HX
        go_wp2
        go_ret
        exact ⟨rfl, hb⟩
end Go.Proofs.YtdljapemhpeaeaaDoor
