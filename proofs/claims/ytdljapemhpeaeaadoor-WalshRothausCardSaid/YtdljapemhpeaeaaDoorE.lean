/-
  The walks of Degree and Immune.
-/
import Derived.Test.YtdljapemhpeaeaaDoorD
namespace Go.Proofs.YtdljapemhpeaeaaDoor
open Go.RowKit Wp
/-- what is left and what has been counted -/
def DegSt (G g : Nat) (d : Int) : Prop := (∀ s, g.testBit s = true → G.testBit s = true) ∧ (∀ s, G.testBit s = true → g.testBit s = true ∨ (pc 5 s : Int) ≤ d) ∧ (d = -1 ∨ ∃ s, s < 32 ∧ G.testBit s = true ∧ (pc 5 s : Int) = d) ∧ -1 ≤ d
theorem DegSt.step {G t q : Nat} {d : Int} (h : DegSt G (2 ^ t * (2 * q + 1)) d) (ht : t < 32) : DegSt G (2 ^ t * (2 * q)) (max d (pc 5 t)) := by
  obtain ⟨h1, h2, h3, h4⟩ := h
  have bit : ∀ s, (2 ^ t * (2 * q + 1)).testBit s = true ↔ s = t ∨ (2 ^ t * (2 * q)).testBit s = true := by
    intro s
    rw [mul_bit, mul_bit, odd_bit]
    by_cases hs : t ≤ s
    · have e2 : (2 * q).testBit (s - t) = if s - t = 0 then false else q.testBit (s - t - 1) := by
        cases s - t with
        | zero => simp
        | succ s => rw [Nat.testBit_succ]; simp
      rw [e2]
      by_cases h0 : s - t = 0
      · have : s = t := by omega
        subst this; simp
      · have : s ≠ t := by omega
        simp [hs, h0, this]
    · have : s ≠ t := by omega
      simp [hs, this]
  refine ⟨fun s hs => h1 s ((bit s).2 (.inr hs)), fun s hs => ?_, ?_, by omega⟩
  · rcases h2 s hs with h | h
    · rcases (bit s).1 h with rfl | h
      · exact .inr (by omega)
      · exact .inl h
    · exact .inr (by omega)
  · by_cases hd : d ≤ pc 5 t
    · exact .inr ⟨t, ht, h1 t ((bit t).2 (.inl rfl)), by omega⟩
    · rcases h3 with h | ⟨s, a, b, c⟩
      · exact .inl (by omega)
      · exact .inr ⟨s, a, b, by omega⟩
theorem HasTab.below {w w' : World} (h : HasTab w) (hb : Below w.heap.size w w') : HasTab w' := fun i hi => by
  have hl := World.block_lt_of_cell? w _ (h 0 (by decide))
  rw [hb.cell (p := ⟨0, i, none⟩) hl]; exact h i hi
theorem clear_bits (t q : Nat) (x : Nat) (hx : x = 2 ^ t * (2 * q + 1)) (h : x < 4294967296) : bits .and .u32 (x : Int) ((x : Int) - 1) = ((2 ^ t * (2 * q) : Nat) : Int) := by
  have hpos : 0 < 2 ^ t * (2 * q + 1) := Nat.mul_pos (Nat.two_pow_pos t) (by omega)
  have e : (x : Int) - 1 = ((x - 1 : Nat) : Int) := by omega
  rw [e, bits_and32 _ _ h (by omega)]
  rw [hx, clear_and]
set_option maxRecDepth 100000 in
set_option maxHeartbeats 1000000 in
theorem deg_ok (n F : Nat) (hn : n ≤ 5) (hF : F < 4294967296) (hok : okW n F = true) (hA : Hid (∀ i, flyN gx (2 ^ n) n (bv F) i = 0 ∨ flyN gx (2 ^ n) n (bv F) i = 1)) (w : World) (ht : HasTab w)
    (G : Nat) (hG : Hid (G = gnum (flyN gx (2 ^ n) n (bv F)) (2 ^ n))) (hGlt : G < 4294967296) :
    Calls Tryd.prog 6 #[.int .i64 n, .int .u32 F] w fun e w' => ∃ d : Int, e = .returned (.tuple #[.int .i64 d, .int .i64 0]) ∧ Below w.heap.size w w' ∧ DegSt G 0 d := by
  have HK := Lib.hid hok; clear hok
  have HT := Lib.hid ht; clear ht
  go_enter Tryd.func6, Tryd.ntmps6
  go_wp2_with (first
    | (go_at_call 9; refine (out_any _ _ _ (by omega) (by omega)).mono ?_; rintro e w' ⟨rfl, rfl⟩; rw [HK.out])
    | (go_at_call 12; refine (anf_ok n F hn hF hA _).mono ?_; rintro e w1 ⟨rfl, hb1⟩; rw [← hG.out]))
  go_loop [6, 7] (fun d g => ∃ (x : Nat) (y : Int), g = .int .u32 x ∧ d = .int .i64 y ∧ x ≤ G ∧ DegSt G x y) (fun _ g => (intOf g).toNat)
  case atStart => exact ⟨G, -1, rfl, rfl, Nat.le_refl _, fun s h => h, fun s h => .inl h, .inl rfl, by omega⟩
  case round =>
    obtain ⟨x, y, rfl, rfl, hle, hst⟩ := hrel
    have HS := Lib.hid hst; clear hst
    by_cases h0 : x = 0
    · subst h0
      go_wp2
      go_ret2
      exact ⟨y, rfl, hb1, HS.out⟩
    · obtain ⟨t, q, hx⟩ := odd_part x (by omega)
      have hcl := clear_bits t q x hx (by omega)
      have ht32 := (low_and (t := t) (q := q) (by rw [← hx]; omega)).2
      have hy : 2 ^ t * (2 * q) < x := by rw [hx, Nat.mul_add]; have := Nat.two_pow_pos t; omega
      obtain ⟨z, hz⟩ : ∃ z, z = 2 ^ t * (2 * q) := ⟨_, rfl⟩
      rw [← hz] at hcl hy
      have HX := Lib.hid hx; have HZ := Lib.hid hz; clear hx hz
      go_wp2_with (first
        | (go_at_call 14; refine (tz_any x t q HX _ (by omega) (HT.out.below hb1)).mono ?_; rintro e w' ⟨rfl, rfl⟩)
        | (go_at_call 13; refine (ones_any t _ ht32).mono ?_; rintro e w' ⟨rfl, rfl⟩))
      refine ⟨⟨z, max y (pc 5 t), rfl, ?_, by omega, ?_⟩, by simp [intOf]; omega⟩
      · congr 1
        by_cases h : y < (pc 5 t : Int)
        · rw [if_pos h]; omega
        · rw [if_neg h]; omega
      · have := HS.out
        rw [HX.out] at this
        rw [HZ.out]
        exact this.step ht32
set_option maxHeartbeats 1000000 in
theorem deg_bad (n f : Int) (h0 : 0 ≤ f) (h1 : f < 4294967296) (hok : okW n f = false) (w : World) :
    Calls Tryd.prog 6 #[.int .i64 n, .int .u32 f] w fun e w' => e = .returned (.tuple #[.int .i64 0, .int .i64 2]) ∧ w = w' := by
  have HK := Lib.hid hok; clear hok
  go_enter Tryd.func6, Tryd.ntmps6
  go_wp2_with (go_at_call 9; refine (out_any _ _ _ h0 h1).mono ?_; rintro e w' ⟨rfl, rfl⟩; rw [HK.out])
  go_ret2
  exact ⟨rfl, rfl⟩
set_option maxHeartbeats 1000000 in
theorem waves_bad (n f : Int) (h0 : 0 ≤ f) (h1 : f < 4294967296) (hok : okW n f = false) (w : World) :
    Calls Tryd.prog 5 #[.int .i64 n, .int .u32 f] w fun e w' => e = .returned (.tuple #[.slice none 0 0, .int .i64 2]) ∧ w = w' := by
  have HK := Lib.hid hok; clear hok
  go_enter Tryd.func5, Tryd.ntmps5
  go_wp2_with (go_at_call 9; refine (out_any _ _ _ h0 h1).mono ?_; rintro e w' ⟨rfl, rfl⟩; rw [HK.out])
  go_ret2
  exact ⟨rfl, rfl⟩
set_option maxHeartbeats 1000000 in
theorem imm_bad (n f k : Int) (h0 : 0 ≤ f) (h1 : f < 4294967296) (hok : okW n f = false) (w : World) :
    Calls Tryd.prog 8 #[.int .i64 n, .int .u32 f, .int .i64 k] w fun e w' => e = .returned (.tuple #[.bool false, .int .i64 2]) ∧ w = w' := by
  go_enter Tryd.func8, Tryd.ntmps8
  go_wp2_with (go_at_call 5; refine (waves_bad _ _ h0 h1 hok _).mono ?_; rintro e w' ⟨rfl, rfl⟩)
  go_ret2
  exact ⟨rfl, rfl⟩
def gv (a b : Int) : Int × Int := (wrap64 (a + b), wrap64 (a - b))
def Wv (n F : Nat) : Ar := flyN gv (2 ^ n) n fun x => 1 - 2 * bv F x
set_option maxHeartbeats 1000000 in
theorem imm_out (n F : Nat) (k : Int) (hn : n ≤ 5) (hF : F < 4294967296) (hok : okW n F = true) (hk : k < 0 ∨ (n : Int) < k) (w : World) :
    Calls Tryd.prog 8 #[.int .i64 n, .int .u32 F, .int .i64 k] w fun e w' => e = .returned (.tuple #[.bool false, .int .i64 2]) ∧ Below w.heap.size w w' := by
  by_cases hk0 : k < 0
  · clear hk
    go_enter Tryd.func8, Tryd.ntmps8
    go_wp2_with (go_at_call 5; refine (waves_ok n F hn hF hok _).mono ?_; rintro e w1 ⟨b, rfl, hb, hb1, hr⟩; clear hr)
    go_ret2
    exact ⟨rfl, hb1⟩
  · have hk1 : (n : Int) < k := by omega
    clear hk
    go_enter Tryd.func8, Tryd.ntmps8
    go_wp2_with (go_at_call 5; refine (waves_ok n F hn hF hok _).mono ?_; rintro e w1 ⟨b, rfl, hb, hb1, hr⟩; clear hr)
    go_ret2
    exact ⟨rfl, hb1⟩
/-- what Immune answers -/
def ImmPost (A : Ar) (N : Nat) (k : Int) (w : World) (e : Ending) (w' : World) : Prop := ∃ x : Bool, e = .returned (.tuple #[.bool x, .int .i64 0]) ∧ Below w.heap.size w w' ∧
  (x = true ↔ ∀ u < N, ¬ (1 ≤ pc 5 u ∧ (pc 5 u : Int) ≤ k ∧ A u ≠ 0))
set_option maxRecDepth 100000 in
set_option maxHeartbeats 1000000 in
theorem imm_ok (n F : Nat) (k : Int) (hn : n ≤ 5) (hF : F < 4294967296) (hok : okW n F = true) (hk0 : 0 ≤ k) (hk1 : k ≤ n) (w : World) :
    Calls Tryd.prog 8 #[.int .i64 n, .int .u32 F, .int .i64 k] w (ImmPost (Wv n F) (2 ^ n) k w) := by
  have hp := pow_n n hn
  have hWv := waves_ok n F hn hF hok
  change ∀ w, Calls Tryd.prog 5 #[.int .i64 n, .int .u32 F] w fun e w' => ∃ b, e = .returned (.tuple #[.slice (some ⟨b, 0, none⟩) (2 ^ n) (2 ^ n), .int .i64 0]) ∧ w.heap.size ≤ b ∧ Below w.heap.size w w' ∧ Row w' b (2 ^ n) (Wv n F) at hWv
  obtain ⟨A, hA⟩ : ∃ A, A = Wv n F := ⟨_, rfl⟩
  obtain ⟨N, hN⟩ : ∃ N, N = 2 ^ n := ⟨_, rfl⟩
  rw [← hN] at hp
  rw [← hA, ← hN] at hWv ⊢
  have HW := Lib.hid hWv
  clear hWv hA hN hok
  go_enter Tryd.func8, Tryd.ntmps8
  go_wp2_with (go_at_call 5; refine (HW.out _).mono ?_; rintro e w1 ⟨b, rfl, hb, hb1, hr⟩; have HR := Lib.hid hr; clear hr)
  go_loop [31] (fun t => ∃ m : Nat, m ≤ N ∧ t = .int .i64 m ∧ ∀ u < m, ¬ (1 ≤ pc 5 u ∧ (pc 5 u : Int) ≤ k ∧ A u ≠ 0)) (fun t => N - (intOf t).toNat)
  case atStart => exact ⟨0, Nat.zero_le _, rfl, fun u h => absurd h (Nat.not_lt_zero _)⟩
  case round =>
    obtain ⟨m, hm, rfl, hall⟩ := hrel
    have HA := Lib.hid hall; clear hall
    by_cases hmt : m < N
    · have c1 := HR.out.1 m hmt
      have hm32 : m < 32 := by omega
      by_cases hc1 : 1 ≤ (pc 5 m : Int)
      · by_cases hc2 : (pc 5 m : Int) ≤ k
        · by_cases hc3 : A m = 0
          · have hc4 : (A m != 0) = false := by rw [hc3]; rfl
            have HC := Lib.hid hc3; clear hc3
            go_wp2_with (go_at_call 13; refine (ones_any m _ hm32).mono ?_; rintro e w' ⟨rfl, rfl⟩)
            refine ⟨⟨m + 1, by omega, rfl, fun u hu => ?_⟩, by simp [intOf]; omega⟩
            by_cases e : u = m
            · subst e; exact fun h => h.2.2 HC.out
            · exact HA.out u (by omega)
          · have hc4 : (A m != 0) = true := by simpa using hc3
            have HC := Lib.hid hc3; clear hc3
            go_wp2_with (go_at_call 13; refine (ones_any m _ hm32).mono ?_; rintro e w' ⟨rfl, rfl⟩)
            go_ret2
            exact ⟨false, rfl, hb1, by simp; exact ⟨m, hmt, by omega, hc2, HC.out⟩⟩
        · go_wp2_with (go_at_call 13; refine (ones_any m _ hm32).mono ?_; rintro e w' ⟨rfl, rfl⟩)
          refine ⟨⟨m + 1, by omega, rfl, fun u hu => ?_⟩, by simp [intOf]; omega⟩
          by_cases e : u = m
          · subst e; exact fun h => absurd h.2.1 (by omega)
          · exact HA.out u (by omega)
      · go_wp2_with (go_at_call 13; refine (ones_any m _ hm32).mono ?_; rintro e w' ⟨rfl, rfl⟩)
        refine ⟨⟨m + 1, by omega, rfl, fun u hu => ?_⟩, by simp [intOf]; omega⟩
        by_cases e : u = m
        · subst e; exact fun h => absurd h.1 (by omega)
        · exact HA.out u (by omega)
    · obtain rfl : m = N := by omega
      clear hmt
      go_wp2
      go_ret2
      exact ⟨true, rfl, hb1, by simp only [true_iff]; exact HA.out⟩
end Go.Proofs.YtdljapemhpeaeaaDoor
