/-
  The walk of fly.
-/
import Derived.Test.YtdljapemhpeaeaaDoorA
import Derived.Test.YtdljapemhpeaeaaDoorPure
import Derived.Outline
import Derived.Deep.RegionHeld3
import Derived.Deep.RegionWith
import Derived.Deep.LoopGhost
import Derived.Lib.Hide
namespace Go.Proofs.YtdljapemhpeaeaaDoor
open Go.RowKit Wp
/-- The cells of a row of numbers. -/
def Row (w : World) (b N : Nat) (a : Ar) : Prop := (∀ i < N, w.cell? ⟨b, i, none⟩ = some (.int .i64 (a i))) ∧ ∀ i, w.frozen? ⟨b, i, none⟩ = false
theorem Row.set {w : World} {b N : Nat} {A : Ar} (h : Row w b N A) {m : Nat} (hm : m < N) (v : Int) : Row (w.setCell ⟨b, m, none⟩ (.int .i64 v)) b N (upd A m v) := by
  refine ⟨fun i hi => ?_, fun i => by rw [World.frozen?_setCell]; exact h.2 i⟩
  unfold upd
  by_cases e : i = m
  · subst e
    rw [if_pos rfl]
    exact World.cell?_setCell_same' _ _ _ (by rw [h.1 i hi]; rfl)
  · rw [if_neg e, World.cell?_setCell_other _ _ _ _ (by intro h; injection h with _ h _; omega)]
    exact h.1 i hi
theorem Row.drew {w : World} {b N : Nat} {A : Ar} (h : Row w b N A) : Row w.drew b N A := h
theorem or_set : ∀ k < 5, ∀ m : Nat, m < 32 → m.testBit k = true → bits BinOp.or .i64 (m : Int) (wrap64 (2 ^ k)) = (m : Int) := by decide +kernel
theorem or_clear : ∀ k < 5, ∀ m : Nat, m < 32 → m.testBit k = false → bits BinOp.or .i64 (m : Int) (wrap64 (2 ^ k)) = (m : Int) + ((2 ^ k : Nat) : Int) := by decide +kernel
theorem up_lt : ∀ n ≤ 5, ∀ k < n, ∀ z < 2 ^ n, z.testBit k = false → z + 2 ^ k < 2 ^ n := by decide +kernel
set_option maxRecDepth 100000 in
set_option maxHeartbeats 1000000 in
theorem fly_w (g : Int → Int → Int × Int)
    (hpair : Hid (∀ (x y : Int) (w : World), Calls Tryd.prog 11 #[.int .i64 x, .int .i64 y] w fun e w' => e = .returned (.tuple #[.int .i64 (g x y).1, .int .i64 (g x y).2]) ∧ w = w'))
    (n N b base : Nat) (hn : n ≤ 5) (hN : Hid (N = 2 ^ n)) (hN32 : N ≤ 32) (a : Ar) (w : World) (hr : Row w b N a) (hb : base ≤ b) :
    Calls Tryd.prog 10 #[.int .i64 n, .slice (some ⟨b, 0, none⟩) N N, .func (.func 11) #[] #[]] w fun e w' => e = .returned (.tuple #[]) ∧ Below base w w' ∧ Row w' b N (flyN g N n a) := by
  go_enter Tryd.func10, Tryd.ntmps10
  go_wp2
  go_loopw [10] (fun t wr => ∃ k : Nat, k ≤ n ∧ t = .int .i64 k ∧ Below base w wr ∧ Row wr b N (flyN g N k a)) (fun t _ => n - (intOf t).toNat)
  case atStart => exact ⟨0, Nat.zero_le _, rfl, Below.refl _ _, hr⟩
  case round =>
    obtain ⟨k, hk, rfl, hbel, hrow⟩ := hrel
    by_cases hlt : k < n
    · have H := Lib.hid hrow; clear hrow
      go_wp2
      obtain ⟨wo, rfl⟩ : ∃ wo : World, wo = wr := ⟨_, rfl⟩
      go_loopw [15] (fun t wr => ∃ m : Nat, m ≤ N ∧ t = .int .i64 m ∧ Below base w wr ∧ Row wr b N (rowN g k m (flyN g N k a))) (fun t _ => N - (intOf t).toNat)
      case atStart => exact ⟨0, Nat.zero_le _, rfl, hbel, H.out⟩
      case round =>
        obtain ⟨m, hm, rfl, hbel2, hrow2⟩ := hrel
        have H2 := Lib.hid hrow2; clear hrow2
        by_cases hmt : m < N
        · by_cases hbit : m.testBit k = true
          · have hor := or_set k (by omega) m (by omega) hbit
            go_wp2
            refine ⟨⟨m + 1, by omega, rfl, hbel2, ?_⟩, by simp [intOf]; omega⟩
            have e : rowN g k (m + 1) (flyN g N k a) = rowN g k m (flyN g N k a) := by
              simp only [rowN, pairStep]
              rw [if_pos (by rw [or_pow (by omega) (by omega), if_pos hbit])]
            rw [e]; exact H2.out
          · have hbit' : m.testBit k = false := by simpa using hbit
            have hup := up_lt n hn k hlt m (by rw [← hN.out]; exact hmt) hbit'
            have hpp : 0 < 2 ^ k := Nat.two_pow_pos k
            have hor := or_clear k (by omega) m (by omega) hbit'
            rw [← hN.out] at hup
            obtain ⟨p, hp⟩ : ∃ p, p = 2 ^ k := ⟨_, rfl⟩
            rw [← hp] at hor hup hpp
            have HP := Lib.hid hp; have HB := Lib.hid hbit'; clear hp hbit hbit'
            have c1 := H2.out.1 m hmt
            have c2 := H2.out.1 (m + p) hup
            have f0 := H2.out.2
            have d1 : ∀ v, (wr.setCell ⟨b, m, none⟩ v).cell? ⟨b, m + p, none⟩ = some (.int .i64 (rowN g k m (flyN g N k a) (m + p))) := fun v => by
              rw [World.cell?_setCell_other _ _ _ _ (by intro e; injection e with _ e _; omega)]; exact c2
            have d2 : ∀ v, (wr.setCell ⟨b, m + p, none⟩ v).cell? ⟨b, m, none⟩ = some (.int .i64 (rowN g k m (flyN g N k a) m)) := fun v => by
              rw [World.cell?_setCell_other _ _ _ _ (by intro e; injection e with _ e _; omega)]; exact c1
            go_wp2
            have hi0 : (0 : Int) ≤ (m : Int) := by omega
            have hi1 : (m : Int) < (N : Int) := by omega
            have hj0 : (0 : Int) ≤ (m : Int) + (p : Int) := by omega
            have hj1 : (m : Int) + (p : Int) < (N : Int) := by omega
            have ht : ((m : Int) + (p : Int)).toNat = m + p := by omega
            go_region_with (go_at_call 11; refine (hpair.out _ _ _).mono ?_; rintro e w' ⟨rfl, rfl⟩)
            all_goals
              clear hi0 hi1 hj0 hj1 ht d1 d2 c1 c2 f0 hor
              go_wp2
              refine ⟨⟨m + 1, by omega, rfl, ((hbel2.setCell (p := ⟨b, m, none⟩) hb _).setCell (p := ⟨b, m + p, none⟩) hb _).drew, ?_⟩, by simp [intOf]; omega⟩
              have e : rowN g k (m + 1) (flyN g N k a) = upd (upd (rowN g k m (flyN g N k a)) m (g (rowN g k m (flyN g N k a) m) (rowN g k m (flyN g N k a) (m + p))).1) (m + p)
                  (g (rowN g k m (flyN g N k a) m) (rowN g k m (flyN g N k a) (m + p))).2 := by
                have hor := or_pow (k := k) (x := m) (by omega) (by omega)
                rw [HB.out] at hor
                simp only [Bool.false_eq_true, if_false] at hor
                simp only [rowN, pairStep]
                rw [hor, ← HP.out, if_neg (by omega)]
              rw [e]
              exact ((H2.out.set hmt _).set hup _).drew
        · go_wp2
          refine ⟨⟨k + 1, by omega, rfl, hbel2, ?_⟩, by simp [intOf]; omega⟩
          obtain rfl : m = N := by omega
          exact H2.out
    · go_wp2
      go_end0
      obtain rfl : k = n := by omega
      exact ⟨rfl, hbel, hrow⟩
set_option maxRecDepth 100000 in
set_option maxHeartbeats 1000000 in
theorem fly_a (g : Int → Int → Int × Int)
    (hpair : Hid (∀ (x y : Int) (w : World), Calls Tryd.prog 16 #[.int .i64 x, .int .i64 y] w fun e w' => e = .returned (.tuple #[.int .i64 (g x y).1, .int .i64 (g x y).2]) ∧ w = w'))
    (n N b base : Nat) (hn : n ≤ 5) (hN : Hid (N = 2 ^ n)) (hN32 : N ≤ 32) (a : Ar) (w : World) (hr : Row w b N a) (hb : base ≤ b) :
    Calls Tryd.prog 10 #[.int .i64 n, .slice (some ⟨b, 0, none⟩) N N, .func (.func 16) #[] #[]] w fun e w' => e = .returned (.tuple #[]) ∧ Below base w w' ∧ Row w' b N (flyN g N n a) := by
  go_enter Tryd.func10, Tryd.ntmps10
  go_wp2
  go_loopw [10] (fun t wr => ∃ k : Nat, k ≤ n ∧ t = .int .i64 k ∧ Below base w wr ∧ Row wr b N (flyN g N k a)) (fun t _ => n - (intOf t).toNat)
  case atStart => exact ⟨0, Nat.zero_le _, rfl, Below.refl _ _, hr⟩
  case round =>
    obtain ⟨k, hk, rfl, hbel, hrow⟩ := hrel
    by_cases hlt : k < n
    · have H := Lib.hid hrow; clear hrow
      go_wp2
      obtain ⟨wo, rfl⟩ : ∃ wo : World, wo = wr := ⟨_, rfl⟩
      go_loopw [15] (fun t wr => ∃ m : Nat, m ≤ N ∧ t = .int .i64 m ∧ Below base w wr ∧ Row wr b N (rowN g k m (flyN g N k a))) (fun t _ => N - (intOf t).toNat)
      case atStart => exact ⟨0, Nat.zero_le _, rfl, hbel, H.out⟩
      case round =>
        obtain ⟨m, hm, rfl, hbel2, hrow2⟩ := hrel
        have H2 := Lib.hid hrow2; clear hrow2
        by_cases hmt : m < N
        · by_cases hbit : m.testBit k = true
          · have hor := or_set k (by omega) m (by omega) hbit
            go_wp2
            refine ⟨⟨m + 1, by omega, rfl, hbel2, ?_⟩, by simp [intOf]; omega⟩
            have e : rowN g k (m + 1) (flyN g N k a) = rowN g k m (flyN g N k a) := by
              simp only [rowN, pairStep]
              rw [if_pos (by rw [or_pow (by omega) (by omega), if_pos hbit])]
            rw [e]; exact H2.out
          · have hbit' : m.testBit k = false := by simpa using hbit
            have hup := up_lt n hn k hlt m (by rw [← hN.out]; exact hmt) hbit'
            have hpp : 0 < 2 ^ k := Nat.two_pow_pos k
            have hor := or_clear k (by omega) m (by omega) hbit'
            rw [← hN.out] at hup
            obtain ⟨p, hp⟩ : ∃ p, p = 2 ^ k := ⟨_, rfl⟩
            rw [← hp] at hor hup hpp
            have HP := Lib.hid hp; have HB := Lib.hid hbit'; clear hp hbit hbit'
            have c1 := H2.out.1 m hmt
            have c2 := H2.out.1 (m + p) hup
            have f0 := H2.out.2
            have d1 : ∀ v, (wr.setCell ⟨b, m, none⟩ v).cell? ⟨b, m + p, none⟩ = some (.int .i64 (rowN g k m (flyN g N k a) (m + p))) := fun v => by
              rw [World.cell?_setCell_other _ _ _ _ (by intro e; injection e with _ e _; omega)]; exact c2
            have d2 : ∀ v, (wr.setCell ⟨b, m + p, none⟩ v).cell? ⟨b, m, none⟩ = some (.int .i64 (rowN g k m (flyN g N k a) m)) := fun v => by
              rw [World.cell?_setCell_other _ _ _ _ (by intro e; injection e with _ e _; omega)]; exact c1
            go_wp2
            have hi0 : (0 : Int) ≤ (m : Int) := by omega
            have hi1 : (m : Int) < (N : Int) := by omega
            have hj0 : (0 : Int) ≤ (m : Int) + (p : Int) := by omega
            have hj1 : (m : Int) + (p : Int) < (N : Int) := by omega
            have ht : ((m : Int) + (p : Int)).toNat = m + p := by omega
            go_region_with (go_at_call 16; refine (hpair.out _ _ _).mono ?_; rintro e w' ⟨rfl, rfl⟩)
            all_goals
              clear hi0 hi1 hj0 hj1 ht d1 d2 c1 c2 f0 hor
              go_wp2
              refine ⟨⟨m + 1, by omega, rfl, ((hbel2.setCell (p := ⟨b, m, none⟩) hb _).setCell (p := ⟨b, m + p, none⟩) hb _).drew, ?_⟩, by simp [intOf]; omega⟩
              have e : rowN g k (m + 1) (flyN g N k a) = upd (upd (rowN g k m (flyN g N k a)) m (g (rowN g k m (flyN g N k a) m) (rowN g k m (flyN g N k a) (m + p))).1) (m + p)
                  (g (rowN g k m (flyN g N k a) m) (rowN g k m (flyN g N k a) (m + p))).2 := by
                have hor := or_pow (k := k) (x := m) (by omega) (by omega)
                rw [HB.out] at hor
                simp only [Bool.false_eq_true, if_false] at hor
                simp only [rowN, pairStep]
                rw [hor, ← HP.out, if_neg (by omega)]
              rw [e]
              exact ((H2.out.set hmt _).set hup _).drew
        · go_wp2
          refine ⟨⟨k + 1, by omega, rfl, hbel2, ?_⟩, by simp [intOf]; omega⟩
          obtain rfl : m = N := by omega
          exact H2.out
    · go_wp2
      go_end0
      obtain rfl : k = n := by omega
      exact ⟨rfl, hbel, hrow⟩
end Go.Proofs.YtdljapemhpeaeaaDoor
