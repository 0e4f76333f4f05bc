/-
  Feistel: Order.
-/
import Derived.Test.YtkhbopdjokicmaaFeistelI
import Derived.Test.YtkhbopdjokicmaaFeistelP
namespace Go.Proofs.Ytkhbopdjokicmaa
open Go.RowKit
theorem xor_cancel {a b f : Nat} (h : a ^^^ f = b ^^^ f) : a = b := by
  have := congrArg (· ^^^ f) h
  simpa [Nat.xor_assoc] using this
theorem rstep_inj {p q : Nat × Nat} {r : List Int} (h : rstep p r = rstep q r) : p = q := by
  obtain ⟨a, b⟩ := p
  obtain ⟨c, d⟩ := q
  unfold rstep at h
  simp only [Prod.mk.injEq] at h
  obtain ⟨rfl, h2⟩ := h
  rw [xor_cancel h2]
theorem fold_inj (rows : List (List Int)) : ∀ p q : Nat × Nat, rows.foldl rstep p = rows.foldl rstep q → p = q := by
  induction rows with
  | nil => intro p q h; exact h
  | cons r rows ih => intro p q h; exact rstep_inj (ih _ _ h)
theorem seal_perm (rows : List (List Int)) (hg : Good rows) : Perm 256 (sealN rows) := by
  refine ⟨fun x hx => sealN_lt rows hg x hx, fun x hx y hy h => ?_⟩
  have h1 := fold_lt rows hg (x / 16, x % 16) ⟨by simp only []; omega, by simp only []; omega⟩
  have h2 := fold_lt rows hg (y / 16, y % 16) ⟨by simp only []; omega, by simp only []; omega⟩
  unfold sealN halves at h
  have e : rows.foldl rstep (x / 16, x % 16) = rows.foldl rstep (y / 16, y % 16) := Prod.ext (by omega) (by omega)
  have := fold_inj rows _ _ e
  simp only [Prod.mk.injEq] at this
  omega
def seenArr (S : Nat → Bool) : Array Value := ((List.range 256).map fun i => Value.bool (S i)).toArray
/-- the block of what was seen -/
def Seen (w : World) (g : Nat) (S : Nat → Bool) : Prop := w.heap[g]? = some (.cells (seenArr S) 31 (0, 0))
theorem Seen.cell {w : World} {g : Nat} {S : Nat → Bool} (h : Seen w g S) {y : Nat} (hy : y < 256) : w.cell? ⟨g, y, none⟩ = some (.bool (S y)) := by
  unfold Seen at h
  simp [World.cell?, h, seenArr, hy]
theorem Seen.frozen {w : World} {g : Nat} {S : Nat → Bool} (h : Seen w g S) (y : Nat) : w.frozen? ⟨g, y, none⟩ = false := by
  unfold Seen at h
  simp [World.frozen?, h]
theorem Seen.lt {w : World} {g : Nat} {S : Nat → Bool} (h : Seen w g S) : g < w.heap.size := by
  rcases Nat.lt_or_ge g w.heap.size with hlt | hge
  · exact hlt
  · unfold Seen at h; rw [Array.getElem?_eq_none hge] at h; cases h
theorem Seen.set_ {w : World} {g : Nat} {S : Nat → Bool} (h : Seen w g S) (y : Nat) : Seen (w.setCell ⟨g, y, none⟩ (.bool true)) g (mark S y) := by
  unfold Seen at h ⊢
  simp only [World.setCell, Array.getElem?_modify, h, if_true, Option.map_some]
  congr 2
  unfold seenArr
  apply Array.ext
  · simp
  · intro i h1 h2
    simp at h1 h2
    simp [mark]
    by_cases e : y = i
    · subst e; simp
    · have : ¬ i = y := fun h => e h.symm
      simp [e, this]
theorem Seen.keep {w w' : World} {g : Nat} {S : Nat → Bool} (h : Seen w g S) (hk : Keep (fun _ => False) w w') : Seen w' g S := (hk.block g h.lt (fun h => h)).trans h
/-- what Order tells -/
def OrdPost (rows : List (List Int)) (w : World) (e : Ending) (w' : World) : Prop :=
  ∃ (o : Nat) (S : Nat → Bool), e = .returned (.tuple #[.int .i64 o, .int .i64 0]) ∧ Ord 256 (sealN rows) S o ∧ (∀ i < 256, S i = true) ∧ Keep (fun _ => False) w w'
theorem zero_seen : ∀ w, (zeroValue 31).run Try.prog w = .ok (.agg (seenArr fun _ => false)) w := fun w => by kernel_rfl
/-- what one round of the outer loop reaches -/
def Upto (f : Nat → Nat) (x : Nat) (S : Nat → Bool) (o : Nat) : Prop := Ord 256 f S o ∧ ∀ i < x, S i = true
set_option maxRecDepth 100000 in
set_option maxHeartbeats 2000000 in
theorem order_ok (A : Option Addr) (n c : Nat) (rows : List (List Int)) (w : World) (h : Grid w w.heap.size A n rows) (h0 : roundsE rows 0 = 0) :
    Calls Try.prog 4 #[.slice A n c] w (OrdPost rows w) := by
  obtain ⟨hl64, hgood, _⟩ := good_of h0
  have hl := h.1
  have hp := seal_perm rows hgood
  have hn : n ≤ 64 := by omega
  have H := Lib.hid h; have HG := Lib.hid hgood; have H0 := Lib.hid h0; have HL := Lib.hid hl; have HP := Lib.hid hp; clear h hgood h0 hl hl64 hp
  obtain ⟨f, hf⟩ : ∃ f, f = sealN rows := ⟨_, rfl⟩
  have hz := zero_seen
  obtain ⟨Z, hZ⟩ : ∃ Z, Z = seenArr fun _ => false := ⟨_, rfl⟩
  rw [← hZ] at hz
  have HZ := Lib.hid hZ; have HF := Lib.hid hf; clear hZ hf
  go_enter Try.func4, Try.ntmps4
  go_wp2_with (go_at_call 8; refine (wrong_any _ _ _ rows _ _ H.out).mono ?_; rintro e w' ⟨rfl, rfl⟩; rw [H0.out])
  clear hz
  obtain ⟨g, hg⟩ : ∃ g, g = w.heap.size := ⟨_, rfl⟩
  rw [← hg]
  have HGS := Lib.hid hg; clear hg
  go_loopw [6, 17] (fun ov xv wr => ∃ (x o : Nat) (S : Nat → Bool), x ≤ 256 ∧ xv = .int .i64 x ∧ ov = .int .i64 o ∧ Upto f x S o ∧ Seen wr g S ∧ Keep (fun _ => False) w wr) (fun _ xv _ => 256 - (intOf xv).toNat)
  case atStart =>
    refine ⟨0, 1, fun _ => false, Nat.zero_le _, rfl, rfl, ⟨Ord.start _ _, fun i h => absurd h (Nat.not_lt_zero _)⟩, ?_, (Keep.refl _ _).alloc _⟩
    unfold Seen
    rw [HGS.out, ← HZ.out]
    exact heap_alloc_new w _
  case round =>
    obtain ⟨x, o, S0, hx, rfl, rfl, hup, hseen, hk⟩ := hrel
    have HU := Lib.hid hup; have HS := Lib.hid hseen; have HK := Lib.hid hk; clear hup hseen hk
    by_cases hlt : x < 256
    · have b0 : decide ((x : Int) < 256) = true := by simp; omega
      go_wp2_with fail
      clear b0
      obtain ⟨wo, rfl⟩ : ∃ wo : World, wo = wr := ⟨_, rfl⟩
      go_loopw [8, 9] (fun sv yv wr => ∃ (k : Nat) (S : Nat → Bool), sv = .int .i64 k ∧ yv = .int .i64 (it f k x : Nat) ∧ Way 256 f S0 x k S ∧ Seen wr g S ∧ Keep (fun _ => False) w wr) (fun sv _ _ => 257 - (intOf sv).toNat)
      case atStart => exact ⟨0, S0, rfl, rfl, Way.start _ _ _ _, HS.out, HK.out⟩
      case round =>
        obtain ⟨k, S, rfl, rfl, hway, hseen, hk⟩ := hrel
        have hk256 : k ≤ 256 := by have h1 := hway.count; have h2 := cnt_le S 256; omega
        have hy256 : it f k x < 256 := by rw [HF.out]; exact HP.out.it_lt k x hlt
        have hcell := hseen.cell hy256
        have hfroz := hseen.frozen (it f k x)
        have HW := Lib.hid hway; have HSE := Lib.hid hseen; have HK2 := Lib.hid hk; clear hway hseen hk
        obtain ⟨y, hy⟩ : ∃ y, y = it f k x := ⟨_, rfl⟩
        rw [← hy] at hcell hfroz hy256 ⊢
        have HY := Lib.hid hy; clear hy
        cases hb : S y with
        | false =>
          rw [hb] at hcell
          have hkeep : Keep (fun _ => False) w (wr.setCell ⟨g, y, none⟩ (.bool true)) := HK2.out.setCell (p := ⟨g, y, none⟩) (.inl (Nat.le_of_eq HGS.out.symm)) _
          have hg2 : Grid (wr.setCell ⟨g, y, none⟩ (.bool true)) (wr.setCell ⟨g, y, none⟩ (.bool true)).heap.size A n rows := (H.out.below (hkeep.below (Nat.le_refl _) fun _ h => h.elim)).more hkeep.size
          have HG2 := Lib.hid hg2; have HB := Lib.hid hb; have HKP := Lib.hid hkeep; clear hg2 hb hkeep
          go_wp2_with (go_at_call 9; refine (seal_any _ _ _ rows y _ HG2.out HG.out hn hy256).mono ?_; rintro e w' ⟨rfl, hk3⟩; have HK3 := Lib.hid hk3; clear hk3)
          refine ⟨⟨k + 1, mark S y, rfl, ?_, ?_, (HSE.out.set_ y).keep HK3.out, HKP.out.trans HK3.out⟩, by simp [intOf]; omega⟩
          · rw [it_succ', ← HY.out, HF.out]
          · rw [HY.out]
            exact HW.out.step (by rw [HF.out]; exact HP.out) hlt (by rw [← HY.out]; exact HB.out)
        | true =>
          rw [hb] at hcell
          have HB := Lib.hid hb; clear hb
          have hpf : Perm 256 f := by rw [HF.out]; exact HP.out
          have HPF := Lib.hid hpf; clear hpf
          by_cases hk0 : k = 0
          · subst hk0
            go_wp2_with fail
            refine ⟨⟨x + 1, o, S, by omega, rfl, rfl, ⟨HU.out.1.same HW.out, fun i hi => ?_⟩, HSE.out, HK2.out⟩, by simp [intOf]; omega⟩
            have hs := HB.out
            rw [HY.out] at hs
            have hmem := (HW.out.mem i).2
            by_cases hix : i = x
            · subst hix; exact hs
            · exact hmem (.inl (HU.out.2 i (by omega)))
          · have hk1 : 1 ≤ k := by omega
            have b1 : decide ((0 : Int) < (k : Int)) = true := by simp; omega
            clear hk0
            have ho63 := HU.out.1.lt
            have hord := HU.out.1.step HPF.out hlt HW.out hk1 (by rw [← HY.out]; exact HB.out)
            have hlcm := lcm_code o k hk1
            have hL63 := hord.lt
            rw [← hlcm] at hord hL63
            have hm1 : o % k < k := Nat.mod_lt _ hk1
            have hd1 : 1 ≤ Nat.gcd (o % k) k := Nat.gcd_pos_of_pos_right _ hk1
            have e1 : (o : Int) % (k : Int) = ((o % k : Nat) : Int) := rfl
            obtain ⟨m, hm⟩ : ∃ m, m = o % k := ⟨_, rfl⟩
            rw [← hm] at hord hL63 hm1 hd1 e1
            obtain ⟨d, hd⟩ : ∃ d, d = Nat.gcd m k := ⟨_, rfl⟩
            rw [← hd] at hord hL63 hd1
            have e2 : (o : Int) / (d : Int) = ((o / d : Nat) : Int) := rfl
            obtain ⟨q, hq⟩ : ∃ q, q = o / d := ⟨_, rfl⟩
            rw [← hq] at hord hL63 e2
            obtain ⟨L, hL⟩ : ∃ L, L = q * k := ⟨_, rfl⟩
            have e3 : (q : Int) * (k : Int) = (L : Int) := by rw [hL]; simp
            rw [← hL] at hord hL63
            have hql : q ≤ L := by rw [hL]; exact Nat.le_mul_of_pos_right _ hk1
            have HORD := Lib.hid hord; have HD := Lib.hid hd
            clear hord hlcm hm hd hq hL
            go_wp2_with (go_at_call 10; refine (gcd_any m k (by omega) (by omega) _).mono ?_; rintro e w' ⟨rfl, hk4⟩; have HK4 := Lib.hid hk4; clear hk4; rw [← HD.out])
            refine ⟨⟨x + 1, L, S, by omega, rfl, ?_, ⟨HORD.out, fun i hi => ?_⟩, HSE.out.keep HK4.out, HK2.out.trans HK4.out⟩, by simp [intOf]; omega⟩
            · rfl
            · have hmem := (HW.out.mem i).2
              by_cases hix : i = x
              · subst hix; exact hmem (.inr ⟨0, hk1, rfl⟩)
              · exact hmem (.inl (HU.out.2 i (by omega)))
    · obtain rfl : x = 256 := by omega
      go_wp2_with fail
      go_ret2
      exact ⟨o, S0, rfl, by rw [← HF.out]; exact HU.out.1, HU.out.2, HK.out⟩
end Go.Proofs.Ytkhbopdjokicmaa
