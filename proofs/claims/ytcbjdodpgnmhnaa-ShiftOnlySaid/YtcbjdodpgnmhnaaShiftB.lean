/-
  Shift: rows of bits that came in; word, list.
-/
import Derived.Test.YtcbjdodpgnmhnaaShiftA
namespace Go.Proofs.Ytcbjdodpgnmhnaa
open Go.RowKit
/-- bits that came in -/
def Bts (w : World) (B : Nat) (A : Option Addr) (n : Nat) (l : List Bool) : Prop :=
  l.length = n ∧ (0 < n → ∃ b off, A = some ⟨b, off, none⟩ ∧ b < B ∧ ∀ (j : Nat) (x : Bool), l[j]? = some x → w.cell? ⟨b, off + j, none⟩ = some (.bool x))
theorem Bts.below {w w' : World} {B : Nat} {A : Option Addr} {n : Nat} {l : List Bool} (h : Bts w B A n l) (hb : Below B w w') : Bts w' B A n l := by
  refine ⟨h.1, fun hn => ?_⟩
  obtain ⟨b, off, e, hlt, hc⟩ := h.2 hn
  exact ⟨b, off, e, hlt, fun j x hj => (hb.cell (p := ⟨b, _, none⟩) hlt).trans (hc j x hj)⟩
theorem Bts.more {w : World} {B B' : Nat} {A : Option Addr} {n : Nat} {l : List Bool} (h : Bts w B A n l) (hB : B ≤ B') : Bts w B' A n l := by
  refine ⟨h.1, fun hn => ?_⟩
  obtain ⟨b, off, e, hlt, hc⟩ := h.2 hn
  exact ⟨b, off, e, by omega, hc⟩
theorem Bts.keep {w w' : World} {A : Option Addr} {n : Nat} {l : List Bool} (h : Bts w w.heap.size A n l) (hk : Keep (fun _ => False) w w') : Bts w' w'.heap.size A n l := (h.below hk.toBelow).more hk.size
theorem Bts.at_ {w w' : World} {B : Nat} {A : Option Addr} {n : Nat} {l : List Bool} (h : Bts w B A n l) (hb : Below B w w') {j : Nat} (hj : j < n) : ∃ b off, A = some ⟨b, off, none⟩ ∧ b < B ∧ w'.cell? ⟨b, off + j, none⟩ = some (.bool (l.getD j false)) := by
  obtain ⟨b, off, e, hlt, hc⟩ := h.2 (by omega)
  have hl := h.1
  refine ⟨b, off, e, hlt, (hb.cell (p := ⟨b, _, none⟩) hlt).trans (hc j _ ?_)⟩
  rw [List.getD_eq_getElem?_getD, List.getElem?_eq_getElem (by omega)]; rfl
theorem Bts.of_own {w : World} {base : Nat} {e : TypeId} {A : Option Addr} {c n : Nat} {l : List Bool} (h : w.ownsRow base e 1 (.slice A n c) n (l.map Value.bool)) : Bts w w.heap.size A n l := by
  refine ⟨by simpa using h.1, fun hn => ?_⟩
  obtain ⟨g, cap, hv, _, hlt⟩ := h.form hn
  have hA : A = some ⟨g, 0, none⟩ := by injection hv
  subst hA
  refine ⟨g, 0, rfl, hlt, fun j x hj => ?_⟩
  have := h.cells (g := g) rfl j (.bool x) (by simp [hj])
  rwa [addr_add] at this
theorem boolE : (Try.prog.info? 4).map (fun i => (i.zero, i.size, i.bytes)) = some (some (.bool false), 1, 1) := by kernel_rfl
/-- the word of the first k bits of a function -/
def wdN (f : Nat → Bool) : Nat → Nat
  | 0 => 0
  | k + 1 => wdN f k ||| (if f k then 2 ^ k else 0)
theorem wdN_lt (f : Nat → Bool) (k : Nat) : wdN f k < 2 ^ k := by
  induction k with
  | zero => exact Nat.one_pos
  | succ k ih =>
    unfold wdN
    refine Nat.or_lt_two_pow (Nat.lt_of_lt_of_le ih (Nat.pow_le_pow_right (by decide) (by omega))) ?_
    split
    · exact Nat.pow_lt_pow_right (by decide) (by omega)
    · exact Nat.two_pow_pos _
theorem wdN_bit (f : Nat → Bool) (k i : Nat) : (wdN f k).testBit i = (decide (i < k) && f i) := by
  induction k with
  | zero => simp [wdN]
  | succ k ih =>
    unfold wdN
    rw [Nat.testBit_or, ih]
    by_cases e : i = k
    · subst e
      have h1 : decide (i < i) = false := by simp
      have h2 : decide (i < i + 1) = true := by simp
      rw [h1, h2]
      cases f i <;> simp
    · have h1 : decide (i < k) = decide (i < k + 1) := by rw [decide_eq_decide]; omega
      rw [h1]
      have h3 : (if f k = true then 2 ^ k else 0 : Nat).testBit i = false := by
        split
        · rw [Nat.testBit_two_pow]; simp; omega
        · simp
      rw [h3, Bool.or_false]
theorem pow64 {k : Nat} (h : k ≤ 64) : 2 ^ k ≤ 18446744073709551616 := by
  have := Nat.pow_le_pow_right (n := 2) (by decide) h
  simpa using this
theorem wrap_pow {i : Nat} (h : i < 64) : IntKind.u64.wrap ((2 : Int) ^ i) = ((2 ^ i : Nat) : Int) := by
  have h1 : 2 ^ i < 18446744073709551616 := Nat.lt_of_lt_of_le (Nat.pow_lt_pow_right (by decide) h) (pow64 (Nat.le_refl _))
  rw [IntKind.wrap_u64]
  have h2 : ((2 ^ i : Nat) : Int) = (2 : Int) ^ i := by simp
  rw [← h2]
  clear h2
  generalize (2 ^ i : Nat) = z at *
  omega
theorem or_pow {y i : Nat} (hy : y < 18446744073709551616) (h : i < 64) : bits .or .u64 (y : Int) (IntKind.u64.wrap ((2 : Int) ^ i)) = ((y ||| 2 ^ i : Nat) : Int) := by
  rw [wrap_pow h]
  exact u64_or_nat y (2 ^ i) hy (Nat.lt_of_lt_of_le (Nat.pow_lt_pow_right (by decide) h) (pow64 (Nat.le_refl _)))
set_option maxHeartbeats 1000000 in
theorem word_any (A : Option Addr) (n c : Nat) (l : List Bool) (w : World) (h : Bts w w.heap.size A n l) (hn : n ≤ 64) :
    Calls Try.prog 13 #[.slice A n c] w fun e w' => e = .returned (.int .u64 (wdN (fun i => l.getD i false) n)) ∧ w = w' := by
  have H := Lib.hid h; clear h
  go_enter Try.func13, Try.ntmps13
  go_wp2
  go_loop [3, 8] (fun xv t => ∃ i : Nat, i ≤ n ∧ t = .int .i64 i ∧ xv = .int .u64 (wdN (fun i => l.getD i false) i)) (fun _ t => n - (intOf t).toNat)
  case atStart => exact ⟨0, Nat.zero_le _, rfl, rfl⟩
  case round =>
    obtain ⟨i, hi, rfl, rfl⟩ := hrel
    by_cases hlt : i < n
    · obtain ⟨b, off, rfl, hb, hc⟩ := H.out.at_ (Below.refl _ _) hlt
      have hs : wdN (fun i => l.getD i false) (i + 1) = wdN (fun i => l.getD i false) i ||| (if l.getD i false then 2 ^ i else 0) := rfl
      have hw := Nat.lt_of_lt_of_le (wdN_lt (fun i => l.getD i false) i) (pow64 (by omega))
      generalize l.getD i false = x at *
      generalize wdN (fun i => l.getD i false) i = y at *
      have hp := pow64 (k := i + 1) (by omega)
      have HS := Lib.hid hs; clear hs hp
      cases x with
      | false =>
        go_wp2_with fail
        refine ⟨⟨i + 1, by omega, rfl, ?_⟩, by simp [intOf]; omega⟩
        rw [HS.out]; simp
      | true =>
        go_wp2_with fail
        refine ⟨⟨i + 1, by omega, rfl, ?_⟩, by simp [intOf]; omega⟩
        rw [HS.out, or_pow hw (by omega)]; simp
    · obtain rfl : i = n := by omega
      go_wp2_with fail
      go_ret
      exact ⟨rfl, rfl⟩
/-- the first n bits of a word -/
def bitsOf (x n : Nat) : List Bool := (List.range n).map x.testBit
def BitsEnd (l : List Bool) (w : World) (e : Ending) (w' : World) : Prop := ∃ A c, e = .returned (.slice A l.length c) ∧ Bts w' w'.heap.size A l.length l ∧ Keep (fun _ => False) w w'
theorem bit_and {x i : Nat} (hx : x < 18446744073709551616) : (bits .and .u64 ((x : Int) / 2 ^ i) 1 == 1) = x.testBit i := by
  have e : (x : Int) / 2 ^ i = ((x / 2 ^ i : Nat) : Int) := by simp
  have h1 : x / 2 ^ i ≤ x := Nat.div_le_self _ _
  rw [e, show (1 : Int) = ((1 : Nat) : Int) from rfl, u64_and_nat (x / 2 ^ i) 1 (by omega) (by decide), Nat.testBit_eq_decide_div_mod_eq, show (1 : Nat) = 2 ^ 1 - 1 from rfl, Nat.and_two_pow_sub_one_eq_mod]
  rw [Bool.eq_iff_iff]
  simp
  omega
set_option maxHeartbeats 1000000 in
theorem list_any (x n : Nat) (hx : x < 18446744073709551616) (hn : n ≤ 64) (w : World) :
    Calls Try.prog 16 #[.int .u64 x, .int .i64 n] w (BitsEnd (bitsOf x n) w) := by
  go_enter Try.func16, Try.ntmps16
  go_wp2
  go_loopw [5, 8] (fun sv tv wr => ∃ i : Nat, i ≤ n ∧ tv = .int .i64 i ∧ wr.ownsRow w.heap.size 4 1 sv i ((bitsOf x i).map Value.bool) ∧ Keep (fun _ => False) w wr) (fun _ tv _ => n - (intOf tv).toNat)
  case atStart => exact ⟨0, Nat.zero_le _, rfl, World.ownsRow_nil _ _ _ _, Keep.refl _ _⟩
  case round =>
    obtain ⟨i, hi, rfl, ho, hk⟩ := hrel
    obtain ⟨Ao, co, rfl⟩ := own_form ho
    have HO := Lib.hid ho; have HK := Lib.hid hk; clear ho hk
    by_cases hlt : i < n
    · have hb := bit_and (i := i) hx
      have hsn : bitsOf x (i + 1) = bitsOf x i ++ [x.testBit i] := by unfold bitsOf; rw [List.range_succ, List.map_append]; rfl
      generalize x.testBit i = y at *
      have HSN := Lib.hid hsn; clear hsn
      go_wp2_with (at_builtin; refine wpList_app rfl (.tmp 11) (.tmp 17) 22 rfl w.heap.size 4 (.bool false) 1 1 Try.underlying22 boolE rfl (by decide) _ i _ rfl HO.out _ [.bool y] rfl rfl (by simp [Value.oneCell']) (by unfold maxLen; omega) (by omega) HK.out.size ?_; intro v' w5 hown' hk5 _; have HO5 := Lib.hid hown'; have HK5 := Lib.hid hk5; clear hown' hk5)
      refine ⟨⟨i + 1, by omega, rfl, ?_, HK.out.then_ HK5.out (fun b hb => (own_block_ge HO.out b hb).1)⟩, by simp [intOf]; omega⟩
      rw [HSN.out, List.map_append]
      exact HO5.out
    · obtain rfl : i = n := by omega
      go_wp2_with fail
      go_ret
      have hl : (bitsOf x i).length = i := by simp [bitsOf]
      refine ⟨Ao, co, by rw [hl]; rfl, ?_, HK.out⟩
      rw [hl]
      exact Bts.of_own HO.out
end Go.Proofs.Ytcbjdodpgnmhnaa
