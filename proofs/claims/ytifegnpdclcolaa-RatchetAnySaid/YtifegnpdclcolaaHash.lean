/-
  The walks of package hash: a text's sum is a fold over its bytes and its length's bytes; what the call makes is its own.
-/
import Derived.Test.YtifegnpdclcolaaBytes
namespace Go.Proofs.Ytifegnpdclcolaa
open Go.RowKit
theorem bits_xor32 (a b : Nat) (ha : a < 4294967296) (hb : b < 4294967296) : bits .xor .u32 a b = ((a ^^^ b : Nat) : Int) := by
  have hx : a ^^^ b < 2 ^ 32 := Nat.xor_lt_two_pow ha hb
  simp only [bits, BitVec.ofInt_natCast, BitVec.toNat_xor, BitVec.toNat_ofNat]
  rw [show IntKind.u32.bits = 32 from rfl, Nat.mod_eq_of_lt ha, Nat.mod_eq_of_lt hb, IntKind.wrap_u32]
  exact Int.emod_eq_of_lt (Int.natCast_nonneg _) (show ((a ^^^ b : Nat) : Int) < ((4294967296 : Nat) : Int) from Int.ofNat_lt.2 hx)
/-- what Step computes -/
def mixI (h b : Int) : Int := bits .and .u32 (bits .xor .u32 h b * 40503 % 4294967296) 65535
def stepI (h b : Int) : Int := bits .xor .u32 (mixI h b) (mixI h b / 128)
theorem mixI_bd (h b : Int) : 0 ≤ mixI h b ∧ mixI h b < 65536 := by
  have e := bits_mask .u32 32 (by decide) (fun n h0 h1 => by rw [IntKind.wrap_u32]; exact Int.emod_eq_of_lt h0 h1) 16 (by decide) (bits .xor .u32 h b * 40503 % 4294967296) (Int.emod_nonneg _ (by decide)) (Int.emod_lt_of_pos _ (by decide))
  have e2 : mixI h b = (bits .xor .u32 h b * 40503 % 4294967296) % 65536 := e
  rw [e2]
  exact ⟨Int.emod_nonneg _ (by decide), Int.emod_lt_of_pos _ (by decide)⟩
theorem stepI_bd (h b : Int) : 0 ≤ stepI h b ∧ stepI h b < 65536 := by
  obtain ⟨h0, h1⟩ := mixI_bd h b
  unfold stepI
  generalize mixI h b = x at *
  obtain ⟨m, rfl⟩ := Int.eq_ofNat_of_zero_le h0
  have hm : m < 65536 := by omega
  have e : ((m : Nat) : Int) / 128 = ((m / 128 : Nat) : Int) := by simp
  rw [e, bits_xor32 m (m / 128) (by omega) (by omega)]
  have : m ^^^ (m / 128) < 2 ^ 16 := Nat.xor_lt_two_pow (by omega) (by omega)
  omega
theorem step_any (h b : Int) (w : World) (hb0 : 0 ≤ b) (hb1 : b < 256) :
    Calls Try.prog 12 #[.int .u32 h, .int .u8 b] w fun e w' => e = .returned (.int .u32 (stepI h b)) ∧ w = w' := by
  have hx := mixI_bd h b
  have e1 : bits .and .u32 (bits .xor .u32 h b * 40503 % 4294967296) 65535 = mixI h b := rfl
  have h0 := hx.1
  have h1 := hx.2
  clear hx
  go_enter Try.func12, Try.ntmps12
  go_wp2
  go_ret
  exact ⟨rfl, rfl⟩
/-- the lowest k bytes of a number, the lowest first -/
def littleL : Nat → Int → List Int
  | 0, _ => []
  | k + 1, n => littleL k n ++ [n / 256 ^ k % 256]
theorem littleL_length (k : Nat) (n : Int) : (littleL k n).length = k := by
  induction k with
  | zero => rfl
  | succ k ih => simp [littleL, ih]
theorem Try.infoB : (Try.prog.info? 5).map (fun i => (i.zero, i.size, i.bytes)) = some (some (.int .u8 0), 1, 1) := by kernel_rfl
theorem div_step (n : Int) (k : Nat) : n / 256 ^ k / 256 = n / 256 ^ (k + 1) := by
  rw [Int.ediv_ediv_of_nonneg (Int.le_of_lt (Int.pow_pos (by decide))), Int.pow_succ]
theorem div_bd {n : Int} {k : Nat} (h0 : 0 ≤ n) : 0 ≤ n / 256 ^ k ∧ n / 256 ^ k ≤ n :=
  ⟨Int.ediv_nonneg h0 (Int.le_of_lt (Int.pow_pos (by decide))), Int.ediv_le_self _ h0⟩
set_option maxRecDepth 100000 in
set_option maxHeartbeats 1000000 in
theorem little_any (n : Int) (m : Nat) (w : World) (h0 : 0 ≤ n) (hm : m ≤ 8) :
    Calls Try.prog 14 #[.int .i64 n, .int .i64 m] w fun e w' => ∃ v, e = .returned v ∧ w'.ownsRow w.heap.size 5 1 v m (vals .u8 (littleL m n)) ∧ Below w.heap.size w w' := by
  obtain ⟨i0, hi, hz0, hz1, hz2⟩ := info_parts Try.infoB
  go_enter Try.func14, Try.ntmps14
  go_wp2
  go_loopw [0, 5, 7] (fun x v t wr => ∃ (k : Nat) (y : Int), k ≤ m ∧ t = .int .i64 k ∧ x = .int .i64 y ∧ y = n / 256 ^ k ∧ wr.ownsRow w.heap.size 5 1 v k (vals .u8 (littleL k n)) ∧ Below w.heap.size w wr) (fun _ _ t _ => m - (intOf t).toNat)
  case atStart => exact ⟨0, n, Nat.zero_le _, rfl, rfl, by simp, World.ownsRow_nil _ _ _ _, Below.refl _ _⟩
  case round =>
    obtain ⟨k, y, hk, rfl, rfl, hy, hown, hbel⟩ := hrel
    have hbd := div_bd (k := k) h0
    rw [← hy] at hbd
    have hy0 := hbd.1
    have hy1 := hbd.2
    have HY := Lib.hid hy; clear hy hbd
    by_cases hlt : k < m
    · have hsz := hbel.size
      go_wp2_with (at_builtin; refine wpList_append_own _ rfl (.tmp 9) (.tmp 12) 33 rfl w.heap.size 5 i0 (.int .u8 0) 1 1 Try.underlying33 hi hz0 hz1 hz2 rfl (by decide) _ k (vals .u8 (littleL k n)) rfl (hown.alloc _) ⟨wr.heap.size, 0, none⟩ 1 1 [.int .u8 (y % 256)] rfl rfl (cell_one_new _ _ _) (by simp [Value.oneCell']) (by unfold maxLen; omega) (by omega) (by simp; omega) ?_; intro v' w1 hown' hgrow _; have HO := Lib.hid hown'; have HG := Lib.hid hgrow; have HO0 := Lib.hid hown; clear hown' hgrow hown)
      refine ⟨⟨k + 1, y / 256, by omega, rfl, rfl, by rw [HY.out, div_step], ?_, ?_⟩, by simp [intOf]; omega⟩
      · have := HO.out
        rw [HY.out] at this
        simpa [littleL] using this
      · exact (hbel.alloc hsz _).grown HG.out (by simp; omega) (fun j hj => (own_block_ge HO0.out j hj).1)
    · obtain rfl : k = m := by omega
      go_wp2
      go_ret
      exact ⟨_, rfl, hown, hbel⟩
set_option maxRecDepth 100000 in
set_option maxHeartbeats 1000000 in
theorem grow_any (n : Nat) (w : World) (hn : n ≤ 140737488351232) :
    Calls Try.prog 15 #[.slice none 0 0, .int .i64 n] w fun e w' => ∃ v, e = .returned v ∧ w'.ownsRow w.heap.size 5 1 v 0 [] ∧ Below w.heap.size w w' := by
  obtain ⟨i0, hi, hz0, hz1, hz2⟩ := info_parts Try.infoB
  rcases Nat.eq_zero_or_pos n with rfl | hpos
  · go_enter Try.func15, Try.ntmps15
    go_wp2
    go_ret
    exact ⟨_, rfl, World.ownsRow_nil _ _ _ _, Below.refl _ _⟩
  · have hr := Lib.run_append_nil_zeros (P := Try.prog) w 33 3 33 5 i0 (.int .u8 0) .i64 .i64 Try.underlying33 Try.underlying3 hi hz0 n hpos (by rw [hz1]; decide) (by omega) (by rw [hz2]; omega)
    have hge := grownCap_ge w n 0 5
    have hle := grownCap_le_maxLen w n 0 5 (by unfold maxLen; omega)
    generalize hC : grownCap w n 0 5 = C at hr hge hle
    generalize hM : (Builtin.zeroCells (Value.int .u8 0).cells n ++ Builtin.zeroCells (Value.int .u8 0).cells (C - n)) = M at hr
    have hMs : M.size = C := by rw [← hM, Array.size_append, size_zeroCells, size_zeroCells]; simp [Value.cells]; omega
    have HR := Lib.hid hr; clear hr hC hM
    have HM := Lib.hid hMs; clear hMs
    go_enter Try.func15, Try.ntmps15
    go_wp2_with (at_builtin; refine Lib.wpList_append_run _ rfl (.tmp 20) (.tmp 21) 33 3 rfl (.slice none 0 0) (.int .i64 n) rfl rfl _ _ HR.out ?_)
    go_ret
    refine ⟨_, rfl, ⟨rfl, .inr ⟨w.heap.size, C, M, rfl, Nat.le_refl _, heap_alloc_new w.drew _, Nat.zero_le _, hle, by rw [HM.out, Nat.mul_one], by simp⟩⟩, ?_⟩
    exact ((Below.refl _ w).drew).alloc (Nat.le_refl _) _
set_option maxRecDepth 100000 in
set_option maxHeartbeats 2000000 in
theorem concat_two (g : Nat) (A1 A2 : Option Addr) (n1 c1 n2 c2 : Nat) (xs1 xs2 : List Int) (w : World) (hg : g < w.heap.size)
    (k1 : w.cell? ⟨g, 0, none⟩ = some (.slice A1 n1 c1)) (k2 : w.cell? ⟨g, 1, none⟩ = some (.slice A2 n2 c2))
    (r1 : Reads w w.heap.size A1 n1 (vals .u8 xs1)) (r2 : Reads w w.heap.size A2 n2 (vals .u8 xs2)) (hn : n1 + n2 ≤ 140737488351232) :
    Calls Try.prog 13 #[.slice (some ⟨g, 0, none⟩) 2 2] w fun e w' => ∃ v, e = .returned v ∧ w'.ownsRow w.heap.size 5 1 v (n1 + n2) (vals .u8 (xs1 ++ xs2)) ∧ Below w.heap.size w w' := by
  obtain ⟨i0, hi, hz0, hz1, hz2⟩ := info_parts Try.infoB
  go_enter Try.func13, Try.ntmps13
  go_wp2
  go_loop [3, 11] (fun z t => (t = .int .i64 0 ∧ z = .int .i64 0) ∨ (t = .int .i64 1 ∧ z = .int .i64 n1) ∨ (t = .int .i64 2 ∧ z = .int .i64 ((n1 + n2 : Nat) : Int))) (fun _ t => 2 - (intOf t).toNat)
  case atStart => exact .inl ⟨rfl, rfl⟩
  case round =>
    rcases hrel with ⟨rfl, rfl⟩ | ⟨rfl, rfl⟩ | ⟨rfl, rfl⟩
    · go_wp2
      exact ⟨.inr (.inl ⟨rfl, rfl⟩), by simp [intOf]⟩
    · go_wp2
      exact ⟨.inr (.inr ⟨rfl, by simp⟩), by simp [intOf]⟩
    · obtain ⟨m, hm⟩ : ∃ m, m = n1 + n2 := ⟨_, rfl⟩
      have hm' : m ≤ 140737488351232 := by omega
      rw [← hm]
      have HM := Lib.hid hm; clear hm
      go_wp2_with (go_at_call 15; refine (grow_any m _ hm').mono ?_; rintro e w1 ⟨v0, rfl, hown0, hb0⟩; have HO0 := Lib.hid hown0; clear hown0)
      have d1 := (hb0.cell (p := ⟨g, 0, none⟩) hg).trans k1
      have d2 := (hb0.cell (p := ⟨g, 1, none⟩) hg).trans k2
      clear k1 k2
      go_loopw [6, 27] (fun v t wr => Below w.heap.size w wr ∧ ((t = .int .i64 0 ∧ wr.ownsRow w.heap.size 5 1 v 0 (vals .u8 [])) ∨ (t = .int .i64 1 ∧ wr.ownsRow w.heap.size 5 1 v n1 (vals .u8 xs1)) ∨ (t = .int .i64 2 ∧ wr.ownsRow w.heap.size 5 1 v (n1 + n2) (vals .u8 (xs1 ++ xs2))))) (fun _ t _ => 2 - (intOf t).toNat)
      case atStart => exact ⟨hb0, .inl ⟨rfl, HO0.out⟩⟩
      case round =>
        obtain ⟨hb, hrel⟩ := hrel
        have e1 := (hb.cell (p := ⟨g, 0, none⟩) hg).trans ((hb0.cell (p := ⟨g, 0, none⟩) hg).symm.trans d1)
        have e2 := (hb.cell (p := ⟨g, 1, none⟩) hg).trans ((hb0.cell (p := ⟨g, 1, none⟩) hg).symm.trans d2)
        have q1 := r1.below hb
        have q2 := r2.below hb
        have hsz := hb.size
        rcases hrel with ⟨rfl, hown⟩ | ⟨rfl, hown⟩ | ⟨rfl, hown⟩
        · go_wp2_with (at_builtin; refine wpList_append_any _ rfl (.tmp 31) (.tmp 32) 33 rfl w.heap.size 5 i0 (.int .u8 0) 1 Try.underlying33 hi hz0 hz1 hz2 rfl _ 0 (vals .u8 []) rfl hown _ A1 n1 c1 (vals .u8 xs1) rfl q1 (vals_one _ _) (by unfold maxLen; omega) (by omega) hsz ?_; intro v' w2 hown' hgrow; have HO := Lib.hid hown'; have HG := Lib.hid hgrow; have HP := Lib.hid hown; clear hown' hgrow hown)
          refine ⟨⟨hb.grown HG.out hsz (fun j hj => (own_block_ge HP.out j hj).1), .inr (.inl ⟨rfl, ?_⟩)⟩, by simp [intOf]⟩
          have := HO.out
          simpa using this
        · go_wp2_with (at_builtin; refine wpList_append_any _ rfl (.tmp 31) (.tmp 32) 33 rfl w.heap.size 5 i0 (.int .u8 0) 1 Try.underlying33 hi hz0 hz1 hz2 rfl _ n1 (vals .u8 xs1) rfl hown _ A2 n2 c2 (vals .u8 xs2) rfl q2 (vals_one _ _) (by unfold maxLen; omega) (by omega) hsz ?_; intro v' w2 hown' hgrow; have HO := Lib.hid hown'; have HG := Lib.hid hgrow; have HP := Lib.hid hown; clear hown' hgrow hown)
          refine ⟨⟨hb.grown HG.out hsz (fun j hj => (own_block_ge HP.out j hj).1), .inr (.inr ⟨rfl, ?_⟩)⟩, by simp [intOf]⟩
          have := HO.out
          simpa [vals] using this
        · go_wp2
          go_ret
          exact ⟨_, rfl, hown, hb⟩
theorem own_base {w : World} {base base' : Nat} {e : TypeId} {size n : Nat} {v : Value} {xs : List Value} (h : w.ownsRow base e size v n xs) (hb : base' ≤ base) : w.ownsRow base' e size v n xs := by
  obtain ⟨h1, h2⟩ := h
  refine ⟨h1, ?_⟩
  rcases h2 with h2 | ⟨g, cap, cur, hv, hg, r⟩
  · exact .inl h2
  · exact .inr ⟨g, cap, cur, hv, by omega, r⟩
/-- what lies in a text -/
def Bytes01 (bs : List Int) : Prop := ∀ b ∈ bs, 0 ≤ b ∧ b < 256
theorem little_bytes (k : Nat) (n : Int) : Bytes01 (littleL k n) := by
  induction k with
  | zero => intro b hb; cases hb
  | succ k ih =>
    intro b hb
    rcases List.mem_append.1 hb with h | h
    · exact ih b h
    · have : b = n / 256 ^ k % 256 := by simpa using h
      subst this
      exact ⟨Int.emod_nonneg _ (by decide), Int.emod_lt_of_pos _ (by decide)⟩
def padL (bs : List Int) : List Int := bs ++ littleL 4 bs.length
theorem padL_bytes {bs : List Int} (h : Bytes01 bs) : Bytes01 (padL bs) := by
  intro b hb
  rcases List.mem_append.1 hb with h' | h'
  · exact h b h'
  · exact little_bytes _ _ b h'
theorem padL_length (bs : List Int) : (padL bs).length = bs.length + 4 := by simp [padL, littleL_length]
def hashL (h : Int) (l : List Int) : Int := l.foldl stepI h
/-- the sum of a text -/
def hashOf (bs : List Int) : Int := hashL 0 (padL bs)
theorem hashL_snoc (h : Int) (l : List Int) (b : Int) : hashL h (l ++ [b]) = stepI (hashL h l) b := by simp [hashL, List.foldl_append]
theorem hashOf_bd (bs : List Int) : 0 ≤ hashOf bs ∧ hashOf bs < 65536 := by
  unfold hashOf
  have e : padL bs = (bs ++ littleL 3 bs.length) ++ [(bs.length : Int) / 256 ^ 3 % 256] := by simp [padL, littleL]
  rw [e, hashL_snoc]
  exact stepI_bd _ _
/-- what padded leaves -/
def PadPost (bs : List Int) (w : World) (e : Ending) (w' : World) : Prop := ∃ g cap, e = .returned (.slice (some ⟨g, 0, none⟩) (bs.length + 4) cap) ∧ w'.ownsRow w.heap.size 5 1 (.slice (some ⟨g, 0, none⟩) (bs.length + 4) cap) (bs.length + 4) (vals .u8 (padL bs)) ∧ Below w.heap.size w w'
set_option maxRecDepth 100000 in
set_option maxHeartbeats 1000000 in
theorem padded_any (A : Option Addr) (c : Nat) (bs : List Int) (w : World) (r : Reads w w.heap.size A bs.length (vals .u8 bs)) (hn : bs.length ≤ 140737488350000) :
    Calls Try.prog 11 #[.slice A bs.length c] w (PadPost bs w) := by
  obtain ⟨n, hN⟩ : ∃ n, n = bs.length := ⟨_, rfl⟩
  rw [← hN] at r hn
  unfold PadPost
  rw [← hN]
  have HN := Lib.hid hN; clear hN
  go_enter Try.func11, Try.ntmps11
  go_wp2_with fail
  refine (little_any n 4 w (by omega) (by decide)).mono ?_
  rintro e w1 ⟨v, rfl, hown, hb1⟩
  obtain ⟨A4, c4, rfl⟩ := own_form hown
  have HO := Lib.hid hown; clear hown
  go_wp2_with fail
  have hg : w1.heap.size < (w1.alloc (.cells #[.slice A n c, .slice A4 4 c4] 33)).heap.size := by simp
  have k1 : (w1.alloc (.cells #[.slice A n c, .slice A4 4 c4] 33)).cell? ⟨w1.heap.size, 0, none⟩ = some (.slice A n c) := by simp
  have k2 : (w1.alloc (.cells #[.slice A n c, .slice A4 4 c4] 33)).cell? ⟨w1.heap.size, 1, none⟩ = some (.slice A4 4 c4) := by simp
  have hb2 : Below w.heap.size w (w1.alloc (.cells #[.slice A n c, .slice A4 4 c4] 33)) := hb1.alloc hb1.size _
  have s1 := hb2.size
  have r1 := (r.below hb2).more s1
  have r2 : Reads (w1.alloc (.cells #[.slice A n c, .slice A4 4 c4] 33)) (w1.alloc (.cells #[.slice A n c, .slice A4 4 c4] 33)).heap.size A4 4 (vals .u8 (littleL 4 n)) := Reads.of_own (HO.out.alloc _)
  refine (concat_two w1.heap.size A A4 n c 4 c4 bs (littleL 4 n) _ hg k1 k2 r1 r2 (by omega)).mono ?_
  rintro e w3 ⟨v3, rfl, hown3, hb3⟩
  obtain ⟨g, cap, rfl, hgg, hglt⟩ := hown3.form (by omega)
  have HO3 := Lib.hid hown3; clear hown3
  clear k1 k2 hg r1 r2
  go_wp2
  go_ret
  refine ⟨g, cap, rfl, ?_, hb2.trans (hb3.mono s1)⟩
  have := own_base HO3.out s1
  rw [padL, ← HN.out]; exact this
set_option maxRecDepth 100000 in
set_option maxHeartbeats 1000000 in
theorem of_any (A : Option Addr) (c : Nat) (bs : List Int) (w : World) (r : Reads w w.heap.size A bs.length (vals .u8 bs)) (hn : bs.length ≤ 140737488350000) (h01 : Bytes01 bs) :
    Calls Try.prog 10 #[.slice A bs.length c] w fun e w' => e = .returned (.int .u32 (hashOf bs)) ∧ Below w.heap.size w w' := by
  have hp := padL_bytes h01
  have hpl := padL_length bs
  have HC := Lib.hid (padded_any A c bs w r hn)
  obtain ⟨n, hN⟩ : ∃ n, n = bs.length := ⟨_, rfl⟩
  unfold PadPost at HC
  rw [← hN] at HC hn hpl ⊢
  obtain ⟨ps, hps⟩ : ∃ ps, ps = padL bs := ⟨_, rfl⟩
  have hash : hashOf bs = hashL 0 ps := by rw [hps]; rfl
  rw [← hps] at HC hp hpl
  rw [hash]
  have HPL := Lib.hid hpl; have HP := Lib.hid hp
  clear hps hN hash hpl hp r h01
  go_enter Try.func10, Try.ntmps10
  go_wp2_with fail
  refine HC.out.mono ?_
  rintro e w1 ⟨g, cap, rfl, hown, hb1⟩
  have HO := Lib.hid hown; clear hown
  go_wp2_with fail
  go_loop [3, 9] (fun h t => ∃ k : Nat, k ≤ n + 4 ∧ t = .int .i64 k ∧ h = .int .u32 (hashL 0 (ps.take k))) (fun _ t => n + 4 - (intOf t).toNat)
  case atStart => exact ⟨0, Nat.zero_le _, rfl, rfl⟩
  case round =>
    obtain ⟨k, hk, rfl, rfl⟩ := hrel
    by_cases hlt : k < n + 4
    · have hkl : k < ps.length := by rw [HPL.out]; exact hlt
      have c1 : w1.cell? ⟨g, k, none⟩ = some (.int .u8 ps[k]) := by
        rw [HO.out.cellAt k (by omega)]
        simp [vals, hkl]
      have hbd := HP.out ps[k] (List.getElem_mem hkl)
      have hb0 := hbd.1
      have hb1' := hbd.2
      clear hbd
      obtain ⟨b, hb⟩ : ∃ b, b = ps[k] := ⟨_, rfl⟩
      rw [← hb] at c1 hb0 hb1'
      have HB := Lib.hid hb; clear hb
      go_wp2_with (go_at_call 12; refine (step_any _ _ _ hb0 hb1').mono ?_; rintro e w' ⟨rfl, rfl⟩)
      refine ⟨⟨k + 1, by omega, rfl, ?_⟩, by simp [intOf]; omega⟩
      rw [List.take_succ_eq_append_getElem hkl, hashL_snoc, HB.out]
    · have hge : n + 4 ≤ k := by omega
      have hd : decide ((k : Int) < (n : Int) + 4) = false := by simp; omega
      clear hlt
      go_wp2
      go_ret
      refine ⟨?_, hb1⟩
      rw [List.take_of_length_le (by rw [HPL.out]; exact hge)]
      rfl
end Go.Proofs.Ytifegnpdclcolaa
