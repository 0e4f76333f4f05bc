/-
  The walk of the taker's open: what it answers, and what becomes of where it has come and of the keys it keeps.
-/
import Derived.Test.YtifegnpdclcolaaRatchet
import Derived.Test.YtifegnpdclcolaaIMap
import Derived.Deep.QuietTactic
import Derived.BigQuiet
import Derived.Deep.RegionHeld3
import Derived.Deep.RegionWith
namespace Go.Proofs.Ytifegnpdclcolaa
open Go.RowKit
/-- the taker's struct and its map -/
def TK (w : World) (tb mb : Nat) (key a most : Int) (M : Int → Option Int) (s : Nat) : Prop :=
  w.heap[tb]? = some (.cells #[.int .i64 key, .int .i64 a, .int .i64 most, .map (some mb)] 40 (0, 0)) ∧ IMap Try.prog 3 3 .i64 .i64 w mb M s
section
variable {w w' : World} {tb mb s : Nat} {key a most : Int} {M : Int → Option Int}
theorem TK.cells (h : TK w tb mb key a most M s) : w.cell? ⟨tb, 0, none⟩ = some (.int .i64 key) ∧ w.cell? ⟨tb, 1, none⟩ = some (.int .i64 a) ∧ w.cell? ⟨tb, 2, none⟩ = some (.int .i64 most) ∧ w.cell? ⟨tb, 3, none⟩ = some (.map (some mb)) := by
  have := h.1
  refine ⟨?_, ?_, ?_, ?_⟩ <;> simp [World.cell?, this]
theorem TK.free (h : TK w tb mb key a most M s) (i : Nat) : w.frozen? ⟨tb, i, none⟩ = false := by have := h.1; simp [World.frozen?, this]
theorem TK.lt (h : TK w tb mb key a most M s) : tb < w.heap.size := World.block_lt_of_cell? w _ h.cells.1
theorem TK.ne (h : TK w tb mb key a most M s) : tb ≠ mb := by
  rintro rfl
  obtain ⟨D, ⟨es, clock, hb, _⟩, _⟩ := h.2
  rw [h.1] at hb; cases hb
theorem TK.keep {S : Nat → Prop} (h : TK w tb mb key a most M s) (hk : Keep S w w') (h1 : ¬ S tb) (h2 : ¬ S mb) : TK w' tb mb key a most M s :=
  ⟨(hk.block tb h.lt h1).trans h.1, h.2.keep hk h2⟩
theorem TK.setKey (h : TK w tb mb key a most M s) (v : Int) : TK (w.setCell ⟨tb, 0, none⟩ (.int .i64 v)) tb mb v a most M s := by
  refine ⟨?_, h.2.keep (S := (· = tb)) (Keep.setCell (S := (· = tb)) (p := ⟨tb, 0, none⟩) (Keep.refl _ w) (.inr rfl) _) (fun e => h.ne e.symm)⟩
  have := h.1
  simp [World.setCell, Array.getElem?_modify, this]
theorem TK.setAt (h : TK w tb mb key a most M s) (v : Int) : TK (w.setCell ⟨tb, 1, none⟩ (.int .i64 v)) tb mb key v most M s := by
  refine ⟨?_, h.2.keep (S := (· = tb)) (Keep.setCell (S := (· = tb)) (p := ⟨tb, 1, none⟩) (Keep.refl _ w) (.inr rfl) _) (fun e => h.ne e.symm)⟩
  have := h.1
  simp [World.setCell, Array.getElem?_modify, this]
theorem TK.drew (h : TK w tb mb key a most M s) : TK w.drew tb mb key a most M s := h.keep (S := fun _ => False) (Keep.refl _ _).drew (fun h => h) (fun h => h)
end
theorem zeroI (w : World) : (zeroValue 3).run Try.prog w = .ok (.int .i64 0) w := by kernel_rfl
/-- that a number is one of 64 bits -/
def In64 (n : Int) : Prop := -9223372036854775808 ≤ n ∧ n ≤ 9223372036854775807
theorem In64.wf {n : Int} (h : In64 n) : (Lit.int .i64 n).wf = true := WalkArith.wf_i64 ⟨h.1, h.2⟩
abbrev Two (tb mb : Nat) : Nat → Prop := fun k => k = tb ∨ k = mb
set_option maxRecDepth 100000 in
set_option maxHeartbeats 1000000 in
theorem open_kept (tb mb s : Nat) (key a most n v : Int) (M : Int → Option Int) (w : World) (h : TK w tb mb key a most M s) (h0 : 0 ≤ n) (hn : n < a) (ha : a ≤ 1000) (hM : M n = some v) :
    Calls Try.prog 8 #[.pointer (some ⟨tb, 0, none⟩), .int .i64 n] w fun e w' => e = .returned (.tuple #[.int .i64 v, .int .i64 0]) ∧ TK w' tb mb key a most (mdel M n) (s - 1) ∧ Keep (· = mb) w w' := by
  have hwf : (Lit.int .i64 n).wf = true := WalkArith.wf_i64 ⟨by omega, by omega⟩
  have hl := h.2.look (t := 38) Try.underlying38 Try.underlying3 Try.underlying3 (zeroI w) n hwf
  rw [hM] at hl
  obtain ⟨w1, hd, hI, hk⟩ := h.2.drop (t := 38) Try.underlying38 Try.underlying3 n hwf 0
  rw [hM] at hI
  obtain ⟨c0, c1, c2, c3⟩ := h.cells
  have HL := Lib.hid hl; have HD := Lib.hid hd; have HI := Lib.hid hI; have HK := Lib.hid hk; have HT := Lib.hid h
  clear hl hd hI hk h hM
  go_enter Try.func8, Try.ntmps8
  go_wp2_with (first
    | (at_lookup; refine wpList_look_run _ rfl (.tmp 18) (.tmp 19) 38 true rfl _ _ _ rfl rfl HL.out ?_)
    | (at_delete; refine wpList_delete_run _ rfl (.tmp 28) (.tmp 29) 38 3 rfl _ _ rfl rfl w1 HD.out ?_))
  go_ret2
  exact ⟨rfl, ⟨(HK.out.block tb HT.out.lt HT.out.ne).trans HT.out.1, HI.out⟩, HK.out⟩
set_option maxRecDepth 100000 in
set_option maxHeartbeats 1000000 in
theorem open_gone (tb mb s : Nat) (key a most n : Int) (M : Int → Option Int) (w : World) (h : TK w tb mb key a most M s) (h0 : 0 ≤ n) (hn : n < a) (ha : a ≤ 1000) (hM : M n = none) :
    Calls Try.prog 8 #[.pointer (some ⟨tb, 0, none⟩), .int .i64 n] w fun e w' => e = .returned (.tuple #[.int .i64 0, .int .i64 5]) ∧ w = w' := by
  have hwf : (Lit.int .i64 n).wf = true := WalkArith.wf_i64 ⟨by omega, by omega⟩
  have hl := h.2.look (t := 38) Try.underlying38 Try.underlying3 Try.underlying3 (zeroI w) n hwf
  rw [hM] at hl
  obtain ⟨c0, c1, c2, c3⟩ := h.cells
  have HL := Lib.hid hl
  clear hl h hM
  go_enter Try.func8, Try.ntmps8
  go_wp2_with (at_lookup; refine wpList_look_run _ rfl (.tmp 18) (.tmp 19) 38 true rfl _ _ _ rfl rfl HL.out ?_)
  go_ret2
  exact ⟨rfl, rfl⟩
set_option maxRecDepth 100000 in
set_option maxHeartbeats 1000000 in
theorem open_large (tb mb s : Nat) (key a most n : Int) (M : Int → Option Int) (w : World) (h : TK w tb mb key a most M s) (h0 : 0 ≤ a) (hn : a ≤ n) (hn2 : n ≤ 1000) (hs : s ≤ 1000) (hbig : most < s + n - a) :
    Calls Try.prog 8 #[.pointer (some ⟨tb, 0, none⟩), .int .i64 n] w fun e w' => e = .returned (.tuple #[.int .i64 0, .int .i64 1]) ∧ Keep (fun _ => False) w w' := by
  have hlen : ∀ nq ty, (Builtin.len_ #[38] ty #[.map (some mb)]).run Try.prog (w.drewN nq) = .ok (.int .i64 s) (w.drewN nq) := fun nq ty =>
    (h.2.keep (S := fun _ => False) (w' := w.drewN nq) ⟨rfl, rfl, rfl, Nat.le_refl _, fun _ _ _ => rfl⟩ (fun h => h)).len Try.underlying38 ty
  obtain ⟨c0, c1, c2, c3⟩ := h.cells
  clear h
  go_enter Try.func8, Try.ntmps8
  go_wp2_with fail
  go_quiet (fail)
  go_wp2_with fail
  go_ret2
  exact ⟨rfl, rfl, rfl, rfl, Nat.le_refl _, fun _ _ _ => rfl⟩
/-- the key behind so many steps, and the message key there -/
def kseq (k : Int) : Nat → Int
  | 0 => k
  | i + 1 => partI (kseq k i) 2
def mkey (k : Int) (i : Nat) : Int := partI (kseq k i) 1
/-- the keys that are kept when those from a on have been turned -/
def fillM (k : Int) (M : Int → Option Int) (a : Nat) : Nat → Int → Option Int
  | 0 => M
  | d + 1 => mput (fillM k M a d) ((a + d : Nat) : Int) (mkey k (a + d))
theorem fillM_none (k : Int) (M : Int → Option Int) (a : Nat) (hM : ∀ x : Int, (a : Int) ≤ x → M x = none) (d : Nat) : ∀ x : Int, ((a + d : Nat) : Int) ≤ x → fillM k M a d x = none := by
  induction d with
  | zero => exact hM
  | succ d ih =>
    intro x hx
    simp only [fillM]
    rw [mput_other _ _ (by omega)]
    exact ih x (by omega)
theorem mkey_bd (k : Int) (i : Nat) : 0 ≤ mkey k i ∧ mkey k i < 65536 := partI_bd _ _
theorem TK.turned {w w2 : World} {tb mb s : Nat} {key a most : Int} {M : Int → Option Int} (h : TK w tb mb key a most M s) (hb : Below w.drew.heap.size w.drew w2) (v : Int) : TK (w2.setCell ⟨tb, 0, none⟩ (.int .i64 v)) tb mb v a most M s :=
  (h.drew.keep (S := fun _ => False) (Keep.of_below hb) (fun h => h) (fun h => h)).setKey v
theorem TK.stored {w : World} {tb mb s : Nat} {key a most : Int} {M : Int → Option Int} (h : TK w tb mb key a most M s) (hs : s ≤ 2000) (k v : Int) (hk : 0 ≤ k ∧ k ≤ 1000) (hv : 0 ≤ v ∧ v < 65536) (hM : M k = none) :
    ∃ w', (Instr.mapUpdate 38 (.map (some mb)) (.int .i64 k) (.int .i64 v)).run Try.prog w = .ok () w' ∧ TK w' tb mb key a most (mput M k v) (s + 1) ∧ Keep (· = mb) w w' := by
  obtain ⟨w', hr, hI, hk'⟩ := h.2.store (t := 38) Try.underlying38 Try.underlying3 Try.underlying3 (by unfold maxLen; omega) k v (WalkArith.wf_i64 ⟨by omega, by omega⟩) (WalkArith.wf_i64 ⟨by omega, by omega⟩)
  rw [hM] at hI
  exact ⟨w', hr, ⟨(hk'.block tb h.lt h.ne).trans h.1, hI⟩, hk'⟩
set_option maxRecDepth 100000 in
set_option maxHeartbeats 2000000 in
theorem open_new (tb mb s a n : Nat) (k most : Int) (M : Int → Option Int) (w : World) (h : TK w tb mb (kseq k a) a most M s) (hn : a ≤ n) (hn2 : n ≤ 1000) (hs : s ≤ 1000) (hfit : (s : Int) + n - a ≤ most) (hM : ∀ x : Int, (a : Int) ≤ x → M x = none) :
    Calls Try.prog 8 #[.pointer (some ⟨tb, 0, none⟩), .int .i64 n] w fun e w' => e = .returned (.tuple #[.int .i64 (mkey k n), .int .i64 0]) ∧
      TK w' tb mb (kseq k (n + 1)) ((n + 1 : Nat) : Int) most (fillM k M a (n - a)) (s + (n - a)) ∧ Keep (Two tb mb) w w' := by
  have hlen : ∀ nq ty, (Builtin.len_ #[38] ty #[.map (some mb)]).run Try.prog (w.drewN nq) = .ok (.int .i64 s) (w.drewN nq) := fun nq ty =>
    (h.2.keep (S := fun _ => False) (w' := w.drewN nq) ⟨rfl, rfl, rfl, Nat.le_refl _, fun _ _ _ => rfl⟩ (fun h => h)).len Try.underlying38 ty
  obtain ⟨c0, c1, c2, c3⟩ := h.cells
  have HT := Lib.hid h; have HM := Lib.hid hM
  clear h hM
  have hfit' : decide (most < (s : Int) + n - a) = false := by simp; omega
  have hna : decide (n < a) = false := by simp; omega
  go_enter Try.func8, Try.ntmps8
  go_wp2_with fail
  go_quiet (fail)
  go_wp2_with fail
  clear hlen c0 c1 c2 c3
  go_loopg [] (n - a) (fun g wr => ∃ d : Nat, g = n - a - d ∧ a + d ≤ n ∧ TK wr tb mb (kseq k (a + d)) ((a + d : Nat) : Int) most (fillM k M a d) (s + d) ∧ Keep (Two tb mb) w wr)
  case atStart => exact ⟨0, rfl, by omega, HT.out.keep (S := fun _ => False) (w' := w.drewN nq) ⟨rfl, rfl, rfl, Nat.le_refl _, fun _ _ _ => rfl⟩ (fun h => h) (fun h => h), ⟨rfl, rfl, rfl, Nat.le_refl _, fun _ _ _ => rfl⟩⟩
  case round =>
    obtain ⟨d, hg, hd, hT, hkeep⟩ := hrel
    obtain ⟨c0, c1, c2, c3⟩ := hT.cells
    have f0 := hT.free 0
    have f1 := hT.free 1
    have HT := Lib.hid hT; have HG := Lib.hid hg
    clear hT hg
    have hsd : s + d ≤ 2000 := by omega
    obtain ⟨j, hj⟩ : ∃ j : Nat, j = a + d := ⟨_, rfl⟩
    rw [← hj] at HT c0 c1 hd
    have HJ := Lib.hid hj; clear hj
    by_cases hlt : j < n
    · have hbd := mkey_bd k j
      have hcall : ∀ W, W.cell? ⟨tb, 0, none⟩ = some (.int .i64 (kseq k j)) → W.frozen? ⟨tb, 0, none⟩ = false → Calls Try.prog 7 #[.pointer (some ⟨tb, 0, none⟩)] W fun e w' => e = .returned (.int .i64 (mkey k j)) ∧ ∃ w2, Below W.heap.size W w2 ∧ w' = w2.setCell ⟨tb, 0, none⟩ (.int .i64 (kseq k (j + 1))) :=
        fun W hc hf => turn_any tb 0 (kseq k j) W hc hf
      have HC := Lib.hid hcall; clear hcall
      go_wp2_with fail
      have hMd : fillM k M a d ((a + d : Nat) : Int) = none := fillM_none k M a HM.out d _ (Int.le_refl _)
      rw [← HJ.out] at hMd
      have HMD := Lib.hid hMd; clear hMd
      go_region_held3 (fun w' => w'.cell? ⟨tb, 1, none⟩ = some (.int .i64 j) ∧ w'.cell? ⟨tb, 3, none⟩ = some (.map (some mb)))
        (first | exact ⟨c1, c3⟩ | exact ⟨d1, d3⟩ | exact ⟨e1, e3⟩)
        (first
          | (go_at_call 7; refine (HC.out wr.drew c0 f0).mono ?_; rintro e w' ⟨rfl, w2, hb2, rfl⟩; have HT2 := Lib.hid (HT.out.turned hb2 (kseq k (j + 1))); have HB2 := Lib.hid hb2; clear hb2; obtain ⟨d0, d1, d2, d3⟩ := HT2.out.cells; obtain ⟨w3, hs3, hT3, hk3⟩ := HT2.out.stored hsd j (mkey k j) (by omega) hbd HMD.out; have HT3 := Lib.hid hT3; have HK3 := Lib.hid hk3; clear hT3 hk3; obtain ⟨e0, e1, e2, e3⟩ := HT3.out.cells; have g1 := HT3.out.free 1)
          | fail)
      clear c0 c1 c2 c3 d0 d1 d2 d3 f0 f1 hs3
      go_wp2_with fail
      go_roundg (n - a - (d + 1))
      case measure => have := HG.out; have := HJ.out; omega
      case rel =>
        have e : a + (d + 1) = j + 1 := by have := HJ.out; omega
        refine ⟨d + 1, rfl, by omega, ?_, ?_⟩
        · rw [e, show s + (d + 1) = s + d + 1 from by omega]
          have := HT3.out.setAt ((j : Int) + 1)
          rw [HJ.out] at this ⊢
          exact this
        · have k1 : Keep (Two tb mb) wr (w2.setCell ⟨tb, 0, none⟩ (.int .i64 (kseq k (j + 1)))) :=
            Keep.setCell (S := Two tb mb) (p := ⟨tb, 0, none⟩) (((Keep.refl (Two tb mb) wr).drew).trans (Keep.of_below HB2.out)) (.inr (.inl rfl)) _
          exact Keep.setCell (S := Two tb mb) (p := ⟨tb, 1, none⟩) ((hkeep.trans k1).trans (HK3.out.mono fun _ _ e => .inr e)) (.inr (.inl rfl)) _
    · obtain rfl : j = n := by have := HJ.out; omega
      have hcall : ∀ W, W.cell? ⟨tb, 0, none⟩ = some (.int .i64 (kseq k j)) → W.frozen? ⟨tb, 0, none⟩ = false → Calls Try.prog 7 #[.pointer (some ⟨tb, 0, none⟩)] W fun e w' => e = .returned (.int .i64 (mkey k j)) ∧ ∃ w2, Below W.heap.size W w2 ∧ w' = w2.setCell ⟨tb, 0, none⟩ (.int .i64 (kseq k (j + 1))) :=
        fun W hc hf => turn_any tb 0 (kseq k j) W hc hf
      have HC := Lib.hid hcall; clear hcall
      have hTa := HT.out.setAt ((j : Int) + 1)
      obtain ⟨d0, d1, d2, d3⟩ := hTa.cells
      have g0 := hTa.free 0
      have HTa := Lib.hid hTa; clear hTa
      go_wp2_with fail
      refine (HC.out _ d0 g0).mono ?_
      rintro e w' ⟨rfl, w2, hb2, rfl⟩
      have HB2 := Lib.hid hb2; clear hb2
      go_wp2_with fail
      go_ret2
      have ed : d = j - a := by have := HJ.out; omega
      refine ⟨rfl, ?_, ?_⟩
      · have := (HTa.out.keep (S := fun _ => False) (Keep.of_below HB2.out) (fun h => h) (fun h => h)).setKey (kseq k (j + 1))
        rw [← ed]
        exact this
      · have k1 : Keep (Two tb mb) w (wr.setCell ⟨tb, 1, none⟩ (.int .i64 ((j : Int) + 1))) := Keep.setCell (S := Two tb mb) (p := ⟨tb, 1, none⟩) hkeep (.inr (.inl rfl)) _
        exact Keep.setCell (S := Two tb mb) (p := ⟨tb, 0, none⟩) (k1.trans (Keep.of_below HB2.out)) (.inr (.inl rfl)) _
end Go.Proofs.Ytifegnpdclcolaa
