/-
  primes.Is: is it a prime?
-/
import Derived.Test.YtlfocajlkelnbaaPowers
namespace Go.Proofs.Ytlfocajlkelnbaa
open Go.RowKit Go.Shelf
attribute [local go_sem] Oper.semAt_some
theorem out_any (n : Int) (w : World) : Calls Try.prog 28 #[.int .i64 n] w fun e w' => e = .returned (.bool (decide (n < 1 ∨ 1048576 < n))) ∧ w = w' := by
  by_cases h1 : n < 1
  · have b1 : decide (n < 1) = true := by simpa using h1
    have h : decide (n < 1 ∨ 1048576 < n) = true := by simp; omega
    have H := Lib.hid h; clear h h1
    go_enter Try.func28, Try.ntmps28
    go_wp2
    go_ret
    exact ⟨by rw [H.out]; rfl, rfl⟩
  · have b1 : decide (n < 1) = false := by simpa using h1
    have h : decide (n < 1 ∨ 1048576 < n) = decide (1048576 < n) := by rw [decide_eq_decide]; omega
    have H := Lib.hid h; clear h h1
    go_enter Try.func28, Try.ntmps28
    go_wp2
    go_ret
    exact ⟨by rw [H.out]; rfl, rfl⟩
theorem powers_any (n : Int) (w : World) : Calls Try.prog 29 #[.int .i64 n] w fun e w' => e = .returned (.func (.func 32) #[] #[.pointer (some ⟨w.heap.size, 0, none⟩)]) ∧ w.alloc (.cells #[.int .i64 n] 2) = w' := by
  go_enter Try.func29, Try.ntmps29
  go_wp2
  go_ret
  exact ⟨rfl, rfl⟩
/-- a block of one cell -/
def OneCell (w : World) (b : Nat) (t : TypeId) (v : Value) : Prop := w.heap[b]? = some (.cells #[v] t (0, 0))
theorem OneCell.cell {w : World} {b : Nat} {t : TypeId} {v : Value} (h : OneCell w b t v) : w.cell? ⟨b, 0, none⟩ = some v := by rw [cell_of_row _ _ _ _ _ _ h]; rfl
theorem OneCell.frozen {w : World} {b : Nat} {t : TypeId} {v : Value} (h : OneCell w b t v) : w.frozen? ⟨b, 0, none⟩ = false := by unfold OneCell at h; simp [World.frozen?, h]
theorem OneCell.set_ {w : World} {b : Nat} {t : TypeId} {v : Value} (h : OneCell w b t v) (v' : Value) : OneCell (w.setCell ⟨b, 0, none⟩ v') b t v' := by
  unfold OneCell at h ⊢
  simp [World.setCell, Array.getElem?_modify, h]
theorem OneCell.set_other {w : World} {b : Nat} {t : TypeId} {v : Value} (h : OneCell w b t v) {p : Addr} (u : Value) (hp : b ≠ p.block) : OneCell (w.setCell p u) b t v := (Below.heap_setCell w p u b hp).trans h
theorem OneCell.lt {w : World} {b : Nat} {t : TypeId} {v : Value} (h : OneCell w b t v) : b < w.heap.size := by
  unfold OneCell at h
  rcases Nat.lt_or_ge b w.heap.size with h' | h'
  · exact h'
  · rw [Array.getElem?_eq_none h'] at h; cases h
theorem OneCell.alloc {w : World} {b : Nat} {t : TypeId} {v : Value} (h : OneCell w b t v) (o : Obj) : OneCell (w.alloc o) b t v := (Below.heap_alloc w o b h.lt).trans h
theorem OneCell.new (w : World) (t : TypeId) (v : Value) : OneCell (w.alloc (.cells #[v] t)) w.heap.size t v := World.alloc_heap_new w _
theorem OneCell.book {B : Nat} {w w' : World} {b : Nat} {t : TypeId} {v : Value} (h : OneCell w b t v) (k : Book B w w') : OneCell w' b t v := k.cells h
theorem OneCell.putObj {w : World} {b : Nat} {t : TypeId} {v : Value} (h : OneCell w b t v) {D : Nat} (o : Obj) (hD : b ≠ D) : OneCell (w.putObj D o) b t v := (World.putObj_heap_other (fun e => hD (by omega))).trans h
def IsPost (n : Nat) (w : World) (e : Ending) (w' : World) : Prop := e = .returned (.tuple #[.bool (decide (PrimeN n)), .int .i64 0]) ∧ Keep (fun _ => False) w w'
set_option maxRecDepth 100000 in
set_option maxHeartbeats 4000000 in
theorem is_ok (n : Nat) (hn0 : 0 < n) (hn : n ≤ 1048576) (w : World) : Calls Try.prog 26 #[.int .i64 n] w (IsPost n w) := by
  refine (callsIn_wide (n := 3)).1 ?_
  refine callsIn_of_wp_marks Try.func26 rfl trivial ?_ rfl
  have hres : Try.f26.results = #[.cell 2 4, .cell 3 26] := by kernel_rfl
  have b1 : decide ((n : Int) < 1 ∨ 1048576 < (n : Int)) = false := by simp; omega
  have B1 := Lib.hid b1; clear b1
  simp only [Try.ntmps26, List.size_toArray, List.length_cons, List.length_nil, Nat.reduceAdd, Nat.reduceSub, Array.replicate_succ, Array.replicate_zero, List.push_toArray, List.append_toArray, List.nil_append, List.cons_append]
  gi_wp2_with (first
    | (refine ⟨trivial, ?_⟩; gi_at_call 28; refine (callsIn_wide.2 (out_any _ _)).mono ?_; rintro e w' ⟨rfl, rfl⟩; rw [B1.out])
    | (refine ⟨trivial, ?_⟩; gi_at_call 29; refine (callsIn_wide.2 (powers_any _ _)).mono ?_; rintro e w' ⟨rfl, rfl⟩))
  obtain ⟨N, hN⟩ : ∃ N, N = w.heap.size := ⟨_, rfl⟩
  rw [← hN]
  obtain ⟨W0, hW0⟩ : ∃ W0, W0 = (((w.alloc (Obj.cells #[Value.int IntKind.i64 n] 2)).alloc (Obj.cells #[Value.bool false] 4)).alloc (Obj.cells #[Value.int IntKind.i64 0] 26)).alloc (Obj.cells #[Value.int IntKind.i64 n] 2) := ⟨_, rfl⟩
  have hk0 : Keep (fun _ => False) w W0 := by rw [hW0]; exact ((((Keep.refl _ w).alloc _).alloc _).alloc _).alloc _
  have c1 : OneCell W0 N 2 (.int .i64 n) := by rw [hW0, hN]; exact (((OneCell.new _ _ _).alloc _).alloc _).alloc _
  have c2 : OneCell W0 (N + 1) 4 (.bool false) := by
    have := OneCell.new (w.alloc (Obj.cells #[Value.int IntKind.i64 n] 2)) 4 (.bool false)
    rw [World.size_alloc, ← hN] at this
    rw [hW0]; exact (this.alloc _).alloc _
  have c3 : OneCell W0 (N + 1 + 1) 26 (.int .i64 0) := by
    have := OneCell.new ((w.alloc (Obj.cells #[Value.int IntKind.i64 n] 2)).alloc (Obj.cells #[Value.bool false] 4)) 26 (.int .i64 0)
    rw [World.size_alloc, World.size_alloc, ← hN] at this
    rw [hW0]; exact this.alloc _
  have c4 : OneCell W0 (N + 1 + 1 + 1) 2 (.int .i64 n) := by
    have := OneCell.new (((w.alloc (Obj.cells #[Value.int IntKind.i64 n] 2)).alloc (Obj.cells #[Value.bool false] 4)).alloc (Obj.cells #[Value.int IntKind.i64 0] 26)) 2 (.int .i64 n)
    rw [World.size_alloc, World.size_alloc, World.size_alloc, ← hN] at this
    rw [hW0]; exact this
  have hs0 : W0.heap.size = N + 4 := by rw [hW0, hN]; simp
  rw [← hW0]
  clear hW0
  refine wpIn_range_cell (gf := 32) (lb := #[.pointer (some ⟨N + 1 + 1 + 1, 0, none⟩)]) (b := N + 1 + 1 + 1) (cs := #[.int .i64 n]) (tb := 2) rfl (enters_of Try.func32 (by kernel_rfl) rfl)
    (powers_seq (N + 1 + 1 + 1) n hn0 hn) (fun x => rfl) c4 (fun W h => h)
    (fun pre W => N + 4 ≤ W.heap.size ∧ pre = [] ∧ OneCell W N 2 (.int .i64 n) ∧ OneCell W (N + 1) 4 (.bool false) ∧ OneCell W (N + 1 + 1) 26 (.int .i64 0) ∧ Keep (fun _ => False) w W)
    (fun c pre W => c = .ret ∧ ∃ q k, pre = [(q, k)] ∧ OneCell W (N + 1) 4 (.bool ((q : Int) == (n : Int))) ∧ OneCell W (N + 1 + 1) 26 (.int .i64 0) ∧ Keep (fun _ => False) w W)
    ?hI ?hIx ?hIb ⟨by omega, rfl, c1, c2, c3, hk0⟩ ?round ?done ?stop
  case hI =>
    rintro pre W W' ⟨h0, rfl, h1, h2, h3, hk⟩ hb
    exact ⟨Nat.le_trans h0 hb.size, rfl, h1.book hb, h2.book hb, h3.book hb, hb.keep (by omega) hk⟩
  case hIx =>
    rintro c pre W W' ⟨rfl, q, k, rfl, h2, h3, hk⟩ hb
    exact ⟨rfl, q, k, rfl, h2.book hb, h3.book hb, hb.keep (by omega) hk⟩
  case hIb =>
    rintro pre W u ⟨h0, rfl, h1, h2, h3, hk⟩
    refine ⟨by simpa using h0, rfl, h1.set_other u (by simp; omega), h2.set_other u (by simp), h3.set_other u (by simp), Keep.ofBelow (hk.toBelow.setCell (p := ⟨N + 1 + 1 + 1, 0, none⟩) (by simp; omega) _)⟩
  case round =>
    rintro l pre ⟨q, k⟩ W ⟨h0, rfl, h1, h2, h3, hk⟩
    simp only [encP, Array.zip, List.foldl]
    have HN := Lib.hid hN; have HS := Lib.hid hs0; clear hN hs0
    gi_wp2
    have hN := HN.out; have hs0 := HS.out
    refine ⟨(KeepsOthers.alloc _ _).from _, Below.heap_alloc _ _ _ (by omega), ?_⟩
    intro W₂ hB
    have hp : W₂.heap[W.heap.size]? = some (.cells #[.int .i64 q, .int .i64 k] 60 (0, 0)) := hB.cells (World.alloc_heap_new W _)
    have k1 := (h1.alloc _).book hB; have k2 := (h2.alloc _).book hB; have k3 := (h3.alloc _).book hB
    have hk2 := hB.keep (by omega) (hk.alloc _)
    have hz := Nat.le_trans (Nat.le_trans h0 (show W.heap.size ≤ _ from (Book.alloc 0 W _).size)) hB.size
    have HP : W₂.cell? ⟨W.heap.size, 0, none⟩ = some (.int .i64 q) := by rw [cell_of_row _ _ _ _ _ _ hp]; rfl
    have q1 := k1.cell
    have q2 := k2.frozen; have q3 := k3.frozen; have q4 := k2.cell; have q5 := k3.cell
    clear hp hB hN hs0
    gi_wp2
    have hN := HN.out; have hs0 := HS.out
    refine ⟨((KeepsOthers.setCell _ _ _).trans (KeepsOthers.setCell _ _ _)).from _, rfl, q, k, rfl, (k2.set_ _).set_other _ (by simp), (k3.set_other _ (by simp)).set_ _, ?_⟩
    exact Keep.ofBelow (((hk2.toBelow.setCell (p := ⟨N + 1, 0, none⟩) (by simp; omega) _)).setCell (p := ⟨N + 1 + 1, 0, none⟩) (by simp; omega) _)
  case done =>
    rintro D xs W hD hS ⟨h0, rfl, h1, h2, h3, hk⟩ hK
    have h1n : n = 1 := fac_ne_nil hS (Nat.le_refl _) (free_two n) hn0
    have HN := Lib.hid hN; have HS := Lib.hid hs0
    have q2 := h2.frozen; have q3 := h3.frozen; have q4 := h2.cell; have q5 := h3.cell
    have hk3 := (KeepsOthers.setCell (W.setCell ⟨N + 1, 0, none⟩ (.bool false)) ⟨N + 1 + 1, 0, none⟩ (.int .i64 0)).same D _ ((KeepsOthers.setCell W ⟨N + 1, 0, none⟩ (.bool false)).same D _ hK rfl) rfl
    have HN1 := Lib.hid h1n
    clear h1n hN hs0
    gi_wp2
    refine ⟨by simp, .inl ⟨_, _, rfl, run_takeDeferred hk3, ?_⟩⟩
    have hN := HN.out; have hs0 := HS.out
    have e2 := (((h2.set_ (.bool false)).set_other (p := ⟨N + 1 + 1, 0, none⟩) (.int .i64 0) (by simp)).putObj (D := D) (.deferred none) (by omega)).cell
    have e3 := (((h3.set_other (p := ⟨N + 1, 0, none⟩) (.bool false) (by simp)).set_ (.int .i64 0)).putObj (D := D) (.deferred none) (by omega)).cell
    have hkk := Keep.ofBelow (((hk.toBelow.setCell (p := ⟨N + 1, 0, none⟩) (by simp; omega) (.bool false))).setCell (p := ⟨N + 1 + 1, 0, none⟩) (by simp; omega) (.int .i64 0))
    refine ⟨.tuple #[.bool false, .int .i64 0], ?_, ?_, (Book.putObj (B := w.heap.size) _ hk3 rfl (by omega)).keep (Nat.le_refl _) hkk⟩
    · clear hN hs0
      revert e2 e3
      generalize World.putObj _ D _ = V
      intro e2 e3
      simp only [results, hres]
      go_simp
    · have hd : decide (PrimeN n) = false := by rw [HN1.out]; decide
      rw [hd]
  case stop =>
    rintro D c pre W hD ⟨post, hS⟩ ⟨rfl, q, k, rfl, h2, h3, hk⟩ hK
    have HN := Lib.hid hN; have HS := Lib.hid hs0; have HSS := Lib.hid hS; clear hN hs0 hS
    have q2 := h2.frozen; have q3 := h3.frozen; have q4 := h2.cell; have q5 := h3.cell
    gi_wp2
    refine ⟨by simp, .inl ⟨_, _, rfl, run_takeDeferred hK, ?_⟩⟩
    have hN := HN.out; have hs0 := HS.out
    have e2 := (h2.putObj (D := D) (.deferred none) (by omega)).cell
    have e3 := (h3.putObj (D := D) (.deferred none) (by omega)).cell
    refine ⟨.tuple #[.bool ((q : Int) == (n : Int)), .int .i64 0], ?_, ?_, (Book.putObj (B := w.heap.size) _ hK rfl (by omega)).keep (Nat.le_refl _) hk⟩
    · clear hN hs0
      revert e2 e3
      generalize World.putObj _ D _ = V
      intro e2 e3
      simp only [results, hres]
      go_simp
    · have hd : decide (PrimeN n) = ((q : Int) == (n : Int)) := by
        have h1 : 1 < n := by
          rcases Nat.lt_or_ge 1 n with h | h
          · exact h
          · have h1 := HSS.out
            cases h1 <;> omega
        rw [Bool.eq_iff_iff, decide_eq_true_iff, beq_iff_eq, ← head_prime HSS.out h1]
        omega
      rw [hd]
end Go.Proofs.Ytlfocajlkelnbaa
