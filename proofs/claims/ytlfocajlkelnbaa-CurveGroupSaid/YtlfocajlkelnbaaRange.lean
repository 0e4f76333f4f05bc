/-
  A range over an iterator that keeps a number of its own in a cell: the law for the loop, for any program.
-/
import Derived.Test.YtlfocajlkelnbaaOwn
import Derived.RangeFuncNested
import Derived.RangeFuncBound
import Derived.RangeFuncCalls
import Derived.RangeFuncLeaves
import Derived.Shelf.Abstract
import Derived.Shelf.RegionOpen
import Derived.OwnWalkIn
import Derived.TacticsInMore
import Derived.LoopNIn
import Derived.LoopIn
namespace Go.Proofs.Ytlfocajlkelnbaa
open Go.RowKit Go.Shelf
/-- cells, and whatever lay below B, lie as they lay -/
structure Book (B : Nat) (W W' : World) : Prop where
  os : W'.os = W.os
  tape : W'.tape = W.tape
  output : W'.output = W.output
  size : W.heap.size ≤ W'.heap.size
  block : ∀ k, k < W.heap.size → (k < B ∨ ∃ o : Obj, W.heap[k]? = some o ∧ o.isCells = true) → W'.heap[k]? = W.heap[k]?
theorem Book.alloc (B : Nat) (W : World) (o : Obj) : Book B W (W.alloc o) := ⟨rfl, rfl, rfl, by simp, fun k hk _ => Below.heap_alloc _ _ _ hk⟩
theorem Book.putObj {B : Nat} {W : World} {l : Nat} {o : Obj} (o' : Obj) (hl : W.heap[l]? = some o) (ho : o.isCells = false) (hB : B ≤ l) : Book B W (W.putObj l o') := by
  refine ⟨rfl, rfl, rfl, by simp, fun k _ hk => World.putObj_heap_other ?_⟩
  rintro rfl
  rcases hk with hk | ⟨o2, h2, h3⟩
  · omega
  · rw [hl] at h2; injection h2 with h2; subst h2; rw [ho] at h3; cases h3
theorem Book.cells {B : Nat} {W W' : World} (h : Book B W W') {g : Nat} {cs : Array Value} {t : TypeId} {z : Nat × Nat} (hc : W.heap[g]? = some (.cells cs t z)) : W'.heap[g]? = some (.cells cs t z) := by
  have hlt : g < W.heap.size := by
    rcases Nat.lt_or_ge g W.heap.size with h | h
    · exact h
    · rw [Array.getElem?_eq_none h] at hc; cases hc
  rw [h.block g hlt (.inr ⟨_, hc, rfl⟩)]; exact hc
theorem Book.keep {B : Nat} {w W W' : World} (h : Book B W W') (hw : w.heap.size ≤ B) (k : Keep (fun _ => False) w W) : Keep (fun _ => False) w W' :=
  ⟨h.os.trans k.os, h.tape.trans k.tape, h.output.trans k.output, Nat.le_trans k.size h.size, fun i hi hn => (h.block i (Nat.lt_of_lt_of_le hi k.size) (.inl (by omega))).trans (k.block i hi hn)⟩
theorem Book.own {B : Nat} {W W' : World} (h : Book B W W') {base : Nat} {e : TypeId} {size n : Nat} {v : Value} {xs : List Value} (ho : W.ownsRow base e size v n xs) : W'.ownsRow base e size v n xs := by
  obtain ⟨h1, h2⟩ := ho
  refine ⟨h1, ?_⟩
  rcases h2 with h2 | ⟨g, cap, cur, rfl, hg, hh, r⟩
  · exact .inl h2
  · exact .inr ⟨g, cap, cur, rfl, hg, h.cells hh, r⟩
/-- the contract of an iterator that writes the cell of block b alone -/
def SeqCell {α : Type} (P : Program) (g : Nat) (lb : Array Value) (encs : α → Array Value) (b : Nat) (Pre : World → Prop) (S Sp : List α → Prop) : Prop :=
  ∀ (l : Nat) (J Jx : List α → World → Prop) (W : World), Pre W →
    (∀ pre V u, J pre V → J pre (V.setCell ⟨b, 0, none⟩ u)) →
    (∀ pre x V, J pre V → YieldAt Fence.wide 1 P l (encs x) V fun e V' =>
      (e = .returned (.bool true) ∧ J (pre ++ [x]) V' ∧ V'.heap[b]? = V.heap[b]?) ∨ (e = .returned (.bool false) ∧ Jx (pre ++ [x]) V')) →
    J [] W →
    CallsIn Fence.wide 2 P g (#[.func (.yield l) #[] #[]] ++ lb) W fun e V' => (∃ v, e = .returned v) ∧ ((∃ xs, S xs ∧ J xs V') ∨ (∃ pre, Sp pre ∧ Jx pre V'))
/-- how a round may be left -/
def roundLeft {α : Type} (B b : Nat) (I : List α → World → Prop) (Ix : Code → List α → World → Prop) (xs : List α) (W : World) : Exit → Act → World → Prop
  | .normal, _, W' => KeepsFrom B W W' ∧ W'.heap[b]? = W.heap[b]? ∧ I xs W'
  | .ret, _, W' => KeepsFrom B W W' ∧ Ix .ret xs W'
  | .exit id, _, W' => KeepsFrom B W W' ∧ Ix (.exit id) xs W'
  | .goto t, _, W' => KeepsFrom B W W' ∧ Ix (.goto t) xs W'
  | .panic _, _, _ => False
  | .outgrown, _, _ => False
theorem wpIn_range_cell {α : Type} {P : Program} {g : Operand} {ps : Array Tmp} {assign body : Code} {Q : Exit → Act → World → Prop} {a : Act} {w : World}
    {gf : Nat} {lb : Array Value} (hg : a.eval g = .func (.func gf) #[] lb) (eg : ∀ args w, (callFunc gf args).run P w = .ok (.enter gf args) w)
    {encs : α → Array Value} {b : Nat} {cs : Array Value} {tb : TypeId} {Pre : World → Prop} {S Sp : List α → Prop} (hseq : SeqCell P gf lb encs b Pre S Sp) (hps : ∀ x, (encs x).size = ps.size)
    (hbw : w.heap[b]? = some (.cells cs tb (0, 0))) (hpre : ∀ W : World, W.heap[b]? = some (.cells cs tb (0, 0)) → Pre W)
    (I : List α → World → Prop) (Ix : Code → List α → World → Prop)
    (hI : ∀ pre W W', I pre W → Book w.heap.size W W' → I pre W') (hIx : ∀ c pre W W', Ix c pre W → Book w.heap.size W W' → Ix c pre W')
    (hIb : ∀ pre W u, I pre W → I pre (W.setCell ⟨b, 0, none⟩ u)) (h0 : I [] w)
    (hround : ∀ (l : Nat) (pre : List α) (x : α) (W : World), I pre W → assign.wpIn (Fence.wide.inRound l) 1 P
      (Exit.then (fun a₁ W₁ => KeepsFrom w.heap.size W W₁ ∧ W₁.heap[b]? = W.heap[b]? ∧ ∀ W₂, Book w.heap.size W₁ W₂ → body.wpIn (Fence.wide.inRound l) 1 P (roundLeft w.heap.size b I Ix (pre ++ [x]) W₂) a₁ W₂) (fun _ _ _ => False))
      { tmps := (ps.zip (encs x)).foldl (fun t (p, v) => t.setIfInBounds p v) a.tmps, defers := [] } W)
    (hdone : ∀ (D : Nat) (xs : List α) (W : World), w.heap.size ≤ D → S xs → I xs W → W.heap[D]? = some (.deferred (some [])) → Q .normal { a with defers := { target := .collected D, args := #[] } :: a.defers } W)
    (hstop : ∀ (D : Nat) (c : Code) (pre : List α) (W : World), w.heap.size ≤ D → Sp pre → Ix c pre W → W.heap[D]? = some (.deferred (some [])) → c.wpIn Fence.wide 3 P Q { a with defers := { target := .collected D, args := #[] } :: a.defers } W) :
    (Code.rangeFunc g ps assign body).wpIn Fence.wide 3 P Q a w := by
  have hblt : b < w.heap.size := by
    rcases Nat.lt_or_ge b w.heap.size with h | h
    · exact h
    · rw [Array.getElem?_eq_none h] at hbw; cases hbw
  refine wpIn_rangeFunc fun fn _ => ?_
  have hro : Fence.wide.round = none := rfl
  rw [hro]
  obtain ⟨rec, hrec⟩ : ∃ rec : LoopState → Option Code → Loop, rec = fun st pe => { state := st, pending := pe, fn, tmps := a.tmps, params := ps, assign, body, defers := w.heap.size } := ⟨_, rfl⟩
  obtain ⟨D, hD⟩ : ∃ D, D = w.heap.size := ⟨_, rfl⟩
  obtain ⟨W1, hW1⟩ : ∃ W1, W1 = (w.alloc (.deferred (some []))).alloc (.loop (rec .ready none)) := ⟨_, rfl⟩
  have hbk1 : Book w.heap.size w W1 := by
    have h1 := Book.alloc w.heap.size w (.deferred (some []))
    have h2 := Book.alloc w.heap.size (w.alloc (.deferred (some []))) (.loop (rec .ready none))
    rw [hW1]
    exact ⟨rfl, rfl, rfl, Nat.le_trans h1.size h2.size, fun k hk ho => (Below.heap_alloc _ _ _ (by simp; omega)).trans (Below.heap_alloc _ _ _ hk)⟩
  have hL1 : W1.heap[D + 1]? = some (.loop (rec .ready none)) := by
    rw [hW1, hD]; have := World.alloc_heap_new (w.alloc (.deferred (some []))) (.loop (rec .ready none)); rwa [World.size_alloc] at this
  have hK1 : W1.heap[D]? = some (.deferred (some [])) := by
    rw [hW1, hD]; exact (Below.heap_alloc _ _ _ (by simp)).trans (World.alloc_heap_new w _)
  refine ⟨D + 1, [{ target := .collected D, args := #[] }], W1, { target := .fn (.func gf) lb, args := #[.func (.yield (D + 1)) #[] #[]] }, W1, gf, #[.func (.yield (D + 1)) #[] #[]] ++ lb, W1, ?_, ?_, fun _ _ => trivial, ?_, fun h => (by cases h), ?_⟩
  · rw [hW1, hrec, hD]; exact run_enterLoop_outer _ _ _ _ _
  · simp only [resolve, hg]
    simp [go_sem]
  · simp [invoke, go_sem, eg]
  have hset : ∀ (V : World) (u : Value) (k : Nat), k ≠ b → (V.setCell ⟨b, 0, none⟩ u).heap[k]? = V.heap[k]? := fun V u k hk => Below.heap_setCell V _ u k hk
  refine (hseq (D + 1)
    (fun pre V => I pre V ∧ V.heap[D + 1]? = some (.loop (rec .ready none)) ∧ V.heap[D]? = some (.deferred (some [])))
    (fun pre V => ∃ c, Ix c pre V ∧ V.heap[D + 1]? = some (.loop (rec .done (some c))) ∧ V.heap[D]? = some (.deferred (some [])))
    W1 (hpre _ (hbk1.cells hbw))
    (fun pre V u h => ⟨hIb pre V u h.1, by rw [hset V u _ (by omega)]; exact h.2.1, by rw [hset V u _ (by omega)]; exact h.2.2⟩)
    ?_ ⟨hI _ _ _ h0 hbk1, hL1, hK1⟩).mono ?_
  · rintro pre x V ⟨hi, hl, hk⟩
    have hy := run_yield (P := P) (args := encs x) hl (by rw [hrec]; exact hps x)
    rw [hrec] at hy
    refine ⟨fn, _, assign, body, hy, roundIn_of_wpIn trivial ?_⟩
    refine wpIn_mono (hround (D + 1) pre x V hi) ?_
    intro e a₁ V1 hp
    cases e with
    | normal =>
      obtain ⟨hkf, hb1, hbody⟩ := hp
      have hl1 := hkf.same _ _ (by omega) hl rfl
      have hk1 := hkf.same _ _ (by omega) hk rfl
      refine ⟨_, run_beginRound hl1 (by rw [hrec]), ?_⟩
      have hbk := Book.putObj (B := w.heap.size) (.loop { rec .ready none with state := .busy }) hl1 rfl (by omega)
      have hl2 : (V1.putObj (D + 1) (.loop { rec .ready none with state := .busy })).heap[D + 1]? = some (.loop { rec .ready none with state := .busy }) := World.putObj_heap_same (Array.getElem?_eq_some_iff.1 hl1).1
      have hk2 : (V1.putObj (D + 1) (.loop { rec .ready none with state := .busy })).heap[D]? = some (.deferred (some [])) := (World.putObj_heap_other (by omega)).trans hk1
      have hb2 : (V1.putObj (D + 1) (.loop { rec .ready none with state := .busy })).heap[b]? = V.heap[b]? := (World.putObj_heap_other (by omega)).trans hb1
      have hbd := hbody _ hbk
      obtain ⟨V2, hV2⟩ : ∃ V2, V2 = V1.putObj (D + 1) (.loop { rec .ready none with state := .busy }) := ⟨_, rfl⟩
      rw [← hV2] at hl2 hk2 hb2 hbd ⊢
      refine wpIn_mono hbd ?_
      have fin : ∀ (jump : Option Code) (V3 : World), KeepsFrom w.heap.size V2 V3 →
          (Instr.endRound (D + 1) jump).run P V3 = .ok (.bool jump.isNone) (V3.putObj (D + 1) (.loop (rec (if jump.isNone then .ready else .done) jump))) ∧
          Book w.heap.size V3 (V3.putObj (D + 1) (.loop (rec (if jump.isNone then .ready else .done) jump))) ∧
          (V3.putObj (D + 1) (.loop (rec (if jump.isNone then .ready else .done) jump))).heap[D + 1]? = some (.loop (rec (if jump.isNone then .ready else .done) jump)) ∧
          (V3.putObj (D + 1) (.loop (rec (if jump.isNone then .ready else .done) jump))).heap[D]? = some (.deferred (some [])) ∧
          (V3.putObj (D + 1) (.loop (rec (if jump.isNone then .ready else .done) jump))).heap[b]? = V3.heap[b]? := fun jump V3 hk3 => by
        have hl3 := hk3.same _ _ (by omega) hl2 rfl
        have hk3' := hk3.same _ _ (by omega) hk2 rfl
        have he := run_endRound (P := P) jump hl3
        refine ⟨?_, Book.putObj _ hl3 rfl (by omega), World.putObj_heap_same (Array.getElem?_eq_some_iff.1 hl3).1, (World.putObj_heap_other (by omega)).trans hk3', World.putObj_heap_other (by omega)⟩
        rw [hrec] at he ⊢; exact he
      intro e a3 V3 hp3
      cases e with
      | normal =>
        obtain ⟨hk3, hb3, hi3⟩ := hp3
        obtain ⟨hr, hbk3, hl4, hk4, hb4⟩ := fin none V3 hk3
        exact ⟨_, _, hr, .inl ⟨rfl, ⟨hI _ _ _ hi3 hbk3, hl4, hk4⟩, by rw [hb4, hb3, hb2]⟩⟩
      | ret =>
        obtain ⟨hk3, hi3⟩ := hp3
        obtain ⟨hr, hbk3, hl4, hk4, _⟩ := fin (some .ret) V3 hk3
        exact ⟨_, _, hr, .inr ⟨rfl, .ret, hIx _ _ _ _ hi3 hbk3, hl4, hk4⟩⟩
      | exit id =>
        obtain ⟨hk3, hi3⟩ := hp3
        obtain ⟨hr, hbk3, hl4, hk4, _⟩ := fin (some (.exit id)) V3 hk3
        exact ⟨_, _, hr, .inr ⟨rfl, .exit id, hIx _ _ _ _ hi3 hbk3, hl4, hk4⟩⟩
      | goto t =>
        obtain ⟨hk3, hi3⟩ := hp3
        obtain ⟨hr, hbk3, hl4, hk4, _⟩ := fin (some (.goto t)) V3 hk3
        exact ⟨_, _, hr, .inr ⟨rfl, .goto t, hIx _ _ _ _ hi3 hbk3, hl4, hk4⟩⟩
      | panic ch => exact hp3.elim
      | outgrown => exact hp3.elim
    | ret => exact hp.elim
    | exit id => exact hp.elim
    | goto t => exact hp.elim
    | panic ch => exact hp.elim
    | outgrown => exact hp.elim
  · rintro e V ⟨⟨v, rfl⟩, (⟨xs, hS, hi, hl, hk⟩ | ⟨pre, hSp, c, hi, hl, hk⟩)⟩
    · refine ⟨none, _, by have := run_endLoop (P := P) hl (by rw [hrec]; simp); rw [hrec] at this; exact this, hdone D xs _ (by omega) hS (hI _ _ _ hi (Book.putObj _ hl rfl (by omega))) ((World.putObj_heap_other (by omega)).trans hk)⟩
    · refine ⟨some c, _, by have := run_endLoop (P := P) hl (by rw [hrec]; simp); rw [hrec] at this; exact this, hstop D c pre _ (by omega) hSp (hIx _ _ _ _ hi (Book.putObj _ hl rfl (by omega))) ((World.putObj_heap_other (by omega)).trans hk)⟩
end Go.Proofs.Ytlfocajlkelnbaa
