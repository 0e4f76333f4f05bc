/-
  The walk of RatchetRight.
-/
import Derived.Test.YtifegnpdclcolaaRatchetL
import Derived.Maps.AppendAt
namespace Go.Proofs.Ytifegnpdclcolaa
open Go.RowKit
theorem own_form2 {w : World} {base : Nat} {e : TypeId} {v : Value} {n : Nat} {xs : List Value} (h : w.ownsRow base e 2 v n xs) : ∃ A c, v = .slice A n c := by
  rcases h.2 with ⟨rfl, rfl⟩ | ⟨g, cap, cur, rfl, _⟩
  · exact ⟨none, 0, rfl⟩
  · exact ⟨_, _, rfl⟩
theorem outV_at {l : List (Int × Int)} {i : Nat} {p : Int × Int} (h : l[i]? = some p) : (outV l)[i * 2]? = some (.int .i64 p.1) ∧ (outV l)[i * 2 + 1]? = some (.int .i64 p.2) := by
  induction l generalizing i with
  | nil => simp at h
  | cons q l ih =>
    cases i with
    | zero => simp at h; subst h; simp [outV]
    | succ i =>
      have := ih (by simpa using h)
      rw [show outV (q :: l) = .int .i64 q.1 :: .int .i64 q.2 :: outV l from rfl, show (i + 1) * 2 = i * 2 + 1 + 1 from by omega]
      simpa using this
theorem out_cells {w w' : World} {base n : Nat} {v : Value} {l : List (Int × Int)} (h : w.ownsRow base 31 2 v n (outV l)) (hb : Below w.heap.size w w') {i : Nat} (hi : i < n) {p : Int × Int} (hp : l[i]? = some p) :
    ∃ g c, v = .slice (some ⟨g, 0, none⟩) n c ∧ g < w.heap.size ∧ w'.cell? ⟨g, i * 2, none⟩ = some (.int .i64 p.1) ∧ w'.cell? ⟨g, i * 2 + 1, none⟩ = some (.int .i64 p.2) := by
  have hl := h.1
  rcases h.2 with ⟨rfl, rfl⟩ | ⟨g, cap, cur, rfl, _⟩
  · omega
  · have hg := (own_block_ge h g rfl).2
    have h1 := h.cellAt (i * 2) (by omega)
    have h2 := h.cellAt (i * 2 + 1) (by omega)
    rw [(outV_at hp).1] at h1
    rw [(outV_at hp).2] at h2
    exact ⟨g, cap, rfl, hg, (hb.cell (p := ⟨g, _, none⟩) hg).trans h1, (hb.cell (p := ⟨g, _, none⟩) hg).trans h2⟩
/-- what the law has gathered -/
structure RR (base : Nat) (w1 wr : World) (st : PS) (sv cv : Value) (come : List Int) : Prop where
  own1 : wr.ownsRow base 3 1 sv st.sent.length (vals .i64 st.sent)
  own2 : wr.ownsRow base 3 1 cv come.length (vals .i64 come)
  apart : ∀ g, sv.ownBlock = some g → cv.ownBlock ≠ some g
  came : ∀ x ∈ come, ∃ j : Nat, x = j ∧ Came st j
  below : Below base w1 wr
  size : base ≤ wr.heap.size
section
variable {base : Nat} {w1 wr W w5 : World} {st st' : PS} {sv cv sv' cv' : Value} {come : List Int}
theorem RR.same (h : RR base w1 wr st sv cv come) (hk : Keep (fun _ => False) wr W) (hs : st'.sent = st.sent) (hc : ∀ j, Came st j → Came st' j) : RR base w1 W st' sv cv come :=
  ⟨by rw [hs]; exact hk.own h.own1 (fun _ _ h => h), hk.own h.own2 (fun _ _ h => h), h.apart, fun x hx => by obtain ⟨j, e, hj⟩ := h.came x hx; exact ⟨j, e, hc j hj⟩, h.below.trans (hk.below h.size (fun _ h => h.elim)), Nat.le_trans h.size hk.size⟩
theorem RR.sent1 (h : RR base w1 W st sv cv come) {x : Int} (ho : w5.ownsRow base 3 1 sv' (st.sent.length + 1) (vals .i64 st.sent ++ [.int .i64 x])) (hg : W.grownBy w5 sv.ownBlock)
    (hat : sv'.ownBlock = sv.ownBlock ∨ sv'.ownBlock = some W.heap.size) (hs : st'.sent = st.sent ++ [x]) (hc : ∀ j, Came st j → Came st' j) : RR base w1 w5 st' sv' cv come := by
  have hk : Keep (fun g => sv.ownBlock = some g) W w5 := Keep.of_grown hg (fun _ h => h)
  refine ⟨by rw [hs]; simpa [vals] using ho, hk.own h.own2 (fun g hg e => h.apart g e hg), ?_, fun x hx => by obtain ⟨j, e, hj⟩ := h.came x hx; exact ⟨j, e, hc j hj⟩, h.below.trans (hk.below h.size (fun g hg => (own_block_ge h.own1 g hg).1)), Nat.le_trans h.size hk.size⟩
  intro g e1 e2
  rcases hat with hat | hat
  · exact h.apart g (hat ▸ e1) e2
  · have h1 := (own_block_ge h.own2 g e2).2
    rw [hat] at e1
    have : W.heap.size = g := Option.some.inj e1
    omega
theorem RR.came1 (h : RR base w1 W st sv cv come) {m : Nat} (ho : w5.ownsRow base 3 1 cv' (come.length + 1) (vals .i64 come ++ [.int .i64 m])) (hg : W.grownBy w5 cv.ownBlock)
    (hat : cv'.ownBlock = cv.ownBlock ∨ cv'.ownBlock = some W.heap.size) (hs : st'.sent = st.sent) (hc : ∀ j, Came st j → Came st' j) (hm : Came st' m) : RR base w1 w5 st' sv cv' (come ++ [(m : Int)]) := by
  have hk : Keep (fun g => cv.ownBlock = some g) W w5 := Keep.of_grown hg (fun _ h => h)
  refine ⟨by rw [hs]; exact hk.own h.own1 (fun g hg e => h.apart g hg e), by simpa [vals] using ho, ?_, fun x hx => ?_, h.below.trans (hk.below h.size (fun g hg => (own_block_ge h.own2 g hg).1)), Nat.le_trans h.size hk.size⟩
  · intro g e1 e2
    rcases hat with hat | hat
    · exact h.apart g e1 (hat ▸ e2)
    · have h1 := (own_block_ge h.own1 g e1).2
      rw [hat] at e2
      have : W.heap.size = g := Option.some.inj e2
      omega
  · rcases List.mem_append.1 hx with hx | hx
    · obtain ⟨j, e, hj⟩ := h.came x hx; exact ⟨j, e, hc j hj⟩
    · exact ⟨m, by simpa using hx, hm⟩
/-- a slice of numbers that the law owns, read at a place -/
theorem own_at {w w' : World} {base n : Nat} {v : Value} {l : List Int} (h : w.ownsRow base 3 1 v n (vals .i64 l)) (hk : Keep (fun _ => False) w w') {i : Nat} (hi : i < n) :
    ∃ g c, v = .slice (some ⟨g, 0, none⟩) n c ∧ w'.cell? ⟨g, i, none⟩ = some (.int .i64 (l.getD i 0)) := by
  have hl : l.length = n := by have := h.1; simpa using this
  rcases h.2 with ⟨rfl, rfl⟩ | ⟨g, cap, cur, rfl, _⟩
  · omega
  · have h1 := h.cellAt i (by omega)
    rw [show (vals .i64 l)[i]? = some (.int .i64 (l.getD i 0)) by simp [vals, hl, hi]] at h1
    exact ⟨g, cap, rfl, hk.cellV h1 (fun h => h)⟩
end
end Go.Proofs.Ytifegnpdclcolaa
