/-
  The frame of RatchetAny: a script that is made, what is left, what was taken.
-/
import Derived.Test.YtifegnpdclcolaaRatchetU
import Derived.Deep.RegionLaw
namespace Go.Proofs.Ytifegnpdclcolaa
open Go.RowKit
section
variable {P : Program} (w : World)
/-- an append onto a row of the call's own from any source, as one step of a region that draws -/
theorem step_append_any {ops : Array Oper} {o : Oper} {a : Act} {K : Act → World → Prop} {Q : Exit → Act → World → Prop} {E : Prop} (hgd : o.guard = none) (s x : Operand) (t : TypeId)
    (ho : o.op = .call { callee := .builtin .append, args := #[s, x], argTypes := #[t, t] })
    (base : Nat) (e : TypeId) (i : TypeInfo) (z : Value) (bytes : Nat) (ht : P.underlying t = some (.slice e)) (hi : P.info? e = some i) (hz : i.zero = some z)
    (hsize : i.size = 1) (hby : i.bytes = bytes) (hzs : z.cells.size = 1)
    (v : Value) (n : Nat) (xs : List Value) (hs : a.eval s = v) (hown : w.ownsRow base e 1 v n xs)
    (B : Nat) (A : Option Addr) (m c : Nat) (news : List Value) (hx : a.eval x = .slice A m c) (hr : Reads w B A m news) (h1 : ∀ u ∈ news, u.oneCell' = true)
    (h63 : n + m ≤ maxLen) (hbytes : (n + m) * bytes ≤ 140737488355328) (hbase : base ≤ w.heap.size)
    (h : ∀ v' w', w'.ownsRow base e 1 v' (n + m) (xs ++ news) → w.grownBy w' v.ownBlock → K (a.put o.dst v') w') :
    if Region.wanted o (yielded ops a.tmps) = true then Oper.wp P o a w K Q else E := by
  have hw : Region.wanted o (yielded ops a.tmps) = true := by simp [Region.wanted, hgd]
  rw [if_pos hw]
  obtain ⟨v', w', hrun, h2, h3⟩ := run_append_any (P := P) w base t o.type e i z bytes ht hi hz hsize hby hzs v n xs hown B A m c news hr h1 h63 hbytes hbase
  unfold Oper.wp execOp
  simp only [ho, resolve, invoke, builtin, Sem.run_bind, Sem.run_pure, Result.andThen_ok, List.map_toArray, List.map_cons, List.map_nil, hs, hx, hrun]
  exact h v' w' h2 h3
end
/-- a script, as cells -/
def postV (l : List Post) : List Value := l.flatMap fun p => [.int .i64 p.1, .int .i64 p.2.1, .int .i64 p.2.2]
theorem postV_length (l : List Post) : (postV l).length = l.length * 3 := by
  induction l with
  | nil => rfl
  | cons p l ih => simp [postV] at *; omega
theorem postV_snoc (l : List Post) (p : Post) : postV (l ++ [p]) = postV l ++ [.int .i64 p.1, .int .i64 p.2.1, .int .i64 p.2.2] := by simp [postV]
theorem postV_at {l : List Post} {i : Nat} {p : Post} (h : l[i]? = some p) : (postV l)[i * 3]? = some (.int .i64 p.1) ∧ (postV l)[i * 3 + 1]? = some (.int .i64 p.2.1) ∧ (postV l)[i * 3 + 2]? = some (.int .i64 p.2.2) := by
  induction l generalizing i with
  | nil => simp at h
  | cons q l ih =>
    cases i with
    | zero => simp at h; subst h; simp [postV]
    | succ i =>
      have := ih (by simpa using h)
      rw [show postV (q :: l) = .int .i64 q.1 :: .int .i64 q.2.1 :: .int .i64 q.2.2 :: postV l from rfl, show (i + 1) * 3 = i * 3 + 1 + 1 + 1 from by omega]
      simpa using this
theorem Posts.of_own {w : World} {base n c : Nat} {A : Option Addr} {sc : List Post} (h : w.ownsRow base 29 3 (.slice A n c) n (postV sc)) : Posts w w.heap.size A n sc := by
  have hl : sc.length = n := by have := h.1; rw [postV_length] at this; omega
  refine ⟨hl, fun hn => ?_⟩
  rcases h.2 with ⟨e, h0⟩ | ⟨g, cap, cur, e, _⟩
  · omega
  · injection e with e1 e2 e3
    subst e1
    refine ⟨g, 0, rfl, (own_block_ge h g rfl).2, fun j p hj => ?_⟩
    have hjn : j < n := by rw [← hl]; exact (List.getElem?_eq_some_iff.1 hj).1
    obtain ⟨p0, p1, p2⟩ := postV_at hj
    refine ⟨?_, ?_, ?_⟩
    · rw [show 0 + j * 3 = j * 3 from by omega, h.cellAt _ (by omega), p0]
    · rw [show 0 + j * 3 + 1 = j * 3 + 1 from by omega, h.cellAt _ (by omega), p1]
    · rw [show 0 + j * 3 + 2 = j * 3 + 2 from by omega, h.cellAt _ (by omega), p2]
theorem own_form3 {w : World} {base : Nat} {e : TypeId} {size : Nat} {v : Value} {n : Nat} {xs : List Value} (h : w.ownsRow base e size v n xs) : ∃ A c, v = .slice A n c := by
  rcases h.2 with ⟨rfl, rfl⟩ | ⟨g, cap, cur, rfl, _⟩
  · exact ⟨none, 0, rfl⟩
  · exact ⟨_, _, rfl⟩
abbrev nats (l : List Nat) : List Int := l.map fun (x : Nat) => (x : Int)
structure AR (base : Nat) (w0 wr : World) (sv lv tv : Value) (sc : List Post) (L T : List Nat) : Prop where
  scr : wr.ownsRow base 29 3 sv sc.length (postV sc)
  left : wr.ownsRow base 3 1 lv L.length (vals .i64 (nats L))
  took : wr.ownsRow base 3 1 tv T.length (vals .i64 (nats T))
  apart : ∀ g, lv.ownBlock = some g → tv.ownBlock ≠ some g
  below : Below base w0 wr
  size : base ≤ wr.heap.size
section
variable {base : Nat} {w0 wr W w5 : World} {sv lv tv v' : Value} {sc : List Post} {L T : List Nat}
theorem AR.keep (h : AR base w0 wr sv lv tv sc L T) (hk : Keep (fun _ => False) wr W) : AR base w0 W sv lv tv sc L T :=
  ⟨hk.own h.scr (fun _ _ h => h), hk.own h.left (fun _ _ h => h), hk.own h.took (fun _ _ h => h), h.apart, h.below.trans (hk.below h.size (fun _ h => h.elim)), Nat.le_trans h.size hk.size⟩
theorem own_kinds {w : World} {base base' : Nat} {e e' : TypeId} (hne : e ≠ e') {s s' n n' : Nat} {v v' : Value} {xs xs' : List Value} (h : w.ownsRow base e s v n xs) (h' : w.ownsRow base' e' s' v' n' xs') {g : Nat} (hg : v.ownBlock = some g) : v'.ownBlock ≠ some g := by
  intro hg'
  obtain ⟨cur, hh⟩ := own_heap h hg
  exact own_ne h' hh (fun _ => cells_ne hne) g hg' rfl
theorem AR.scr1 (h : AR base w0 W sv lv tv sc L T) {p : Post} (ho : w5.ownsRow base 29 3 v' (sc.length + 1) (postV sc ++ [.int .i64 p.1, .int .i64 p.2.1, .int .i64 p.2.2])) (hg : W.grownBy w5 sv.ownBlock) : AR base w0 w5 v' lv tv (sc ++ [p]) L T := by
  have hk : Keep (fun g => sv.ownBlock = some g) W w5 := Keep.of_grown hg (fun _ h => h)
  exact ⟨by rw [postV_snoc, List.length_append]; exact ho, hk.own h.left (fun g hg e => own_kinds (by decide) h.scr h.left e hg), hk.own h.took (fun g hg e => own_kinds (by decide) h.scr h.took e hg), h.apart, h.below.trans (hk.below h.size (fun g hg => (own_block_ge h.scr g hg).1)), Nat.le_trans h.size hk.size⟩
theorem AR.took1 (h : AR base w0 W sv lv tv sc L T) {m : Nat} (ho : w5.ownsRow base 3 1 v' (T.length + 1) (vals .i64 (nats T) ++ [.int .i64 m])) (hg : W.grownBy w5 tv.ownBlock)
    (hat : v'.ownBlock = tv.ownBlock ∨ v'.ownBlock = some W.heap.size) : AR base w0 w5 sv lv v' sc L (T ++ [m]) := by
  have hk : Keep (fun g => tv.ownBlock = some g) W w5 := Keep.of_grown hg (fun _ h => h)
  refine ⟨hk.own h.scr (fun g hg e => own_kinds (by decide) h.scr h.took hg e), hk.own h.left (fun g hg e => h.apart g hg e), by rw [List.length_append]; simpa [vals, nats] using ho, ?_, h.below.trans (hk.below h.size (fun g hg => (own_block_ge h.took g hg).1)), Nat.le_trans h.size hk.size⟩
  intro g e1 e2
  rcases hat with hat | hat
  · exact h.apart g e1 (hat ▸ e2)
  · have h1 := (own_block_ge h.left g e1).2
    rw [hat] at e2
    have : W.heap.size = g := Option.some.inj e2
    omega
theorem AR.left1 (h : AR base w0 W sv lv tv sc L T) {m : Nat} (ho : w5.ownsRow base 3 1 v' (L.length + 1) (vals .i64 (nats L) ++ [.int .i64 m])) (hg : W.grownBy w5 lv.ownBlock)
    (hat : v'.ownBlock = lv.ownBlock ∨ v'.ownBlock = some W.heap.size) : AR base w0 w5 sv v' tv sc (L ++ [m]) T := by
  have hk : Keep (fun g => lv.ownBlock = some g) W w5 := Keep.of_grown hg (fun _ h => h)
  refine ⟨hk.own h.scr (fun g hg e => own_kinds (by decide) h.scr h.left hg e), by rw [List.length_append]; simpa [vals, nats] using ho, hk.own h.took (fun g hg e => h.apart g e hg), ?_, h.below.trans (hk.below h.size (fun g hg => (own_block_ge h.left g hg).1)), Nat.le_trans h.size hk.size⟩
  intro g e1 e2
  rcases hat with hat | hat
  · exact h.apart g (hat ▸ e1) e2
  · have h1 := (own_block_ge h.took g e2).2
    rw [hat] at e1
    have : W.heap.size = g := Option.some.inj e1
    omega
theorem own_lower {w : World} {base base' : Nat} {e : TypeId} {s n : Nat} {v : Value} {xs : List Value} (h : w.ownsRow base' e s v n xs) (hb : base ≤ base') : w.ownsRow base e s v n xs := by
  refine ⟨h.1, ?_⟩
  rcases h.2 with h | ⟨g, cap, cur, e, hg, r⟩
  · exact .inl h
  · exact .inr ⟨g, cap, cur, e, by omega, r⟩
/-- what is left is made anew -/
theorem AR.leftNew (h : AR base w0 W sv lv tv sc L T) {L' : List Nat} {B : Nat} (hB : B = W.heap.size) (hk : Keep (fun _ => False) W w5) (ho : w5.ownsRow B 3 1 v' L'.length (vals .i64 (nats L'))) : AR base w0 w5 sv v' tv sc L' T := by
  subst hB
  have h' := h.keep hk
  refine ⟨h'.scr, own_lower ho h.size, h'.took, fun g e1 e2 => ?_, h'.below, h'.size⟩
  have h1 := (own_block_ge ho g e1).1
  have h2 := (own_block_ge h.took g e2).2
  omega
end
theorem cells_three {W : World} {B : Nat} {x y z : Value} (h0 : W.cell? ⟨B, 0, none⟩ = some x) (h1 : W.cell? ⟨B, 1, none⟩ = some y) (h2 : W.cell? ⟨B, 2, none⟩ = some z) : ∀ (j : Nat) u, [x, y, z][j]? = some u → W.cell? ((⟨B, 0, none⟩ : Addr).add j) = some u := by
  intro j u hu
  match j, hu with
  | 0, hu => simp at hu; subst hu; simpa [Addr.add] using h0
  | 1, hu => simp at hu; subst hu; simpa [Addr.add] using h1
  | 2, hu => simp at hu; subst hu; simpa [Addr.add] using h2
/-- numbers that came in -/
def Nums (kd : IntKind) (w : World) (B : Nat) (A : Option Addr) (n : Nat) (l : List Int) : Prop :=
  l.length = n ∧ (0 < n → ∃ b off, A = some ⟨b, off, none⟩ ∧ b < B ∧ ∀ (j : Nat) (x : Int), l[j]? = some x → w.cell? ⟨b, off + j, none⟩ = some (.int kd x))
theorem Nums.at_ {kd : IntKind} {w w' : World} {B : Nat} {A : Option Addr} {n : Nat} {l : List Int} (h : Nums kd w B A n l) (hb : Below B w w') {j : Nat} (hj : j < n) : ∃ b off, A = some ⟨b, off, none⟩ ∧ b < B ∧ w'.cell? ⟨b, off + j, none⟩ = some (.int kd (l.getD j 0)) := by
  obtain ⟨b, off, e, hlt, hc⟩ := h.2 (by omega)
  have hl := h.1
  refine ⟨b, off, e, hlt, (hb.cell (p := ⟨b, _, none⟩) hlt).trans (hc j _ ?_)⟩
  rw [List.getD_eq_getElem?_getD, List.getElem?_eq_getElem (by omega)]; rfl
/-- the length of a slice -/
def lenV : Value → Nat
  | .slice _ n _ => n
  | _ => 0
theorem Try.infoPost : (Try.prog.info? 29).map (fun i => (i.zero, i.size, i.bytes)) = some (some (.agg #[.int .i64 0, .int .i64 0, .int .i64 0]), 3, 24) := by kernel_rfl
/-- a slice of a slice of the call's own reads as its part -/
theorem reads_part {w w' : World} {base n c : Nat} {g : Nat} {l : List Int} (h : w.ownsRow base 3 1 (.slice (some ⟨g, 0, none⟩) n c) n (vals .i64 l)) (hk : Keep (fun _ => False) w w') (a b : Nat) (hab : a ≤ b) (hb : b ≤ n) :
    Reads w' w.heap.size (some ⟨g, a, none⟩) (b - a) (vals .i64 ((l.take b).drop a)) := by
  have hl : l.length = n := by have := h.1; simpa using this
  refine ⟨by simp [vals]; omega, fun _ => ⟨_, rfl, (own_block_ge h g rfl).2, fun j u hu => ?_⟩⟩
  have hj : j < b - a := by have := (List.getElem?_eq_some_iff.1 hu).1; simp [vals] at this; omega
  have h1 := h.cellAt (a + j) (by omega)
  have hadd : (⟨g, a, none⟩ : Addr).add j = ⟨g, a + j, none⟩ := by unfold Addr.add; split <;> simp_all
  rw [hadd]
  rw [show (vals .i64 l)[a + j]? = some u by simpa [vals, List.getElem?_take, show a + j < b by omega] using hu] at h1
  exact hk.cellV h1 (fun h => h)
theorem own_cell {w : World} {base n c g : Nat} {l : List Int} (h : w.ownsRow base 3 1 (.slice (some ⟨g, 0, none⟩) n c) n (vals .i64 l)) {i : Nat} (hi : i < n) : w.cell? ⟨g, i, none⟩ = some (.int .i64 (l.getD i 0)) := by
  have hl : l.length = n := by have := h.1; simpa using this
  rw [h.cellAt i (by omega)]
  simp [vals, hl, hi]
theorem own_some {w : World} {base n c : Nat} {e : TypeId} {s : Nat} {A : Option Addr} {xs : List Value} (h : w.ownsRow base e s (.slice A n c) n xs) (hn : 0 < n) : ∃ g, A = some ⟨g, 0, none⟩ ∧ g < w.heap.size ∧ n ≤ c ∧ c ≤ maxLen := by
  rcases h.2 with ⟨e, h0⟩ | ⟨g, cap, cur, e, h1, h2, h3, h4, _⟩
  · omega
  · injection e with e1 e2 e3
    subst e1 e3
    exact ⟨g, rfl, (own_block_ge h g rfl).2, h3, h4⟩
theorem nats_getD {L : List Nat} {a : Nat} (ha : a < L.length) : (nats L).getD a 0 = ((L[a] : Nat) : Int) := by
  simp [nats, ha]
/-- a slice that was made empty -/
theorem own_zero (w : World) (e : TypeId) (s : Nat) : (w.alloc (.cells #[] e)).ownsRow w.heap.size e s (.slice (some ⟨w.heap.size, 0, none⟩) 0 0) 0 [] :=
  ⟨by simp, .inr ⟨w.heap.size, 0, #[], rfl, Nat.le_refl _, heap_alloc_new w _, Nat.le_refl _, Nat.zero_le _, by simp, by simp⟩⟩
theorem Keep.of_fresh {w w1 w2 : World} {row : Option Nat} (h1 : Keep (fun _ => False) w w1) (h2 : w1.grownBy w2 row) (hr : ∀ k, row = some k → w.heap.size ≤ k) : Keep (fun _ => False) w w2 := by
  have h3 : Keep (fun g => row = some g) w1 w2 := Keep.of_grown h2 (fun _ h => h)
  exact ⟨h3.os.trans h1.os, h3.tape.trans h1.tape, h3.output.trans h1.output, Nat.le_trans h1.size h3.size, fun k hk _ => (h3.block k (Nat.lt_of_lt_of_le hk h1.size) (fun e => by have := hr k e; omega)).trans (h1.block k hk (fun h => h))⟩
theorem reads_tail {w w' : World} {base n c : Nat} {g : Nat} {l : List Int} (h : w.ownsRow base 3 1 (.slice (some ⟨g, 0, none⟩) n c) n (vals .i64 l)) (hk : Keep (fun _ => False) w w') (a : Nat) (ha : a ≤ n) (hc : n ≤ c) :
    Reads w' w.heap.size (if c = a then some ⟨g, 0, none⟩ else some ⟨g, a, none⟩) (n - a) (vals .i64 (l.drop a)) := by
  have hl : l.length = n := by have := h.1; simpa using this
  have h1 := reads_part h hk a n ha (Nat.le_refl _)
  rw [← hl, List.take_length, hl] at h1
  split
  · have : n - a = 0 := by omega
    refine ⟨h1.1, fun h => by omega⟩
  · exact h1
theorem picked_own {w : World} {B : Nat} {v : Value} {L : List Nat} {a : Nat} (ha : a < L.length) (h : w.ownsRow B 3 1 v (0 + a + (L.length - (a + 1))) ([] ++ vals .i64 (((nats L).take a).drop 0) ++ vals .i64 ((nats L).drop (a + 1)))) :
    w.ownsRow B 3 1 v (L.take a ++ L.drop (a + 1)).length (vals .i64 (nats (L.take a ++ L.drop (a + 1)))) := by
  have e1 : (L.take a ++ L.drop (a + 1)).length = 0 + a + (L.length - (a + 1)) := by simp; omega
  have e2 : vals .i64 (nats (L.take a ++ L.drop (a + 1))) = [] ++ vals .i64 (((nats L).take a).drop 0) ++ vals .i64 ((nats L).drop (a + 1)) := by
    simp [vals, nats, List.map_take, List.map_drop]
  rw [e1, e2]
  exact h
end Go.Proofs.Ytifegnpdclcolaa
