/-
  The walk of Play.
-/
import Derived.Test.YtifegnpdclcolaaRatchetM
namespace Go.Proofs.Ytifegnpdclcolaa
open Go.RowKit
/-- a script that came in -/
def Posts (w : World) (B : Nat) (A : Option Addr) (n : Nat) (sc : List Post) : Prop :=
  sc.length = n ∧ (0 < n → ∃ b off, A = some ⟨b, off, none⟩ ∧ b < B ∧ ∀ (j : Nat) (p : Post), sc[j]? = some p →
    w.cell? ⟨b, off + j * 3, none⟩ = some (.int .i64 p.1) ∧ w.cell? ⟨b, off + j * 3 + 1, none⟩ = some (.int .i64 p.2.1) ∧ w.cell? ⟨b, off + j * 3 + 2, none⟩ = some (.int .i64 p.2.2))
theorem Posts.below {w w' : World} {B n : Nat} {A : Option Addr} {sc : List Post} (h : Posts w B A n sc) (hb : Below B w w') : Posts w' B A n sc := by
  refine ⟨h.1, fun hn => ?_⟩
  obtain ⟨b, off, e, hlt, hc⟩ := h.2 hn
  refine ⟨b, off, e, hlt, fun j p hj => ?_⟩
  obtain ⟨h0, h1, h2⟩ := hc j p hj
  exact ⟨(hb.cell (p := ⟨b, _, none⟩) hlt).trans h0, (hb.cell (p := ⟨b, _, none⟩) hlt).trans h1, (hb.cell (p := ⟨b, _, none⟩) hlt).trans h2⟩
set_option maxHeartbeats 1000000 in
theorem play_bad (k most : Int) (A : Option Addr) (n c : Nat) (w : World) (h : ¬ (0 ≤ k ∧ k < 65536) ∨ most < 0 ∨ 100 < most) :
    Calls Try.prog 5 #[.int .i64 k, .int .i64 most, .slice A n c] w fun e w' => e = .returned (.tuple #[.slice none 0 0, .int .i64 2]) ∧ w = w' := by
  by_cases hk : 0 ≤ k ∧ k < 65536
  · have e1 : (!decide (0 ≤ k ∧ k < 65536)) = false := by simp; omega
    have h : most < 0 ∨ 100 < most := h.resolve_left (fun h => h hk)
    by_cases hm : most < 0
    · have e2 : decide (most < 0) = true := by simpa using hm
      have E := Lib.hid e1; clear hk h hm e1
      go_enter Try.func5, Try.ntmps5
      go_wp2_with (go_at_call 6; refine (out_any _ _).mono ?_; rintro e w' ⟨rfl, rfl⟩; rw [E.out])
      go_ret2
      exact ⟨rfl, rfl⟩
    · have e2 : decide (most < 0) = false := by simpa using hm
      have e3 : decide (100 < most) = true := by simp; omega
      have E := Lib.hid e1; clear hk h hm e1
      go_enter Try.func5, Try.ntmps5
      go_wp2_with (go_at_call 6; refine (out_any _ _).mono ?_; rintro e w' ⟨rfl, rfl⟩; rw [E.out])
      go_ret2
      exact ⟨rfl, rfl⟩
  · have e1 : (!decide (0 ≤ k ∧ k < 65536)) = true := by simp; omega
    have E := Lib.hid e1; clear hk h e1
    go_enter Try.func5, Try.ntmps5
    go_wp2_with (go_at_call 6; refine (out_any _ _).mono ?_; rintro e w' ⟨rfl, rfl⟩; rw [E.out])
    go_ret2
    exact ⟨rfl, rfl⟩
set_option maxHeartbeats 1000000 in
theorem play_long (k most : Int) (A : Option Addr) (n c : Nat) (w : World) (hk : 0 ≤ k ∧ k < 65536) (hm : 0 ≤ most ∧ most ≤ 100) (hn : 100 < n) :
    Calls Try.prog 5 #[.int .i64 k, .int .i64 most, .slice A n c] w fun e w' => e = .returned (.tuple #[.slice none 0 0, .int .i64 1]) ∧ w = w' := by
  have e1 : (!decide (0 ≤ k ∧ k < 65536)) = false := by simp; omega
  have e2 : decide (most < 0) = false := by simp; omega
  have e3 : decide (100 < most) = false := by simp; omega
  have e4 : decide ((100 : Int) < (n : Int)) = true := by simp; omega
  have E := Lib.hid e1; clear hk hm e1
  go_enter Try.func5, Try.ntmps5
  go_wp2_with (go_at_call 6; refine (out_any _ _).mono ?_; rintro e w' ⟨rfl, rfl⟩; rw [E.out])
  go_ret2
  exact ⟨rfl, rfl⟩
theorem Try.infoI : (Try.prog.info? 3).map (fun i => (i.zero, i.size, i.bytes)) = some (some (.int .i64 0), 1, 8) := by kernel_rfl
theorem Try.infoP : (Try.prog.info? 31).map (fun i => (i.zero, i.size, i.bytes)) = some (some (.agg #[.int .i64 0, .int .i64 0]), 2, 16) := by kernel_rfl
/-- what has been sealed -/
def sealL (k : Int) (sent : List Int) : List Int := sent.mapIdx fun i x => xorI x (mkey k i)
theorem sealL_length (k : Int) (sent : List Int) : (sealL k sent).length = sent.length := by simp [sealL]
theorem sealL_snoc (k : Int) (sent : List Int) (x : Int) : sealL k (sent ++ [x]) = sealL k sent ++ [xorI x (mkey k sent.length)] := by simp [sealL, List.mapIdx_append]
/-- a list of answers, as cells -/
def outV (l : List (Int × Int)) : List Value := l.flatMap fun p => [.int .i64 p.1, .int .i64 p.2]
theorem outV_length (l : List (Int × Int)) : (outV l).length = l.length * 2 := by
  induction l with
  | nil => rfl
  | cons p l ih => simp [outV] at *; omega
theorem outV_snoc (l : List (Int × Int)) (p : Int × Int) : outV (l ++ [p]) = outV l ++ [.int .i64 p.1, .int .i64 p.2] := by simp [outV]
/-- all that Play has made but for its answers -/
structure PC (base kb tb mb : Nat) (k most : Int) (w wr : World) (sent : List Int) (at_ : Nat) (kept : List Nat) (sv : Value) : Prop where
  key : wr.heap[kb]? = some (.cells #[.int .i64 (kseq k sent.length)] 36 (0, 0))
  tk : TK wr tb mb (kseq k at_) at_ most (MOf k kept) kept.length
  seal_ : wr.ownsRow base 3 1 sv sent.length (vals .i64 (sealL k sent))
  below : Below base w wr
  b1 : base ≤ kb ∧ base ≤ tb ∧ base ≤ mb ∧ base ≤ wr.heap.size
section
variable {base kb tb mb : Nat} {k most : Int} {w wr wr' : World} {sent : List Int} {at_ : Nat} {kept : List Nat} {sv : Value}
theorem lt_of_heap {w : World} {b : Nat} {o : Obj} (h : w.heap[b]? = some o) : b < w.heap.size := by
  rcases Nat.lt_or_ge b w.heap.size with h' | h'
  · exact h'
  · rw [Array.getElem?_eq_none h'] at h; cases h
theorem PC.keep {S : Nat → Prop} (h : PC base kb tb mb k most w wr sent at_ kept sv) (hk : Keep S wr wr') (h1 : ¬ S kb) (h2 : ¬ S tb) (h3 : ¬ S mb) (h4 : ∀ g, sv.ownBlock = some g → ¬ S g) (h5 : ∀ g, S g → base ≤ g) : PC base kb tb mb k most w wr' sent at_ kept sv :=
  ⟨(hk.block kb (lt_of_heap h.key) h1).trans h.key, h.tk.keep hk h2 h3, hk.own h.seal_ h4, h.below.trans (hk.below h.b1.2.2.2 h5), h.b1.1, h.b1.2.1, h.b1.2.2.1, Nat.le_trans h.b1.2.2.2 hk.size⟩
theorem own_heap {w : World} {base : Nat} {e : TypeId} {size n : Nat} {v : Value} {xs : List Value} (h : w.ownsRow base e size v n xs) {g : Nat} (hg : v.ownBlock = some g) : ∃ cur, w.heap[g]? = some (.cells cur e (0, 0)) := by
  rcases h.2 with ⟨rfl, _⟩ | ⟨g', cap, cur, rfl, _, hh, _⟩
  · simp [Value.ownBlock] at hg
  · simp [Value.ownBlock] at hg
    subst hg
    exact ⟨cur, hh⟩
theorem own_ne {w : World} {base : Nat} {e : TypeId} {size n : Nat} {v : Value} {xs : List Value} (h : w.ownsRow base e size v n xs) {b : Nat} {o : Obj} (hb : w.heap[b]? = some o) (ho : ∀ cur, o ≠ .cells cur e (0, 0)) : ∀ g, v.ownBlock = some g → g ≠ b := by
  rintro g hg rfl
  obtain ⟨cur, hh⟩ := own_heap h hg
  rw [hb] at hh
  exact ho cur (Option.some.inj hh)
theorem cells_ne {c c' : Array Value} {t t' : TypeId} (h : t ≠ t') : Obj.cells c t (0, 0) ≠ .cells c' t' (0, 0) := by intro e; injection e with _ e; exact h e
/-- an append to the answers turns none of it -/
theorem PC.said (h : PC base kb tb mb k most w wr sent at_ kept sv) {lv : Value} {n : Nat} {xs : List Value} (ho : wr.ownsRow base 31 2 lv n xs) (hg : wr.grownBy wr' lv.ownBlock) : PC base kb tb mb k most w wr' sent at_ kept sv := by
  have hm : ∃ es clock, wr.heap[mb]? = some (.map es clock) := by
    obtain ⟨D, ⟨es, clock, hb, _⟩, _⟩ := h.tk.2
    exact ⟨es, clock, hb⟩
  obtain ⟨es, clock, hm⟩ := hm
  refine h.keep (S := fun g => lv.ownBlock = some g) (Keep.of_grown hg fun _ h => h) ?_ ?_ ?_ ?_ ?_
  · exact fun e => own_ne ho h.key (fun _ => cells_ne (by decide)) _ e rfl
  · exact fun e => own_ne ho h.tk.1 (fun _ => cells_ne (by decide)) _ e rfl
  · exact fun e => own_ne ho hm (fun _ e => by cases e) _ e rfl
  · intro g hg' e
    obtain ⟨cur, hh⟩ := own_heap h.seal_ hg'
    exact own_ne ho hh (fun _ => cells_ne (by decide)) _ e rfl
  · exact fun g e => (own_block_ge ho g e).1
end
theorem cells_two {W : World} {B : Nat} {x y : Value} (h0 : W.cell? ⟨B, 0, none⟩ = some x) (h1 : W.cell? ⟨B, 1, none⟩ = some y) : ∀ (j : Nat) u, [x, y][j]? = some u → W.cell? ((⟨B, 0, none⟩ : Addr).add j) = some u := by
  intro j u hu
  match j, hu with
  | 0, hu => simp at hu; subst hu; simpa [Addr.add] using h0
  | 1, hu => simp at hu; subst hu; simpa [Addr.add] using h1
theorem start_world (w : World) (k most : Int) : PC w.heap.size (w.heap.size + 2) (w.heap.size + 1) w.heap.size k most w (((w.alloc (.map #[] 0)).alloc (.cells #[.int .i64 k, .int .i64 0, .int .i64 most, .map (some w.heap.size)] 40)).alloc (.cells #[.int .i64 k] 36)) [] 0 [] (.slice none 0 0) := by
  have s1 : (w.alloc (.map #[] 0)).heap.size = w.heap.size + 1 := by simp
  have s2 : ((w.alloc (.map #[] 0)).alloc (.cells #[.int .i64 k, .int .i64 0, .int .i64 most, .map (some w.heap.size)] 40)).heap.size = w.heap.size + 2 := by simp
  have h1 := heap_alloc_new (w.alloc (.map #[] 0)) (.cells #[.int .i64 k, .int .i64 0, .int .i64 most, .map (some w.heap.size)] 40)
  have h2 := heap_alloc_new ((w.alloc (.map #[] 0)).alloc (.cells #[.int .i64 k, .int .i64 0, .int .i64 most, .map (some w.heap.size)] 40)) (.cells #[.int .i64 k] 36)
  rw [s1] at h1
  rw [s2] at h2
  refine ⟨h2, ⟨(Below.heap_alloc _ _ _ (by rw [s2]; omega)).trans h1, ?_⟩, World.ownsRow_nil _ _ _ _, (((Below.refl _ w).alloc (Nat.le_refl _) _).alloc (by rw [s1]; omega) _).alloc (by rw [s2]; omega) _, by omega, by omega, by omega, by simp; omega⟩
  rw [MOf_nil]
  exact ((IMap.made w).keep (S := fun _ => False) ((Keep.refl _ _).alloc _) (fun h => h)).keep (S := fun _ => False) ((Keep.refl _ _).alloc _) (fun h => h)
section
variable {base kb tb mb : Nat} {k most : Int} {w wr wr' : World} {sent : List Int} {at_ : Nat} {kept : List Nat} {sv : Value}
theorem PC.mapAt (h : PC base kb tb mb k most w wr sent at_ kept sv) : ∃ es clock, wr.heap[mb]? = some (.map es clock) := by
  obtain ⟨D, ⟨es, clock, hb, _⟩, _⟩ := h.tk.2
  exact ⟨es, clock, hb⟩
theorem PC.apartS (h : PC base kb tb mb k most w wr sent at_ kept sv) : ∀ g, sv.ownBlock = some g → ¬ Two tb mb g ∧ g ≠ kb := by
  obtain ⟨es, clock, hm⟩ := h.mapAt
  intro g hg
  refine ⟨?_, own_ne h.seal_ h.key (fun _ => cells_ne (by decide)) g hg⟩
  rintro (e | e)
  · exact own_ne h.seal_ h.tk.1 (fun _ => cells_ne (by decide)) g hg e
  · exact own_ne h.seal_ hm (fun _ e => by cases e) g hg e
theorem PC.apart (h : PC base kb tb mb k most w wr sent at_ kept sv) {lv : Value} {n : Nat} {xs : List Value} (ho : wr.ownsRow base 31 2 lv n xs) : ∀ g, lv.ownBlock = some g → ¬ Two tb mb g ∧ g ≠ kb ∧ sv.ownBlock ≠ some g := by
  obtain ⟨es, clock, hm⟩ := h.mapAt
  intro g hg
  refine ⟨?_, own_ne ho h.key (fun _ => cells_ne (by decide)) g hg, ?_⟩
  · rintro (e | e)
    · exact own_ne ho h.tk.1 (fun _ => cells_ne (by decide)) g hg e
    · exact own_ne ho hm (fun _ e => by cases e) g hg e
  · intro e
    obtain ⟨cur, hh⟩ := own_heap h.seal_ e
    exact own_ne ho hh (fun _ => cells_ne (by decide)) g hg rfl
theorem PC.took (h : PC base kb tb mb k most w wr sent at_ kept sv) {at2 : Nat} {kept2 : List Nat} (hk : Keep (Two tb mb) wr wr') (ht : TK wr' tb mb (kseq k at2) at2 most (MOf k kept2) kept2.length) : PC base kb tb mb k most w wr' sent at2 kept2 sv := by
  obtain ⟨es, clock, hm⟩ := h.mapAt
  refine ⟨(hk.block kb (lt_of_heap h.key) ?_).trans h.key, ht, hk.own h.seal_ (fun g hg => (h.apartS g hg).1), h.below.trans (hk.below h.b1.2.2.2 ?_), h.b1.1, h.b1.2.1, h.b1.2.2.1, Nat.le_trans h.b1.2.2.2 hk.size⟩
  · rintro (e | e)
    · have h1 := h.key; rw [e, h.tk.1] at h1; exact cells_ne (by decide) (Option.some.inj h1)
    · have h1 := h.key; rw [e, hm] at h1; cases h1
  · rintro g (e | e) <;> rw [e]
    · exact h.b1.2.1
    · exact h.b1.2.2.1
theorem PC.sealAt {sA : Option Addr} {c m : Nat} (h : PC base kb tb mb k most w wr sent at_ kept (.slice sA sent.length c)) (hm : m < sent.length) :
    ∃ g, sA = some ⟨g, 0, none⟩ ∧ ¬ Two tb mb g ∧ g < wr.heap.size ∧ wr.cell? ⟨g, m, none⟩ = some (.int .i64 (xorI (sent.getD m 0) (mkey k m))) := by
  have hA := h.apartS
  have hge := own_block_ge h.seal_
  have hf := h.seal_
  rcases hf.2 with ⟨e, h0⟩ | ⟨g, cap, cur, e, _⟩
  · omega
  · injection e with e1 e2 e3
    subst e1
    refine ⟨g, rfl, (hA g rfl).1, (hge g rfl).2, ?_⟩
    rw [hf.cellAt m (by omega)]
    simp [sealL, vals, hm]
end
theorem PS.Fine.back {st : PS} (h : st.Fine) {m : Nat} (k : Int) (hm : m < st.sent.length) : bits .xor .i64 (xorI (st.sent.getD m 0) (mkey k m)) (mkey k m) = st.sent.getD m 0 := by
  have hx : 0 ≤ st.sent.getD m 0 ∧ st.sent.getD m 0 < 65536 := by
    rw [List.getD_eq_getElem?_getD, List.getElem?_eq_getElem hm]
    exact h.small _ (List.getElem_mem hm)
  exact (xorI_back hx (mkey_bd k m)).1
theorem filter_len {l : List Nat} (hn : l.Nodup) {m : Nat} (hm : m ∈ l) : (l.filter (· ≠ m)).length = l.length - 1 := by
  induction l with
  | nil => cases hm
  | cons x l ih =>
    rw [List.nodup_cons] at hn
    by_cases hx : x = m
    · subst hx
      have : l.filter (· ≠ x) = l := List.filter_eq_self.2 fun y hy => by simp; rintro rfl; exact hn.1 hy
      simp only [List.filter_cons, ne_eq, not_true_eq_false, decide_false, Bool.false_eq_true, if_false, List.length_cons]
      simp only [ne_eq] at this
      rw [this]; omega
    · have hm' : m ∈ l := by
        rcases List.mem_cons.1 hm with h | h
        · exact absurd h.symm hx
        · exact h
      have := ih hn.2 hm'
      have hl : 0 < l.length := List.length_pos_of_mem hm'
      simp only [List.filter_cons, ne_eq, hx, not_false_eq_true, decide_true, if_true, List.length_cons] at *
      omega
/-- the box of a post stands while others run -/
theorem post_kept {S : Nat → Prop} {w W' : World} {o : Obj} {x y z : Value} {t : TypeId} (hk : Keep S ((w.alloc (.cells #[x, y, z] t)).alloc o) W') (hS : ¬ S w.heap.size) : W'.cell? ⟨w.heap.size, 1, none⟩ = some y := by
  have h := heap_alloc_new w (.cells #[x, y, z] t)
  have h1 := (Below.heap_alloc (w.alloc (.cells #[x, y, z] t)) o w.heap.size (by simp)).trans h
  have h' := (hk.block _ (lt_of_heap h1) hS).trans h1
  simp [World.cell?, h']
theorem seal_kept {S : Nat → Prop} {w W' : World} {o o' : Obj} {g m : Nat} {v : Value} (hk : Keep S ((w.alloc o).alloc o') W') (hg : g < w.heap.size) (hS : ¬ S g) (h : w.cell? ⟨g, m, none⟩ = some v) : W'.cell? ⟨g, m, none⟩ = some v := by
  have k2 : Keep (fun _ => False) w ((w.alloc o).alloc o') := ((Keep.refl _ w).alloc _).alloc _
  exact ((hk.cell (p := ⟨g, m, none⟩) (by simp; omega) hS).trans (k2.cell (p := ⟨g, m, none⟩) hg (fun h => h))).trans h
/-- the box of an answer stands while others run -/
theorem box_kept {S : Nat → Prop} {w W' : World} {o : Obj} {x y : Value} {t : TypeId} (hk : Keep S ((w.alloc o).alloc (.cells #[x, y] t)) W') (hS : ¬ S (w.heap.size + 1)) :
    W'.cell? ⟨w.heap.size + 1, 0, none⟩ = some x ∧ W'.cell? ⟨w.heap.size + 1, 1, none⟩ = some y ∧ W'.frozen? ⟨w.heap.size + 1, 0, none⟩ = false ∧ W'.frozen? ⟨w.heap.size + 1, 1, none⟩ = false := by
  have s1 : (w.alloc o).heap.size = w.heap.size + 1 := by simp
  have h := heap_alloc_new (w.alloc o) (.cells #[x, y] t)
  rw [s1] at h
  have h' := (hk.block _ (lt_of_heap h) hS).trans h
  refine ⟨?_, ?_, ?_, ?_⟩ <;> simp [World.cell?, World.frozen?, h']
/-- one more has been sealed -/
theorem PC.sent {base kb tb mb : Nat} {k most : Int} {w wr w4 : World} {sent : List Int} {at_ : Nat} {kept : List Nat} {sv sv' : Value} {nn : Int} (h : PC base kb tb mb k most w wr sent at_ kept sv)
    (hk : Keep (fun g => g = kb ∨ sv.ownBlock = some g) wr w4) (hkey : w4.heap[kb]? = some (.cells #[.int .i64 (kseq k (sent.length + 1))] 36 (0, 0)))
    (hs : w4.ownsRow base 3 1 sv' (sent.length + 1) (vals .i64 (sealL k sent) ++ [.int .i64 (xorI nn (mkey k sent.length))])) : PC base kb tb mb k most w w4 (sent ++ [nn]) at_ kept sv' := by
  have hA := h.apartS
  have hg := own_block_ge h.seal_
  obtain ⟨es, clock, hm⟩ := h.mapAt
  refine ⟨by simpa using hkey, h.tk.keep hk ?_ ?_, ?_, h.below.trans (hk.below h.b1.2.2.2 ?_), h.b1.1, h.b1.2.1, h.b1.2.2.1, Nat.le_trans h.b1.2.2.2 hk.size⟩
  · rintro (e | e)
    · have h1 := h.key; rw [← e, h.tk.1] at h1; exact cells_ne (by decide) (Option.some.inj h1)
    · exact (hA _ e).1 (.inl rfl)
  · rintro (e | e)
    · have h1 := h.key; rw [← e, hm] at h1; cases h1
    · exact (hA _ e).1 (.inr rfl)
  · rw [sealL_snoc, List.length_append]
    simpa [vals] using hs
  · rintro g (e | e)
    · rw [e]; exact h.b1.1
    · exact (hg g e).1
theorem post_kept2 {S : Nat → Prop} {w W' : World} {o : Obj} {x y z : Value} {t : TypeId} (hk : Keep S ((w.alloc (.cells #[x, y, z] t)).alloc o) W') (hS : ¬ S w.heap.size) : W'.cell? ⟨w.heap.size, 2, none⟩ = some z := by
  have h := heap_alloc_new w (.cells #[x, y, z] t)
  have h1 := (Below.heap_alloc (w.alloc (.cells #[x, y, z] t)) o w.heap.size (by simp)).trans h
  have h' := (hk.block _ (lt_of_heap h1) hS).trans h1
  simp [World.cell?, h']
theorem Keep.cellV {S : Nat → Prop} {w w' : World} {p : Addr} {v : Value} (hk : Keep S w w') (h : w.cell? p = some v) (hS : ¬ S p.block) : w'.cell? p = some v :=
  (hk.cell (World.block_lt_of_cell? w _ h) hS).trans h
theorem Keep.turned {w w2 : World} {kb : Nat} (hb : Below w.heap.size w w2) (v : Value) : Keep (fun g => g = kb) w (w2.setCell ⟨kb, 0, none⟩ v) :=
  Keep.setCell (S := fun g => g = kb) (p := ⟨kb, 0, none⟩) (Keep.of_below hb) (.inr rfl) v
theorem key_set {w2 : World} {kb : Nat} {x y : Value} {t : TypeId} (h : w2.heap[kb]? = some (.cells #[x] t (0, 0))) : (w2.setCell ⟨kb, 0, none⟩ y).heap[kb]? = some (.cells #[y] t (0, 0)) := by
  simp [World.setCell, Array.getElem?_modify, h]
theorem cells_one {W : World} {B : Nat} {x : Value} (h0 : W.cell? ⟨B, 0, none⟩ = some x) : ∀ (j : Nat) u, [x][j]? = some u → W.cell? ((⟨B, 0, none⟩ : Addr).add j) = some u := by
  intro j u hu
  match j, hu with
  | 0, hu => simp at hu; subst hu; simpa [Addr.add] using h0
end Go.Proofs.Ytifegnpdclcolaa
