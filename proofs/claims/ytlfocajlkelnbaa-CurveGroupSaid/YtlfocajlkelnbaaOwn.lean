/-
  Slices of the call's own: one more element by append, what keeps them, what reads them. Plain words over the laws of append, for any program.
-/
import Derived.Test.YtlfocajlkelnbaaBytes
import Derived.Test.YtlfocajlkelnbaaGrid
import Derived.LoopTactic
namespace Go.Proofs.Ytlfocajlkelnbaa
open Go.RowKit
section
variable {P : Program}
/-- what the later step turned is new since the first -/
theorem Keep.then_ {S : Nat → Prop} {w w1 w2 : World} (h : Keep (fun _ => False) w w1) (k : Keep S w1 w2) (hs : ∀ b, S b → w.heap.size ≤ b) : Keep (fun _ => False) w w2 :=
  ⟨k.os.trans h.os, k.tape.trans h.tape, k.output.trans h.output, Nat.le_trans h.size k.size, fun i hi hn => (k.block i (Nat.lt_of_lt_of_le hi h.size) (fun hS => by have := hs i hS; omega)).trans (h.block i hi hn)⟩
theorem Keep.drewN {S : Nat → Prop} {w w' : World} (h : Keep S w w') (n : Nat) : Keep S w (w'.drewN n) := ⟨h.os, h.tape, h.output, h.size, h.block⟩
theorem Keep.toBelow {w w' : World} (h : Keep (fun _ => False) w w') : Below w.heap.size w w' := h.below (Nat.le_refl _) fun _ h => h.elim
theorem Keep.ofBelow {w w' : World} (h : Below w.heap.size w w') : Keep (fun _ => False) w w' := Keep.of_below h
theorem addr_add (b off k : Nat) : (⟨b, off, none⟩ : Addr).add k = ⟨b, off + k, none⟩ := by unfold Addr.add; split <;> simp_all
/-- append(s, x): one more element of any number of cells, behind the block that holds it -/
theorem wpList_app {w0 : World} {ops : Array Oper} {rest : List Oper} {o : Oper} {a : Act} {Q : Exit → Act → World → Prop} (hgd : o.guard = none) (s x : Operand) (t : TypeId)
    (ho : o.op = .call { callee := .builtin .append, args := #[s, x], argTypes := #[t, t] })
    (base : Nat) (e : TypeId) (z : Value) (size bytes : Nat) (ht : P.underlying t = some (.slice e)) (hE : (P.info? e).map (fun i => (i.zero, i.size, i.bytes)) = some (some z, size, bytes)) (hzs : z.cells.size = size) (hsz : 0 < size)
    (v : Value) (n : Nat) (xs : List Value) (hs : a.eval s = v) (hown : w0.ownsRow base e size v n xs)
    (c : Nat) (news : List Value) (hx : a.eval x = .slice (some ⟨w0.heap.size, 0, none⟩) 1 c) (hl : news.length = size) (h1 : ∀ u ∈ news, u.oneCell' = true)
    (h63 : n + 1 ≤ maxLen) (hbytes : (n + 1) * bytes ≤ 140737488355328) (hbase : base ≤ w0.heap.size)
    (h : ∀ v' w', w'.ownsRow base e size v' (n + 1) (xs ++ news) → Keep (fun k => v.ownBlock = some k) w0 w' → (v'.ownBlock = v.ownBlock ∨ ∃ k, v'.ownBlock = some k ∧ w0.heap.size ≤ k) → wpList P ops Q rest (a.put o.dst v') w') :
    wpList P ops Q (o :: rest) a (w0.alloc (.cells news.toArray e)) := by
  obtain ⟨i, hi, hz, hsize, hby⟩ := info_parts hE
  have hnew : ∀ j u, news[j]? = some u → (w0.alloc (.cells news.toArray e)).cell? ((⟨w0.heap.size, 0, none⟩ : Addr).add j) = some u := by
    intro j u hj
    have hb := heap_alloc_new w0 (.cells news.toArray e)
    rw [addr_add]
    rw [cell_of_row _ _ _ _ _ _ hb]
    simpa using hj
  refine wpList_append_own_at _ hgd s x t ho base e i z size bytes ht hi hz hsize hby hzs hsz v n xs hs (hown.alloc _) _ 1 c news hx (by rw [hl]; simp) hnew h1 h63 hbytes (by simp; omega) fun v' w' h2 h3 _ h5 => h v' w' h2 ?_ ?_
  · exact ((Keep.refl _ w0).alloc _).trans (Keep.of_grown h3 (fun k hk => hk))
  · rcases h5 with h5 | h5
    · exact .inl h5
    · exact .inr ⟨_, h5, by simp⟩
end
/-- numbers in a row of the call's own -/
theorem Nums.of_own {kd : IntKind} {w : World} {base : Nat} {e : TypeId} {A : Option Addr} {c n : Nat} {l : List Int} (h : w.ownsRow base e 1 (.slice A n c) n (vals kd l)) : Nums kd w w.heap.size A n l := by
  refine ⟨by simpa using h.1, fun hn => ?_⟩
  obtain ⟨g, cap, hv, _, hlt⟩ := h.form hn
  have hA : A = some ⟨g, 0, none⟩ := by injection hv
  subst hA
  refine ⟨g, 0, rfl, hlt, fun j x hj => ?_⟩
  have := h.cells (g := g) rfl j (.int kd x) (by simp [vals, hj])
  rwa [addr_add] at this
theorem own_below {w w' : World} {base : Nat} {e : TypeId} {size n : Nat} {v : Value} {xs : List Value} (h : w.ownsRow base e size v n xs) (hb : Keep (fun _ => False) w w') : w'.ownsRow base e size v n xs := hb.own h fun _ _ h => h
end Go.Proofs.Ytlfocajlkelnbaa
