/-
  Pad: counted, column.
-/
import Derived.Test.YtfkdigopkdfcjaaPadA
import Derived.Test.YtfkdigopkdfcjaaPadMap
import Derived.Test.YtfkdigopkdfcjaaOwn
namespace Go.Proofs.Ytfkdigopkdfcjaa
open Go.RowKit
def CountsOf (l : List Int) (w : World) (e : Ending) (w' : World) : Prop := ∃ b, e = .returned (.map (some b)) ∧ Counts w' b l ∧ w.heap.size ≤ b ∧ Keep (fun _ => False) w w'
set_option maxHeartbeats 1000000 in
theorem counted_any (A : Option Addr) (n c : Nat) (l : List Int) (w : World) (h : Nums .i64 w w.heap.size A n l) (hn : n ≤ 16) (hwf : ∀ x ∈ l, (Lit.int .i64 x).wf = true) :
    Calls Try.prog 9 #[.slice A n c] w (CountsOf l w) := by
  have hl := h.1
  have H := Lib.hid h; have HL := Lib.hid hl; have HWF := Lib.hid hwf; clear h hl hwf
  have hmm := @run_makeMap Try.prog
  go_enter Try.func9, Try.ntmps9
  go_wp2
  clear hmm
  obtain ⟨g, hg⟩ : ∃ g, g = w.heap.size := ⟨_, rfl⟩
  rw [← hg]
  have HG := Lib.hid hg; clear hg
  go_loopw [9] (fun tv wr => ∃ i : Nat, i ≤ n ∧ tv = .int .i64 i ∧ Counts wr g (l.take i) ∧ Keep (fun _ => False) w wr) (fun tv _ => n - (intOf tv).toNat)
  case atStart => exact ⟨0, Nat.zero_le _, rfl, by rw [HG.out]; exact IMap.made w, (Keep.refl _ _).alloc _⟩
  case round =>
    obtain ⟨i, hi, rfl, hc, hk⟩ := hrel
    have HC := Lib.hid hc; have HK := Lib.hid hk; clear hc hk
    by_cases hlt : i < n
    · obtain ⟨b, off, rfl, hb, hcell⟩ := H.out.at_ HK.out.toBelow hlt
      have htk := List.take_succ_eq_append_getElem (l := l) (i := i) (by have := HL.out; omega)
      have hx : l.getD i 0 = l[i]'(by have := HL.out; omega) := by rw [List.getD_eq_getElem?_getD, List.getElem?_eq_getElem]; rfl
      rw [← hx] at htk
      have hwx : (Lit.int .i64 (l.getD i 0)).wf = true := by rw [hx]; exact HWF.out _ (List.getElem_mem _)
      clear hx
      generalize l.getD i 0 = x at *
      have hlook := HC.out.look1 Try.underlying30 Try.underlying3 Try.underlying3 (Try.zeroValue3 _) x hwx
      have hcb : 0 ≤ (cntM (l.take i) x).getD 0 ∧ (cntM (l.take i) x).getD 0 ≤ 16 := by
        unfold cntM
        split
        · have := List.count_le_length (l := l.take i) (a := x)
          simp at this ⊢; omega
        · simp
      have hsn := cntM_snoc (l.take i) x
      obtain ⟨v, hv⟩ : ∃ v, v = (cntM (l.take i) x).getD 0 := ⟨_, rfl⟩
      rw [← hv] at hlook hcb hsn
      have hwv : (Lit.int .i64 (v + 1)).wf = true := WalkArith.wf_i64 (by omega)
      obtain ⟨w2, hst, hm2, hk2⟩ := HC.out.store Try.underlying30 Try.underlying3 Try.underlying3 (Nat.lt_of_le_of_lt (nd_le _) (by simp [maxLen]; omega)) x (v + 1) hwx hwv
      have hnd : (if (cntM (l.take i) x).isSome = true then nd (l.take i).reverse else nd (l.take i).reverse + 1) = nd (l.take (i + 1)).reverse := by
        rw [htk, List.reverse_append]
        simp only [List.reverse_cons, List.reverse_nil, List.nil_append, List.cons_append, nd, List.mem_reverse]
        by_cases hm : x ∈ l.take i
        · simp [cntM, hm]
        · simp [cntM, hm]; omega
      rw [hnd, ← hsn, ← htk] at hm2
      have HLK := Lib.hid hlook; have HST := Lib.hid hst; have HM2 := Lib.hid hm2; have HK2 := Lib.hid hk2
      clear hlook hst hm2 hk2 htk hwx hsn hv hwv hnd
      go_wp2_with (first
        | (at_lookup; refine wpList_look_run _ rfl (.tmp 13) (.tmp 14) 30 false rfl _ _ _ rfl rfl HLK.out ?_)
        | (at_mapUpdate; refine wpList_store_run _ rfl (.tmp 13) (.tmp 14) (.tmp 16) 30 rfl _ _ _ rfl rfl rfl _ HST.out ?_))
      refine ⟨⟨i + 1, by omega, rfl, HM2.out, HK.out.then_ HK2.out (fun b hb => by rw [hb, HG.out]; exact Nat.le_refl _)⟩, by simp [intOf]; omega⟩
    · obtain rfl : i = n := by omega
      go_wp2_with fail
      go_ret
      refine ⟨g, rfl, ?_, by rw [HG.out]; exact Nat.le_refl _, HK.out⟩
      have := HC.out
      rwa [List.take_of_length_le (by have := HL.out; omega)] at this
/-- what a message becomes, by all keys -/
def col (rows : List (List Int)) (m : Nat) : List Int := rows.map (·.getD m 0)
def IntsOf (l : List Int) (w : World) (e : Ending) (w' : World) : Prop := ∃ A c, e = .returned (.slice A l.length c) ∧ Nums .i64 w' w'.heap.size A l.length l ∧ Keep (fun _ => False) w w'
theorem intE : (Try.prog.info? 3).map (fun i => (i.zero, i.size, i.bytes)) = some (some (.int .i64 0), 1, 8) := by kernel_rfl
set_option maxHeartbeats 1000000 in
theorem column_any (A : Option Addr) (n c m : Nat) (rows : List (List Int)) (w : World) (h : Grid w w.heap.size A n rows) (hn : n ≤ 16) (hm : ∀ r ∈ rows, m < r.length) (hm16 : m < 16) :
    Calls Try.prog 10 #[.slice A n c, .int .i64 m] w (IntsOf (col rows m) w) := by
  have hl := h.1
  have H := Lib.hid h; have HL := Lib.hid hl; have HM := Lib.hid hm; clear h hl hm
  go_enter Try.func10, Try.ntmps10
  go_wp2
  go_loopw [5, 10] (fun sv tv wr => ∃ i : Nat, i ≤ n ∧ tv = .int .i64 i ∧ wr.ownsRow w.heap.size 3 1 sv i (vals .i64 (col (rows.take i) m)) ∧ Keep (fun _ => False) w wr) (fun _ tv _ => n - (intOf tv).toNat)
  case atStart => exact ⟨0, Nat.zero_le _, rfl, World.ownsRow_nil _ _ _ _, Keep.refl _ _⟩
  case round =>
    obtain ⟨i, hi, rfl, ho, hk⟩ := hrel
    obtain ⟨Ao, co, rfl⟩ := own_form ho
    have HO := Lib.hid ho; have HK := Lib.hid hk; clear ho hk
    by_cases hlt : i < n
    · obtain ⟨b, off, Ar, cr, rfl, hb, hcell, hrow⟩ := H.out.at_ HK.out.toBelow hlt
      have hmem : rows.getD i [] ∈ rows := by rw [List.getD_eq_getElem?_getD, List.getElem?_eq_getElem (by have := HL.out; omega)]; exact List.getElem_mem _
      have hmr := HM.out _ hmem
      have hcol : col (rows.take (i + 1)) m = col (rows.take i) m ++ [(rows.getD i []).getD m 0] := by
        unfold col
        rw [List.take_succ_eq_append_getElem (by have := HL.out; omega), List.map_append, List.getD_eq_getElem?_getD (l := rows), List.getElem?_eq_getElem (by have := HL.out; omega)]
        rfl
      generalize rows.getD i [] = r at *
      obtain ⟨rb, ro, rfl, hrb, hrc⟩ := hrow.at_ (Below.refl _ _) hmr
      generalize r.getD m 0 = x at *
      have hmi : (m : Int) < (r.length : Int) := by omega
      have HCOL := Lib.hid hcol; clear hcol hrow hmem
      go_wp2_with (at_builtin; refine wpList_app rfl (.tmp 14) (.tmp 19) 27 rfl w.heap.size 3 (.int .i64 0) 1 8 Try.underlying27 intE rfl (by decide) _ i _ rfl HO.out _ [.int .i64 x] rfl rfl (by simp [Value.oneCell']) (by unfold maxLen; omega) (by omega) HK.out.size ?_; intro v' w5 hown' hk5 _; have HO5 := Lib.hid hown'; have HK5 := Lib.hid hk5; clear hown' hk5)
      refine ⟨⟨i + 1, by omega, rfl, ?_, HK.out.then_ HK5.out (fun b hb => (own_block_ge HO.out b hb).1)⟩, by simp [intOf]; omega⟩
      rw [HCOL.out, vals, List.map_append]
      exact HO5.out
    · obtain rfl : i = n := by omega
      go_wp2_with fail
      go_ret
      have ho := HO.out
      have htr : rows.take i = rows := List.take_of_length_le (Nat.le_of_eq HL.out)
      have hlc : (col rows m).length = i := by unfold col; rw [List.length_map]; exact HL.out
      rw [htr] at ho
      refine ⟨Ao, co, by rw [hlc]; rfl, ?_, HK.out⟩
      rw [hlc]
      exact Nums.of_own ho
end Go.Proofs.Ytfkdigopkdfcjaa
