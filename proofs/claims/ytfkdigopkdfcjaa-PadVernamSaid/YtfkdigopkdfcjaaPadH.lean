/-
  Pad: the law PadVernam, walked.
-/
import Derived.Test.YtfkdigopkdfcjaaPadG
namespace Go.Proofs.Ytfkdigopkdfcjaa
open Go.RowKit
def vern (n k : Nat) : List Int := (List.range n).map fun m => (((m + k) % n : Nat) : Int)
def vernT (n : Nat) : List (List Int) := (List.range n).map (vern n)
theorem vern_all : ∀ n < 17, 0 < n → cipherE (vernT n) = 0 ∧ PerfP (vernT n) ∧ PlainP (vernT n) := by decide +kernel
theorem own_ne {w : World} {B B' : Nat} {e e' : TypeId} {s s' n n' : Nat} {v v' : Value} {xs xs' : List Value} (h : w.ownsRow B e s v n xs) (h' : w.ownsRow B' e' s' v' n' xs') (hne : e ≠ e') : ∀ k, v.ownBlock = some k → ¬ v'.ownBlock = some k := by
  intro k hk hk'
  rcases h.2 with ⟨rfl, _⟩ | ⟨g, cap, cur, rfl, _, hh, _⟩
  · simp [Value.ownBlock] at hk
  · rcases h'.2 with ⟨rfl, _⟩ | ⟨g', cap', cur', rfl, _, hh', _⟩
    · simp [Value.ownBlock] at hk'
    · simp [Value.ownBlock] at hk hk'
      subst hk; subst hk'
      rw [hh] at hh'
      injection hh' with hh'
      injection hh' with _ ht
      exact hne ht
/-- rows of the call's own -/
def RowsOwn (w : World) (B : Nat) (vs : List Value) (rows : List (List Int)) : Prop :=
  vs.length = rows.length ∧ ∀ (i : Nat) (r : List Int), rows[i]? = some r → ∃ A c, vs[i]? = some (.slice A r.length c) ∧ w.ownsRow B 3 1 (.slice A r.length c) r.length (vals .i64 r)
theorem RowsOwn.keep {w w' : World} {B : Nat} {vs : List Value} {rows : List (List Int)} {S : Nat → Prop} (h : RowsOwn w B vs rows) (hk : Keep S w w')
    (hs : ∀ (v : Value) (n : Nat) (xs : List Value), w.ownsRow B 3 1 v n xs → ∀ k, v.ownBlock = some k → ¬ S k) : RowsOwn w' B vs rows := by
  refine ⟨h.1, fun i r hr => ?_⟩
  obtain ⟨A, c, h1, h2⟩ := h.2 i r hr
  exact ⟨A, c, h1, hk.own h2 (hs _ _ _ h2)⟩
theorem RowsOwn.snoc {w : World} {B : Nat} {vs : List Value} {rows : List (List Int)} (h : RowsOwn w B vs rows) {A : Option Addr} {c : Nat} {r : List Int} (ho : w.ownsRow B 3 1 (.slice A r.length c) r.length (vals .i64 r)) : RowsOwn w B (vs ++ [.slice A r.length c]) (rows ++ [r]) := by
  refine ⟨by simp [h.1], fun i r' hr' => ?_⟩
  by_cases hi : i < rows.length
  · rw [List.getElem?_append_left hi] at hr'
    obtain ⟨A', c', h1, h2⟩ := h.2 i r' hr'
    exact ⟨A', c', by rw [List.getElem?_append_left (by rw [h.1]; exact hi)]; exact h1, h2⟩
  · rw [List.getElem?_append_right (by omega)] at hr'
    have hz : i - rows.length = 0 := by
      apply Classical.byContradiction; intro hne
      rw [List.getElem?_eq_none (by simp; omega)] at hr'; cases hr'
    rw [hz] at hr'
    obtain rfl : r' = r := by simpa using hr'.symm
    exact ⟨A, c, by rw [List.getElem?_append_right (by rw [h.1]; omega), h.1, hz]; rfl, ho⟩
theorem RowsOwn.grid {w : World} {B n c : Nat} {A : Option Addr} {vs : List Value} {rows : List (List Int)} (h : RowsOwn w B vs rows) (ho : w.ownsRow B 27 1 (.slice A n c) n vs) : Grid w w.heap.size A n rows := by
  have hl : vs.length = n := by simpa using ho.1
  refine ⟨by rw [← h.1, hl], fun hn => ?_⟩
  obtain ⟨g, cap, hv, _, hlt⟩ := ho.form hn
  have hA : A = some ⟨g, 0, none⟩ := by injection hv
  subst hA
  refine ⟨g, 0, rfl, hlt, fun i r hr => ?_⟩
  obtain ⟨A', c', h1, h2⟩ := h.2 i r hr
  refine ⟨A', c', ?_, Nums.of_own h2⟩
  have := ho.cells (g := g) rfl i _ h1
  rwa [addr_add] at this
theorem rowE : (Try.prog.info? 27).map (fun i => (i.zero, i.size, i.bytes)) = some (some (.slice none 0 0), 1, 24) := by kernel_rfl
theorem take_range {α : Type} (n k : Nat) (h : k < n) (f : Nat → α) : ((List.range n).take (k + 1)).map f = ((List.range n).take k).map f ++ [f k] := by
  rw [List.take_succ_eq_append_getElem (by simpa using h), List.map_append]; simp
set_option maxRecDepth 100000 in
set_option maxHeartbeats 4000000 in
theorem vernam_any (n : Int) (w : World) : Calls Try.prog 4 #[.int .i64 n] w (TrueKeep w) := by
  by_cases h1 : n < 1
  · have b1 : decide (n < 1) = true := by simpa using h1
    go_enter Try.func4, Try.ntmps4
    go_wp2_with fail
    go_ret
    exact ⟨rfl, Below.refl _ _⟩
  have b1 : decide (n < 1) = false := by simpa using h1
  by_cases h2 : 16 < n
  · have b2 : decide (16 < n) = true := by simpa using h2
    go_enter Try.func4, Try.ntmps4
    go_wp2_with fail
    go_ret
    exact ⟨rfl, Below.refl _ _⟩
  have b2 : decide (16 < n) = false := by simpa using h2
  obtain ⟨m, rfl⟩ := Int.eq_ofNat_of_zero_le (show 0 ≤ n by omega)
  have hm1 : 0 < m := by omega
  have hm16 : m ≤ 16 := by omega
  obtain ⟨v0, v1, v2⟩ := vern_all m (by omega) hm1
  have HV0 := Lib.hid v0; have HV1 := Lib.hid (decide_eq_true v1); have HV2 := Lib.hid (decide_eq_true v2)
  clear v0 v1 v2 h1 h2
  go_enter Try.func4, Try.ntmps4
  go_wp2_with fail
  clear b1 b2
  go_loopw [3, 4] (fun tv kv wr => ∃ (k : Nat) (vs : List Value), k ≤ m ∧ kv = .int .i64 k ∧ wr.ownsRow w.heap.size 27 1 tv k vs ∧ RowsOwn wr w.heap.size vs (((List.range m).take k).map (vern m)) ∧ Keep (fun _ => False) w wr) (fun _ kv _ => m - (intOf kv).toNat)
  case atStart => exact ⟨0, [], Nat.zero_le _, rfl, World.ownsRow_nil _ _ _ _, ⟨rfl, fun i r hr => by simp at hr⟩, Keep.refl _ _⟩
  case round =>
    obtain ⟨k, vs, hk, rfl, ho, hro, hkp⟩ := hrel
    obtain ⟨At, ct, rfl⟩ := own_form ho
    have HO := Lib.hid ho; have HRO := Lib.hid hro; have HK := Lib.hid hkp; clear ho hro hkp
    by_cases hlt : k < m
    · have b0 : decide (k < m) = true := by simp; omega
      go_wp2_with fail
      clear b0
      obtain ⟨wo, rfl⟩ : ∃ wo : World, wo = wr := ⟨_, rfl⟩
      go_loopw [5, 6] (fun rv jv wr => ∃ j : Nat, j ≤ m ∧ jv = .int .i64 j ∧ wr.ownsRow wo.heap.size 3 1 rv j (vals .i64 (((List.range m).take j).map fun x => (((x + k) % m : Nat) : Int))) ∧ Keep (fun _ => False) wo wr) (fun _ jv _ => m - (intOf jv).toNat)
      case atStart => exact ⟨0, Nat.zero_le _, rfl, World.ownsRow_nil _ _ _ _, Keep.refl _ _⟩
      case round =>
        obtain ⟨j, hj, rfl, hor, hkr⟩ := hrel
        obtain ⟨Ar, cr, rfl⟩ := own_form hor
        have HOR := Lib.hid hor; have HKR := Lib.hid hkr; clear hor hkr
        by_cases hjm : j < m
        · have hmod : ((j : Int) + (k : Int)) % (m : Int) = (((j + k) % m : Nat) : Int) := by simp
          obtain ⟨x, hx⟩ : ∃ x, x = (j + k) % m := ⟨_, rfl⟩
          rw [← hx] at hmod
          have htr := take_range m j hjm (fun x => (((x + k) % m : Nat) : Int))
          rw [← hx] at htr
          have HTR := Lib.hid htr; clear htr hx
          go_wp2_with (at_builtin; refine wpList_app rfl (.tmp 27) (.tmp 33) 27 rfl wo.heap.size 3 (.int .i64 0) 1 8 Try.underlying27 intE rfl (by decide) _ j _ rfl HOR.out _ [.int .i64 x] rfl rfl (by simp [Value.oneCell']) (by unfold maxLen; omega) (by omega) HKR.out.size ?_; intro v' w5 hown' hk5 _; have HO5 := Lib.hid hown'; have HK5 := Lib.hid hk5; clear hown' hk5)
          refine ⟨⟨j + 1, by omega, rfl, ?_, HKR.out.then_ HK5.out (fun b hb => (own_block_ge HOR.out b hb).1)⟩, by simp [intOf]; omega⟩
          rw [HTR.out, vals, List.map_append]
          exact HO5.out
        · obtain rfl : j = m := by omega
          have hfull : ((List.range j).take j).map (fun x => (((x + k) % j : Nat) : Int)) = vern j k := by rw [List.take_of_length_le (by simp)]; rfl
          have hor := HOR.out
          rw [hfull] at hor
          have HOV := Lib.hid hor; have HOT := Lib.hid (own_below HO.out HKR.out); clear hor hfull
          have hlv : (vern j k).length = j := by simp [vern]
          have HLV := Lib.hid hlv; clear hlv
          go_wp2_with (at_builtin; refine wpList_app rfl (.tmp 35) (.tmp 37) 22 rfl w.heap.size 27 (.slice none 0 0) 1 24 Try.underlying22 rowE rfl (by decide) _ k _ rfl HOT.out _ [.slice Ar j cr] rfl rfl (by simp [Value.oneCell']) (by unfold maxLen; omega) (by omega) (Nat.le_trans HK.out.size HKR.out.size) ?_; intro v' w5 hown' hk5 _; have HO5 := Lib.hid hown'; have HK5 := Lib.hid hk5; clear hown' hk5)
          refine ⟨⟨k + 1, _, by omega, rfl, HO5.out, ?_, (HK.out.trans HKR.out).then_ HK5.out (fun b hb => (own_block_ge HOT.out b hb).1)⟩, by simp [intOf]; omega⟩
          rw [take_range _ _ hlt]
          have h1 := (HRO.out.keep HKR.out (fun _ _ _ _ _ _ h => h)).keep HK5.out (fun v n xs hv q hq => own_ne hv HOT.out (by decide) q hq)
          have h2 := HK5.out.own HOV.out (fun q hq => own_ne HOV.out HOT.out (by decide) q hq)
          have h3 : w5.ownsRow w.heap.size 3 1 (.slice Ar (vern j k).length cr) (vern j k).length (vals .i64 (vern j k)) := by
            rw [HLV.out]
            refine ⟨h2.1, ?_⟩
            rcases h2.2 with h | ⟨g, cap, cur, e1, hg, r⟩
            · exact .inl h
            · exact .inr ⟨g, cap, cur, e1, Nat.le_trans HK.out.size hg, r⟩
          have := h1.snoc h3
          rwa [HLV.out] at this
    · obtain rfl : k = m := by omega
      have hro := HRO.out
      have hfull : ((List.range k).take k).map (vern k) = vernT k := by rw [List.take_of_length_le (by simp)]; rfl
      rw [hfull] at hro
      have hg := hro.grid HO.out
      have HG := Lib.hid hg; clear hro hg hfull
      go_wp2_with (first
        | (go_at_call 5; ((with_reducible refine (perfect_ok _ _ _ (vernT k) _ HG.out HV0.out).mono ?_); rintro e w1 ⟨rfl, hk⟩; have HK1 := Lib.hid hk; clear hk; rw [HV1.out]))
        | (go_at_call 6; ((with_reducible refine (plain_ok _ _ _ (vernT k) _ (grid_keep HG.out HK1.out) HV0.out).mono ?_); rintro e w2 ⟨rfl, hk⟩; have HK2 := Lib.hid (HK1.out.trans hk); clear hk; rw [HV2.out])))
      go_ret
      exact ⟨rfl, (HK.out.trans HK2.out).toBelow⟩
end Go.Proofs.Ytfkdigopkdfcjaa
