/-
  Curve: the two loops over spots.
-/
import Derived.Test.YtlfocajlkelnbaaCurveI
namespace Go.Proofs.Ytlfocajlkelnbaa
open Go.RowKit
abbrev Sp := Int × Int × Bool
/-- spots in a row from a block's start -/
def SpotsAt (w : World) (S : Nat) (l : List Sp) : Prop := ∀ i x y f, l[i]? = some (x, y, f) → w.cell? ⟨S, i * 3, none⟩ = some (.int .i64 x) ∧ w.cell? ⟨S, i * 3 + 1, none⟩ = some (.int .i64 y) ∧ w.cell? ⟨S, i * 3 + 2, none⟩ = some (.bool f)
theorem SpotsAt.keep {w w' : World} {S : Nat} {l : List Sp} (h : SpotsAt w S l) (k : Keep (fun _ => False) w w') : SpotsAt w' S l := fun i x y f e => ⟨keep_cell k (h i x y f e).1, keep_cell k (h i x y f e).2.1, keep_cell k (h i x y f e).2.2⟩
def AllOk (p a b : Nat) (l : List Sp) : Prop := ∀ s ∈ l, SpotOk p a b s.1 s.2.1 s.2.2
instance (p a b : Nat) (l : List Sp) : Decidable (AllOk p a b l) := by unfold AllOk; infer_instance
set_option maxHeartbeats 2000000 in
theorem rspots_ok (p a b : Nat) (hp0 : 5 ≤ p) (hp1 : p ≤ 1009) (ha : a < p) (hb : b < p) (hc : cc p a b = 0) (S : Nat) (l : List Sp) (hl : l.length ≤ 10) (w : World) (hS : SpotsAt w S l) :
    Calls Try.prog 7 #[encC p a b, .slice (some ⟨S, 0, none⟩) l.length l.length] w fun e w' => e = .returned (.bool (decide (AllOk p a b l))) ∧ Keep (fun _ => False) w w' := by
  unfold encC
  have HC := Lib.hid hc; have HS := Lib.hid hS; clear hc hS
  go_enter Try.func7, Try.ntmps7
  go_wp2_with (go_at_call 13; refine (rcheck_any p a b _).mono ?_; rintro e w' ⟨rfl, HK⟩; rw [HC.out]; have q := (Row3.new w 23 (.int .i64 p) (.int .i64 a) (.int .i64 b)).keep HK)
  have hsl := (HS.out.keep ((Keep.refl (fun _ => False) w).alloc (.cells #[.int .i64 p, .int .i64 a, .int .i64 b] 23))).keep HK
  have hk1 := ((Keep.refl (fun _ => False) w).alloc (.cells #[.int .i64 p, .int .i64 a, .int .i64 b] 23)).trans HK
  obtain ⟨N, hN⟩ : ∃ N, N = w.heap.size := ⟨_, rfl⟩
  rw [← hN] at q ⊢
  have HN := Lib.hid hN; clear hN HK
  go_loopw [12] (fun iv wr => ∃ i : Nat, iv = .int .i64 i ∧ i ≤ l.length ∧ (∀ s ∈ l.take i, SpotOk p a b s.1 s.2.1 s.2.2) ∧ Row3 wr N 23 (.int .i64 p) (.int .i64 a) (.int .i64 b) ∧ SpotsAt wr S l ∧ Keep (fun _ => False) w wr) (fun iv _ => l.length + 2 - (intOf iv).toNat)
  case atStart => exact ⟨0, rfl, Nat.zero_le _, by simp, q, hsl, hk1⟩
  case round =>
    obtain ⟨i, rfl, hil, hall, hq, hsp, hk⟩ := hrel
    clear q hsl hk1
    have HALL := Lib.hid hall; have HQ := Lib.hid hq; have HSP := Lib.hid hsp; have HK := Lib.hid hk; clear hall hq hsp hk
    have q0 := HQ.out.c0; have q1 := HQ.out.c1; have q2 := HQ.out.c2
    have hNl := HQ.out.lt
    by_cases hi : i < l.length
    · have b1 : decide (i < l.length) = true := decide_eq_true hi
      obtain ⟨⟨x, y, f⟩, hs⟩ : ∃ s, l[i]? = some s := ⟨l[i], by simp [hi]⟩
      obtain ⟨e0, e1, e2⟩ := HSP.out i x y f hs
      have HL := Lib.hid hs; clear hs
      by_cases hok : SpotOk p a b x y f
      · have HOK := Lib.hid (decide_eq_true hok); clear hok
        go_wp2_with (go_at_call 14; refine (rspot_any p a b x y f hp0 hp1 ha hb _).mono ?_; rintro e w' ⟨rfl, HK2⟩; rw [HOK.out])
        have hkk := ((Keep.refl (fun _ => False) wr).alloc (.cells #[.int .i64 x, .int .i64 y, .bool f] 25)).trans HK2
        refine ⟨⟨i + 1, by go_num, by omega, ?_, HQ.out.keep hkk, HSP.out.keep hkk, HK.out.trans hkk⟩, ?_⟩
        · intro s hs
          rw [List.take_add_one, HL.out, List.mem_append] at hs
          rcases hs with hs | hs
          · exact HALL.out s hs
          · simp at hs; subst hs; exact of_decide_eq_true HOK.out
        · have hii : ∀ k : Nat, (intOf (.int .i64 (k : Int))).toNat = k := fun k => rfl
          have hi2 := hii (i + 1)
          rw [Int.natCast_add] at hi2
          first | (rw [hii, hi2]; omega) | (simp [intOf]; omega)
      · have HOK := Lib.hid (decide_eq_false hok)
        have hd : decide (AllOk p a b l) = false := decide_eq_false fun h => hok (h _ (List.mem_of_getElem? HL.out))
        have HD := Lib.hid hd; clear hd hok
        go_wp2_with (go_at_call 14; refine (rspot_any p a b x y f hp0 hp1 ha hb _).mono ?_; rintro e w' ⟨rfl, HK2⟩; rw [HOK.out])
        go_ret
        exact ⟨by rw [HD.out]; rfl, (HK.out.alloc _).trans HK2⟩
    · have b1 : decide (i < l.length) = false := decide_eq_false hi
      have hd : decide (AllOk p a b l) = true := decide_eq_true fun s hs => HALL.out s (by rw [List.take_of_length_le (by omega)]; exact hs)
      have HD := Lib.hid hd; clear hd hi
      go_wp2
      go_ret
      exact ⟨by rw [HD.out]; rfl, HK.out⟩
theorem rspots_bad (p a b : Int) (hc : cc p a b ≠ 0) (V : Value) (w : World) :
    Calls Try.prog 7 #[encI p a b, V] w fun e w' => e = .returned (.bool false) ∧ Keep (fun _ => False) w w' := by
  unfold encI
  have b1 : (cc p a b != 0) = true := by simpa using hc
  have HB := Lib.hid b1; clear b1
  obtain ⟨c, hcc⟩ : ∃ c, c = cc p a b := ⟨_, rfl⟩
  have b2 : (c != 0) = true := by rw [hcc]; exact HB.out
  have HC := Lib.hid hcc; clear hcc hc HB
  go_enter Try.func7, Try.ntmps7
  go_wp2_with (go_at_call 13; refine (rcheck_any p a b _).mono ?_; rintro e w' ⟨rfl, HK⟩; rw [← HC.out])
  go_ret
  exact ⟨rfl, ((Keep.refl _ w).alloc _).trans HK⟩
set_option maxHeartbeats 2000000 in
theorem spots_bad (p a b : Int) (hc : cc p a b ≠ 0) (V : Value) (w : World) :
    Calls Try.prog 11 #[encI p a b, V] w fun e w' => e = .returned (.tuple #[encI 0 0 0, .int .i64 (cc p a b)]) ∧ Keep (fun _ => False) w w' := by
  have hres : Try.f11.results = #[.cell 4 38, .tmp 5] := by kernel_rfl
  unfold encI
  have b1 : (cc p a b != 0) = true := by simpa using hc
  have HB := Lib.hid b1; clear b1
  obtain ⟨c, hcc⟩ : ∃ c, c = cc p a b := ⟨_, rfl⟩
  have b2 : (c != 0) = true := by rw [hcc]; exact HB.out
  rw [← hcc]
  have HC := Lib.hid hcc; clear hcc hc HB
  have r3 := Row3.new (w.alloc (.cells #[.int .i64 p, .int .i64 a, .int .i64 b] 23)) 38 (.int .i64 0) (.int .i64 0) (.int .i64 0)
  rw [World.size_alloc] at r3
  have R3 := Lib.hid r3; clear r3
  go_enter Try.func11, Try.ntmps11
  go_wp2_with (go_at_call 18; refine (check_any p a b _).mono ?_; rintro e w' ⟨rfl, HK⟩; rw [← HC.out]; have q := R3.out.keep HK; have q0 := q.c0; have q1 := q.c1; have q2 := q.c2; have qf := q.fr; clear q)
  refine bodyPost_ret (v := .tuple #[.agg #[.int .i64 0, .int .i64 0, .int .i64 0], .int .i64 c]) ?_ rfl ⟨rfl, ?_⟩
  · simp only [results, hres]
    go_simp
  · have hle : w.heap.size ≤ w.heap.size + 1 := by omega
    exact ((((((Keep.refl _ w).alloc _).alloc _).trans HK).setCell (p := ⟨w.heap.size + 1, 0, none⟩) (.inl hle) _).setCell (p := ⟨w.heap.size + 1, 1, none⟩) (.inl hle) _).setCell (p := ⟨w.heap.size + 1, 2, none⟩) (.inl hle) _
set_option maxHeartbeats 2000000 in
theorem spots_ok (p a b : Nat) (hp0 : 5 ≤ p) (hp1 : p ≤ 1009) (ha : a < p) (hb : b < p) (hc : cc p a b = 0) (S : Nat) (A : Option Addr) (l : List Sp) (hl : l.length ≤ 10) (hA : 0 < l.length → A = some ⟨S, 0, none⟩) (w : World) (hS : SpotsAt w S l) :
    Calls Try.prog 11 #[encC p a b, .slice A l.length l.length] w fun e w' => e = .returned (.tuple (if AllOk p a b l then #[encC p a b, .int .i64 0] else #[encI 0 0 0, .int .i64 4])) ∧ Keep (fun _ => False) w w' := by
  have hres : Try.f11.results = #[.cell 4 38, .tmp 5] := by kernel_rfl
  unfold encC encI
  obtain ⟨V, hV⟩ : ∃ V, V = (if AllOk p a b l then #[.agg #[.int .i64 p, .int .i64 a, .int .i64 b], .int .i64 0] else #[.agg #[.int .i64 0, .int .i64 0, .int .i64 0], .int .i64 4] : Array Value) := ⟨_, rfl⟩
  rw [← hV]
  have HV := Lib.hid hV; clear hV
  have r3 := Row3.new (w.alloc (.cells #[.int .i64 p, .int .i64 a, .int .i64 b] 23)) 38 (.int .i64 0) (.int .i64 0) (.int .i64 0)
  rw [World.size_alloc] at r3
  have r2 := (Row3.new w 23 (.int .i64 p) (.int .i64 a) (.int .i64 b)).alloc (.cells #[.int .i64 0, .int .i64 0, .int .i64 0] 38)
  have hk0 := ((Keep.refl (fun _ => False) w).alloc (.cells #[.int .i64 p, .int .i64 a, .int .i64 b] 23)).alloc (.cells #[.int .i64 0, .int .i64 0, .int .i64 0] 38)
  have HC := Lib.hid hc; have HS := Lib.hid hS; have R3 := Lib.hid r3; have R2 := Lib.hid r2; have HK0 := Lib.hid hk0; have HA := Lib.hid hA; clear hc hS r3 r2 hk0 hA
  go_enter Try.func11, Try.ntmps11
  go_wp2_with (go_at_call 18; refine (check_any p a b _).mono ?_; rintro e w' ⟨rfl, HK⟩; rw [HC.out])
  have hsl := (HS.out.keep HK0.out).keep HK
  have hk1 := HK0.out.trans HK
  have q := R2.out.keep HK
  have qr := R3.out.keep HK
  obtain ⟨N, hN⟩ : ∃ N, N = w.heap.size := ⟨_, rfl⟩
  rw [← hN] at q qr ⊢
  have HN := Lib.hid hN; clear hN HK
  go_loopw [17] (fun iv wr => ∃ i : Nat, iv = .int .i64 i ∧ i ≤ l.length ∧ (∀ s ∈ l.take i, SpotOk p a b s.1 s.2.1 s.2.2) ∧ Row3 wr N 23 (.int .i64 p) (.int .i64 a) (.int .i64 b) ∧ Row3 wr (N + 1) 38 (.int .i64 0) (.int .i64 0) (.int .i64 0) ∧ SpotsAt wr S l ∧ Keep (fun _ => False) w wr) (fun iv _ => l.length + 2 - (intOf iv).toNat)
  case atStart => exact ⟨0, rfl, Nat.zero_le _, by simp, q, qr, hsl, hk1⟩
  case round =>
    obtain ⟨i, rfl, hil, hall, hq, hqr, hsp, hk⟩ := hrel
    clear q qr hsl hk1
    have HALL := Lib.hid hall; have HQ := Lib.hid hq; have HR := Lib.hid hqr; have HSP := Lib.hid hsp; have HK := Lib.hid hk; clear hall hq hqr hsp hk
    have q0 := HQ.out.c0; have q1 := HQ.out.c1; have q2 := HQ.out.c2
    have hNl := HQ.out.lt
    have hNr := HR.out.lt
    by_cases hi : i < l.length
    · have b1 : decide (i < l.length) = true := decide_eq_true hi
      have hA := HA.out (by omega)
      subst hA
      obtain ⟨⟨x, y, f⟩, hs⟩ : ∃ s, l[i]? = some s := ⟨l[i], by simp [hi]⟩
      obtain ⟨e0, e1, e2⟩ := HSP.out i x y f hs
      have HL := Lib.hid hs; clear hs
      by_cases hok : SpotOk p a b x y f
      · have HOK := Lib.hid (decide_eq_true hok); clear hok
        go_wp2_with (go_at_call 19; refine (has_any p a b x y f (by omega) (by omega) ha hb _).mono ?_; rintro e w' ⟨rfl, HK2⟩; rw [HOK.out])
        have hkk := ((Keep.refl (fun _ => False) wr).alloc (.cells #[.int .i64 x, .int .i64 y, .bool f] 25)).trans HK2
        refine ⟨⟨i + 1, by go_num, by omega, ?_, HQ.out.keep hkk, HR.out.keep hkk, HSP.out.keep hkk, HK.out.trans hkk⟩, ?_⟩
        · intro s hs
          rw [List.take_add_one, HL.out, List.mem_append] at hs
          rcases hs with hs | hs
          · exact HALL.out s hs
          · simp at hs; subst hs; exact of_decide_eq_true HOK.out
        · have hii : ∀ k : Nat, (intOf (.int .i64 (k : Int))).toNat = k := fun k => rfl
          have hi2 := hii (i + 1)
          rw [Int.natCast_add] at hi2
          first | (rw [hii, hi2]; omega) | (simp [intOf]; omega)
      · have HOK := Lib.hid (decide_eq_false hok)
        have hd : ¬ AllOk p a b l := fun h => hok (h _ (List.mem_of_getElem? HL.out))
        have HD := Lib.hid hd; clear hd hok
        go_wp2_with (go_at_call 19; refine (has_any p a b x y f (by omega) (by omega) ha hb _).mono ?_; rintro e w' ⟨rfl, HK2⟩; rw [HOK.out]; have q := (HR.out.alloc (.cells #[.int .i64 x, .int .i64 y, .bool f] 25)).keep HK2; have q0 := q.c0; have q1 := q.c1; have q2 := q.c2; have qf := q.fr; clear q)
        refine bodyPost_ret (v := .tuple #[.agg #[.int .i64 0, .int .i64 0, .int .i64 0], .int .i64 4]) ?_ rfl ⟨by rw [HV.out, if_neg HD.out], ?_⟩
        · simp only [results, hres]
          go_simp
        · have hle : w.heap.size ≤ N + 1 := by have := HN.out; omega
          exact ((((HK.out.alloc _).trans HK2).setCell (p := ⟨N + 1, 0, none⟩) (.inl hle) _).setCell (p := ⟨N + 1, 1, none⟩) (.inl hle) _).setCell (p := ⟨N + 1, 2, none⟩) (.inl hle) _
    · have b1 : decide (i < l.length) = false := decide_eq_false hi
      have hd : AllOk p a b l := fun s hs => HALL.out s (by rw [List.take_of_length_le (by omega)]; exact hs)
      have HD := Lib.hid hd; clear hd hi
      have r0 := HR.out.c0; have r1 := HR.out.c1; have r2 := HR.out.c2; have rf := HR.out.fr
      go_wp2
      refine bodyPost_ret (v := .tuple #[.agg #[.int .i64 p, .int .i64 a, .int .i64 b], .int .i64 0]) ?_ rfl ⟨by rw [HV.out, if_pos HD.out], ?_⟩
      · simp only [results, hres]
        go_simp
      · have hle : w.heap.size ≤ N + 1 := by have := HN.out; omega
        exact ((HK.out.setCell (p := ⟨N + 1, 0, none⟩) (.inl hle) _).setCell (p := ⟨N + 1, 1, none⟩) (.inl hle) _).setCell (p := ⟨N + 1, 2, none⟩) (.inl hle) _
end Go.Proofs.Ytlfocajlkelnbaa
