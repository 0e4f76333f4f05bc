/-
  Bits: the sum of the bits of a word, as the library reckons it: plain facts.
-/
namespace Go.Proofs.Ytcbjdodpgnmhnaa
def popN : Nat → Nat → Nat
  | 0, _ => 0
  | n + 1, x => x % 2 + popN n (x / 2)
theorem popN_add (m n x : Nat) : popN (m + n) x = popN m x + popN n (x / 2 ^ m) := by
  induction m generalizing x with
  | zero => simp [popN]
  | succ m ih =>
    rw [Nat.succ_add]
    show x % 2 + popN (m + n) (x / 2) = x % 2 + popN m (x / 2) + _
    rw [ih, Nat.div_div_eq_div_mul, Nat.pow_succ, Nat.mul_comm 2]; omega
def val : List Nat → Nat
  | [] => 0
  | a :: t => a + 256 * val t
theorem and_split (a b q r : Nat) (ha : a < 256) (hb : b < 256) : (a + 256 * q) &&& (b + 256 * r) = (a &&& b) + 256 * (q &&& r) := by
  have h1 : ((a + 256 * q) &&& (b + 256 * r)) % 2 ^ 8 = a &&& b := by
    rw [Nat.and_mod_two_pow]
    rw [show (a + 256 * q) % 2 ^ 8 = a by omega, show (b + 256 * r) % 2 ^ 8 = b by omega]
  have h2 : ((a + 256 * q) &&& (b + 256 * r)) / 2 ^ 8 = q &&& r := by
    rw [Nat.and_div_two_pow]
    rw [show (a + 256 * q) / 2 ^ 8 = q by omega, show (b + 256 * r) / 2 ^ 8 = r by omega]
  omega
def rep (m : Nat) : Nat → Nat
  | 0 => 0
  | n + 1 => m + 256 * rep m n
theorem and_rep (m : Nat) (hm : m < 256) (f : Nat → Nat) (P : Nat → Prop) (s : List Nat → Nat)
    (hs : ∀ a t, P a → (∀ b ∈ t, P b) → ∃ c, c < 256 ∧ s (a :: t) = c + 256 * s t ∧ c &&& m = f a) (h0 : s [] = 0) : ∀ l : List Nat, (∀ b ∈ l, P b) → s l &&& rep m l.length = val (l.map f) := by
  intro l
  induction l with
  | nil => intro _; simp [h0, rep, val]
  | cons a t ih =>
    intro h
    obtain ⟨c, hc, e, hf⟩ := hs a t (h a (List.mem_cons_self ..)) fun b hb => h b (List.mem_cons_of_mem _ hb)
    show s (a :: t) &&& (m + 256 * rep m t.length) = f a + 256 * val (t.map f)
    rw [e, and_split _ _ _ _ hc hm, hf, ih fun b hb => h b (List.mem_cons_of_mem _ hb)]
theorem d1 : ∀ a < 256, ∀ z < 2, (a / 2 + 128 * z) &&& 85 = a / 2 &&& 85 := by decide +kernel
theorem d2 : ∀ a < 256, ∀ z < 4, (a / 4 + 64 * z) &&& 51 = a / 4 &&& 51 := by decide +kernel
theorem d3 : ∀ u < 5, ∀ v < 5, ∀ z < 5, (u + 16 * v) / 16 + 16 * z + (u + 16 * v) < 256 ∧ ((u + 16 * v) / 16 + 16 * z + (u + 16 * v)) &&& 15 = u + v := by decide +kernel
theorem s1 (l : List Nat) (h : ∀ b ∈ l, b < 256) : val l / 2 &&& rep 85 l.length = val (l.map fun a => a / 2 &&& 85) := by
  refine and_rep 85 (by decide) _ (· < 256) (fun l => val l / 2) (fun a t ha _ => ⟨a / 2 + 128 * (val t % 2), by omega, ?_, d1 a ha _ (by omega)⟩) rfl l h
  show (a + 256 * val t) / 2 = _
  omega
theorem s1' (l : List Nat) (h : ∀ b ∈ l, b < 256) : val l &&& rep 85 l.length = val (l.map fun a => a &&& 85) :=
  and_rep 85 (by decide) _ (· < 256) val (fun a _ ha _ => ⟨a, ha, rfl, rfl⟩) rfl l h
theorem s2 (l : List Nat) (h : ∀ b ∈ l, b < 256) : val l / 4 &&& rep 51 l.length = val (l.map fun a => a / 4 &&& 51) := by
  refine and_rep 51 (by decide) _ (· < 256) (fun l => val l / 4) (fun a t ha _ => ⟨a / 4 + 64 * (val t % 4), by omega, ?_, d2 a ha _ (by omega)⟩) rfl l h
  show (a + 256 * val t) / 4 = _
  omega
theorem s2' (l : List Nat) (h : ∀ b ∈ l, b < 256) : val l &&& rep 51 l.length = val (l.map fun a => a &&& 51) :=
  and_rep 51 (by decide) _ (· < 256) val (fun a _ ha _ => ⟨a, ha, rfl, rfl⟩) rfl l h
theorem s3 (l : List Nat) (h : ∀ b ∈ l, b % 16 < 5 ∧ b / 16 < 5) : (val l / 16 + val l) &&& rep 15 l.length = val (l.map fun a => a % 16 + a / 16) := by
  refine and_rep 15 (by decide) _ (fun b => b % 16 < 5 ∧ b / 16 < 5) (fun l => val l / 16 + val l) (fun a t ha ht => ?_) rfl l h
  have hz : val t % 16 < 5 := by
    cases t with
    | nil => exact (by decide : 0 % 16 < 5)
    | cons b t => have := ht b (List.mem_cons_self ..); show (b + 256 * val t) % 16 < 5; omega
  obtain ⟨h1, h2⟩ := d3 (a % 16) ha.1 (a / 16) ha.2 _ hz
  have e : a % 16 + 16 * (a / 16) = a := by omega
  rw [e] at h1 h2
  refine ⟨a / 16 + 16 * (val t % 16) + a, h1, ?_, h2⟩
  show (a + 256 * val t) / 16 + (a + 256 * val t) = _
  omega
theorem val_add (f g : Nat → Nat) (l : List Nat) : val (l.map f) + val (l.map g) = val (l.map fun a => f a + g a) := by
  induction l with
  | nil => rfl
  | cons a t ih => show f a + 256 * val (t.map f) + (g a + 256 * val (t.map g)) = f a + g a + 256 * val (t.map fun a => f a + g a); omega
def g1 (a : Nat) : Nat := (a / 2 &&& 85) + (a &&& 85)
def g2 (a : Nat) : Nat := (a / 4 &&& 51) + (a &&& 51)
theorem g_all : ∀ a < 256, g1 a < 256 ∧ g2 (g1 a) % 16 < 5 ∧ g2 (g1 a) / 16 < 5 ∧ g2 (g1 a) % 16 + g2 (g1 a) / 16 = popN 8 a := by decide +kernel
theorem popN_8 (x : Nat) : popN 8 x = popN 8 (x % 256) := by simp only [popN]; omega
theorem popN_le (n x : Nat) : popN n x ≤ n := by
  induction n generalizing x with
  | zero => exact Nat.le_refl _
  | succ n ih => unfold popN; have := ih (x / 2); omega
def bytes (x : Nat) : List Nat := [x % 256, x / 256 % 256, x / 65536 % 256, x / 16777216 % 256, x / 4294967296 % 256, x / 1099511627776 % 256, x / 281474976710656 % 256, x / 72057594037927936 % 256]
theorem val_bytes (x : Nat) (h : x < 18446744073709551616) : val (bytes x) = x := by unfold bytes; simp only [val]; omega
theorem bytes_lt (x : Nat) : ∀ b ∈ bytes x, b < 256 := by intro b hb; simp only [bytes, List.mem_cons, List.not_mem_nil, or_false] at hb; omega
theorem popN_64 (x : Nat) : popN 64 x = popN 8 (x % 256) + popN 8 (x / 256 % 256) + popN 8 (x / 65536 % 256) + popN 8 (x / 16777216 % 256) + popN 8 (x / 4294967296 % 256) + popN 8 (x / 1099511627776 % 256) + popN 8 (x / 281474976710656 % 256) + popN 8 (x / 72057594037927936 % 256) := by
  have e : ∀ n y, popN (8 + n) y = popN 8 (y % 256) + popN n (y / 256) := fun n y => by rw [popN_add, popN_8]
  rw [show 64 = 8 + 56 from rfl, e, show 56 = 8 + 48 from rfl, e, show 48 = 8 + 40 from rfl, e, show 40 = 8 + 32 from rfl, e, show 32 = 8 + 24 from rfl, e, show 24 = 8 + 16 from rfl, e, show 16 = 8 + 8 from rfl, e, popN_8 (x / 256 / 256 / 256 / 256 / 256 / 256 / 256)]
  simp only [Nat.div_div_eq_div_mul, Nat.reduceMul]
  omega
/-- the first three steps -/
theorem three (x : Nat) (hx : x < 18446744073709551616) : ∀ y z u, y = (x / 2 &&& 6148914691236517205) + (x &&& 6148914691236517205) → z = (y / 4 &&& 3689348814741910323) + (y &&& 3689348814741910323) → u = (z / 16 + z) &&& 1085102592571150095 → u = val ((bytes x).map (popN 8)) := by
  intro y z u hy hz hu
  have m1 : 6148914691236517205 = rep 85 8 := by decide
  have m2 : 3689348814741910323 = rep 51 8 := by decide
  have m3 : 1085102592571150095 = rep 15 8 := by decide
  have hl : (bytes x).length = 8 := rfl
  rw [m1, ← hl] at hy
  have hy2 : y = val ((bytes x).map g1) := by
    rw [hy]
    conv => lhs; rw [← val_bytes x hx]
    rw [val_bytes x hx]
    have h1 := s1 (bytes x) (bytes_lt x)
    have h2 := s1' (bytes x) (bytes_lt x)
    rw [val_bytes x hx] at h1 h2
    rw [h1, h2, val_add]; rfl
  have hb1 : ∀ b ∈ (bytes x).map g1, b < 256 := by
    intro b hb
    obtain ⟨a, ha, rfl⟩ := List.mem_map.1 hb
    exact (g_all a (bytes_lt x a ha)).1
  have hz2 : z = val (((bytes x).map g1).map g2) := by
    have h1 := s2 _ hb1
    have h2 := s2' _ hb1
    rw [List.length_map, hl, ← m2, ← hy2] at h1 h2
    rw [hz, h1, h2, val_add]; rfl
  have hb2 : ∀ b ∈ ((bytes x).map g1).map g2, b % 16 < 5 ∧ b / 16 < 5 := by
    intro b hb
    obtain ⟨b', hb', rfl⟩ := List.mem_map.1 hb
    obtain ⟨a, ha, rfl⟩ := List.mem_map.1 hb'
    exact ⟨(g_all a (bytes_lt x a ha)).2.1, (g_all a (bytes_lt x a ha)).2.2.1⟩
  have h3 := s3 _ hb2
  rw [List.length_map, List.length_map, hl, ← m3, ← hz2] at h3
  rw [hu, h3, List.map_map, List.map_map]
  congr 1
  refine List.map_congr_left fun a ha => ?_
  exact (g_all a (bytes_lt x a ha)).2.2.2
theorem three_lt (x : Nat) (hx : x < 18446744073709551616) : ∀ y z, y = (x / 2 &&& 6148914691236517205) + (x &&& 6148914691236517205) → z = (y / 4 &&& 3689348814741910323) + (y &&& 3689348814741910323) → y < 18446744073709551616 ∧ z / 16 + z < 18446744073709551616 := by
  intro y z hy hz
  have m1 : 6148914691236517205 = rep 85 8 := by decide
  have m2 : 3689348814741910323 = rep 51 8 := by decide
  have hl : (bytes x).length = 8 := rfl
  have hy2 : y = val ((bytes x).map g1) := by
    have h1 := s1 (bytes x) (bytes_lt x)
    have h2 := s1' (bytes x) (bytes_lt x)
    rw [val_bytes x hx, hl, ← m1] at h1 h2
    rw [hy, h1, h2, val_add]; rfl
  have hb1 : ∀ b ∈ (bytes x).map g1, b < 256 := by
    intro b hb
    obtain ⟨a, ha, rfl⟩ := List.mem_map.1 hb
    exact (g_all a (bytes_lt x a ha)).1
  have hz2 : z = val (((bytes x).map g1).map g2) := by
    have h1 := s2 _ hb1
    have h2 := s2' _ hb1
    rw [List.length_map, hl, ← m2, ← hy2] at h1 h2
    rw [hz, h1, h2, val_add]; rfl
  have hb2 : ∀ b ∈ ((bytes x).map g1).map g2, b % 16 < 5 ∧ b / 16 < 5 := by
    intro b hb
    obtain ⟨b', hb', rfl⟩ := List.mem_map.1 hb
    obtain ⟨a, ha, rfl⟩ := List.mem_map.1 hb'
    exact ⟨(g_all a (bytes_lt x a ha)).2.1, (g_all a (bytes_lt x a ha)).2.2.1⟩
  have q1 : y < 18446744073709551616 := by
    simp only [bytes, List.map_cons, List.map_nil, List.mem_cons, List.not_mem_nil, or_false, forall_eq_or_imp, forall_eq, val] at hy2 hb1
    omega
  have q2 : z < 9223372036854775808 := by
    simp only [bytes, List.map_cons, List.map_nil, List.mem_cons, List.not_mem_nil, or_false, forall_eq_or_imp, forall_eq, val] at hz2 hb2
    omega
  omega
theorem last (x u : Nat) (hu : u = val ((bytes x).map (popN 8))) : u < 18446744073709551616 ∧ u + u / 256 < 18446744073709551616 ∧ (u + u / 256) + (u + u / 256) / 65536 < 18446744073709551616 ∧
    ((u + u / 256) + (u + u / 256) / 65536) + ((u + u / 256) + (u + u / 256) / 65536) / 4294967296 < 9223372036854775808 ∧
    (((u + u / 256) + (u + u / 256) / 65536) + ((u + u / 256) + (u + u / 256) / 65536) / 4294967296) % 128 = popN 64 x := by
  rw [popN_64]
  simp only [bytes, List.map_cons, List.map_nil, val] at hu
  have h := popN_le 8
  have h0 := h (x % 256); have h1 := h (x / 256 % 256); have h2 := h (x / 65536 % 256); have h3 := h (x / 16777216 % 256); have h4 := h (x / 4294967296 % 256); have h5 := h (x / 1099511627776 % 256); have h6 := h (x / 281474976710656 % 256); have h7 := h (x / 72057594037927936 % 256)
  generalize popN 8 (x % 256) = p0 at *
  generalize popN 8 (x / 256 % 256) = p1 at *
  generalize popN 8 (x / 65536 % 256) = p2 at *
  generalize popN 8 (x / 16777216 % 256) = p3 at *
  generalize popN 8 (x / 4294967296 % 256) = p4 at *
  generalize popN 8 (x / 1099511627776 % 256) = p5 at *
  generalize popN 8 (x / 281474976710656 % 256) = p6 at *
  generalize popN 8 (x / 72057594037927936 % 256) = p7 at *
  clear h
  obtain ⟨v, hv⟩ : ∃ v, v = u + u / 256 := ⟨_, rfl⟩
  have hv2 : v = (p0 + p1) + 256 * (p1 + p2) + 65536 * (p2 + p3) + 16777216 * (p3 + p4) + 4294967296 * (p4 + p5) + 1099511627776 * (p5 + p6) + 281474976710656 * (p6 + p7) + 72057594037927936 * p7 := by omega
  rw [← hv]
  obtain ⟨t, ht⟩ : ∃ t, t = v + v / 65536 := ⟨_, rfl⟩
  have ht2 : t = (p0 + p1 + p2 + p3) + 256 * (p1 + p2 + p3 + p4) + 65536 * (p2 + p3 + p4 + p5) + 16777216 * (p3 + p4 + p5 + p6) + 4294967296 * (p4 + p5 + p6 + p7) + 1099511627776 * (p5 + p6 + p7) + 281474976710656 * (p6 + p7) + 72057594037927936 * p7 := by clear hu hv; omega
  rw [← ht]
  clear hv ht
  refine ⟨?_, ?_, ?_, ?_, ?_⟩
  · clear hv2 ht2; omega
  · clear hu ht2; omega
  · clear hu hv2; omega
  · clear hu hv2; omega
  · have hq : t / 4294967296 = (p4 + p5 + p6 + p7) + 256 * (p5 + p6 + p7) + 65536 * (p6 + p7) + 16777216 * p7 := by clear hu hv2; omega
    rw [hq, ht2]
    clear hu hv2 ht2 hq
    omega
end Go.Proofs.Ytcbjdodpgnmhnaa
