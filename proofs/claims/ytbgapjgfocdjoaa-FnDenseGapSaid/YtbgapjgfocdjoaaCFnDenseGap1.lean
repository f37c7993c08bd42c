/- A gap comes again and again: far out there are numbers that differ by DenseGap with none between, and none that differ by more; no condition beyond the statement's own. -/
namespace Go.Proofs.Ytbgapjgfocdjoaa.Pl

/-- Is a number in the set of a tail and a ring? -/
def hasB (t r : List Bool) (n : Nat) : Bool := if n < t.length then t.getD n false else r.getD ((n - t.length) % r.length) false
/-- The ring comes again behind so many signs. -/
def per (r : List Bool) (d : Nat) : Prop := r.length % d = 0 ∧ ∀ i, i < r.length → r.getD i false = r.getD (i % d) false
structure Canon (t r : List Bool) : Prop where
  pos : 0 < r.length
  least : ∀ d, 1 ≤ d → d < r.length → ¬ per r d
  last : ∀ m, t.length = m + 1 → t.getD m false ≠ r.getD (r.length - 1) false

theorem hasB_lt {t r : List Bool} {n : Nat} (h : n < t.length) : hasB t r n = t.getD n false := if_pos h
theorem hasB_ge {t r : List Bool} {n : Nat} (h : t.length ≤ n) : hasB t r n = r.getD ((n - t.length) % r.length) false := if_neg (by omega)
end Go.Proofs.Ytbgapjgfocdjoaa.Pl

namespace Go.Proofs.Ytbgapjgfocdjoaa.Pl

/-- m is the length of the longest run of f among the first n. -/
structure MaxRun (f : Nat → Bool) (n m : Nat) : Prop where
  most : ∀ a l, a + l ≤ n → (∀ x, a ≤ x → x < a + l → f x = true) → l ≤ m
  some : ∃ a, a + m ≤ n ∧ ∀ x, a ≤ x → x < a + m → f x = true
structure Consec (f : Nat → Bool) (i j : Nat) : Prop where
  lt : i < j
  l : f i = true
  r : f j = true
  gap : ∀ x, i < x → x < j → f x = false
/-- g is the greatest difference of neighbours among the first n, 0 if there are none. -/
structure MaxGap (f : Nat → Bool) (n g : Nat) : Prop where
  most : ∀ i j, j < n → Consec f i j → j - i ≤ g
  some : g = 0 ∨ ∃ i j, j < n ∧ Consec f i j ∧ j - i = g

/-- The fold of a run: the longest so far, and the one at the end. -/
def runs (f : Nat → Bool) : Nat → Nat × Nat
  | 0 => (0, 0)
  | i + 1 => (max (runs f i).1 (if f i = true then (runs f i).2 + 1 else 0), if f i = true then (runs f i).2 + 1 else 0)
theorem runs_now (f : Nat → Bool) (i : Nat) : (runs f i).2 ≤ i ∧ (∀ x, i - (runs f i).2 ≤ x → x < i → f x = true) ∧ (∀ a l, a + l = i → (∀ x, a ≤ x → x < a + l → f x = true) → l ≤ (runs f i).2) := by
  induction i with
  | zero => exact ⟨Nat.le_refl _, fun x _ h => absurd h (Nat.not_lt_zero x), fun a l h _ => by simp [runs]; omega⟩
  | succ i ih =>
    obtain ⟨h1, h2, h3⟩ := ih
    simp only [runs]
    by_cases c : f i = true
    · rw [if_pos c]
      refine ⟨by omega, fun x hx hx2 => ?_, fun a l hl hall => ?_⟩
      · rcases Nat.lt_or_ge x i with h | h
        · exact h2 x (by omega) h
        · obtain rfl : x = i := by omega
          exact c
      · cases l with
        | zero => omega
        | succ l => have := h3 a l (by omega) (fun x a1 a2 => hall x a1 (by omega)); omega
    · rw [if_neg c]
      refine ⟨by omega, fun x hx hx2 => by omega, fun a l hl hall => ?_⟩
      cases l with
      | zero => omega
      | succ l => exact absurd (hall i (by omega) (by omega)) c
theorem runs_most (f : Nat → Bool) (i : Nat) : MaxRun f i (runs f i).1 := by
  induction i with
  | zero => exact ⟨fun a l h _ => by simp [runs]; omega, ⟨0, by simp [runs], fun x _ h => by simp [runs] at h⟩⟩
  | succ i ih =>
    have hn := runs_now f (i + 1)
    have e : (runs f (i + 1)).1 = max (runs f i).1 (runs f (i + 1)).2 := rfl
    rw [e]
    obtain ⟨a0, h1, h2⟩ := ih.some
    refine ⟨fun a l hl hall => ?_, ?_⟩
    · rcases Nat.lt_or_ge (a + l) (i + 1) with h | h
      · have := ih.most a l (by omega) hall; omega
      · have := hn.2.2 a l (by omega) hall; omega
    · rcases Nat.le_total (runs f (i + 1)).2 (runs f i).1 with h | h
      · rw [Nat.max_eq_left h]; exact ⟨a0, by omega, h2⟩
      · rw [Nat.max_eq_right h]
        exact ⟨i + 1 - (runs f (i + 1)).2, by have := hn.1; omega, fun x hx hx2 => hn.2.1 x hx (by have := hn.1; omega)⟩

theorem last_before (f : Nat → Bool) (b : Nat) : (∃ x, x < b ∧ f x = true) → ∃ i, i < b ∧ f i = true ∧ ∀ y, i < y → y < b → f y = false := by
  induction b with
  | zero => rintro ⟨x, h, _⟩; omega
  | succ b ih =>
    rintro ⟨x, h1, h2⟩
    by_cases c : f b = true
    · exact ⟨b, by omega, c, fun y a1 a2 => by omega⟩
    · have hx : x < b := by
        rcases Nat.lt_or_ge x b with h | h
        · exact h
        · obtain rfl : x = b := by omega
          exact absurd h2 c
      obtain ⟨i, g1, g2, g3⟩ := ih ⟨x, hx, h2⟩
      refine ⟨i, by omega, g2, fun y a1 a2 => ?_⟩
      rcases Nat.lt_or_ge y b with h | h
      · exact g3 y a1 h
      · obtain rfl : y = b := by omega
        simpa using c
theorem first_from (f : Nat → Bool) (d : Nat) : ∀ b, (∃ x, b ≤ x ∧ x < b + d ∧ f x = true) → ∃ j, b ≤ j ∧ j < b + d ∧ f j = true ∧ ∀ y, b ≤ y → y < j → f y = false := by
  induction d with
  | zero => rintro b ⟨x, h1, h2, _⟩; omega
  | succ d ih =>
    rintro b ⟨x, h1, h2, h3⟩
    by_cases c : f b = true
    · exact ⟨b, by omega, by omega, c, fun y a1 a2 => by omega⟩
    · have hx : b + 1 ≤ x := by
        rcases Nat.lt_or_ge b x with h | h
        · exact h
        · obtain rfl : x = b := by omega
          exact absurd h3 c
      obtain ⟨j, g1, g2, g3, g4⟩ := ih (b + 1) ⟨x, hx, by omega, h3⟩
      refine ⟨j, by omega, by omega, g3, fun y a1 a2 => ?_⟩
      rcases Nat.lt_or_ge b y with h | h
      · exact g4 y h a2
      · obtain rfl : y = b := by omega
        simpa using c

/-- The fold of a gap: the last one so far, if there is one, and the greatest difference. -/
def gaps (f : Nat → Bool) : Nat → Option Nat × Nat
  | 0 => (none, 0)
  | i + 1 => if f i = true then (some i, match (gaps f i).1 with | none => (gaps f i).2 | some l => max (gaps f i).2 (i - l)) else gaps f i
theorem gaps_last (f : Nat → Bool) (i : Nat) : match (gaps f i).1 with | none => ∀ x, x < i → f x = false | some l => l < i ∧ f l = true ∧ ∀ x, l < x → x < i → f x = false := by
  induction i with
  | zero => exact fun x h => absurd h (Nat.not_lt_zero x)
  | succ i ih =>
    simp only [gaps]
    by_cases c : f i = true
    · rw [if_pos c]
      exact ⟨by omega, c, fun x a1 a2 => by omega⟩
    · rw [if_neg c]
      cases h : (gaps f i).1 with
      | none =>
        rw [h] at ih
        intro x hx
        rcases Nat.lt_or_ge x i with h | h
        · exact ih x h
        · obtain rfl : x = i := by omega
          simpa using c
      | some l =>
        rw [h] at ih
        refine ⟨by omega, ih.2.1, fun x a1 a2 => ?_⟩
        rcases Nat.lt_or_ge x i with h | h
        · exact ih.2.2 x a1 h
        · obtain rfl : x = i := by omega
          simpa using c
theorem gaps_most (f : Nat → Bool) (i : Nat) : MaxGap f i (gaps f i).2 := by
  induction i with
  | zero => exact ⟨fun i j h _ => absurd h (Nat.not_lt_zero j), .inl rfl⟩
  | succ i ih =>
    have hl := gaps_last f i
    simp only [gaps]
    by_cases c : f i = true
    · rw [if_pos c]
      cases h : (gaps f i).1 with
      | none =>
        rw [h] at hl
        refine ⟨fun a b hb hc => ?_, ?_⟩
        · rcases Nat.lt_or_ge b i with h1 | h1
          · exact ih.most a b h1 hc
          · obtain rfl : b = i := by omega
            exact absurd hc.l (by rw [hl a hc.lt]; simp)
        · rcases ih.some with h1 | ⟨a, b, h1, h2, h3⟩
          · exact .inl h1
          · exact .inr ⟨a, b, by omega, h2, h3⟩
      | some l =>
        rw [h] at hl
        have hli : Consec f l i := ⟨hl.1, hl.2.1, c, hl.2.2⟩
        show MaxGap f (i + 1) (max (gaps f i).2 (i - l))
        refine ⟨fun a b hb hc => ?_, ?_⟩
        · rcases Nat.lt_or_ge b i with h1 | h1
          · exact Nat.le_trans (ih.most a b h1 hc) (Nat.le_max_left _ _)
          · obtain rfl : b = i := by omega
            have : a = l := by
              rcases Nat.lt_trichotomy a l with h2 | h2 | h2
              · exact absurd hl.2.1 (by rw [hc.gap l h2 hl.1]; simp)
              · exact h2
              · exact absurd hc.l (by rw [hl.2.2 a h2 hc.lt]; simp)
            subst this
            exact Nat.le_max_right _ _
        · rcases Nat.le_total (i - l) (gaps f i).2 with h1 | h1
          · rw [Nat.max_eq_left h1]
            rcases ih.some with h2 | ⟨a, b, h2, h3, h4⟩
            · exact .inl h2
            · exact .inr ⟨a, b, by omega, h3, h4⟩
          · rw [Nat.max_eq_right h1]
            exact .inr ⟨l, i, by omega, hli, rfl⟩
    · rw [if_neg c]
      refine ⟨fun a b hb hc => ?_, ?_⟩
      · rcases Nat.lt_or_ge b i with h1 | h1
        · exact ih.most a b h1 hc
        · obtain rfl : b = i := by omega
          exact absurd hc.r c
      · rcases ih.some with h1 | ⟨a, b, h1, h2, h3⟩
        · exact .inl h1
        · exact .inr ⟨a, b, by omega, h2, h3⟩

section
variable {f : Nat → Bool} {L : Nat}
theorem per_add (h : ∀ n, f (n + L) = f n) (q n : Nat) : f (n + q * L) = f n := by
  induction q with
  | zero => simp
  | succ q ih => rw [Nat.succ_mul, ← Nat.add_assoc, h, ih]
theorem per_mod (h : ∀ n, f (n + L) = f n) (n : Nat) : f n = f (n % L) := by
  rw [← per_add h (n / L) (n % L), Nat.mul_comm, Nat.mod_add_div]
theorem per_window (h : ∀ n, f (n + L) = f n) (hL : 0 < L) {p : Nat} (hp : f p = true) (b : Nat) : ∃ x, b ≤ x ∧ x < b + L ∧ f x = true := by
  -- the first place from b on that is p modulo L
  refine ⟨b + (p + (L - b % L)) % L, by omega, by have := Nat.mod_lt (p + (L - b % L)) hL; omega, ?_⟩
  rw [per_mod h, ← hp, per_mod h p]
  congr 1
  rw [Nat.add_mod_mod]
  have hb := Nat.mod_add_div b L
  have hm := Nat.mod_lt b hL
  have : b + (p + (L - b % L)) = p + (b / L + 1) * L := by
    rw [Nat.add_mul, Nat.mul_comm (b / L) L]; omega
  rw [this, Nat.add_mul_mod_self_right]
theorem Consec.shift (h : ∀ n, f (n + L) = f n) {i j : Nat} (hc : Consec f i j) (q : Nat) : Consec f (i + q * L) (j + q * L) :=
  ⟨by have := hc.lt; omega, by rw [per_add h]; exact hc.l, by rw [per_add h]; exact hc.r, fun x a1 a2 => by
    obtain ⟨y, rfl⟩ : ∃ y, x = y + q * L := ⟨x - q * L, by omega⟩
    rw [per_add h]; exact hc.gap y (by omega) (by omega)⟩
theorem Consec.unshift (h : ∀ n, f (n + L) = f n) {i j q : Nat} (hc : Consec f (i + q * L) (j + q * L)) : Consec f i j :=
  ⟨by have := hc.lt; omega, by rw [← per_add h q]; exact hc.l, by rw [← per_add h q]; exact hc.r, fun x a1 a2 => by
    rw [← per_add h q]; exact hc.gap _ (by omega) (by omega)⟩
theorem Consec.le (h : ∀ n, f (n + L) = f n) (hL : 0 < L) {i j : Nat} (hc : Consec f i j) : j ≤ i + L := by
  rcases Nat.lt_or_ge (i + L) j with h1 | h1
  · exact absurd hc.l (by rw [← h i, hc.gap _ (by omega) h1]; simp)
  · exact h1
/-- Round the ring: gaps are runs of the others and one. -/
theorem gap_run (h : ∀ n, f (n + L) = f n) (hL : 0 < L) {p : Nat} (hp : f p = true) {m g : Nat} (hm : MaxRun (fun n => !f n) (2 * L) m) (hg : MaxGap f (2 * L) g) : g = m + 1 := by
  refine Nat.le_antisymm ?_ ?_
  · rcases hg.some with h1 | ⟨i, j, h1, h2, h3⟩
    · omega
    · have := hm.most (i + 1) (j - i - 1) (by have := h2.lt; omega) (fun x a1 a2 => by
        have := h2.gap x (by omega) (by omega)
        simp [this])
      omega
  · obtain ⟨a, h1, h2⟩ := hm.some
    obtain ⟨x, hx1, hx2, hx3⟩ := per_window h hL hp a
    obtain ⟨i, hi1, hi2, hi3⟩ := last_before f (a + L) ⟨x, hx2, hx3⟩
    obtain ⟨j, hj1, hj2, hj3, hj4⟩ := first_from f L (a + L + m) (per_window h hL hp _)
    have hc : Consec f i j := by
      refine ⟨by omega, hi2, hj3, fun y a1 a2 => ?_⟩
      rcases Nat.lt_or_ge y (a + L) with c | c
      · exact hi3 y a1 c
      · rcases Nat.lt_or_ge y (a + L + m) with c2 | c2
        · obtain ⟨z, rfl⟩ : ∃ z, y = z + L := ⟨y - L, by omega⟩
          have := h2 z (by omega) (by omega)
          rw [h]; simpa using this
        · exact hj4 y c2 a2
    have hle := hc.le h hL
    have hq := Nat.mod_add_div i L
    have hmi := Nat.mod_lt i hL
    have hc2 : Consec f (i % L) (j - L * (i / L)) := by
      refine Consec.unshift h (q := i / L) ?_
      rw [Nat.mul_comm (i / L) L, hq, Nat.sub_add_cancel (by omega)]
      exact hc
    have := hg.most _ _ (by omega) hc2
    omega
end

section
variable {f : Nat → Bool} {L : Nat}
theorem Consec.move (h : ∀ n, f (n + L) = f n) {i j i' : Nat} (hc : Consec f i j) (e : i' % L = i % L) : Consec f i' (i' + (j - i)) := by
  have h1 := Nat.mod_add_div i L
  have h2 := Nat.mod_add_div i' L
  have hlt := hc.lt
  have hc1 : Consec f (i % L + i / L * L) (i % L + (j - i) + i / L * L) := by
    rw [Nat.mul_comm (i / L) L, h1, show i % L + (j - i) + L * (i / L) = j from by omega]; exact hc
  have hc2 := (hc1.unshift h).shift h (i' / L)
  rw [Nat.mul_comm (i' / L) L] at hc2
  rw [show i % L + L * (i' / L) = i' from by omega, show i % L + (j - i) + L * (i' / L) = i' + (j - i) from by omega] at hc2
  exact hc2
theorem same_mod (hL : 0 < L) (a i : Nat) : ∃ i', a ≤ i' ∧ i' < a + L ∧ i' % L = i % L := by
  refine ⟨a + (i + (L - a % L)) % L, by omega, by have := Nat.mod_lt (i + (L - a % L)) hL; omega, ?_⟩
  rw [Nat.add_mod_mod]
  have hb := Nat.mod_add_div a L
  have hm := Nat.mod_lt a hL
  have : a + (i + (L - a % L)) = i + (a / L + 1) * L := by
    rw [Nat.add_mul, Nat.mul_comm (a / L) L]; omega
  rw [this, Nat.add_mul_mod_self_right]
theorem gap_le (h : ∀ n, f (n + L) = f n) (hL : 0 < L) {g : Nat} (hg : MaxGap f (2 * L) g) {i j : Nat} (hc : Consec f i j) : j - i ≤ g := by
  have h1 := hc.move h (i' := i % L) (by rw [Nat.mod_mod])
  have h2 := h1.le h hL
  have h3 := Nat.mod_lt i hL
  have := hg.most _ _ (by omega) h1
  omega
/-- The greatest gap, seen from a place on, in a window that is long enough. -/
theorem gap_window (h : ∀ n, f (n + L) = f n) (hL : 0 < L) {g n : Nat} (hg : MaxGap f (2 * L) g) (hg1 : 1 ≤ g) (a : Nat) (hn : 3 * L ≤ n) : MaxGap (fun i => f (a + i)) n g := by
  have tr : ∀ i j, Consec (fun i => f (a + i)) i j → Consec f (a + i) (a + j) := fun i j hc =>
    ⟨by have := hc.lt; omega, hc.l, hc.r, fun x a1 a2 => by
      obtain ⟨y, rfl⟩ : ∃ y, x = a + y := ⟨x - a, by omega⟩
      exact hc.gap y (by omega) (by omega)⟩
  refine ⟨fun i j _ hc => ?_, ?_⟩
  · have := gap_le h hL hg (tr i j hc)
    omega
  · rcases hg.some with h1 | ⟨i, j, h1, h2, h3⟩
    · omega
    · obtain ⟨i', e1, e2, e3⟩ := same_mod hL a i
      have hc := h2.move h e3
      refine .inr ⟨i' - a, i' - a + (j - i), by omega, ⟨by have := h2.lt; omega, by rw [show a + (i' - a) = i' from by omega]; exact hc.l, by rw [show a + (i' - a + (j - i)) = i' + (j - i) from by omega]; exact hc.r, fun x a1 a2 => hc.gap (a + x) (by omega) (by omega)⟩, by omega⟩
end

def ringF (r : List Bool) (n : Nat) : Bool := r.getD (n % r.length) false
theorem ringF_per (r : List Bool) (n : Nat) : ringF r (n + r.length) = ringF r n := by unfold ringF; rw [Nat.add_mod_right]
theorem ringF_lt {r : List Bool} {n : Nat} (h : n < r.length) : ringF r n = r.getD n false := by unfold ringF; rw [Nat.mod_eq_of_lt h]
theorem hasB_ring {t r : List Bool} {n : Nat} (h : t.length ≤ n) : hasB t r n = ringF r (n - t.length) := hasB_ge h
theorem hasB_far {t r : List Bool} {n : Nat} (h : t.length ≤ n) (i : Nat) : hasB t r (n + i) = ringF r (n - t.length + i) := by
  rw [hasB_ring (by omega)]; congr 1; omega
end Go.Proofs.Ytbgapjgfocdjoaa.Pl
