/- A run comes again and again: far out there are DenseRun numbers one behind the other, and no more; no condition beyond the statement's own. -/
namespace Go.Proofs.Ytbgapjgfocdjoaa.Pl

/-- Is a number in the set of a tail and a ring? -/
def hasB (t r : List Bool) (n : Nat) : Bool := if n < t.length then t.getD n false else r.getD ((n - t.length) % r.length) false
/-- The ring comes again behind so many signs. -/
def per (r : List Bool) (d : Nat) : Prop := r.length % d = 0 ∧ ∀ i, i < r.length → r.getD i false = r.getD (i % d) false
structure Canon (t r : List Bool) : Prop where
  pos : 0 < r.length
  least : ∀ d, 1 ≤ d → d < r.length → ¬ per r d
  last : ∀ m, t.length = m + 1 → t.getD m false ≠ r.getD (r.length - 1) false

theorem hasB_lt {t r : List Bool} {n : Nat} (h : n < t.length) : hasB t r n = t.getD n false := if_pos h
theorem hasB_ge {t r : List Bool} {n : Nat} (h : t.length ≤ n) : hasB t r n = r.getD ((n - t.length) % r.length) false := if_neg (by omega)
end Go.Proofs.Ytbgapjgfocdjoaa.Pl

namespace Go.Proofs.Ytbgapjgfocdjoaa.Pl

/-- m is the length of the longest run of f among the first n. -/
structure MaxRun (f : Nat → Bool) (n m : Nat) : Prop where
  most : ∀ a l, a + l ≤ n → (∀ x, a ≤ x → x < a + l → f x = true) → l ≤ m
  some : ∃ a, a + m ≤ n ∧ ∀ x, a ≤ x → x < a + m → f x = true
structure Consec (f : Nat → Bool) (i j : Nat) : Prop where
  lt : i < j
  l : f i = true
  r : f j = true
  gap : ∀ x, i < x → x < j → f x = false
/-- g is the greatest difference of neighbours among the first n, 0 if there are none. -/
structure MaxGap (f : Nat → Bool) (n g : Nat) : Prop where
  most : ∀ i j, j < n → Consec f i j → j - i ≤ g
  some : g = 0 ∨ ∃ i j, j < n ∧ Consec f i j ∧ j - i = g

theorem MaxRun.unique {f : Nat → Bool} {n m m' : Nat} (h : MaxRun f n m) (h' : MaxRun f n m') : m = m' := by
  obtain ⟨a, h1, h2⟩ := h.some
  obtain ⟨a', h1', h2'⟩ := h'.some
  exact Nat.le_antisymm (h'.most a m h1 h2) (h.most a' m' h1' h2')

/-- The fold of a run: the longest so far, and the one at the end. -/
def runs (f : Nat → Bool) : Nat → Nat × Nat
  | 0 => (0, 0)
  | i + 1 => (max (runs f i).1 (if f i = true then (runs f i).2 + 1 else 0), if f i = true then (runs f i).2 + 1 else 0)
theorem runs_now (f : Nat → Bool) (i : Nat) : (runs f i).2 ≤ i ∧ (∀ x, i - (runs f i).2 ≤ x → x < i → f x = true) ∧ (∀ a l, a + l = i → (∀ x, a ≤ x → x < a + l → f x = true) → l ≤ (runs f i).2) := by
  induction i with
  | zero => exact ⟨Nat.le_refl _, fun x _ h => absurd h (Nat.not_lt_zero x), fun a l h _ => by simp [runs]; omega⟩
  | succ i ih =>
    obtain ⟨h1, h2, h3⟩ := ih
    simp only [runs]
    by_cases c : f i = true
    · rw [if_pos c]
      refine ⟨by omega, fun x hx hx2 => ?_, fun a l hl hall => ?_⟩
      · rcases Nat.lt_or_ge x i with h | h
        · exact h2 x (by omega) h
        · obtain rfl : x = i := by omega
          exact c
      · cases l with
        | zero => omega
        | succ l => have := h3 a l (by omega) (fun x a1 a2 => hall x a1 (by omega)); omega
    · rw [if_neg c]
      refine ⟨by omega, fun x hx hx2 => by omega, fun a l hl hall => ?_⟩
      cases l with
      | zero => omega
      | succ l => exact absurd (hall i (by omega) (by omega)) c
theorem runs_most (f : Nat → Bool) (i : Nat) : MaxRun f i (runs f i).1 := by
  induction i with
  | zero => exact ⟨fun a l h _ => by simp [runs]; omega, ⟨0, by simp [runs], fun x _ h => by simp [runs] at h⟩⟩
  | succ i ih =>
    have hn := runs_now f (i + 1)
    have e : (runs f (i + 1)).1 = max (runs f i).1 (runs f (i + 1)).2 := rfl
    rw [e]
    obtain ⟨a0, h1, h2⟩ := ih.some
    refine ⟨fun a l hl hall => ?_, ?_⟩
    · rcases Nat.lt_or_ge (a + l) (i + 1) with h | h
      · have := ih.most a l (by omega) hall; omega
      · have := hn.2.2 a l (by omega) hall; omega
    · rcases Nat.le_total (runs f (i + 1)).2 (runs f i).1 with h | h
      · rw [Nat.max_eq_left h]; exact ⟨a0, by omega, h2⟩
      · rw [Nat.max_eq_right h]
        exact ⟨i + 1 - (runs f (i + 1)).2, by have := hn.1; omega, fun x hx hx2 => hn.2.1 x hx (by have := hn.1; omega)⟩

section
variable {f : Nat → Bool} {L : Nat}
theorem per_add (h : ∀ n, f (n + L) = f n) (q n : Nat) : f (n + q * L) = f n := by
  induction q with
  | zero => simp
  | succ q ih => rw [Nat.succ_mul, ← Nat.add_assoc, h, ih]
theorem per_mod (h : ∀ n, f (n + L) = f n) (n : Nat) : f n = f (n % L) := by
  rw [← per_add h (n / L) (n % L), Nat.mul_comm, Nat.mod_add_div]
theorem per_window (h : ∀ n, f (n + L) = f n) (hL : 0 < L) {p : Nat} (hp : f p = true) (b : Nat) : ∃ x, b ≤ x ∧ x < b + L ∧ f x = true := by
  -- the first place from b on that is p modulo L
  refine ⟨b + (p + (L - b % L)) % L, by omega, by have := Nat.mod_lt (p + (L - b % L)) hL; omega, ?_⟩
  rw [per_mod h, ← hp, per_mod h p]
  congr 1
  rw [Nat.add_mod_mod]
  have hb := Nat.mod_add_div b L
  have hm := Nat.mod_lt b hL
  have : b + (p + (L - b % L)) = p + (b / L + 1) * L := by
    rw [Nat.add_mul, Nat.mul_comm (b / L) L]; omega
  rw [this, Nat.add_mul_mod_self_right]
/-- What holds in two rounds from 0 on holds from anywhere on: runs. -/
theorem run_le (h : ∀ n, f (n + L) = f n) (hL : 0 < L) {p : Nat} (hp : f p = false) {m : Nat} (hm : MaxRun f (2 * L) m) (a l : Nat) (hl : ∀ x, a ≤ x → x < a + l → f x = true) : l ≤ m := by
  have hlL : l < L := by
    rcases Nat.lt_or_ge l L with c | c
    · exact c
    · have h' : ∀ n, (!f (n + L)) = !f n := fun n => by rw [h]
      obtain ⟨x, h1, h2, h3⟩ := per_window (f := fun n => !f n) h' hL (p := p) (by simp [hp]) a
      have := hl x h1 (by omega)
      simp [this] at h3
  refine hm.most (a % L) l (by have := Nat.mod_lt a hL; omega) (fun x a1 a2 => ?_)
  have hq := Nat.mod_add_div a L
  have := hl (x + L * (a / L)) (by omega) (by omega)
  rw [Nat.mul_comm, per_add h] at this
  exact this
end

section
variable {f : Nat → Bool} {L : Nat}
theorem same_mod (hL : 0 < L) (a i : Nat) : ∃ i', a ≤ i' ∧ i' < a + L ∧ i' % L = i % L := by
  refine ⟨a + (i + (L - a % L)) % L, by omega, by have := Nat.mod_lt (i + (L - a % L)) hL; omega, ?_⟩
  rw [Nat.add_mod_mod]
  have hb := Nat.mod_add_div a L
  have hm := Nat.mod_lt a hL
  have : a + (i + (L - a % L)) = i + (a / L + 1) * L := by
    rw [Nat.add_mul, Nat.mul_comm (a / L) L]; omega
  rw [this, Nat.add_mul_mod_self_right]
/-- The longest run, seen from a place on. -/
theorem run_window (h : ∀ n, f (n + L) = f n) (hL : 0 < L) {p : Nat} (hp : f p = false) {m n : Nat} (hm : MaxRun f (2 * L) m) (a : Nat) (hn : 3 * L ≤ n) : MaxRun (fun i => f (a + i)) n m := by
  refine ⟨fun b l _ hl => ?_, ?_⟩
  · exact run_le h hL hp hm (a + b) l (fun x a1 a2 => by
      have := hl (x - a) (by omega) (by omega)
      rwa [show a + (x - a) = x from by omega] at this)
  · obtain ⟨b, h1, h2⟩ := hm.some
    obtain ⟨b', e1, e2, e3⟩ := same_mod hL a b
    refine ⟨b' - a, by omega, fun x a1 a2 => ?_⟩
    have hx := h2 (b + (a + x - b')) (by omega) (by omega)
    rw [per_mod h, Nat.add_mod, ← e3, ← Nat.add_mod, ← per_mod h, show b' + (a + x - b') = a + x from by omega] at hx
    exact hx
end

def ringF (r : List Bool) (n : Nat) : Bool := r.getD (n % r.length) false
theorem ringF_per (r : List Bool) (n : Nat) : ringF r (n + r.length) = ringF r n := by unfold ringF; rw [Nat.add_mod_right]
theorem ringF_lt {r : List Bool} {n : Nat} (h : n < r.length) : ringF r n = r.getD n false := by unfold ringF; rw [Nat.mod_eq_of_lt h]
theorem hasB_ring {t r : List Bool} {n : Nat} (h : t.length ≤ n) : hasB t r n = ringF r (n - t.length) := hasB_ge h
theorem hasB_far {t r : List Bool} {n : Nat} (h : t.length ≤ n) (i : Nat) : hasB t r (n + i) = ringF r (n - t.length + i) := by
  rw [hasB_ring (by omega)]; congr 1; omega
end Go.Proofs.Ytbgapjgfocdjoaa.Pl
