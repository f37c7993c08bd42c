/- The program's DenseRun returns what the reference's returns, for all arguments; no condition beyond the statement's own. -/
namespace Go.Proofs.Ytbgapjgfocdjoaa.Pl

/-- Is a number in the set of a tail and a ring? -/
def hasB (t r : List Bool) (n : Nat) : Bool := if n < t.length then t.getD n false else r.getD ((n - t.length) % r.length) false
/-- The ring comes again behind so many signs. -/
def per (r : List Bool) (d : Nat) : Prop := r.length % d = 0 ∧ ∀ i, i < r.length → r.getD i false = r.getD (i % d) false
structure Canon (t r : List Bool) : Prop where
  pos : 0 < r.length
  least : ∀ d, 1 ≤ d → d < r.length → ¬ per r d
  last : ∀ m, t.length = m + 1 → t.getD m false ≠ r.getD (r.length - 1) false

end Go.Proofs.Ytbgapjgfocdjoaa.Pl

namespace Go.Proofs.Ytbgapjgfocdjoaa.Pl

/-- m is the length of the longest run of f among the first n. -/
structure MaxRun (f : Nat → Bool) (n m : Nat) : Prop where
  most : ∀ a l, a + l ≤ n → (∀ x, a ≤ x → x < a + l → f x = true) → l ≤ m
  some : ∃ a, a + m ≤ n ∧ ∀ x, a ≤ x → x < a + m → f x = true
structure Consec (f : Nat → Bool) (i j : Nat) : Prop where
  lt : i < j
  l : f i = true
  r : f j = true
  gap : ∀ x, i < x → x < j → f x = false
/-- g is the greatest difference of neighbours among the first n, 0 if there are none. -/
structure MaxGap (f : Nat → Bool) (n g : Nat) : Prop where
  most : ∀ i j, j < n → Consec f i j → j - i ≤ g
  some : g = 0 ∨ ∃ i j, j < n ∧ Consec f i j ∧ j - i = g

/-- The fold of a run: the longest so far, and the one at the end. -/
def runs (f : Nat → Bool) : Nat → Nat × Nat
  | 0 => (0, 0)
  | i + 1 => (max (runs f i).1 (if f i = true then (runs f i).2 + 1 else 0), if f i = true then (runs f i).2 + 1 else 0)
theorem runs_now (f : Nat → Bool) (i : Nat) : (runs f i).2 ≤ i ∧ (∀ x, i - (runs f i).2 ≤ x → x < i → f x = true) ∧ (∀ a l, a + l = i → (∀ x, a ≤ x → x < a + l → f x = true) → l ≤ (runs f i).2) := by
  induction i with
  | zero => exact ⟨Nat.le_refl _, fun x _ h => absurd h (Nat.not_lt_zero x), fun a l h _ => by simp [runs]; omega⟩
  | succ i ih =>
    obtain ⟨h1, h2, h3⟩ := ih
    simp only [runs]
    by_cases c : f i = true
    · rw [if_pos c]
      refine ⟨by omega, fun x hx hx2 => ?_, fun a l hl hall => ?_⟩
      · rcases Nat.lt_or_ge x i with h | h
        · exact h2 x (by omega) h
        · obtain rfl : x = i := by omega
          exact c
      · cases l with
        | zero => omega
        | succ l => have := h3 a l (by omega) (fun x a1 a2 => hall x a1 (by omega)); omega
    · rw [if_neg c]
      refine ⟨by omega, fun x hx hx2 => by omega, fun a l hl hall => ?_⟩
      cases l with
      | zero => omega
      | succ l => exact absurd (hall i (by omega) (by omega)) c
section
variable {f : Nat → Bool} {L : Nat}
end

def ringF (r : List Bool) (n : Nat) : Bool := r.getD (n % r.length) false
end Go.Proofs.Ytbgapjgfocdjoaa.Pl
