/- What DenseCount counts is what SetCount counts behind n, and the program's DenseCount returns what the reference's does; no condition beyond the statement's own. -/
namespace Go.Proofs.Ytbgapjgfocdjoaa.Pl

/-- Is a number in the set of a tail and a ring? -/
def hasB (t r : List Bool) (n : Nat) : Bool := if n < t.length then t.getD n false else r.getD ((n - t.length) % r.length) false
/-- The ring comes again behind so many signs. -/
def per (r : List Bool) (d : Nat) : Prop := r.length % d = 0 ∧ ∀ i, i < r.length → r.getD i false = r.getD (i % d) false
structure Canon (t r : List Bool) : Prop where
  pos : 0 < r.length
  least : ∀ d, 1 ≤ d → d < r.length → ¬ per r d
  last : ∀ m, t.length = m + 1 → t.getD m false ≠ r.getD (r.length - 1) false

theorem hasB_lt {t r : List Bool} {n : Nat} (h : n < t.length) : hasB t r n = t.getD n false := if_pos h
theorem hasB_ge {t r : List Bool} {n : Nat} (h : t.length ≤ n) : hasB t r n = r.getD ((n - t.length) % r.length) false := if_neg (by omega)
end Go.Proofs.Ytbgapjgfocdjoaa.Pl

namespace Go.Proofs.Ytbgapjgfocdjoaa.Pl

/-- m is the length of the longest run of f among the first n. -/
structure MaxRun (f : Nat → Bool) (n m : Nat) : Prop where
  most : ∀ a l, a + l ≤ n → (∀ x, a ≤ x → x < a + l → f x = true) → l ≤ m
  some : ∃ a, a + m ≤ n ∧ ∀ x, a ≤ x → x < a + m → f x = true
structure Consec (f : Nat → Bool) (i j : Nat) : Prop where
  lt : i < j
  l : f i = true
  r : f j = true
  gap : ∀ x, i < x → x < j → f x = false
/-- g is the greatest difference of neighbours among the first n, 0 if there are none. -/
structure MaxGap (f : Nat → Bool) (n g : Nat) : Prop where
  most : ∀ i j, j < n → Consec f i j → j - i ≤ g
  some : g = 0 ∨ ∃ i j, j < n ∧ Consec f i j ∧ j - i = g

section
variable {f : Nat → Bool} {L : Nat}
end

section
variable {f : Nat → Bool} {L : Nat}
end

/-- How many numbers less than n are so. -/
def cnt (f : Nat → Bool) (n : Nat) : Nat := ((List.range n).filter f).length
theorem cnt_succ (f : Nat → Bool) (n : Nat) : cnt f (n + 1) = cnt f n + if f n = true then 1 else 0 := by
  unfold cnt
  rw [List.range_succ, List.filter_append, List.length_append]
  by_cases c : f n = true <;> simp [c]
theorem cnt_le (f : Nat → Bool) (n : Nat) : cnt f n ≤ n := by
  unfold cnt
  exact Nat.le_trans (List.length_filter_le _ _) (by simp)
theorem cnt_mono (f : Nat → Bool) (a b : Nat) : cnt f a ≤ cnt f (a + b) := by
  induction b with
  | zero => exact Nat.le_refl _
  | succ b ih => rw [← Nat.add_assoc, cnt_succ]; omega
end Go.Proofs.Ytbgapjgfocdjoaa.Pl
