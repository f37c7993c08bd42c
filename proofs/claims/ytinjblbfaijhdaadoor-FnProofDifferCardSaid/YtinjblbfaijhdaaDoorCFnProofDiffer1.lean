/- The law FnProofDiffer holds for all that it draws. -/
namespace Go.Proofs.YtinjblbfaijhdaaDoor.Pl
/-- Is a number in the set of a tail and a ring? -/
def hasB (t r : List Bool) (n : Nat) : Bool := if n < t.length then t.getD n false else r.getD ((n - t.length) % r.length) false
/-- The ring comes again behind so many signs. -/
def per (r : List Bool) (d : Nat) : Prop := r.length % d = 0 ∧ ∀ i, i < r.length → r.getD i false = r.getD (i % d) false
structure Canon (t r : List Bool) : Prop where
  pos : 0 < r.length
  least : ∀ d, 1 ≤ d → d < r.length → ¬ per r d
  last : ∀ m, t.length = m + 1 → t.getD m false ≠ r.getD (r.length - 1) false

theorem hasB_lt {t r : List Bool} {n : Nat} (h : n < t.length) : hasB t r n = t.getD n false := if_pos h
theorem hasB_ge {t r : List Bool} {n : Nat} (h : t.length ≤ n) : hasB t r n = r.getD ((n - t.length) % r.length) false := if_neg (by omega)
theorem hasB_add (t r : List Bool) (i : Nat) : hasB t r (t.length + i) = r.getD (i % r.length) false := by
  rw [hasB_ge (by omega)]; congr 2; omega
theorem hasB_period {t r : List Bool} {n : Nat} (h : t.length ≤ n) : hasB t r (n + r.length) = hasB t r n := by
  rw [hasB_ge h, hasB_ge (by omega)]
  congr 1
  rw [show n + r.length - t.length = (n - t.length) + r.length from by omega, Nat.add_mod_right]
theorem hasB_periods {t r : List Bool} {n : Nat} (h : t.length ≤ n) (m : Nat) : hasB t r (n + m * r.length) = hasB t r n := by
  induction m with
  | zero => simp
  | succ m ih =>
    rw [Nat.succ_mul, ← Nat.add_assoc, hasB_period (by omega), ih]

theorem getD_take {l : List Bool} {d i : Nat} (h : i < d) : (l.take d).getD i false = l.getD i false := by
  simp [List.getD, h]

/-- A shorter ring. -/
theorem has_take {t r : List Bool} {d : Nat} (hd : 1 ≤ d) (hr : 0 < r.length) (h : per r d) (hl : d ≤ r.length) (n : Nat) : hasB t (r.take d) n = hasB t r n := by
  unfold hasB
  split
  · rfl
  · have hx := Nat.mod_lt (n - t.length) hr
    have h2 := h.2 _ hx
    rw [h2]
    have e : (r.take d).length = d := by rw [List.length_take]; omega
    rw [e, getD_take (Nat.mod_lt _ (by omega))]
    congr 1
    rw [Nat.mod_mod_of_dvd _ (Nat.dvd_of_mod_eq_zero h.1)]

theorem per_take {r : List Bool} {d e : Nat} (hd : 1 ≤ d) (_he : 1 ≤ e) (hl : d ≤ r.length) (h : per r d) (k : per (r.take d) e) : per r e := by
  have el : (r.take d).length = d := by rw [List.length_take]; omega
  obtain ⟨k1, k2⟩ := k
  rw [el] at k1 k2
  have hde : e ∣ d := Nat.dvd_of_mod_eq_zero k1
  have hle : e ≤ d := Nat.le_of_dvd (by omega) hde
  refine ⟨?_, fun i hi => ?_⟩
  · exact Nat.mod_eq_zero_of_dvd (Nat.dvd_trans hde (Nat.dvd_of_mod_eq_zero h.1))
  · rw [h.2 i hi, ← getD_take (l := r) (Nat.mod_lt i (by omega)), k2 _ (Nat.mod_lt i (by omega)), Nat.mod_mod_of_dvd _ hde, getD_take (Nat.lt_of_lt_of_le (Nat.mod_lt _ (by omega)) hle)]

/-- The ring turned by one. -/
def rot (r : List Bool) : List Bool := r.getD (r.length - 1) false :: r.dropLast
theorem rot_length {r : List Bool} (h : 0 < r.length) : (rot r).length = r.length := by simp [rot]; omega
theorem rot_get {r : List Bool} {i : Nat} (h : i + 1 < r.length) : (rot r).getD (i + 1) false = r.getD i false := by
  simp only [rot, List.getD, List.getElem?_cons_succ]
  rw [List.getElem?_dropLast, if_pos (by omega)]
theorem rot_get0 (r : List Bool) : (rot r).getD 0 false = r.getD (r.length - 1) false := by simp [rot]
theorem get_rot {r : List Bool} {i : Nat} (h : i < r.length) : r.getD i false = (rot r).getD ((i + 1) % r.length) false := by
  rcases Nat.lt_or_ge (i + 1) r.length with h1 | h1
  · rw [Nat.mod_eq_of_lt h1, rot_get h1]
  · have : i + 1 = r.length := by omega
    rw [this, Nat.mod_self, rot_get0, ← this]; rfl
theorem per_rot {r : List Bool} {d : Nat} (hr : 0 < r.length) (hd : 1 ≤ d) (h : per (rot r) d) : per r d := by
  obtain ⟨h1, h2⟩ := h
  rw [rot_length hr] at h1 h2
  have hdv := Nat.dvd_of_mod_eq_zero h1
  have hle : d ≤ r.length := Nat.le_of_dvd hr hdv
  refine ⟨h1, fun i hi => ?_⟩
  have hm : i % d < r.length := Nat.lt_of_lt_of_le (Nat.mod_lt _ (by omega)) hle
  rw [get_rot hi, get_rot hm, h2 _ (Nat.mod_lt _ hr), h2 ((i % d + 1) % r.length) (Nat.mod_lt _ hr), Nat.mod_mod_of_dvd _ hdv, Nat.mod_mod_of_dvd _ hdv]
  congr 1
  rw [Nat.mod_add_mod]

theorem has_rot {t r : List Bool} {m : Nat} (ht : t.length = m + 1) (hr : 0 < r.length) (hb : t.getD m false = r.getD (r.length - 1) false) (n : Nat) :
    hasB (t.take m) (rot r) n = hasB t r n := by
  have el : (t.take m).length = m := by rw [List.length_take]; omega
  rcases Nat.lt_or_ge n m with h | h
  · rw [hasB_lt (by omega), hasB_lt (by omega), getD_take h]
  · rw [hasB_ge (by omega), el, rot_length hr]
    rcases Nat.eq_or_lt_of_le h with h1 | h1
    · subst h1
      rw [hasB_lt (by omega), hb]
      simp [rot]
    · obtain ⟨x, rfl⟩ : ∃ x, n = t.length + x := ⟨n - t.length, by omega⟩
      rw [hasB_add, get_rot (Nat.mod_lt x hr)]
      congr 1
      rw [show t.length + x - m = x + 1 from by omega, Nat.mod_add_mod]

/-- From one place on it comes again behind a and behind b: it comes again behind their greatest common divisor. -/
theorem period_gcd (f : Nat → Bool) (N a b : Nat) : (∀ n, N ≤ n → f (n + a) = f n) → (∀ n, N ≤ n → f (n + b) = f n) → ∀ n, N ≤ n → f (n + Nat.gcd a b) = f n := by
  induction a, b using Nat.gcd.induction with
  | H0 n => intro _ h; simpa using h
  | H1 m n hm ih =>
    intro ha hb
    rw [Nat.gcd_rec]
    refine ih (fun k hk => ?_) ha
    have h1 : ∀ q, f (k + n % m + q * m) = f (k + n % m) := by
      intro q
      induction q with
      | zero => simp
      | succ q iq => rw [Nat.succ_mul, ← Nat.add_assoc, ha _ (by omega), iq]
    have h2 := h1 (n / m)
    rw [Nat.add_assoc, Nat.add_comm (n % m), Nat.mul_comm, Nat.div_add_mod, hb k hk] at h2
    exact h2.symm

theorem canon_len_le {t r t' r' : List Bool} (h : Canon t r) (_h' : Canon t' r') (e : ∀ n, hasB t r n = hasB t' r' n) : r.length = Nat.gcd r.length r'.length := by
  have hp := period_gcd (hasB t r) (max t.length t'.length) r.length r'.length (fun n hn => hasB_period (by omega)) (fun n hn => by rw [e, e, hasB_period (by omega)])
  have hg : 0 < Nat.gcd r.length r'.length := Nat.gcd_pos_of_pos_left _ h.pos
  have hle := Nat.gcd_le_left r'.length h.pos
  rcases Nat.eq_or_lt_of_le hle with h1 | h1
  · exact h1.symm
  · refine absurd ⟨Nat.mod_eq_zero_of_dvd (Nat.gcd_dvd_left _ _), fun i hi => ?_⟩ (h.least _ hg h1)
    generalize Nat.gcd r.length r'.length = g at *
    have hN : max t.length t'.length ≤ t.length + max t.length t'.length * r.length := by
      have := Nat.le_mul_of_pos_right (max t.length t'.length) h.pos
      omega
    have hr : ∀ j, j < r.length → r.getD j false = hasB t r (t.length + max t.length t'.length * r.length + j) := by
      intro j hj
      rw [Nat.add_assoc, hasB_add, Nat.add_comm, Nat.add_mul_mod_self_right, Nat.mod_eq_of_lt hj]
    have hq : ∀ q y, max t.length t'.length ≤ y → hasB t r (y + q * g) = hasB t r y := by
      intro q y hy
      induction q with
      | zero => simp
      | succ q iq => rw [Nat.succ_mul, ← Nat.add_assoc, hp _ (by omega), iq]
    rw [hr i hi, hr (i % g) (Nat.lt_of_le_of_lt (Nat.mod_le _ _) hi), ← hq (i / g) (t.length + max t.length t'.length * r.length + i % g) (by omega), Nat.add_assoc _ (i % g), Nat.mul_comm (i / g), Nat.mod_add_div]

theorem canon_tail_le {t r t' r' : List Bool} (_h : Canon t r) (h' : Canon t' r') (hl : r.length = r'.length) (e : ∀ n, hasB t r n = hasB t' r' n) : t'.length ≤ t.length := by
  rcases Nat.lt_or_ge t.length t'.length with h1 | h1
  · obtain ⟨m, hm⟩ : ∃ m, t'.length = m + 1 := ⟨t'.length - 1, by omega⟩
    refine absurd ?_ (h'.last m hm)
    have h2 := hasB_period (t := t) (r := r) (n := m) (by omega)
    rw [e, e, hl, hasB_ge (n := m + r'.length) (by have := h'.pos; omega), hasB_lt (n := m) (by omega)] at h2
    rw [← h2]
    congr 1
    have := h'.pos
    rw [show m + r'.length - t'.length = r'.length - 1 from by omega, Nat.mod_eq_of_lt (by omega)]
  · exact h1

theorem ext_getD {a b : List Bool} (h : a.length = b.length) (e : ∀ i, i < a.length → a.getD i false = b.getD i false) : a = b := by
  refine List.ext_getElem h fun i h1 h2 => ?_
  have := e i h1
  simpa [List.getD, h1, h2] using this

/-- The tidy form is the only one. -/
theorem canon_unique {t r t' r' : List Bool} (h : Canon t r) (h' : Canon t' r') (e : ∀ n, hasB t r n = hasB t' r' n) : t = t' ∧ r = r' := by
  have hl : r.length = r'.length := by
    have h1 := canon_len_le h h' e
    have h2 := canon_len_le h' h (fun n => (e n).symm)
    rw [Nat.gcd_comm] at h2
    omega
  have ht : t.length = t'.length := Nat.le_antisymm (canon_tail_le h' h hl.symm fun n => (e n).symm) (canon_tail_le h h' hl e)
  refine ⟨ext_getD ht fun i hi => ?_, ext_getD hl fun i hi => ?_⟩
  · have := e i
    rwa [hasB_lt hi, hasB_lt (by omega)] at this
  · have := e (t.length + i)
    rw [hasB_add, ht, hasB_add, Nat.mod_eq_of_lt hi, Nat.mod_eq_of_lt (by omega)] at this
    exact this


/-- m is the length of the longest run of f among the first n. -/
structure MaxRun (f : Nat → Bool) (n m : Nat) : Prop where
  most : ∀ a l, a + l ≤ n → (∀ x, a ≤ x → x < a + l → f x = true) → l ≤ m
  some : ∃ a, a + m ≤ n ∧ ∀ x, a ≤ x → x < a + m → f x = true
structure Consec (f : Nat → Bool) (i j : Nat) : Prop where
  lt : i < j
  l : f i = true
  r : f j = true
  gap : ∀ x, i < x → x < j → f x = false
/-- g is the greatest difference of neighbours among the first n, 0 if there are none. -/
structure MaxGap (f : Nat → Bool) (n g : Nat) : Prop where
  most : ∀ i j, j < n → Consec f i j → j - i ≤ g
  some : g = 0 ∨ ∃ i j, j < n ∧ Consec f i j ∧ j - i = g

theorem MaxRun.unique {f : Nat → Bool} {n m m' : Nat} (h : MaxRun f n m) (h' : MaxRun f n m') : m = m' := by
  obtain ⟨a, h1, h2⟩ := h.some
  obtain ⟨a', h1', h2'⟩ := h'.some
  exact Nat.le_antisymm (h'.most a m h1 h2) (h.most a' m' h1' h2')

section
variable {f : Nat → Bool} {L : Nat}
end

section
variable {f : Nat → Bool} {L : Nat}
end

/-- How many numbers less than n are so. -/
def cnt (f : Nat → Bool) (n : Nat) : Nat := ((List.range n).filter f).length

/-- The sum of g over 1 .. n. -/
def S (g : Nat → Nat) : Nat → Nat
  | 0 => 0
  | n + 1 => S g n + g (n + 1)
/-- The sum of g over 0 .. n - 1. -/
def Z (g : Nat → Nat) : Nat → Nat
  | 0 => 0
  | n + 1 => Z g n + g n
theorem S_congr {g h : Nat → Nat} {n : Nat} (e : ∀ y, 1 ≤ y → y ≤ n → g y = h y) : S g n = S h n := by
  induction n with
  | zero => rfl
  | succ n ih => simp only [S]; rw [ih fun y a b => e y a (by omega), e (n + 1) (by omega) (by omega)]
theorem S_add (g h : Nat → Nat) (n : Nat) : S (fun y => g y + h y) n = S g n + S h n := by
  induction n with
  | zero => rfl
  | succ n ih => simp only [S]; rw [ih]; omega
theorem S_zero {g : Nat → Nat} {n : Nat} (e : ∀ y, 1 ≤ y → y ≤ n → g y = 0) : S g n = 0 := by
  induction n with
  | zero => rfl
  | succ n ih => simp only [S]; rw [ih fun y a b => e y a (by omega), e (n + 1) (by omega) (by omega)]
theorem Z_congr {g h : Nat → Nat} {n : Nat} (e : ∀ y, y < n → g y = h y) : Z g n = Z h n := by
  induction n with
  | zero => rfl
  | succ n ih => simp only [Z]; rw [ih fun y a => e y (by omega), e n (by omega)]
theorem Z_shift (g : Nat → Nat) (n : Nat) : Z g (n + 1) = g 0 + Z (fun k => g (k + 1)) n := by
  induction n with
  | zero => simp [Z]
  | succ n ih =>
    have : Z g (n + 1 + 1) = Z g (n + 1) + g (n + 1) := rfl
    rw [this, ih]; simp only [Z]; omega
theorem Z_pos {g : Nat → Nat} {n y : Nat} (h2 : y < n) : g y ≤ Z g n := by
  induction n with
  | zero => omega
  | succ n ih =>
    simp only [Z]
    rcases Nat.lt_or_ge y n with h | h
    · have := ih (by omega); omega
    · obtain rfl : y = n := by omega
      omega
theorem Z_more {g : Nat → Nat} {m n : Nat} (h : m ≤ n) (e : ∀ y, m ≤ y → y < n → g y = 0) : Z g n = Z g m := by
  induction n with
  | zero => obtain rfl : m = 0 := by omega
            rfl
  | succ n ih =>
    rcases Nat.lt_or_ge m (n + 1) with h1 | h1
    · simp only [Z]; rw [ih (by omega) fun y a b => e y a (by omega), e n (by omega) (by omega)]; rfl
    · obtain rfl : m = n + 1 := by omega
      rfl
theorem Z_S_swap (g : Nat → Nat → Nat) (n m : Nat) : Z (fun k => S (g k) n) m = S (fun y => Z (fun k => g k y) m) n := by
  induction m with
  | zero => simp only [Z]; exact (S_zero fun _ _ _ => rfl).symm
  | succ m ih => simp only [Z]; rw [ih, ← S_add]
def tabW (f : Nat → Bool) : Nat → List Nat
  | 0 => [1]
  | n + 1 => tabW f n ++ [S (fun y => if f y = true then (tabW f n).getD (n + 1 - y) 0 else 0) (n + 1)]
def W (f : Nat → Bool) (n : Nat) : Nat := (tabW f n).getD n 0
theorem tabW_length (f : Nat → Bool) (n : Nat) : (tabW f n).length = n + 1 := by
  induction n with
  | zero => rfl
  | succ n ih => simp [tabW, ih]
theorem tabW_get (f : Nat → Bool) (n : Nat) : ∀ i, i ≤ n → (tabW f n).getD i 0 = W f i := by
  induction n with
  | zero => intro i hi; obtain rfl : i = 0 := by omega
            rfl
  | succ n ih =>
    intro i hi
    rcases Nat.lt_or_ge i (n + 1) with h | h
    · rw [← ih i (by omega)]
      simp only [tabW, List.getD]
      rw [List.getElem?_append_left (by rw [tabW_length]; omega)]
    · obtain rfl : i = n + 1 := by omega
      rfl
theorem W_succ (f : Nat → Bool) (n : Nat) : W f (n + 1) = S (fun y => if f y = true then W f (n + 1 - y) else 0) (n + 1) := by
  unfold W
  simp only [tabW]
  rw [show (tabW f n ++ [S (fun y => if f y = true then (tabW f n).getD (n + 1 - y) 0 else 0) (n + 1)]).getD (n + 1) 0 = S (fun y => if f y = true then (tabW f n).getD (n + 1 - y) 0 else 0) (n + 1) from by
    simp only [List.getD]
    rw [List.getElem?_append_right (by rw [tabW_length]; omega), tabW_length, Nat.sub_self]; rfl]
  refine S_congr fun y a b => ?_
  by_cases c : f y = true
  · rw [if_pos c, if_pos c, tabW_get f n _ (by omega)]; rfl
  · rw [if_neg c, if_neg c]
theorem W_pos_eq (f : Nat → Bool) {n : Nat} (h : 1 ≤ n) : W f n = S (fun y => if f y = true then W f (n - y) else 0) n := by
  obtain ⟨m, rfl⟩ : ∃ m, n = m + 1 := ⟨n - 1, by omega⟩
  exact W_succ f m
/-- Is a number a sum of numbers of the set? -/
def star (f : Nat → Bool) (n : Nat) : Bool := decide (0 < W f n)
def P (f : Nat → Bool) : Nat → Nat → Nat
  | 0, n => if n = 0 then 1 else 0
  | k + 1, n => S (fun y => if f y = true then P f k (n - y) else 0) n
theorem P_far (f : Nat → Bool) (k : Nat) : ∀ n, n < k → P f k n = 0 := by
  induction k with
  | zero => intro n h; omega
  | succ k ih =>
    intro n h
    simp only [P]
    refine S_zero fun y a b => ?_
    by_cases c : f y = true
    · rw [if_pos c]; exact ih _ (by omega)
    · rw [if_neg c]
theorem P_sum (f : Nat → Bool) (n : Nat) : ∀ N, n < N → Z (fun k => P f k n) N = W f n := by
  induction n using Nat.strongRecOn with
  | _ n ih =>
    intro N hN
    obtain ⟨M, rfl⟩ : ∃ M, N = M + 1 := ⟨N - 1, by omega⟩
    rw [Z_shift]
    rcases Nat.eq_zero_or_pos n with h0 | h0
    · subst h0
      have : Z (fun k => P f (k + 1) 0) M = Z (fun _ => 0) M := Z_congr fun y _ => by simp only [P, S]
      rw [this, Z_more (m := 0) (by omega) (fun _ _ _ => rfl)]; rfl
    · have : P f 0 n = 0 := by simp only [P]; rw [if_neg (by omega)]
      rw [this, W_pos_eq f h0]
      simp only [P]
      rw [Z_S_swap, Nat.zero_add]
      refine S_congr fun y a b => ?_
      by_cases c : f y = true
      · simp only [if_pos c]; exact ih (n - y) (by omega) M (by omega)
      · simp only [if_neg c]; exact (Z_more (m := 0) (by omega) fun _ _ _ => rfl)
theorem P_le (f : Nat → Bool) (k n : Nat) : P f k n ≤ W f n := by
  rcases Nat.lt_or_ge n k with h | h
  · rw [P_far f k n h]; omega
  · rw [← P_sum f n (n + 1) (by omega)]
    exact Z_pos (g := fun k => P f k n) (by omega)

def up (y : Nat) (g : Nat → Nat) (k : Nat) : Nat := if _h : y = 0 ∨ k < y then g k else g k + up y g (k - y)
termination_by k
decreasing_by omega
def B (f : Nat → Bool) : Nat → Nat → Nat
  | 0, n => if n = 0 then 1 else 0
  | y + 1, n => if f (y + 1) = true then up (y + 1) (B f y) n else B f y n
def A (f : Nat → Bool) : Nat → Nat → Nat
  | 0, n => if n = 0 then 1 else 0
  | y + 1, n => if f (y + 1) = true then A f y n + (if y + 1 ≤ n then A f y (n - (y + 1)) else 0) else A f y n

theorem lcm_pos {p q : Nat} (hp : 0 < p) (hq : 0 < q) : 0 < Nat.lcm p q := Nat.lcm_pos hp hq

def one (b : Bool) : Nat := if b = true then 1 else 0
structure Few (f : Nat → Bool) (n m : Nat) : Prop where
  way : 0 < P f m n
  least : ∀ k, k < m → P f k n = 0
theorem Few.unique {f : Nat → Bool} {n m m' : Nat} (h : Few f n m) (h' : Few f n m') : m = m' := by
  rcases Nat.lt_trichotomy m m' with c | c | c
  · have := h'.least m c; have := h.way; omega
  · exact c
  · have := h.least m' c; have := h'.way; omega
theorem Few.star {f : Nat → Bool} {n m : Nat} (h : Few f n m) : star f n = true := by
  unfold Pl.star; rw [decide_eq_true_eq]
  exact Nat.lt_of_lt_of_le h.way (P_le f m n)
def stepOk (f : Nat → Bool) (n y : Nat) : Bool := decide (1 ≤ y) && f y && decide (y ≤ n) && star f (n - y)
/-- y is the first number of the first way to n. -/
structure Fst (f : Nat → Bool) (n y : Nat) : Prop where
  ok : stepOk f n y = true
  least : ∀ z, z < y → stepOk f n z = false
/-- l is the first way to n. -/
inductive First (f : Nat → Bool) : Nat → List Nat → Prop
  | zero : First f 0 []
  | step {n y : Nat} {l : List Nat} : 1 ≤ n → Fst f n y → First f (n - y) l → First f n (y :: l)

end Go.Proofs.YtinjblbfaijhdaaDoor.Pl
