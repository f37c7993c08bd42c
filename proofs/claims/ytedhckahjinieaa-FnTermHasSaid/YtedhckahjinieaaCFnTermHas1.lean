/- A term has what its set has; no condition beyond the statement's own. -/
namespace Go.Proofs.Ytedhckahjinieaa.Pl
/-- Is a number in the set of a tail and a ring? -/
def hasB (t r : List Bool) (n : Nat) : Bool := if n < t.length then t.getD n false else r.getD ((n - t.length) % r.length) false
/-- The ring comes again behind so many signs. -/
def per (r : List Bool) (d : Nat) : Prop := r.length % d = 0 ∧ ∀ i, i < r.length → r.getD i false = r.getD (i % d) false
structure Canon (t r : List Bool) : Prop where
 pos : 0 < r.length
 least : ∀ d, 1 ≤ d → d < r.length → ¬ per r d
 last : ∀ m, t.length = m + 1 → t.getD m false ≠ r.getD (r.length - 1) false

theorem hasB_lt {t r : List Bool} {n : Nat} (h : n < t.length) : hasB t r n = t.getD n false := if_pos h
theorem hasB_ge {t r : List Bool} {n : Nat} (h : t.length ≤ n) : hasB t r n = r.getD ((n - t.length) % r.length) false := if_neg (by omega)
theorem hasB_add (t r : List Bool) (i : Nat) : hasB t r (t.length + i) = r.getD (i % r.length) false := by
 rw [hasB_ge (by omega)]; congr 2; omega
theorem hasB_period {t r : List Bool} {n : Nat} (h : t.length ≤ n) : hasB t r (n + r.length) = hasB t r n := by
 rw [hasB_ge h, hasB_ge (by omega)]
 congr 1
 rw [show n + r.length - t.length = (n - t.length) + r.length from by omega, Nat.add_mod_right]
theorem hasB_periods {t r : List Bool} {n : Nat} (h : t.length ≤ n) (m : Nat) : hasB t r (n + m * r.length) = hasB t r n := by
 induction m with
 | zero => simp
 | succ m ih =>
  rw [Nat.succ_mul, ← Nat.add_assoc, hasB_period (by omega), ih]

theorem getD_take {l : List Bool} {d i : Nat} (h : i < d) : (l.take d).getD i false = l.getD i false := by
 simp [List.getD, h]

/-- A shorter ring. -/
theorem has_take {t r : List Bool} {d : Nat} (hd : 1 ≤ d) (hr : 0 < r.length) (h : per r d) (hl : d ≤ r.length) (n : Nat) : hasB t (r.take d) n = hasB t r n := by
 unfold hasB
 split
 ·rfl
 ·have hx := Nat.mod_lt (n - t.length) hr
  have h2 := h.2 _ hx
  rw [h2]
  have e : (r.take d).length = d := by rw [List.length_take]; omega
  rw [e, getD_take (Nat.mod_lt _ (by omega))]
  congr 1
  rw [Nat.mod_mod_of_dvd _ (Nat.dvd_of_mod_eq_zero h.1)]

theorem per_take {r : List Bool} {d e : Nat} (hd : 1 ≤ d) (_he : 1 ≤ e) (hl : d ≤ r.length) (h : per r d) (k : per (r.take d) e) : per r e := by
 have el : (r.take d).length = d := by rw [List.length_take]; omega
 obtain ⟨k1, k2⟩ := k
 rw [el] at k1 k2
 have hde : e ∣ d := Nat.dvd_of_mod_eq_zero k1
 have hle : e ≤ d := Nat.le_of_dvd (by omega) hde
 refine ⟨?_, fun i hi => ?_⟩
 ·exact Nat.mod_eq_zero_of_dvd (Nat.dvd_trans hde (Nat.dvd_of_mod_eq_zero h.1))
 ·rw [h.2 i hi, ← getD_take (l := r) (Nat.mod_lt i (by omega)), k2 _ (Nat.mod_lt i (by omega)), Nat.mod_mod_of_dvd _ hde, getD_take (Nat.lt_of_lt_of_le (Nat.mod_lt _ (by omega)) hle)]

/-- The ring turned by one. -/
def rot (r : List Bool) : List Bool := r.getD (r.length - 1) false :: r.dropLast
theorem rot_length {r : List Bool} (h : 0 < r.length) : (rot r).length = r.length := by simp [rot]; omega
theorem rot_get {r : List Bool} {i : Nat} (h : i + 1 < r.length) : (rot r).getD (i + 1) false = r.getD i false := by
 simp only [rot, List.getD, List.getElem?_cons_succ]
 rw [List.getElem?_dropLast, if_pos (by omega)]
theorem rot_get0 (r : List Bool) : (rot r).getD 0 false = r.getD (r.length - 1) false := by simp [rot]
theorem get_rot {r : List Bool} {i : Nat} (h : i < r.length) : r.getD i false = (rot r).getD ((i + 1) % r.length) false := by
 rcases Nat.lt_or_ge (i + 1) r.length with h1 | h1
 ·rw [Nat.mod_eq_of_lt h1, rot_get h1]
 ·have : i + 1 = r.length := by omega
  rw [this, Nat.mod_self, rot_get0, ← this]; rfl
theorem per_rot {r : List Bool} {d : Nat} (hr : 0 < r.length) (hd : 1 ≤ d) (h : per (rot r) d) : per r d := by
 obtain ⟨h1, h2⟩ := h
 rw [rot_length hr] at h1 h2
 have hdv := Nat.dvd_of_mod_eq_zero h1
 have hle : d ≤ r.length := Nat.le_of_dvd hr hdv
 refine ⟨h1, fun i hi => ?_⟩
 have hm : i % d < r.length := Nat.lt_of_lt_of_le (Nat.mod_lt _ (by omega)) hle
 rw [get_rot hi, get_rot hm, h2 _ (Nat.mod_lt _ hr), h2 ((i % d + 1) % r.length) (Nat.mod_lt _ hr), Nat.mod_mod_of_dvd _ hdv, Nat.mod_mod_of_dvd _ hdv]
 congr 1
 rw [Nat.mod_add_mod]

theorem has_rot {t r : List Bool} {m : Nat} (ht : t.length = m + 1) (hr : 0 < r.length) (hb : t.getD m false = r.getD (r.length - 1) false) (n : Nat) :
  hasB (t.take m) (rot r) n = hasB t r n := by
 have el : (t.take m).length = m := by rw [List.length_take]; omega
 rcases Nat.lt_or_ge n m with h | h
 ·rw [hasB_lt (by omega), hasB_lt (by omega), getD_take h]
 ·rw [hasB_ge (by omega), el, rot_length hr]
  rcases Nat.eq_or_lt_of_le h with h1 | h1
  ·subst h1
   rw [hasB_lt (by omega), hb]
   simp [rot]
  ·obtain ⟨x, rfl⟩ : ∃ x, n = t.length + x := ⟨n - t.length, by omega⟩
   rw [hasB_add, get_rot (Nat.mod_lt x hr)]
   congr 1
   rw [show t.length + x - m = x + 1 from by omega, Nat.mod_add_mod]

/-- From one place on it comes again behind a and behind b: it comes again behind their greatest common divisor. -/
theorem period_gcd (f : Nat → Bool) (N a b : Nat) : (∀ n, N ≤ n → f (n + a) = f n) → (∀ n, N ≤ n → f (n + b) = f n) → ∀ n, N ≤ n → f (n + Nat.gcd a b) = f n := by
 induction a, b using Nat.gcd.induction with
 | H0 n => intro _ h; simpa using h
 | H1 m n hm ih =>
  intro ha hb
  rw [Nat.gcd_rec]
  refine ih (fun k hk => ?_) ha
  have h1 : ∀ q, f (k + n % m + q * m) = f (k + n % m) := by
   intro q
   induction q with
   | zero => simp
   | succ q iq => rw [Nat.succ_mul, ← Nat.add_assoc, ha _ (by omega), iq]
  have h2 := h1 (n / m)
  rw [Nat.add_assoc, Nat.add_comm (n % m), Nat.mul_comm, Nat.div_add_mod, hb k hk] at h2
  exact h2.symm

theorem canon_len_le {t r t' r' : List Bool} (h : Canon t r) (_h' : Canon t' r') (e : ∀ n, hasB t r n = hasB t' r' n) : r.length = Nat.gcd r.length r'.length := by
 have hp := period_gcd (hasB t r) (max t.length t'.length) r.length r'.length (fun n hn => hasB_period (by omega)) (fun n hn => by rw [e, e, hasB_period (by omega)])
 have hg : 0 < Nat.gcd r.length r'.length := Nat.gcd_pos_of_pos_left _ h.pos
 have hle := Nat.gcd_le_left r'.length h.pos
 rcases Nat.eq_or_lt_of_le hle with h1 | h1
 ·exact h1.symm
 ·refine absurd ⟨Nat.mod_eq_zero_of_dvd (Nat.gcd_dvd_left _ _), fun i hi => ?_⟩ (h.least _ hg h1)
  generalize Nat.gcd r.length r'.length = g at *
  have hN : max t.length t'.length ≤ t.length + max t.length t'.length * r.length := by
   have := Nat.le_mul_of_pos_right (max t.length t'.length) h.pos
   omega
  have hr : ∀ j, j < r.length → r.getD j false = hasB t r (t.length + max t.length t'.length * r.length + j) := by
   intro j hj
   rw [Nat.add_assoc, hasB_add, Nat.add_comm, Nat.add_mul_mod_self_right, Nat.mod_eq_of_lt hj]
  have hq : ∀ q y, max t.length t'.length ≤ y → hasB t r (y + q * g) = hasB t r y := by
   intro q y hy
   induction q with
   | zero => simp
   | succ q iq => rw [Nat.succ_mul, ← Nat.add_assoc, hp _ (by omega), iq]
  rw [hr i hi, hr (i % g) (Nat.lt_of_le_of_lt (Nat.mod_le _ _) hi), ← hq (i / g) (t.length + max t.length t'.length * r.length + i % g) (by omega), Nat.add_assoc _ (i % g), Nat.mul_comm (i / g), Nat.mod_add_div]

theorem canon_tail_le {t r t' r' : List Bool} (_h : Canon t r) (h' : Canon t' r') (hl : r.length = r'.length) (e : ∀ n, hasB t r n = hasB t' r' n) : t'.length ≤ t.length := by
 rcases Nat.lt_or_ge t.length t'.length with h1 | h1
 ·obtain ⟨m, hm⟩ : ∃ m, t'.length = m + 1 := ⟨t'.length - 1, by omega⟩
  refine absurd ?_ (h'.last m hm)
  have h2 := hasB_period (t := t) (r := r) (n := m) (by omega)
  rw [e, e, hl, hasB_ge (n := m + r'.length) (by have := h'.pos; omega), hasB_lt (n := m) (by omega)] at h2
  rw [← h2]
  congr 1
  have := h'.pos
  rw [show m + r'.length - t'.length = r'.length - 1 from by omega, Nat.mod_eq_of_lt (by omega)]
 ·exact h1

theorem ext_getD {a b : List Bool} (h : a.length = b.length) (e : ∀ i, i < a.length → a.getD i false = b.getD i false) : a = b := by
 refine List.ext_getElem h fun i h1 h2 => ?_
 have := e i h1
 simpa [List.getD, h1, h2] using this

/-- The tidy form is the only one. -/
theorem canon_unique {t r t' r' : List Bool} (h : Canon t r) (h' : Canon t' r') (e : ∀ n, hasB t r n = hasB t' r' n) : t = t' ∧ r = r' := by
 have hl : r.length = r'.length := by
  have h1 := canon_len_le h h' e
  have h2 := canon_len_le h' h (fun n => (e n).symm)
  rw [Nat.gcd_comm] at h2
  omega
 have ht : t.length = t'.length := Nat.le_antisymm (canon_tail_le h' h hl.symm fun n => (e n).symm) (canon_tail_le h h' hl e)
 refine ⟨ext_getD ht fun i hi => ?_, ext_getD hl fun i hi => ?_⟩
 ·have := e i
  rwa [hasB_lt hi, hasB_lt (by omega)] at this
 ·have := e (t.length + i)
  rw [hasB_add, ht, hasB_add, Nat.mod_eq_of_lt hi, Nat.mod_eq_of_lt (by omega)] at this
  exact this


/-- m is the length of the longest run of f among the first n. -/
structure MaxRun (f : Nat → Bool) (n m : Nat) : Prop where
 most : ∀ a l, a + l ≤ n → (∀ x, a ≤ x → x < a + l → f x = true) → l ≤ m
 some : ∃ a, a + m ≤ n ∧ ∀ x, a ≤ x → x < a + m → f x = true
structure Consec (f : Nat → Bool) (i j : Nat) : Prop where
 lt : i < j
 l : f i = true
 r : f j = true
 gap : ∀ x, i < x → x < j → f x = false
/-- g is the greatest difference of neighbours among the first n, 0 if there are none. -/
structure MaxGap (f : Nat → Bool) (n g : Nat) : Prop where
 most : ∀ i j, j < n → Consec f i j → j - i ≤ g
 some : g = 0 ∨ ∃ i j, j < n ∧ Consec f i j ∧ j - i = g

section
variable {f : Nat → Bool} {L : Nat}
end

section
variable {f : Nat → Bool} {L : Nat}
end


/-- The sum of g over 1 .. n. -/
def S (g : Nat → Nat) : Nat → Nat
 | 0 => 0
 | n + 1 => S g n + g (n + 1)
theorem S_congr {g h : Nat → Nat} {n : Nat} (e : ∀ y, 1 ≤ y → y ≤ n → g y = h y) : S g n = S h n := by
 induction n with
 | zero => rfl
 | succ n ih => simp only [S]; rw [ih fun y a b => e y a (by omega), e (n + 1) (by omega) (by omega)]
theorem S_zero {g : Nat → Nat} {n : Nat} (e : ∀ y, 1 ≤ y → y ≤ n → g y = 0) : S g n = 0 := by
 induction n with
 | zero => rfl
 | succ n ih => simp only [S]; rw [ih fun y a b => e y a (by omega), e (n + 1) (by omega) (by omega)]
theorem S_pos {g : Nat → Nat} {n y : Nat} (h1 : 1 ≤ y) (h2 : y ≤ n) : g y ≤ S g n := by
 induction n with
 | zero => omega
 | succ n ih =>
  simp only [S]
  rcases Nat.lt_or_ge y (n + 1) with h | h
  ·have := ih (by omega); omega
  ·obtain rfl : y = n + 1 := by omega
   omega
theorem S_pos_iff (g : Nat → Nat) (n : Nat) : 0 < S g n ↔ ∃ y, 1 ≤ y ∧ y ≤ n ∧ 0 < g y := by
 constructor
 ·intro h
  refine Classical.byContradiction fun hno => ?_
  have := S_zero (g := g) (n := n) fun y a b => by
   rcases Nat.eq_zero_or_pos (g y) with h | h
   ·exact h
   ·exact absurd ⟨y, a, b, h⟩ hno
  omega
 ·rintro ⟨y, a, b, c⟩
  have := S_pos (g := g) a b
  omega
def tabW (f : Nat → Bool) : Nat → List Nat
 | 0 => [1]
 | n + 1 => tabW f n ++ [S (fun y => if f y = true then (tabW f n).getD (n + 1 - y) 0 else 0) (n + 1)]
def W (f : Nat → Bool) (n : Nat) : Nat := (tabW f n).getD n 0
theorem tabW_length (f : Nat → Bool) (n : Nat) : (tabW f n).length = n + 1 := by
 induction n with
 | zero => rfl
 | succ n ih => simp [tabW, ih]
theorem tabW_get (f : Nat → Bool) (n : Nat) : ∀ i, i ≤ n → (tabW f n).getD i 0 = W f i := by
  induction n with
  | zero => intro i hi; obtain rfl : i = 0 := by omega
            rfl
  | succ n ih =>
    intro i hi
    rcases Nat.lt_or_ge i (n + 1) with h | h
    · rw [← ih i (by omega)]
      simp only [tabW, List.getD]
      rw [List.getElem?_append_left (by rw [tabW_length]; omega)]
    · obtain rfl : i = n + 1 := by omega
      rfl
theorem W_succ (f : Nat → Bool) (n : Nat) : W f (n + 1) = S (fun y => if f y = true then W f (n + 1 - y) else 0) (n + 1) := by
 unfold W
 simp only [tabW]
 rw [show (tabW f n ++ [S (fun y => if f y = true then (tabW f n).getD (n + 1 - y) 0 else 0) (n + 1)]).getD (n + 1) 0 = S (fun y => if f y = true then (tabW f n).getD (n + 1 - y) 0 else 0) (n + 1) from by
  simp only [List.getD]
  rw [List.getElem?_append_right (by rw [tabW_length]; omega), tabW_length, Nat.sub_self]; rfl]
 refine S_congr fun y a b => ?_
 by_cases c : f y = true
 ·rw [if_pos c, if_pos c, tabW_get f n _ (by omega)]; rfl
 ·rw [if_neg c, if_neg c]
theorem W_pos_eq (f : Nat → Bool) {n : Nat} (h : 1 ≤ n) : W f n = S (fun y => if f y = true then W f (n - y) else 0) n := by
 obtain ⟨m, rfl⟩ : ∃ m, n = m + 1 := ⟨n - 1, by omega⟩
 exact W_succ f m
/-- Is a number a sum of numbers of the set? -/
def star (f : Nat → Bool) (n : Nat) : Bool := decide (0 < W f n)
theorem star_zero (f : Nat → Bool) : star f 0 = true := rfl
theorem star_iff (f : Nat → Bool) {n : Nat} (h : 1 ≤ n) : star f n = true ↔ ∃ y, 1 ≤ y ∧ y ≤ n ∧ f y = true ∧ star f (n - y) = true := by
 unfold star
 rw [decide_eq_true_eq, W_pos_eq f h, S_pos_iff]
 constructor
 ·rintro ⟨y, a, b, c⟩
  by_cases d : f y = true
  ·rw [if_pos d] at c; exact ⟨y, a, b, d, by rw [decide_eq_true_eq]; exact c⟩
  ·rw [if_neg d] at c; omega
 ·rintro ⟨y, a, b, d, c⟩
  rw [decide_eq_true_eq] at c
  exact ⟨y, a, b, by rw [if_pos d]; exact c⟩

def P (f : Nat → Bool) : Nat → Nat → Nat
 | 0, n => if n = 0 then 1 else 0
 | k + 1, n => S (fun y => if f y = true then P f k (n - y) else 0) n
def up (y : Nat) (g : Nat → Nat) (k : Nat) : Nat := if _h : y = 0 ∨ k < y then g k else g k + up y g (k - y)
termination_by k
decreasing_by omega
theorem up_lt {y : Nat} {g : Nat → Nat} {k : Nat} (h : k < y) : up y g k = g k := by rw [up, dif_pos (.inr h)]
theorem up_ge {y : Nat} {g : Nat → Nat} {k : Nat} (h1 : 1 ≤ y) (h : y ≤ k) : up y g k = g k + up y g (k - y) := by rw [up, dif_neg (by omega)]
theorem up_self (y : Nat) (g : Nat → Nat) (k : Nat) : g k ≤ up y g k := by
 rw [up]; split
 ·exact Nat.le_refl _
 ·omega
def B (f : Nat → Bool) : Nat → Nat → Nat
 | 0, n => if n = 0 then 1 else 0
 | y + 1, n => if f (y + 1) = true then up (y + 1) (B f y) n else B f y n
def A (f : Nat → Bool) : Nat → Nat → Nat
 | 0, n => if n = 0 then 1 else 0
 | y + 1, n => if f (y + 1) = true then A f y n + (if y + 1 ≤ n then A f y (n - (y + 1)) else 0) else A f y n
theorem B_zero (f : Nat → Bool) (y : Nat) : B f y 0 = 1 := by
 induction y with
 | zero => rfl
 | succ y ih =>
  simp only [B]
  by_cases c : f (y + 1) = true
  ·rw [if_pos c, up_lt (by omega), ih]
  ·rw [if_neg c, ih]
theorem up_pos_iff (y : Nat) (hy : 1 ≤ y) (g : Nat → Nat) (k : Nat) : 0 < up y g k ↔ ∃ j, j * y ≤ k ∧ 0 < g (k - j * y) := by
 induction k using Nat.strongRecOn with
 | _ k ih =>
  rcases Nat.lt_or_ge k y with h | h
  ·rw [up_lt h]
   constructor
   ·intro hp; exact ⟨0, by omega, by simpa using hp⟩
   ·rintro ⟨j, h1, h2⟩
    have : j = 0 := by
     rcases Nat.eq_zero_or_pos j with h3 | h3
     ·exact h3
     ·have := Nat.le_mul_of_pos_left y h3; omega
    subst this; simpa using h2
  ·rw [up_ge hy h]
   constructor
   ·intro hp
    rcases Nat.eq_zero_or_pos (g k) with h0 | h0
    ·obtain ⟨j, h1, h2⟩ := (ih (k - y) (by omega)).1 (by omega)
     exact ⟨j + 1, by rw [Nat.succ_mul]; omega, by rw [Nat.succ_mul, show k - (j * y + y) = k - y - j * y from by omega]; exact h2⟩
    ·exact ⟨0, by omega, by simpa using h0⟩
   ·rintro ⟨j, h1, h2⟩
    cases j with
    | zero => simp at h2; omega
    | succ j =>
     rw [Nat.succ_mul] at h1 h2
     have := (ih (k - y) (by omega)).2 ⟨j, by omega, by rw [show k - y - j * y = k - (j * y + y) from by omega]; exact h2⟩
     omega
theorem B_more (f : Nat → Bool) (y : Nat) : ∀ k z, 1 ≤ z → z ≤ y → f z = true → 0 < B f y k → 0 < B f y (k + z) := by
 induction y with
 | zero => intro k z h1 h2; omega
 | succ y ih =>
  intro k z h1 h2 h3 h4
  simp only [B] at h4 ⊢
  rcases Nat.lt_or_ge z (y + 1) with h | h
  ·by_cases c : f (y + 1) = true
   ·rw [if_pos c] at h4 ⊢
    obtain ⟨j, g1, g2⟩ := (up_pos_iff _ (by omega) _ _).1 h4
    exact (up_pos_iff _ (by omega) _ _).2 ⟨j, by omega, by rw [show k + z - j * (y + 1) = k - j * (y + 1) + z from by omega]; exact ih _ z h1 (by omega) h3 g2⟩
   ·rw [if_neg c] at h4 ⊢; exact ih k z h1 (by omega) h3 h4
  ·obtain rfl : z = y + 1 := by omega
   rw [if_pos h3] at h4 ⊢
   rw [up_ge (by omega) (by omega), Nat.add_sub_cancel]
   omega

/-- Is n a sum of one of a and one of b? -/
def sumB (a b : Nat → Bool) (n : Nat) : Bool := (List.range (n + 1)).any fun k => a k && b (n - k)
theorem sumB_iff (a b : Nat → Bool) (n : Nat) : sumB a b n = true ↔ ∃ k, k ≤ n ∧ a k = true ∧ b (n - k) = true := by
 unfold sumB
 rw [List.any_eq_true]
 constructor
 ·rintro ⟨k, h1, h2⟩
  rw [List.mem_range] at h1
  rw [Bool.and_eq_true] at h2
  exact ⟨k, by omega, h2⟩
 ·rintro ⟨k, h1, h2⟩
  exact ⟨k, List.mem_range.2 (by omega), by rw [Bool.and_eq_true]; exact h2⟩
theorem hasB_add_mul {t r : List Bool} {n : Nat} (h : t.length ≤ n) (m : Nat) (hm : m % r.length = 0) : hasB t r (n + m) = hasB t r n := by
 obtain ⟨q, rfl⟩ := Nat.dvd_of_mod_eq_zero hm
 rw [Nat.mul_comm]
 exact hasB_periods h q
/-- Sums come again. -/
theorem sumB_period {ta ra tc rc : List Bool} (L : Nat) (h1 : L % ra.length = 0) (h2 : L % rc.length = 0) {n : Nat} (hn : ta.length + tc.length + L ≤ n) : sumB (hasB ta ra) (hasB tc rc) (n + L) = sumB (hasB ta ra) (hasB tc rc) n := by
 rw [Bool.eq_iff_iff, sumB_iff, sumB_iff]
 constructor
 ·rintro ⟨k, p, q, r⟩
  rcases Nat.lt_or_ge k (ta.length + L) with c | c
  ·refine ⟨k, by omega, q, ?_⟩
   rw [show n + L - k = (n - k) + L from by omega, hasB_add_mul (by omega) L h2] at r
   exact r
  ·refine ⟨k - L, by omega, ?_, by rw [show n - (k - L) = n + L - k from by omega]; exact r⟩
   rw [← hasB_add_mul (n := k - L) (by omega) L h1, Nat.sub_add_cancel (by omega)]
   exact q
 ·rintro ⟨k, p, q, r⟩
  rcases Nat.lt_or_ge k ta.length with c | c
  ·exact ⟨k, by omega, q, by rw [show n + L - k = (n - k) + L from by omega, hasB_add_mul (by omega) L h2]; exact r⟩
  ·exact ⟨k + L, by omega, by rw [hasB_add_mul c L h1]; exact q, by rw [show n + L - (k + L) = n - k from by omega]; exact r⟩
theorem lcm_small : ∀ p, p ≤ 8 → ∀ q, q ≤ 8 → 1 ≤ p → 1 ≤ q → Nat.lcm p q ≤ 56 := by decide +kernel
theorem lcm_mod_left (p q : Nat) : Nat.lcm p q % p = 0 := Nat.mod_eq_zero_of_dvd (Nat.dvd_lcm_left p q)
theorem lcm_mod_right (p q : Nat) : Nat.lcm p q % q = 0 := Nat.mod_eq_zero_of_dvd (Nat.dvd_lcm_right p q)
theorem lcm_pos {p q : Nat} (hp : 0 < p) (hq : 0 < q) : 0 < Nat.lcm p q := Nat.lcm_pos hp hq

theorem star_step {f : Nat → Bool} {n y : Nat} (h1 : 1 ≤ y) (h2 : f y = true) (h : star f n = true) : star f (n + y) = true :=
 (star_iff f (by omega)).2 ⟨y, h1, by omega, h2, by rw [Nat.add_sub_cancel]; exact h⟩
theorem star_mul {f : Nat → Bool} {n y : Nat} (h1 : 1 ≤ y) (h2 : f y = true) (h : star f n = true) (q : Nat) : star f (n + q * y) = true := by
 induction q with
 | zero => simpa using h
 | succ q ih => rw [Nat.succ_mul, ← Nat.add_assoc]; exact star_step h1 h2 ih
theorem star_add {f : Nat → Bool} (n : Nat) : ∀ k, star f n = true → star f k = true → star f (n + k) = true := by
 intro k
 induction k using Nat.strongRecOn with
 | _ k ih =>
  intro hn hk
  rcases Nat.eq_zero_or_pos k with h0 | h0
  ·subst h0; exact hn
  ·obtain ⟨y, a, b, c, d⟩ := (star_iff f h0).1 hk
   have := star_step a c (ih (k - y) (by omega) hn d)
   rwa [show n + (k - y) + y = n + k from by omega] at this

/-- How much the parts up to y may make, each less than m times. -/
def bnd (m : Nat) : Nat → Nat
 | 0 => 0
 | y + 1 => bnd m y + if m < y + 1 then (m - 1) * (y + 1) else 0
theorem bnd_small : ∀ M m : Fin 17, bnd m.val M.val + 8 * (m.val - 1) + 16 ≤ 999 := by decide +kernel
theorem B_rep {f : Nat → Bool} {m : Nat} (h1 : 1 ≤ m) (hm : ∀ z, 1 ≤ z → z < m → f z = false) (y : Nat) : ∀ n, 0 < B f y n → ∃ s q, n = s + q * m ∧ s ≤ bnd m y ∧ star f s = true := by
 induction y with
 | zero =>
  intro n h
  simp only [B] at h
  have : n = 0 := by
   by_cases c : n = 0
   ·exact c
   ·rw [if_neg c] at h; omega
  exact ⟨0, 0, by omega, Nat.le_refl _, star_zero f⟩
 | succ y ih =>
  intro n h
  simp only [B] at h
  by_cases c : f (y + 1) = true
  ·rw [if_pos c] at h
   obtain ⟨j, g1, g2⟩ := (up_pos_iff _ (by omega) _ _).1 h
   obtain ⟨s, q, e, hs, ht⟩ := ih _ g2
   simp only [bnd]
   rcases Nat.lt_trichotomy (y + 1) m with k | k | k
   ·rw [hm (y + 1) (by omega) k] at c; cases c
   ·subst k
    refine ⟨s, q + j, ?_, by omega, ht⟩
    rw [Nat.add_mul]; omega
   ·refine ⟨s + (j % m) * (y + 1), q + (j / m) * (y + 1), ?_, ?_, star_mul (by omega) c ht _⟩
    ·have e1 : j * (y + 1) = (j % m) * (y + 1) + (j / m) * (y + 1) * m := by
      have := Nat.div_add_mod j m
      calc j * (y + 1) = (m * (j / m) + j % m) * (y + 1) := by rw [this]
       _ = m * (j / m) * (y + 1) + (j % m) * (y + 1) := Nat.add_mul _ _ _
       _ = (j / m) * (y + 1) * m + (j % m) * (y + 1) := by rw [Nat.mul_comm m (j / m), Nat.mul_right_comm]
       _ = _ := Nat.add_comm _ _
     rw [Nat.add_mul]; omega
    ·have : (j % m) * (y + 1) ≤ (m - 1) * (y + 1) := Nat.mul_le_mul_right _ (by have := Nat.mod_lt j h1; omega)
     rw [if_pos k]; omega
  ·rw [if_neg c] at h
   obtain ⟨s, q, e, hs, ht⟩ := ih _ h
   exact ⟨s, q, e, by simp only [bnd]; omega, ht⟩
/-- A sum of numbers of the set, with what goes on and on told by one number of the ring. -/
theorem star_form {t r : List Bool} (hr : 0 < r.length) (n : Nat) (h : star (hasB t r) n = true) :
  0 < B (hasB t r) (t.length + r.length) n ∨ ∃ g k n1, n = g + k * r.length + n1 ∧ t.length ≤ g ∧ 1 ≤ g ∧ g ≤ t.length + r.length ∧ hasB t r g = true ∧ 0 < B (hasB t r) (t.length + r.length) n1 := by
 induction n using Nat.strongRecOn with
 | _ n ih =>
  rcases Nat.eq_zero_or_pos n with h0 | h0
  ·subst h0; exact .inl (by rw [B_zero]; omega)
  ·obtain ⟨y, a, b, c, d⟩ := (star_iff _ h0).1 h
   rcases Nat.lt_or_ge (t.length + r.length) y with hy | hy
   ·-- y is far out
    have hd := Nat.div_add_mod (y - t.length - 1) r.length
    have hl := Nat.mod_lt (y - t.length - 1) hr
    generalize hk : (y - t.length - 1) / r.length = k at hd
    generalize hg : (y - t.length - 1) % r.length = g at hd hl
    rw [Nat.mul_comm] at hd
    have e : y = (t.length + 1 + g) + k * r.length := by omega
    have hf : hasB t r (t.length + 1 + g) = true := by
     rw [← hasB_periods (t := t) (r := r) (n := t.length + 1 + g) (by omega) k, ← e]; exact c
    rcases ih (n - y) (by omega) d with hb | ⟨g', k', n1, e', p1, p2, p3, p4, p5⟩
    ·exact .inr ⟨t.length + 1 + g, k, n - y, by omega, by omega, by omega, by omega, hf, hb⟩
    ·refine .inr ⟨g', k + k', n1 + (t.length + 1 + g), ?_, p1, p2, p3, p4, B_more _ _ _ _ (by omega) (by omega) hf p5⟩
     rw [Nat.add_mul]; omega
   ·rcases ih (n - y) (by omega) d with hb | ⟨g', k', n1, e', p1, p2, p3, p4, p5⟩
    ·have := B_more _ _ _ _ a hy c hb
     rw [Nat.sub_add_cancel b] at this
     exact .inl this
    ·exact .inr ⟨g', k', n1 + y, by omega, p1, p2, p3, p4, B_more _ _ _ _ a hy c p5⟩
/-- From 1000 on the star goes back by the least number of the set. -/
theorem star_back {t r : List Bool} (hr : 0 < r.length) (ht8 : t.length ≤ 8) (hr8 : r.length ≤ 8) {m : Nat} (h1 : 1 ≤ m) (hm : ∀ z, 1 ≤ z → z < m → hasB t r z = false) (hfm : hasB t r m = true) (hM : m ≤ t.length + r.length)
  {n : Nat} (hn : 1000 ≤ n) (h : star (hasB t r) (n + m) = true) : star (hasB t r) n = true := by
 have hb := bnd_small ⟨t.length + r.length, by omega⟩ ⟨m, by omega⟩
 simp only at hb
 have fin : ∀ s q, n + m = s + q * m → s ≤ 999 → star (hasB t r) s = true → star (hasB t r) n = true := by
  intro s q e hs ht
  cases q with
  | zero => omega
  | succ q =>
   rw [Nat.succ_mul] at e
   have := star_mul h1 hfm ht q
   rwa [show s + q * m = n from by omega] at this
 rcases star_form hr _ h with hB | ⟨g, k, n1, e, p1, p2, p3, p4, p5⟩
 ·obtain ⟨s, q, e, hs, ht⟩ := B_rep h1 hm _ _ hB
  exact fin s q e (by omega) ht
 ·obtain ⟨s, q, e2, hs, ht⟩ := B_rep h1 hm _ _ p5
  have hk := Nat.div_add_mod k m
  have hl := Nat.mod_lt k h1
  generalize k / m = a at hk
  generalize k % m = c at hk hl
  subst hk
  refine fin (s + (g + c * r.length)) (q + a * r.length) ?_ ?_ ?_
  ·rw [e, e2, Nat.add_mul, Nat.add_mul, Nat.mul_comm m a, Nat.mul_right_comm a m]
   omega
  ·have : c * r.length ≤ (m - 1) * 8 := Nat.mul_le_mul (by omega) hr8
   omega
  ·refine star_step (by omega) ?_ ht
   rw [hasB_periods p1 c]; exact p4
theorem star_period {t r : List Bool} (hr : 0 < r.length) (ht8 : t.length ≤ 8) (hr8 : r.length ≤ 8) {m : Nat} (h1 : 1 ≤ m) (hm : ∀ z, 1 ≤ z → z < m → hasB t r z = false) (hfm : hasB t r m = true) (hM : m ≤ t.length + r.length)
  {n : Nat} (hn : 1000 ≤ n) : star (hasB t r) (n + m) = star (hasB t r) n := by
 rw [Bool.eq_iff_iff]
 exact ⟨star_back hr ht8 hr8 h1 hm hfm hM hn, star_step h1 hfm⟩
theorem star_none {f : Nat → Bool} (h : ∀ z, 1 ≤ z → f z = false) (n : Nat) : star f n = decide (n = 0) := by
 rcases Nat.eq_zero_or_pos n with h0 | h0
 ·subst h0; rfl
 ·rw [decide_eq_false (by omega)]
  cases hs : star f n with
  | false => rfl
  | true =>
   obtain ⟨y, a, b, c, d⟩ := (star_iff _ h0).1 hs
   rw [h y a] at c; cases c
/-- Without a number up to tail and ring together there is none. -/
theorem none_far {t r : List Bool} (hr : 0 < r.length) (h : ∀ z, 1 ≤ z → z ≤ t.length + r.length → hasB t r z = false) : ∀ z, 1 ≤ z → hasB t r z = false := by
 intro z
 induction z using Nat.strongRecOn with
 | _ z ih =>
  intro h1
  rcases Nat.lt_or_ge (t.length + r.length) z with c | c
  ·have := hasB_period (t := t) (r := r) (n := z - r.length) (by omega)
   rw [Nat.sub_add_cancel (by omega)] at this
   rw [this]; exact ih _ (by omega) (by omega)
  ·exact h z h1 c

end Go.Proofs.Ytedhckahjinieaa.Pl
