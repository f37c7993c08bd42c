/- The rows of a set tell it; no condition beyond the statement's own. -/
namespace Go.Proofs.Ytdoghlojgofmaaa.Pl
/-- Is a number in the set of a tail and a ring? -/
def hasB (t r : List Bool) (n : Nat) : Bool := if n < t.length then t.getD n false else r.getD ((n - t.length) % r.length) false
/-- The ring comes again behind so many signs. -/
def per (r : List Bool) (d : Nat) : Prop := r.length % d = 0 ∧ ∀ i, i < r.length → r.getD i false = r.getD (i % d) false
structure Canon (t r : List Bool) : Prop where
  pos : 0 < r.length
  least : ∀ d, 1 ≤ d → d < r.length → ¬ per r d
  last : ∀ m, t.length = m + 1 → t.getD m false ≠ r.getD (r.length - 1) false

theorem hasB_lt {t r : List Bool} {n : Nat} (h : n < t.length) : hasB t r n = t.getD n false := if_pos h
theorem hasB_ge {t r : List Bool} {n : Nat} (h : t.length ≤ n) : hasB t r n = r.getD ((n - t.length) % r.length) false := if_neg (by omega)
theorem hasB_add (t r : List Bool) (i : Nat) : hasB t r (t.length + i) = r.getD (i % r.length) false := by
  rw [hasB_ge (by omega)]; congr 2; omega
theorem hasB_period {t r : List Bool} {n : Nat} (h : t.length ≤ n) : hasB t r (n + r.length) = hasB t r n := by
  rw [hasB_ge h, hasB_ge (by omega)]
  congr 1
  rw [show n + r.length - t.length = (n - t.length) + r.length from by omega, Nat.add_mod_right]
theorem getD_take {l : List Bool} {d i : Nat} (h : i < d) : (l.take d).getD i false = l.getD i false := by
  simp [List.getD, h]

/-- A shorter ring. -/
theorem has_take {t r : List Bool} {d : Nat} (hd : 1 ≤ d) (hr : 0 < r.length) (h : per r d) (hl : d ≤ r.length) (n : Nat) : hasB t (r.take d) n = hasB t r n := by
  unfold hasB
  split
  · rfl
  · have hx := Nat.mod_lt (n - t.length) hr
    have h2 := h.2 _ hx
    rw [h2]
    have e : (r.take d).length = d := by rw [List.length_take]; omega
    rw [e, getD_take (Nat.mod_lt _ (by omega))]
    congr 1
    rw [Nat.mod_mod_of_dvd _ (Nat.dvd_of_mod_eq_zero h.1)]

theorem per_take {r : List Bool} {d e : Nat} (hd : 1 ≤ d) (_he : 1 ≤ e) (hl : d ≤ r.length) (h : per r d) (k : per (r.take d) e) : per r e := by
  have el : (r.take d).length = d := by rw [List.length_take]; omega
  obtain ⟨k1, k2⟩ := k
  rw [el] at k1 k2
  have hde : e ∣ d := Nat.dvd_of_mod_eq_zero k1
  have hle : e ≤ d := Nat.le_of_dvd (by omega) hde
  refine ⟨?_, fun i hi => ?_⟩
  · exact Nat.mod_eq_zero_of_dvd (Nat.dvd_trans hde (Nat.dvd_of_mod_eq_zero h.1))
  · rw [h.2 i hi, ← getD_take (l := r) (Nat.mod_lt i (by omega)), k2 _ (Nat.mod_lt i (by omega)), Nat.mod_mod_of_dvd _ hde, getD_take (Nat.lt_of_lt_of_le (Nat.mod_lt _ (by omega)) hle)]

/-- The ring turned by one. -/
def rot (r : List Bool) : List Bool := r.getD (r.length - 1) false :: r.dropLast
theorem rot_length {r : List Bool} (h : 0 < r.length) : (rot r).length = r.length := by simp [rot]; omega
theorem rot_get {r : List Bool} {i : Nat} (h : i + 1 < r.length) : (rot r).getD (i + 1) false = r.getD i false := by
  simp only [rot, List.getD, List.getElem?_cons_succ]
  rw [List.getElem?_dropLast, if_pos (by omega)]
theorem rot_get0 (r : List Bool) : (rot r).getD 0 false = r.getD (r.length - 1) false := by simp [rot]
theorem get_rot {r : List Bool} {i : Nat} (h : i < r.length) : r.getD i false = (rot r).getD ((i + 1) % r.length) false := by
  rcases Nat.lt_or_ge (i + 1) r.length with h1 | h1
  · rw [Nat.mod_eq_of_lt h1, rot_get h1]
  · have : i + 1 = r.length := by omega
    rw [this, Nat.mod_self, rot_get0, ← this]; rfl
theorem per_rot {r : List Bool} {d : Nat} (hr : 0 < r.length) (hd : 1 ≤ d) (h : per (rot r) d) : per r d := by
  obtain ⟨h1, h2⟩ := h
  rw [rot_length hr] at h1 h2
  have hdv := Nat.dvd_of_mod_eq_zero h1
  have hle : d ≤ r.length := Nat.le_of_dvd hr hdv
  refine ⟨h1, fun i hi => ?_⟩
  have hm : i % d < r.length := Nat.lt_of_lt_of_le (Nat.mod_lt _ (by omega)) hle
  rw [get_rot hi, get_rot hm, h2 _ (Nat.mod_lt _ hr), h2 ((i % d + 1) % r.length) (Nat.mod_lt _ hr), Nat.mod_mod_of_dvd _ hdv, Nat.mod_mod_of_dvd _ hdv]
  congr 1
  rw [Nat.mod_add_mod]

theorem has_rot {t r : List Bool} {m : Nat} (ht : t.length = m + 1) (hr : 0 < r.length) (hb : t.getD m false = r.getD (r.length - 1) false) (n : Nat) :
    hasB (t.take m) (rot r) n = hasB t r n := by
  have el : (t.take m).length = m := by rw [List.length_take]; omega
  rcases Nat.lt_or_ge n m with h | h
  · rw [hasB_lt (by omega), hasB_lt (by omega), getD_take h]
  · rw [hasB_ge (by omega), el, rot_length hr]
    rcases Nat.eq_or_lt_of_le h with h1 | h1
    · subst h1
      rw [hasB_lt (by omega), hb]
      simp [rot]
    · obtain ⟨x, rfl⟩ : ∃ x, n = t.length + x := ⟨n - t.length, by omega⟩
      rw [hasB_add, get_rot (Nat.mod_lt x hr)]
      congr 1
      rw [show t.length + x - m = x + 1 from by omega, Nat.mod_add_mod]

/-- From one place on it comes again behind a and behind b: it comes again behind their greatest common divisor. -/
theorem period_gcd (f : Nat → Bool) (N a b : Nat) : (∀ n, N ≤ n → f (n + a) = f n) → (∀ n, N ≤ n → f (n + b) = f n) → ∀ n, N ≤ n → f (n + Nat.gcd a b) = f n := by
  induction a, b using Nat.gcd.induction with
  | H0 n => intro _ h; simpa using h
  | H1 m n hm ih =>
    intro ha hb
    rw [Nat.gcd_rec]
    refine ih (fun k hk => ?_) ha
    have h1 : ∀ q, f (k + n % m + q * m) = f (k + n % m) := by
      intro q
      induction q with
      | zero => simp
      | succ q iq => rw [Nat.succ_mul, ← Nat.add_assoc, ha _ (by omega), iq]
    have h2 := h1 (n / m)
    rw [Nat.add_assoc, Nat.add_comm (n % m), Nat.mul_comm, Nat.div_add_mod, hb k hk] at h2
    exact h2.symm

theorem canon_len_le {t r t' r' : List Bool} (h : Canon t r) (_h' : Canon t' r') (e : ∀ n, hasB t r n = hasB t' r' n) : r.length = Nat.gcd r.length r'.length := by
  have hp := period_gcd (hasB t r) (max t.length t'.length) r.length r'.length (fun n hn => hasB_period (by omega)) (fun n hn => by rw [e, e, hasB_period (by omega)])
  have hg : 0 < Nat.gcd r.length r'.length := Nat.gcd_pos_of_pos_left _ h.pos
  have hle := Nat.gcd_le_left r'.length h.pos
  rcases Nat.eq_or_lt_of_le hle with h1 | h1
  · exact h1.symm
  · refine absurd ⟨Nat.mod_eq_zero_of_dvd (Nat.gcd_dvd_left _ _), fun i hi => ?_⟩ (h.least _ hg h1)
    generalize Nat.gcd r.length r'.length = g at *
    have hN : max t.length t'.length ≤ t.length + max t.length t'.length * r.length := by
      have := Nat.le_mul_of_pos_right (max t.length t'.length) h.pos
      omega
    have hr : ∀ j, j < r.length → r.getD j false = hasB t r (t.length + max t.length t'.length * r.length + j) := by
      intro j hj
      rw [Nat.add_assoc, hasB_add, Nat.add_comm, Nat.add_mul_mod_self_right, Nat.mod_eq_of_lt hj]
    have hq : ∀ q y, max t.length t'.length ≤ y → hasB t r (y + q * g) = hasB t r y := by
      intro q y hy
      induction q with
      | zero => simp
      | succ q iq => rw [Nat.succ_mul, ← Nat.add_assoc, hp _ (by omega), iq]
    rw [hr i hi, hr (i % g) (Nat.lt_of_le_of_lt (Nat.mod_le _ _) hi), ← hq (i / g) (t.length + max t.length t'.length * r.length + i % g) (by omega), Nat.add_assoc _ (i % g), Nat.mul_comm (i / g), Nat.mod_add_div]

theorem canon_tail_le {t r t' r' : List Bool} (_h : Canon t r) (h' : Canon t' r') (hl : r.length = r'.length) (e : ∀ n, hasB t r n = hasB t' r' n) : t'.length ≤ t.length := by
  rcases Nat.lt_or_ge t.length t'.length with h1 | h1
  · obtain ⟨m, hm⟩ : ∃ m, t'.length = m + 1 := ⟨t'.length - 1, by omega⟩
    refine absurd ?_ (h'.last m hm)
    have h2 := hasB_period (t := t) (r := r) (n := m) (by omega)
    rw [e, e, hl, hasB_ge (n := m + r'.length) (by have := h'.pos; omega), hasB_lt (n := m) (by omega)] at h2
    rw [← h2]
    congr 1
    have := h'.pos
    rw [show m + r'.length - t'.length = r'.length - 1 from by omega, Nat.mod_eq_of_lt (by omega)]
  · exact h1

theorem ext_getD {a b : List Bool} (h : a.length = b.length) (e : ∀ i, i < a.length → a.getD i false = b.getD i false) : a = b := by
  refine List.ext_getElem h fun i h1 h2 => ?_
  have := e i h1
  simpa [List.getD, h1, h2] using this

/-- The tidy form is the only one. -/
theorem canon_unique {t r t' r' : List Bool} (h : Canon t r) (h' : Canon t' r') (e : ∀ n, hasB t r n = hasB t' r' n) : t = t' ∧ r = r' := by
  have hl : r.length = r'.length := by
    have h1 := canon_len_le h h' e
    have h2 := canon_len_le h' h (fun n => (e n).symm)
    rw [Nat.gcd_comm] at h2
    omega
  have ht : t.length = t'.length := Nat.le_antisymm (canon_tail_le h' h hl.symm fun n => (e n).symm) (canon_tail_le h h' hl e)
  refine ⟨ext_getD ht fun i hi => ?_, ext_getD hl fun i hi => ?_⟩
  · have := e i
    rwa [hasB_lt hi, hasB_lt (by omega)] at this
  · have := e (t.length + i)
    rw [hasB_add, ht, hasB_add, Nat.mod_eq_of_lt hi, Nat.mod_eq_of_lt (by omega)] at this
    exact this

end Go.Proofs.Ytdoghlojgofmaaa.Pl
