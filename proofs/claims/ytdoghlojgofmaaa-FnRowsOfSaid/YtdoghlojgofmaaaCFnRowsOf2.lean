/- The rows of a set tell it; no condition beyond the statement's own. -/
import Derived.KernelRfl
namespace Go.Proofs.Ytdoghlojgofmaaa.Pl
/-- From a beginning on by a step: the rows have all these numbers (as rests). -/
def Cov (b s : Nat) (l : List (Nat × Nat)) : Prop := ∀ n, n % s = b % s → ∃ x ∈ l, n % x.2 = x.1 % x.2
def meetsN (b s : Nat) (x : Nat × Nat) : Bool := b % Nat.gcd s x.2 == x.1 % Nat.gcd s x.2
def partsN (s : Nat) (x : Nat × Nat) : Nat := x.2 / Nat.gcd s x.2
theorem no_meet {b s c t n : Nat} (h : ¬ b % Nat.gcd s t = c % Nat.gcd s t) (h1 : n % s = b % s) (h2 : n % t = c % t) : False := by
  apply h
  rw [← Nat.mod_mod_of_dvd b (Nat.gcd_dvd_left s t), ← h1, Nat.mod_mod_of_dvd n (Nat.gcd_dvd_left s t), ← Nat.mod_mod_of_dvd n (Nat.gcd_dvd_right s t), h2, Nat.mod_mod_of_dvd c (Nat.gcd_dvd_right s t)]
theorem cov_filter (b s : Nat) (l : List (Nat × Nat)) : Cov b s l ↔ Cov b s (l.filter (meetsN b s)) := by
  constructor
  · intro h n hn
    obtain ⟨x, hx, hr⟩ := h n hn
    refine ⟨x, List.mem_filter.2 ⟨hx, ?_⟩, hr⟩
    unfold meetsN
    rw [beq_iff_eq]
    exact Decidable.byContradiction fun c => no_meet c hn hr
  · intro h n hn
    obtain ⟨x, hx, hr⟩ := h n hn
    exact ⟨x, (List.mem_filter.1 hx).1, hr⟩
theorem cov_one {b s : Nat} {l : List (Nat × Nat)} {x : Nat × Nat} (hx : x ∈ l) (hm : meetsN b s x = true) (h1 : partsN s x = 1) : Cov b s l := by
  intro n hn
  unfold meetsN at hm
  rw [beq_iff_eq] at hm
  unfold partsN at h1
  have hg := Nat.gcd_dvd_right s x.2
  have he : x.2 = Nat.gcd s x.2 := by
    have := Nat.div_mul_cancel hg
    rw [h1, Nat.one_mul] at this
    exact this.symm
  refine ⟨x, hx, ?_⟩
  rw [← he] at hm
  have hd : x.2 ∣ s := by have := Nat.gcd_dvd_left s x.2; rwa [← he] at this
  rw [← hm, ← Nat.mod_mod_of_dvd n hd, hn, Nat.mod_mod_of_dvd b hd]
theorem cov_split (b s p : Nat) (hs : 0 < s) (hp : 0 < p) (l : List (Nat × Nat)) : Cov b s l ↔ ∀ i, i < p → Cov (b + i * s) (s * p) l := by
  constructor
  · intro h i _ n hn
    refine h n ?_
    have hd : s ∣ s * p := ⟨p, rfl⟩
    rw [← Nat.mod_mod_of_dvd n hd, hn, Nat.mod_mod_of_dvd _ hd, Nat.add_mul_mod_self_right]
  · intro h n hn
    have hN := Nat.mod_lt (n / s) hp
    have hB := Nat.mod_lt (b / s) hp
    have key : ∃ i, i < p ∧ (b / s + i) % p = n / s % p := by
      rcases Nat.lt_or_ge (n / s % p) (b / s % p) with c | c
      · refine ⟨n / s % p + p - b / s % p, by omega, ?_⟩
        rw [Nat.add_mod, Nat.mod_eq_of_lt (show n / s % p + p - b / s % p < p by omega), show b / s % p + (n / s % p + p - b / s % p) = n / s % p + p by omega, Nat.add_mod_right, Nat.mod_eq_of_lt hN]
      · refine ⟨n / s % p - b / s % p, by omega, ?_⟩
        rw [Nat.add_mod, Nat.mod_eq_of_lt (show n / s % p - b / s % p < p by omega), show b / s % p + (n / s % p - b / s % p) = n / s % p by omega, Nat.mod_eq_of_lt hN]
    obtain ⟨i, hi, e⟩ := key
    refine h i hi n ?_
    rw [Nat.mod_mul, Nat.mod_mul, Nat.add_mul_mod_self_right, hn, Nat.add_mul_div_right _ _ hs, e]

def chk60 : Bool := (List.range 61).all fun L => decide (L = 0) || decide (60 % L ≠ 0) || (List.range L).all fun z => ((List.range 60).countP fun n => n % L == z) == 60 / L
theorem chk60_ok : chk60 = true := by kernel_rfl
theorem cnt60 {L : Nat} (hL : L ∣ 60) (z : Nat) : ((List.range 60).countP fun n => n % L == z % L) = 60 / L := by
  have h0 : 0 < L := Nat.pos_of_dvd_of_pos hL (by omega)
  have h1 : L ≤ 60 := Nat.le_of_dvd (by omega) hL
  have hc := chk60_ok
  unfold chk60 at hc
  have h2 := List.all_eq_true.1 hc L (List.mem_range.2 (by omega))
  rw [decide_eq_false (by omega), decide_eq_false (by have := Nat.mod_eq_zero_of_dvd hL; omega), Bool.false_or, Bool.false_or] at h2
  exact beq_iff_eq.1 (List.all_eq_true.1 h2 (z % L) (List.mem_range.2 (Nat.mod_lt z h0)))
theorem mod_of_dvd_sub {n z L : Nat} (h : z ≤ n) (hd : L ∣ n - z) : n % L = z % L := by
  obtain ⟨q, hq⟩ := hd
  rw [show n = z + L * q by omega, Nat.add_mul_mod_self_left]
theorem mod_lcm {n z s t : Nat} (h1 : n % s = z % s) (h2 : n % t = z % t) : n % Nat.lcm s t = z % Nat.lcm s t := by
  rcases Nat.le_total z n with c | c
  · exact mod_of_dvd_sub c (Nat.lcm_dvd (Nat.dvd_of_mod_eq_zero (Nat.sub_mod_eq_zero_of_mod_eq h1)) (Nat.dvd_of_mod_eq_zero (Nat.sub_mod_eq_zero_of_mod_eq h2)))
  · exact (mod_of_dvd_sub c (Nat.lcm_dvd (Nat.dvd_of_mod_eq_zero (Nat.sub_mod_eq_zero_of_mod_eq h1.symm)) (Nat.dvd_of_mod_eq_zero (Nat.sub_mod_eq_zero_of_mod_eq h2.symm)))).symm
theorem cnt_both {s t : Nat} (hs : s ∣ 60) (ht : t ∣ 60) (b c : Nat) : ((List.range 60).countP fun n => (n % s == b % s) && (n % t == c % t)) ≤ 60 / Nat.lcm s t := by
  by_cases h : ∃ z, z % s = b % s ∧ z % t = c % t
  · obtain ⟨z, h1, h2⟩ := h
    rw [← cnt60 (Nat.lcm_dvd hs ht) z]
    refine List.countP_mono_left fun n _ hn => ?_
    rw [Bool.and_eq_true, beq_iff_eq, beq_iff_eq] at hn
    rw [beq_iff_eq]
    exact mod_lcm (hn.1.trans h1.symm) (hn.2.trans h2.symm)
  · have : ((List.range 60).countP fun n => (n % s == b % s) && (n % t == c % t)) = 0 := List.countP_eq_zero.2 fun n _ hn => by
      rw [Bool.and_eq_true, beq_iff_eq, beq_iff_eq] at hn
      exact h ⟨n, hn⟩
    rw [this]; exact Nat.zero_le _
theorem union_cnt (N : List Nat) (Q : Nat × Nat → Nat → Bool) : ∀ (l : List (Nat × Nat)) (P : Nat → Bool), (∀ n ∈ N, P n = true → ∃ x ∈ l, Q x n = true) → N.countP P ≤ (l.map fun x => N.countP fun n => P n && Q x n).sum := by
  intro l
  induction l with
  | nil =>
    intro P h
    have : N.countP P = 0 := List.countP_eq_zero.2 fun n hn hp => by
      obtain ⟨x, hx, _⟩ := h n hn hp
      cases hx
    omega
  | cons x l ih =>
    intro P h
    have h1 := ih (fun n => P n && !Q x n) (fun n hn hp => by
      rw [Bool.and_eq_true, Bool.not_eq_true'] at hp
      obtain ⟨y, hy, hq⟩ := h n hn hp.1
      rcases List.mem_cons.1 hy with rfl | hy
      · rw [hp.2] at hq; cases hq
      · exact ⟨y, hy, hq⟩)
    have h2 : (l.map fun y => N.countP fun n => (P n && !Q x n) && Q y n).sum ≤ (l.map fun y => N.countP fun n => P n && Q y n).sum := by
      clear ih h h1
      induction l with
      | nil => simp
      | cons y l ih =>
        rw [List.map_cons, List.map_cons, List.sum_cons, List.sum_cons]
        have : (N.countP fun n => (P n && !Q x n) && Q y n) ≤ N.countP fun n => P n && Q y n := List.countP_mono_left fun n _ hn => by
          simp only [Bool.and_eq_true] at hn ⊢
          exact ⟨hn.1.1, hn.2⟩
        omega
    have h3 : N.countP P = (N.countP fun n => P n && Q x n) + (N.countP fun n => P n && !Q x n) := by
      clear ih h h1 h2
      induction N with
      | nil => rfl
      | cons n N ih =>
        rw [List.countP_cons, List.countP_cons, List.countP_cons, ih]
        cases P n <;> cases Q x n <;> simp <;> omega
    rw [List.map_cons, List.sum_cons]
    omega
theorem share_eq {s t : Nat} (hs : s ∣ 60) (ht : t ∣ 60) : s * (60 / Nat.lcm s t) = 60 / (t / Nat.gcd s t) := by
  have h0 : 0 < s := Nat.pos_of_dvd_of_pos hs (by omega)
  have h1 : 0 < t := Nat.pos_of_dvd_of_pos ht (by omega)
  have hl : Nat.lcm s t = s * (t / Nat.gcd s t) := Nat.mul_div_assoc s (Nat.gcd_dvd_right s t)
  obtain ⟨m, hm⟩ := Nat.lcm_dvd hs ht
  have hq : 0 < t / Nat.gcd s t := Nat.div_pos (Nat.le_of_dvd h1 (Nat.gcd_dvd_right s t)) (Nat.gcd_pos_of_pos_left _ h0)
  generalize t / Nat.gcd s t = q at hl hq ⊢
  rw [hl] at hm ⊢
  rw [hm, Nat.mul_div_cancel_left _ (Nat.mul_pos h0 hq), Nat.mul_comm s q, Nat.mul_assoc, Nat.mul_div_cancel_left _ hq]
def shares (s : Nat) (l : List (Nat × Nat)) : Nat := (l.map fun x => 60 / partsN s x).sum
theorem cov_shares {b s : Nat} (hs : s ∣ 60) {l : List (Nat × Nat)} (hl : ∀ x ∈ l, x.2 ∣ 60) (h : Cov b s l) : 60 ≤ shares s l := by
  have h1 := union_cnt (List.range 60) (fun x n => n % x.2 == x.1 % x.2) l (fun n => n % s == b % s) (fun n _ hn => by
    obtain ⟨x, hx, hr⟩ := h n (beq_iff_eq.1 hn)
    exact ⟨x, hx, beq_iff_eq.2 hr⟩)
  rw [cnt60 hs b] at h1
  have h2 : s * (l.map fun x => (List.range 60).countP fun n => (n % s == b % s) && (n % x.2 == x.1 % x.2)).sum ≤ shares s l := by
    unfold shares
    clear h h1
    induction l with
    | nil => simp
    | cons x l ih =>
      rw [List.map_cons, List.map_cons, List.sum_cons, List.sum_cons, Nat.mul_add]
      have a := ih (fun y hy => hl y (List.mem_cons_of_mem _ hy))
      have hx := hl x (List.mem_cons_self ..)
      have c := Nat.mul_le_mul_left s (cnt_both hs hx b x.1)
      rw [share_eq hs hx] at c
      unfold partsN at a ⊢
      omega
  have h3 := Nat.mul_le_mul_left s h1
  rw [Nat.mul_div_cancel' hs] at h3
  omega
theorem step_dvd {s t p : Nat} (hs : s ∣ 60) (ht : t ∣ 60) (hp : p ∣ t / Nat.gcd s t) : s * p ∣ 60 := by
  have hl : Nat.lcm s t = s * (t / Nat.gcd s t) := Nat.mul_div_assoc s (Nat.gcd_dvd_right s t)
  refine Nat.dvd_trans ?_ (Nat.lcm_dvd hs ht)
  rw [hl]
  exact Nat.mul_dvd_mul (Nat.dvd_refl s) hp

def Un (l : List (Nat × Nat)) (n : Nat) : Prop := ∃ x ∈ l, n % x.2 = x.1 % x.2
theorem add_mod_of {n d g : Nat} (h : g ∣ d) : (n + d) % g = n % g := by
  obtain ⟨q, rfl⟩ := h
  rw [Nat.add_mul_mod_self_left]
theorem un_period {l : List (Nat × Nat)} {d : Nat} (h : ∀ x ∈ l, Cov x.1 (Nat.gcd x.2 d) l) (n : Nat) : Un l (n + d) ↔ Un l n := by
  constructor
  · rintro ⟨x, hx, hr⟩
    refine h x hx n ?_
    rw [← add_mod_of (n := n) (Nat.gcd_dvd_right x.2 d), ← Nat.mod_mod_of_dvd (n + d) (Nat.gcd_dvd_left x.2 d), hr, Nat.mod_mod_of_dvd _ (Nat.gcd_dvd_left x.2 d)]
  · rintro ⟨x, hx, hr⟩
    refine h x hx (n + d) ?_
    rw [add_mod_of (Nat.gcd_dvd_right x.2 d), ← Nat.mod_mod_of_dvd n (Nat.gcd_dvd_left x.2 d), hr, Nat.mod_mod_of_dvd _ (Nat.gcd_dvd_left x.2 d)]
theorem cov_self {l : List (Nat × Nat)} {d : Nat} {x : Nat × Nat} (hx : x ∈ l) (hd : x.2 ∣ d) : Cov x.1 (Nat.gcd x.2 d) l := by
  rw [Nat.gcd_eq_left hd]
  exact fun n hn => ⟨x, hx, hn⟩
end Go.Proofs.Ytdoghlojgofmaaa.Pl
