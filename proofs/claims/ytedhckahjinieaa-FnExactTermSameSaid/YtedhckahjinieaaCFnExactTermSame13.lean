/- The program's TermSame returns what the reference's returns, for all arguments; no condition beyond the statement's own. -/
import Derived.Laws.BitsLemmas
import Derived.Test.YtedhckahjinieaaCFnExactTermSame1
import Derived.Test.YtedhckahjinieaaCFnExactTermSame7
import Derived.Test.YtedhckahjinieaaCFnExactTermSame8
import Derived.Test.YtedhckahjinieaaCFnExactTermSame9
import Derived.Test.YtedhckahjinieaaCFnExactTermSame10
import Derived.Test.YtedhckahjinieaaCFnExactTermSame11
import Derived.Test.YtedhckahjinieaaCFnExactTermSame12
namespace Go.Proofs.Ytedhckahjinieaa.Q
open Go.RowKit Go.Proofs.YtedhckahjinieaaW.PrintWords Go.Proofs.YtedhckahjinieaaW.PrintLast Go.Proofs.YtedhckahjinieaaW.PrintMore
open Go.Proofs.Ytedhckahjinieaa.Pl
set_option linter.unusedVariables false
set_option linter.unusedSimpArgs false
theorem lcm_ev {p q : Nat} (hp : 1 ≤ p) (hp2 : p ≤ 60) (hq2 : q ≤ 60) : Ev (fun k => impl_lcm.f k (p : Int) (q : Int)) ((Nat.lcm p q : Nat) : Int) := by
  have hg : 0 < Nat.gcd p q := Nat.gcd_pos_of_pos_left _ hp
  have hd := Nat.div_le_self p (Nat.gcd p q)
  have hm : p / Nat.gcd p q * q ≤ 60 * 60 := Nat.mul_le_mul (by omega) hq2
  have he := lcm_eq p q
  unfold impl_lcm.f
  refine Ev.bind (gcd_ev q p) (Ev.const fun k => ?_)
  rw [if_neg (by omega), tdiv_nat]
  generalize Nat.gcd p q = g at *
  generalize p / g = a at *
  rw [wr (x := (a : Int)) (by omega) (by omega), ← Int.natCast_mul, he, wr (by omega) (by omega)]
/-- Marks of a set that comes again from m on, cut there. -/
theorem fill_tells {l : List Bool} {f : Nat → Bool} {m N : Nat} (hl : Tells l f N) (hm : m < N) (hN : N ≤ 1073741824) (hper : ∀ n, m ≤ n → f (n + (N - m)) = f n) : ∃ x, Ev (fun k => spec_l2Fill.f k l m) x ∧ Told f x := by
  obtain ⟨x, h1, h2⟩ := fill_told (l := l) (m := m) (by rw [hl.len]; exact hN) (by rw [hl.len]; exact hm)
  refine ⟨x, h1, h2.congr fun n => ?_⟩
  have e1 : l.take m = (List.range m).map f := by
    refine ext_getD (by simp [hl.len]; omega) fun i hi => ?_
    have hi2 : i < m := by simp [hl.len] at hi; omega
    rw [getD_take hi2, hl.get i (by omega)]
    simp [List.getD, hi2]
  have e2 : l.drop m = (List.range (N - m)).map fun i => f (m + i) := by
    refine ext_getD (by simp [hl.len]) fun i hi => ?_
    have hi2 : i < N - m := by simp [hl.len] at hi; omega
    have := hl.get (m + i) (by omega)
    simp only [List.getD, List.getElem?_drop, List.getElem?_map, List.getElem?_range hi2, Option.map_some, Option.getD_some] at this ⊢
    exact this
  rw [e1, e2]
  exact per_of (by omega) hper n
theorem tells_range (f : Nat → Bool) (N : Nat) : Tells ((List.range N).map f) f N := ⟨by simp, fun j hj => by simp [List.getD, hj]⟩

theorem sumOf_impl {s u : ByteArray} {ta ra tb rb : List Bool} (h : IsSmall s ta ra) (h2 : IsSmall u tb rb) : ∃ x, Ev (fun k => impl_SumOf.f k s u) x ∧ Told (sumB (hasB ta ra) (hasB tb rb)) x := by
  have hL := lcm_small _ h.rl _ h2.rl h.good.pos h2.good.pos
  have hp := lcm_pos h.good.pos h2.good.pos
  have t1 := h.tl
  have t2 := h2.tl
  obtain ⟨x, k1, k2⟩ := made_ev (f := sumB (hasB ta ra) (hasB tb rb)) (from_ := 200) (size := Nat.lcm ra.length rb.length) hp ⟨by omega, by omega⟩
    (fun n hn => sumB_period (Nat.lcm ra.length rb.length) (lcm_mod_left _ _) (lcm_mod_right _ _) (by omega)) (P := fun k n => impl_sums.f k ta ra tb rb n) (fun n hn => sums_ev h.good h2.good n (by omega))
  refine ⟨x, ?_, k2⟩
  unfold impl_SumOf.f
  refine Ev.bind h.impl (Ev.bind h2.impl ?_)
  simp only [if_true]
  refine Ev.step (f := fun k => (impl_lcm.f k (ra.length : Int) (rb.length : Int)).bind fun t => (impl_made.f k 200 t (fun n_ => impl_sums.f k ta ra tb rb n_)).bind fun b => some (b.1, b.2)) (fun k => by simp only [impl_SumOf.j0, Bool.not_true, Bool.false_eq_true, if_false]) ?_
  exact Ev.bind (lcm_ev h.good.pos h.good.rl h2.good.rl) (Ev.bind k1 (Ev.now _))

theorem sum_l1 {ta ra tb rb : List Bool} (ha : Good ta ra) (hb : Good tb rb) (T L : Nat) (acc : List Bool) (i : Nat) (hi : i ≤ 1000000) (hacc : acc.length = i) {res : ByteArray × Bool}
    (hend : Ev (fun k => spec_l4Sum.l0 k false T L (acc ++ [sumB (hasB ta ra) (hasB tb rb) i]) ((i + 1 : Nat) : Int) ta ra tb rb) res) (d : Nat) :
    ∀ (q : Nat) (b : Bool), q + d = i + 1 → (b = true ↔ ∃ y, y < q ∧ hasB ta ra y = true ∧ hasB tb rb (i - y) = true) → Ev (fun k => spec_l4Sum.l1 k false T L acc (i : Nat) b (q : Nat) ta ra tb rb) res := by
  induction d with
  | zero =>
    intro q b hq hbq
    have e : b = sumB (hasB ta ra) (hasB tb rb) i := by
      rw [Bool.eq_iff_iff, hbq, sumB_iff]
      exact ⟨fun ⟨y, a, c⟩ => ⟨y, by omega, c⟩, fun ⟨y, a, c⟩ => ⟨y, by omega, c⟩⟩
    refine Ev.step (fun k => ?_) hend
    simp only [spec_l4Sum.l1]
    rw [if_neg (by omega), if_pos (by omega), wr1 (by omega), e]
  | succ d ih =>
    intro q b hq hbq
    have hw : wrap64 ((i : Int) - (q : Int)) = ((i - q : Nat) : Int) := wrs (by omega) (by omega)
    cases b with
    | true =>
      obtain ⟨y, y1, y2⟩ := hbq.1 rfl
      refine Ev.step (fun k => ?_) (ih (q + 1) true (by omega) ⟨fun _ => ⟨y, by omega, y2⟩, fun _ => rfl⟩)
      simp only [spec_l4Sum.l1]
      rw [if_pos (by omega), if_pos trivial, wr1 (by omega)]
    | false =>
      have hno : ∀ y, y < q → ¬ (hasB ta ra y = true ∧ hasB tb rb (i - y) = true) := fun y h1 h2 => by
        have := hbq.2 ⟨y, h1, h2⟩
        cases this
      have st : ∀ v : Bool, (v = true ↔ hasB ta ra q = true ∧ hasB tb rb (i - q) = true) → Ev (fun k => spec_l4Sum.l1 k false T L acc (i : Nat) v ((q + 1 : Nat) : Int) ta ra tb rb) res := by
        intro v hv
        refine ih (q + 1) v (by omega) ?_
        rw [hv]
        constructor
        · intro hx; exact ⟨q, by omega, hx⟩
        · rintro ⟨y, h1, h2⟩
          rcases Nat.lt_or_ge y q with c | c
          · exact absurd h2 (hno y c)
          · obtain rfl : y = q := by omega
            exact h2
      cases c1 : hasB ta ra q with
      | false =>
        refine Ev.step (fun k => ?_) (st false ⟨fun h => (by cases h), fun h => (by rw [c1] at h; cases h.1)⟩)
        simp only [spec_l4Sum.l1]
        rw [if_pos (by omega), if_neg (by simp), l1_has ha q (by omega), c1]
        simp only [Option.bind_some, Bool.false_eq_true, if_false]
        rw [wr1 (by omega)]
      | true =>
        cases c2 : hasB tb rb (i - q) with
        | false =>
          refine Ev.step (fun k => ?_) (st false ⟨fun h => (by cases h), fun h => (by rw [c2] at h; cases h.2)⟩)
          simp only [spec_l4Sum.l1]
          rw [if_pos (by omega), if_neg (by simp), l1_has ha q (by omega), c1]
          simp only [Option.bind_some, if_true, hw]
          rw [l1_has hb (i - q) (by omega), c2]
          simp only [Option.bind_some, Bool.false_eq_true, if_false]
          rw [wr1 (by omega)]
        | true =>
          refine Ev.step (fun k => ?_) (st true ⟨fun _ => ⟨c1, c2⟩, fun _ => rfl⟩)
          simp only [spec_l4Sum.l1]
          rw [if_pos (by omega), if_neg (by simp), l1_has ha q (by omega), c1]
          simp only [Option.bind_some, if_true, hw]
          rw [l1_has hb (i - q) (by omega), c2]
          simp only [Option.bind_some, if_true, Bool.false_eq_true, if_false]
          rw [wr1 (by omega)]
theorem sum_l0 {ta ra tb rb : List Bool} (ha : Good ta ra) (hb : Good tb rb) (T L : Nat) (hTL : T + L ≤ 100000) {x : ByteArray × Bool} (hx : Ev (fun k => spec_l2Fill.f k ((List.range (T + L)).map (sumB (hasB ta ra) (hasB tb rb))) T) x) (d : Nat) :
    ∀ i, i + d = T + L → Ev (fun k => spec_l4Sum.l0 k false T L ((List.range i).map (sumB (hasB ta ra) (hasB tb rb))) (i : Nat) ta ra tb rb) x := by
  induction d with
  | zero =>
    intro i hi
    obtain rfl : i = T + L := by omega
    refine Ev.step (f := fun k => (spec_l2Fill.f k ((List.range (T + L)).map (sumB (hasB ta ra) (hasB tb rb))) T).bind fun b => some (b.1, b.2)) (fun k => ?_) (Ev.bind hx (Ev.now _))
    simp only [spec_l4Sum.l0]
    rw [wr (x := (T : Int) + (L : Int)) (by omega) (by omega), if_neg (by omega)]
  | succ d ih =>
    intro i hi
    have h1 := ih (i + 1) (by omega)
    rw [range_snoc] at h1
    refine Ev.step (fun k => ?_) (sum_l1 ha hb T L _ i (by omega) (by simp) h1 (i + 1) 0 false (by omega) ⟨fun h => (by cases h), fun ⟨y, hy, _⟩ => absurd hy (Nat.not_lt_zero y)⟩)
    simp only [spec_l4Sum.l0]
    rw [wr (x := (T : Int) + (L : Int)) (by omega) (by omega), if_pos (by omega)]
    rfl
theorem sumOf_spec {s u : ByteArray} {ta ra tb rb : List Bool} (h : IsSmall s ta ra) (h2 : IsSmall u tb rb) : ∃ x, Ev (fun k => spec_SumOf.f k s u) x ∧ Told (sumB (hasB ta ra) (hasB tb rb)) x := by
  have hL := lcm_small _ h.rl _ h2.rl h.good.pos h2.good.pos
  have hp := lcm_pos h.good.pos h2.good.pos
  have t1 := h.tl
  have t2 := h2.tl
  have hsh := shape_ev h.good h2.good
  have hper := fun n hn => sumB_period (ta := ta) (ra := ra) (tc := tb) (rc := rb) (n := n) (Nat.lcm ra.length rb.length) (lcm_mod_left _ _) (lcm_mod_right _ _) hn
  generalize Nat.lcm ra.length rb.length = L at *
  have hM : max ta.length tb.length ≤ 8 := by omega
  have hM2 : ta.length + tb.length ≤ 2 * max ta.length tb.length := by omega
  generalize max ta.length tb.length = M at *
  obtain ⟨x, k1, k2⟩ := fill_tells (m := 2 * M + 3 * L + 2) (N := (2 * M + 3 * L + 2) + L) (tells_range (sumB (hasB ta ra) (hasB tb rb)) _) (by omega) (by omega) (fun n hn => by rw [Nat.add_sub_cancel_left]; exact hper n (by omega))
  have k3 := sum_l0 h.good h2.good (2 * M + 3 * L + 2) L (by omega) k1 _ 0 (Nat.zero_add _)
  refine ⟨x, ?_, k2⟩
  unfold spec_SumOf.f
  refine Ev.bind h.spec (Ev.bind h2.spec ?_)
  simp only [if_true]
  refine Ev.bind (f := fun k (b : ByteArray × Bool) => some (b.1, b.2)) (a := x) ?_ (Ev.now x)
  unfold spec_l4Sum.f
  refine Ev.bind hsh ?_
  have e1 : wrap64 ((wrap64 ((wrap64 (2 * (M : Int))) + (wrap64 (3 * (L : Int))))) + 2) = ((2 * M + 3 * L + 2 : Nat) : Int) := by
    rw [wr (x := 2 * (M : Int)) (by omega) (by omega), wr (x := 3 * (L : Int)) (by omega) (by omega), wr (x := 2 * (M : Int) + 3 * (L : Int)) (by omega) (by omega), wr (by omega) (by omega)]; omega
  simp only [e1]
  exact k3
theorem sumOf_both {s u : ByteArray} {ta ra tb rb : List Bool} (h : IsSmall s ta ra) (h2 : IsSmall u tb rb) : ∃ x, Ev (fun k => impl_SumOf.f k s u) x ∧ Ev (fun k => spec_SumOf.f k s u) x ∧ Told (sumB (hasB ta ra) (hasB tb rb)) x := by
  obtain ⟨x, k1, k2⟩ := sumOf_impl h h2
  obtain ⟨y, j1, j2⟩ := sumOf_spec h h2
  obtain rfl := k2.unique j2
  exact ⟨x, k1, j1, k2⟩
theorem sumOf_no {s u : ByteArray} (hs : NoSmall s ∨ ∃ t r, IsSmall s t r) (hu : NoSmall u ∨ ∃ t r, IsSmall u t r) (h : NoSmall s ∨ NoSmall u) : Ev (fun k => impl_SumOf.f k s u) ((⟨#[]⟩ : ByteArray), false) ∧ Ev (fun k => spec_SumOf.f k s u) ((⟨#[]⟩ : ByteArray), false) := by
  have any : ∀ w : ByteArray, (NoSmall w ∨ ∃ t r, IsSmall w t r) → ∃ a b c d ok, Ev (fun k => impl_small.f k w) (a, b, ok) ∧ Ev (fun k => spec_l4Small.f k w) (c, d, ok) ∧ (NoSmall w → ok = false) := by
    rintro w (k | ⟨t, r, k⟩)
    · obtain ⟨⟨a, b, e1⟩, ⟨c, d, e2⟩⟩ := k
      exact ⟨a, b, c, d, false, e1, e2, fun _ => rfl⟩
    · refine ⟨t, r, t, r, true, k.impl, k.spec, fun k2 => ?_⟩
      obtain ⟨⟨a, b, e1⟩, _⟩ := k2
      have := Ev.unique k.impl e1
      simp only [Prod.mk.injEq] at this
      exact absurd this.2.2 (by simp)
  obtain ⟨a, b, c, d, o, g1, g2, g3⟩ := any s hs
  obtain ⟨a', b', c', d', o', g1', g2', g3'⟩ := any u hu
  have ho : o = false ∨ o' = false := h.elim (fun k => .inl (g3 k)) (fun k => .inr (g3' k))
  constructor
  · unfold impl_SumOf.f
    refine Ev.bind g1 (Ev.bind g1' ?_)
    have fin : ∀ x : Bool, x = true → Ev (fun k => impl_SumOf.j0 k x a b a' b') ((⟨#[]⟩ : ByteArray), false) := fun x hx => Ev.end fun k => by simp only [impl_SumOf.j0]; rw [if_pos hx]
    cases o with
    | false => simp only [Bool.false_eq_true, if_false]; exact fin _ rfl
    | true =>
      simp only [if_true]
      exact fin _ (by rcases ho with h | h; cases h; rw [h]; rfl)
  · unfold spec_SumOf.f
    refine Ev.bind g2 (Ev.bind g2' ?_)
    cases o with
    | false => simp only [Bool.false_eq_true, if_false]; exact Ev.now _
    | true =>
      have : o' = false := by rcases ho with h | h; cases h; exact h
      subst this
      simp only [if_true, Bool.false_eq_true, if_false]; exact Ev.now _


/-- The least number greater than 0, or 0 without one. -/
structure Least (t r : List Bool) (m : Nat) : Prop where
  cases : (m = 0 ∧ ∀ z, 1 ≤ z → hasB t r z = false) ∨ (1 ≤ m ∧ m ≤ t.length + r.length ∧ hasB t r m = true ∧ ∀ z, 1 ≤ z → z < m → hasB t r z = false)
theorem Least.unique {t r : List Bool} {m m' : Nat} (h : Least t r m) (k : Least t r m') : m = m' := by
  rcases h.cases with ⟨h1, h2⟩ | ⟨h1, h2, h3, h4⟩
  · rcases k.cases with ⟨k1, k2⟩ | ⟨k1, k2, k3, k4⟩
    · omega
    · rw [h2 m' k1] at k3; cases k3
  · rcases k.cases with ⟨k1, k2⟩ | ⟨k1, k2, k3, k4⟩
    · rw [k2 m h1] at h3; cases h3
    · rcases Nat.lt_trichotomy m m' with c | c | c
      · rw [k4 m h1 c] at h3; cases h3
      · exact c
      · rw [h4 m' k1 c] at k3; cases k3
theorem least_impl_l0 {t r : List Bool} (h : Good t r) (d : Nat) : ∀ i, i + d = t.length + r.length + 1 → 1 ≤ i → (∀ z, 1 ≤ z → z < i → hasB t r z = false) → ∃ m, Least t r m ∧ Ev (fun k => impl_set_least.l0 k (i : Nat) t r) ((m : Nat) : Int) := by
  have h2 := h.tl
  have h3 := h.rl
  have hw : wrap64 ((t.length : Int) + (r.length : Int)) = ((t.length + r.length : Nat) : Int) := by rw [wr (by omega) (by omega)]; omega
  induction d with
  | zero =>
    intro i hi h1 hno
    refine ⟨0, ⟨.inl ⟨rfl, none_far h.pos fun z z1 z2 => hno z z1 (by omega)⟩⟩, Ev.end fun k => ?_⟩
    simp only [impl_set_least.l0, hw]
    rw [if_neg (by omega)]
    rfl
  | succ d ih =>
    intro i hi h1 hno
    cases c : hasB t r i with
    | true =>
      refine ⟨i, ⟨.inr ⟨h1, by omega, c, hno⟩⟩, Ev.end fun k => ?_⟩
      simp only [impl_set_least.l0, hw]
      rw [if_pos (by omega), set_has h i (by omega), c]
      rfl
    | false =>
      obtain ⟨m, m1, m2⟩ := ih (i + 1) (by omega) (by omega) (fun z z1 z2 => by
        rcases Nat.lt_or_ge z i with e | e
        · exact hno z z1 e
        · obtain rfl : z = i := by omega
          exact c)
      refine ⟨m, m1, Ev.step (fun k => ?_) m2⟩
      simp only [impl_set_least.l0, hw]
      rw [if_pos (by omega), set_has h i (by omega), c]
      simp only [Option.bind_some, Bool.false_eq_true, if_false]
      rw [wr1 (by omega)]
theorem least_spec_l0 {t r : List Bool} (h : Good t r) (hs : t.length + r.length ≤ 20) (d : Nat) : ∀ i, i + d = 21 → 1 ≤ i → (∀ z, 1 ≤ z → z < i → hasB t r z = false) → ∃ m, Least t r m ∧ Ev (fun k => spec_l4Least.l0 k (i : Nat) t r) ((m : Nat) : Int) := by
  induction d with
  | zero =>
    intro i hi h1 hno
    refine ⟨0, ⟨.inl ⟨rfl, none_far h.pos fun z z1 z2 => hno z z1 (by omega)⟩⟩, Ev.end fun k => ?_⟩
    simp only [spec_l4Least.l0]
    rw [if_neg (by omega)]
    rfl
  | succ d ih =>
    intro i hi h1 hno
    cases c : hasB t r i with
    | true =>
      refine ⟨i, ⟨.inr ⟨h1, ?_, c, hno⟩⟩, Ev.end fun k => ?_⟩
      · rcases Nat.lt_or_ge (t.length + r.length) i with e | e
        · rw [none_far h.pos (fun z z1 z2 => hno z z1 (by omega)) i h1] at c; cases c
        · exact e
      · simp only [spec_l4Least.l0]
        rw [if_pos (by omega), l1_has h i (by omega), c]
        rfl
    | false =>
      obtain ⟨m, m1, m2⟩ := ih (i + 1) (by omega) (by omega) (fun z z1 z2 => by
        rcases Nat.lt_or_ge z i with e | e
        · exact hno z z1 e
        · obtain rfl : z = i := by omega
          exact c)
      refine ⟨m, m1, Ev.step (fun k => ?_) m2⟩
      simp only [spec_l4Least.l0]
      rw [if_pos (by omega), l1_has h i (by omega), c]
      simp only [Option.bind_some, Bool.false_eq_true, if_false]
      rw [wr1 (by omega)]
theorem least_both {t r : List Bool} (h : Good t r) (hs : t.length + r.length ≤ 20) : ∃ m, Least t r m ∧ Ev (fun k => impl_set_least.f k t r) ((m : Nat) : Int) ∧ Ev (fun k => spec_l4Least.f k t r) ((m : Nat) : Int) := by
  obtain ⟨m, a1, a2⟩ := least_impl_l0 h (t.length + r.length) 1 (by omega) (by omega) (fun z z1 z2 => by omega)
  obtain ⟨m', b1, b2⟩ := least_spec_l0 h hs 20 1 (by omega) (by omega) (fun z z1 z2 => by omega)
  obtain rfl := a1.unique b1
  exact ⟨m, a1, a2, b2⟩

structure Parts (f : Nat → Bool) (ps : List Nat) (x : Nat) : Prop where
  all : ∀ q ∈ ps, 1 ≤ q ∧ q < x ∧ f q = true
  some : ∀ y, 1 ≤ y → y < x → f y = true → ∃ q ∈ ps, q ≤ y ∧ star f (y - q) = true
  few : ps.length ≤ x
theorem parts_star {f : Nat → Bool} {ps : List Nat} {x : Nat} (h : Parts f ps x) (hx : 1 ≤ x) : star f x = true ↔ (∃ q ∈ ps, star f (x - q) = true) ∨ f x = true := by
  constructor
  · intro hs
    obtain ⟨y, a, b, c, d⟩ := (star_iff f hx).1 hs
    rcases Nat.lt_or_ge y x with e | e
    · obtain ⟨q, q1, q2, q3⟩ := h.some y a e c
      refine .inl ⟨q, q1, ?_⟩
      have := star_add (y - q) (x - y) q3 d
      rwa [show y - q + (x - y) = x - q from by omega] at this
    · obtain rfl : y = x := by omega
      exact .inr c
  · rintro (⟨q, q1, q2⟩ | hf)
    · obtain ⟨a, b, c⟩ := h.all q q1
      exact (star_iff f hx).2 ⟨q, a, by omega, c, q2⟩
    · exact (star_iff f hx).2 ⟨x, hx, Nat.le_refl _, hf, by rw [Nat.sub_self]; exact star_zero f⟩
theorem rd_cast (ps : List Nat) (i : Nat) (h : i < ps.length) : rd (ps.map fun y : Nat => (y : Int)) (i : Int) = ((ps[i] : Nat) : Int) := by
  simp [rd, List.getD, h]
theorem star4_l1 {t r : List Bool} (N x : Nat) (hN : N ≤ 1000000) (hx : x < N) (ps : List Nat) (hps : Parts (hasB t r) ps x) (Q : List Bool → Prop)
    (hend : ∀ l, l.length = N → (∀ j, j < x → l.getD j false = star (hasB t r) j) → (∀ j, x < j → l.getD j false = false) → (l.getD x false = true ↔ ∃ q ∈ ps, star (hasB t r) (x - q) = true) → ∃ l', Ev (fun k => spec_l4Star.j2 k N l (ps.map fun y : Nat => (y : Int)) x t r) l' ∧ Q l') (d : Nat) :
    ∀ (i : Nat) (l : List Bool), i + d = ps.length → l.length = N → (∀ j, j < x → l.getD j false = star (hasB t r) j) → (∀ j, x < j → l.getD j false = false) → (l.getD x false = true → ∃ q ∈ ps, star (hasB t r) (x - q) = true) → (l.getD x false = false → ∀ j, j < i → ∀ h : j < ps.length, star (hasB t r) (x - ps[j]) = false) →
      ∃ l', Ev (fun k => spec_l4Star.l1 k N l (ps.map fun y : Nat => (y : Int)) x (i : Nat) t r) l' ∧ Q l' := by
  have fin : ∀ l : List Bool, l.length = N → (∀ j, j < x → l.getD j false = star (hasB t r) j) → (∀ j, x < j → l.getD j false = false) → (l.getD x false = true ↔ ∃ q ∈ ps, star (hasB t r) (x - q) = true) → ∀ i : Nat, (i < ps.length → l.getD x false = true) → ∃ l', Ev (fun k => spec_l4Star.l1 k N l (ps.map fun y : Nat => (y : Int)) x (i : Nat) t r) l' ∧ Q l' := by
    intro l h1 h2 h3 h4 i hi
    obtain ⟨l', k1, k2⟩ := hend l h1 h2 h3 h4
    refine ⟨l', Ev.step (fun k => ?_) k1, k2⟩
    simp only [spec_l4Star.l1, List.length_map]
    by_cases c : i < ps.length
    · rw [if_pos (by omega), if_pos (by omega), if_pos (by omega), rdOf_nat, hi c, if_pos rfl]
    · rw [if_neg (by omega)]
  induction d with
  | zero =>
    intro i l hi h1 h2 h3 h4 h5
    refine fin l h1 h2 h3 ⟨h4, ?_⟩ i (fun h => by omega)
    rintro ⟨q, q1, q2⟩
    cases c : l.getD x false with
    | true => rfl
    | false =>
      obtain ⟨j, hj, rfl⟩ := List.getElem_of_mem q1
      rw [h5 c j (by omega) hj] at q2; cases q2
  | succ d ih =>
    intro i l hi h1 h2 h3 h4 h5
    cases c : l.getD x false with
    | true => exact fin l h1 h2 h3 ⟨h4, fun _ => c⟩ i (fun _ => c)
    | false =>
      have hil : i < ps.length := by omega
      have hfew := hps.few
      obtain ⟨a1, a2, a3⟩ := hps.all ps[i] (List.getElem_mem hil)
      have hw : wrap64 ((x : Int) - ((ps[i] : Nat) : Int)) = ((x - ps[i] : Nat) : Int) := wrs (by omega) (by omega)
      have hv := h2 (x - ps[i]) (by omega)
      obtain ⟨l', k1, k2⟩ := ih (i + 1) (l.set x (star (hasB t r) (x - ps[i]))) (by omega) (by rw [List.length_set, h1]) (fun j hj => by rw [getD_set_ne _ _ (by omega)]; exact h2 j hj) (fun j hj => by rw [getD_set_ne _ _ (by omega)]; exact h3 j hj)
        (by rw [getD_set_self _ _ _ (by omega)]; intro h; exact ⟨ps[i], List.getElem_mem hil, h⟩)
        (by
          rw [getD_set_self _ _ _ (by omega)]
          intro h j hj hjl
          rcases Nat.lt_or_ge j i with e | e
          · exact h5 c j e hjl
          · obtain rfl : j = i := by omega
            exact h)
      refine ⟨l', Ev.step (fun k => ?_) k1, k2⟩
      simp only [spec_l4Star.l1, List.length_map]
      rw [if_pos (by omega), if_pos (by omega), if_pos (by omega), rdOf_nat, c, if_neg (by simp), if_pos (by omega), rd_cast ps i hil, hw, if_pos (by omega), if_pos (by omega), rdOf_nat, hv, wr1 (by omega), Int.toNat_natCast]
theorem star4_l0 {t r : List Bool} (h : Good t r) (N : Nat) (hN : N ≤ 1000000) (d : Nat) : ∀ (x : Nat) (l : List Bool) (ps : List Nat), x + d = N → l.length = N → (∀ j, j < x → l.getD j false = star (hasB t r) j) → (∀ j, x ≤ j → l.getD j false = false) → Parts (hasB t r) ps x →
    ∃ l', Ev (fun k => spec_l4Star.l0 k N l (ps.map fun y : Nat => (y : Int)) (x : Nat) t r) l' ∧ Tells l' (star (hasB t r)) N := by
  induction d with
  | zero =>
    intro x l ps hx h1 h2 h3 h4
    refine ⟨l, Ev.end fun k => ?_, h1, fun j hj => h2 j (by omega)⟩
    simp only [spec_l4Star.l0]
    rw [if_neg (by omega)]
  | succ d ih =>
    intro x l ps hx h1 h2 h3 h4
    have hfew := h4.few
    have go := star4_l1 (t := t) (r := r) N x hN (by omega) ps h4 (fun l' => Tells l' (star (hasB t r)) N) ?_ ps.length 0 l (by omega) h1 h2 (fun j hj => h3 j (by omega)) (by rw [h3 x (Nat.le_refl _)]; intro e; cases e) (fun _ j hj => by omega)
    · obtain ⟨l', k1, k2⟩ := go
      refine ⟨l', Ev.step (fun k => ?_) k1, k2⟩
      simp only [spec_l4Star.l0]
      rw [if_pos (by omega)]
      rfl
    · intro m g1 g2 g3 g4
      rcases Nat.eq_zero_or_pos x with e0 | e0
      · subst e0
        obtain ⟨l', k1, k2⟩ := ih 1 (m.set 0 true) ps (by omega) (by rw [List.length_set, g1]) (fun j hj => by
            obtain rfl : j = 0 := by omega
            rw [getD_set_self _ _ _ (by omega)]; exact (star_zero _).symm) (fun j hj => by rw [getD_set_ne _ _ (by omega)]; exact g3 j (by omega))
          ⟨fun q hq => by have := h4.all q hq; omega, fun y y1 y2 => by omega, by omega⟩
        refine ⟨l', Ev.step (fun k => ?_) k1, k2⟩
        simp only [spec_l4Star.j2]
        rw [if_pos (by omega), if_pos (by omega), wr1 (by omega)]
        rfl
      · have hps := parts_star h4 e0
        cases c : m.getD x false with
        | true =>
          have hs : star (hasB t r) x = true := hps.2 (.inl (g4.1 c))
          obtain ⟨l', k1, k2⟩ := ih (x + 1) m ps (by omega) g1 (fun j hj => by
              rcases Nat.lt_or_ge j x with e | e
              · exact g2 j e
              · obtain rfl : j = x := by omega
                rw [c, hs]) (fun j hj => g3 j (by omega))
            ⟨fun q hq => by have := h4.all q hq; exact ⟨this.1, by omega, this.2.2⟩, fun y y1 y2 y3 => by
              rcases Nat.lt_or_ge y x with e | e
              · exact h4.some y y1 e y3
              · obtain rfl : y = x := by omega
                obtain ⟨q, q1, q2⟩ := g4.1 c
                exact ⟨q, q1, by have := h4.all q q1; omega, q2⟩, by omega⟩
          refine ⟨l', Ev.step (fun k => ?_) k1, k2⟩
          simp only [spec_l4Star.j2]
          rw [if_neg (by omega), if_pos (by omega), if_pos (by omega), rdOf_nat, c, if_pos rfl, wr1 (by omega)]
        | false =>
          have hno : ¬ ∃ q ∈ ps, star (hasB t r) (x - q) = true := fun k => by rw [g4.2 k] at c; cases c
          cases cf : hasB t r x with
          | true =>
            have hs : star (hasB t r) x = true := hps.2 (.inr cf)
            obtain ⟨l', k1, k2⟩ := ih (x + 1) (m.set x true) (ps ++ [x]) (by omega) (by rw [List.length_set, g1]) (fun j hj => by
                rcases Nat.lt_or_ge j x with e | e
                · rw [getD_set_ne _ _ (by omega)]; exact g2 j e
                · obtain rfl : j = x := by omega
                  rw [getD_set_self _ _ _ (by omega), hs]) (fun j hj => by rw [getD_set_ne _ _ (by omega)]; exact g3 j (by omega))
              ⟨fun q hq => by
                rcases List.mem_append.1 hq with k | k
                · have := h4.all q k; exact ⟨this.1, by omega, this.2.2⟩
                · obtain rfl : q = x := by simpa using k
                  exact ⟨e0, by omega, cf⟩, fun y y1 y2 y3 => by
                rcases Nat.lt_or_ge y x with e | e
                · obtain ⟨q, q1, q2⟩ := h4.some y y1 e y3
                  exact ⟨q, List.mem_append_left _ q1, q2⟩
                · obtain rfl : y = x := by omega
                  exact ⟨y, List.mem_append_right _ (by simp), Nat.le_refl _, by rw [Nat.sub_self]; exact star_zero _⟩, by rw [List.length_append]; simp; omega⟩
            refine ⟨l', Ev.step (fun k => ?_) k1, k2⟩
            simp only [spec_l4Star.j2]
            rw [if_neg (by omega), if_pos (by omega), if_pos (by omega), rdOf_nat, c, if_neg (by simp), l1_has h x (by omega), cf]
            simp only [Option.bind_some, if_true, List.length_map]
            rw [if_pos (by omega), wr1 (by omega), Int.toNat_natCast, List.map_append]
            rfl
          | false =>
            have hs : star (hasB t r) x = false := by
              cases e : star (hasB t r) x with
              | false => rfl
              | true =>
                rcases hps.1 e with k | k
                · exact absurd k hno
                · rw [cf] at k; cases k
            obtain ⟨l', k1, k2⟩ := ih (x + 1) m ps (by omega) g1 (fun j hj => by
                rcases Nat.lt_or_ge j x with e | e
                · exact g2 j e
                · obtain rfl : j = x := by omega
                  rw [c, hs]) (fun j hj => g3 j (by omega))
              ⟨fun q hq => by have := h4.all q hq; exact ⟨this.1, by omega, this.2.2⟩, (fun y y1 y2 y3 => by
                rcases Nat.lt_or_ge y x with e | e
                · exact h4.some y y1 e y3
                · obtain rfl : y = x := by omega
                  rw [cf] at y3; cases y3), by omega⟩
            refine ⟨l', Ev.step (fun k => ?_) k1, k2⟩
            simp only [spec_l4Star.j2]
            rw [if_neg (by omega), if_pos (by omega), if_pos (by omega), rdOf_nat, c, if_neg (by simp), l1_has h x (by omega), cf]
            simp only [Option.bind_some, Bool.false_eq_true, if_false]
            rw [wr1 (by omega)]
theorem star4_ev {t r : List Bool} (h : Good t r) (N : Nat) (hN : N ≤ 1000000) : ∃ l, Ev (fun k => spec_l4Star.f k t r N) l ∧ Tells l (star (hasB t r)) N := by
  obtain ⟨l, k1, k2⟩ := star4_l0 h N hN N 0 (List.replicate N false) [] (by omega) (by simp) (fun j hj => by omega) (fun j _ => by
      simp only [List.getD, List.getElem?_replicate]
      split <;> rfl) ⟨(fun q hq => by cases hq), (fun y y1 y2 => by omega), by simp⟩
  refine ⟨l, ?_, k2⟩
  unfold spec_l4Star.f
  refine Ev.eq (funext fun k => if_pos (by omega)) (Ev.eq (funext fun k => if_pos (by omega)) ?_)
  rw [Int.toNat_natCast]
  exact k1

/-- The star, with what is told of 0. -/
def starZ (f : Nat → Bool) (z : Bool) (n : Nat) : Bool := if n = 0 then z else star f n
theorem starZ_true (f : Nat → Bool) (n : Nat) : starZ f true n = star f n := by
  unfold starZ
  split
  · subst_vars; exact (star_zero f).symm
  · rfl
theorem starZ_pos {f : Nat → Bool} {z : Bool} {n : Nat} (h : 1 ≤ n) : starZ f z n = star f n := by unfold starZ; rw [if_neg (by omega)]
theorem starred_p {t r l : List Bool} {z : List Bool → List Bool → Option Bool} {b : Bool} (hz : z t r = some b) {N : Nat} (hl : Tells l (star (hasB t r)) N) (n : Nat) (hn : n < N) : impl_starred.p z t r l n = some (starZ (hasB t r) b n) := by
  unfold impl_starred.p starZ
  by_cases c : n = 0
  · subst c
    rw [if_pos (show ((0 : Nat) : Int) = 0 from rfl), hz]
    rfl
  · rw [if_neg (by omega), if_neg c, if_pos (by omega), if_pos (by rw [hl.len]; omega), rdOf_nat, hl.get n hn]
theorem starred_ev {s : ByteArray} {t r : List Bool} (h : IsSmall s t r) {z : List Bool → List Bool → Option Bool} {b : Bool} (hz : z t r = some b) : ∃ x, Ev (fun k => impl_starred.f k s z) x ∧ Told (starZ (hasB t r) b) x := by
  have t1 := h.tl
  have r1 := h.rl
  obtain ⟨m, m1, m2, _⟩ := least_both h.good (by omega)
  have main : ∀ q : Nat, 1 ≤ q → q ≤ 16 → (∀ n, 1000 ≤ n → starZ (hasB t r) b (n + q) = starZ (hasB t r) b n) → ∃ x, Ev (fun k => impl_starred.g k t r z (q : Int)) x ∧ Told (starZ (hasB t r) b) x := by
    intro q q1 q2 hper
    obtain ⟨l, l1, l2⟩ := star_ev h.good (1000 + q) (by omega)
    obtain ⟨x, x1, x2⟩ := made_ev (f := starZ (hasB t r) b) (from_ := 1000) (size := q) q1 ⟨by omega, by omega⟩ hper (P := fun _ => impl_starred.p z t r l) (fun n hn => by
      have := starred_p hz l2 n hn
      exact Ev.const fun _ => this)
    refine ⟨x, ?_, x2⟩
    unfold impl_starred.g
    have e : (1000 + (q : Int)) = ((1000 + q : Nat) : Int) := by omega
    rw [e]
    exact Ev.bind l1 x1
  rcases m1.cases with ⟨c1, c2⟩ | ⟨c1, c2, c3, c4⟩
  · subst c1
    obtain ⟨x, x1, x2⟩ := main 1 (by omega) (by omega) (fun n hn => by
      rw [starZ_pos (by omega), starZ_pos (by omega), star_none c2, star_none c2, decide_eq_false (by omega), decide_eq_false (by omega)])
    refine ⟨x, ?_, x2⟩
    unfold impl_starred.f
    refine Ev.bind h.impl ?_
    simp only [if_true]
    refine Ev.bind m2 (Ev.eq (funext fun k => if_neg (by omega)) ?_)
    exact x1
  · obtain ⟨x, x1, x2⟩ := main m c1 (by omega) (fun n hn => by
      rw [starZ_pos (by omega), starZ_pos (by omega)]; exact star_period h.good.pos t1 r1 c1 c4 c3 c2 hn)
    refine ⟨x, ?_, x2⟩
    unfold impl_starred.f
    refine Ev.bind h.impl ?_
    simp only [if_true]
    refine Ev.bind m2 (Ev.eq (funext fun k => if_pos (by omega)) (Ev.eq (funext fun k => if_pos (by omega)) ?_))
    exact x1
theorem canon_one : Canon [true] [false] := ⟨by decide, fun d h1 h2 => by simp at h2; omega, fun m hm => by
  obtain rfl : m = 0 := by simpa using hm.symm
  decide⟩
theorem has_one (n : Nat) : hasB [true] [false] n = decide (n = 0) := by
  rcases Nat.eq_zero_or_pos n with h | h
  · subst h; rfl
  · rw [hasB_ge (by show 1 ≤ n; omega), decide_eq_false (by omega)]
    simp [Nat.mod_one]
theorem text_one : text [true] [false] = (⟨#[49, 40, 48, 41]⟩ : ByteArray) := rfl
theorem told_one : Told (fun n => decide (n = 0)) ((⟨#[49, 40, 48, 41]⟩ : ByteArray), true) := by
  rw [← text_one]
  exact Told.of canon_one ⟨by decide, by decide, by decide⟩ has_one
theorem starOf_both {s : ByteArray} {t r : List Bool} (h : IsSmall s t r) : ∃ x, Ev (fun k => impl_StarOf.f k s) x ∧ Ev (fun k => spec_StarOf.f k s) x ∧ Told (star (hasB t r)) x := by
  obtain ⟨x, x1, x2⟩ := starred_ev h (z := fun _ _ => some true) (b := true) rfl
  have x3 : Told (star (hasB t r)) x := x2.congr (starZ_true _)
  refine ⟨x, x1, ?_, x3⟩
  have t1 := h.tl
  have r1 := h.rl
  obtain ⟨m, m1, _, m2⟩ := least_both h.good (by omega)
  unfold spec_StarOf.f
  refine Ev.bind h.spec ?_
  simp only [if_true]
  refine Ev.bind (f := fun k (b : ByteArray × Bool) => some (b.1, b.2)) (a := x) ?_ (Ev.now x)
  unfold spec_l4Whole.f
  rcases m1.cases with ⟨c1, c2⟩ | ⟨c1, c2, c3, c4⟩
  · subst c1
    refine Ev.bind m2 (Ev.eq (funext fun k => if_pos rfl) ?_)
    rw [x3.unique (told_one.congr fun n => (star_none c2 n).symm)]
    exact Ev.now _
  · refine Ev.bind m2 (Ev.eq (funext fun k => if_neg (by omega)) ?_)
    obtain ⟨l, l1, l2⟩ := star4_ev h.good (2400 + m) (by omega)
    obtain ⟨y, y1, y2⟩ := fill_tells l2 (m := 2400) (by omega) (by omega) (fun n hn => by
      rw [Nat.add_sub_cancel_left]; exact star_period h.good.pos t1 r1 c1 c4 c3 c2 (by omega))
    rw [wr (x := 2400 + (m : Int)) (by omega) (by omega), show (2400 + (m : Int)) = ((2400 + m : Nat) : Int) from by omega, x3.unique y2]
    exact Ev.bind l1 (Ev.bind y1 (Ev.now y))

abbrev empt : ByteArray × Bool := ((⟨#[]⟩ : ByteArray), false)

theorem tidied_self {t r : List Bool} (h : Canon t r) (g : Good t r) : Tidied t r t r := by
  obtain ⟨t', r', hT⟩ := tidied g
  obtain ⟨rfl, rfl⟩ := canon_unique hT.canon h hT.same
  exact hT
theorem small_dec {s : ByteArray} {t0 r0 t r : List Bool} (h : IsSet s t0 r0) (hT : Tidied t0 r0 t r) : NoSmall s ∨ IsSmall s t r := by
  have hi : Ev (fun k => impl_small.f k s) (t, r, decide ((t.length : Int) ≤ 8) && decide ((r.length : Int) ≤ 8)) := by
    unfold impl_small.f impl_tidied.f
    rw [h.impl]; simp only [Option.bind_some, if_true]
    refine Ev.bind (a := (t, r, true)) (Ev.bind hT.impl (Ev.now _)) (Ev.const fun k => ?_)
    rw [if_pos rfl]
    by_cases c : (t.length : Int) ≤ 8
    · rw [if_pos c, decide_eq_true c]; rfl
    · rw [if_neg c, decide_eq_false c]; rfl
  have hs : Ev (fun k => spec_l4Small.f k s) (t, r, decide ((t.length : Int) ≤ 8) && decide ((r.length : Int) ≤ 8)) := by
    unfold spec_l4Small.f
    refine Ev.bind h.spec ?_
    simp only [if_true]
    refine Ev.bind hT.spec (Ev.const fun k => ?_)
    by_cases c : (t.length : Int) ≤ 8
    · rw [if_pos c, decide_eq_true c]; rfl
    · rw [if_neg c, decide_eq_false c]; rfl
  by_cases c : t.length ≤ 8 ∧ r.length ≤ 8
  · right
    rw [decide_eq_true (by omega), decide_eq_true (by omega)] at hi hs
    exact ⟨⟨t0, r0, h, hT⟩, hT.good, c.1, c.2, hi, hs⟩
  · left
    have : (decide ((t.length : Int) ≤ 8) && decide ((r.length : Int) ≤ 8)) = false := by
      by_cases c1 : t.length ≤ 8
      · rw [decide_eq_false (show ¬ (r.length : Int) ≤ 8 by omega), Bool.and_false]
      · rw [decide_eq_false (show ¬ (t.length : Int) ≤ 8 by omega), Bool.false_and]
    rw [this] at hi hs
    exact ⟨⟨t, r, hi⟩, ⟨t, r, hs⟩⟩
theorem text_small {t r : List Bool} (h : Canon t r) (g : Good t r) : NoSmall (text t r) ∨ IsSmall (text t r) t r := small_dec (text_isSet g) (tidied_self h g)
theorem both_ev {ta ra tb rb : List Bool} (ha : Good ta ra) (hb : Good tb rb) : Ev (fun k => impl_both.f k ta ra tb rb) (((max ta.length tb.length : Nat) : Int), ((Nat.lcm ra.length rb.length : Nat) : Int)) := by
  unfold impl_both.f
  refine Ev.bind (lcm_ev ha.pos ha.rl hb.rl) (Ev.const fun k => ?_)
  rw [mx_nat']
theorem lcm_le60 {p q : Nat} (hp : p ≤ 60) (hq : q ≤ 60) : Nat.lcm p q ≤ 3600 := by
  rw [← lcm_eq]
  have h1 : p / Nat.gcd p q * q ≤ 60 * 60 := Nat.mul_le_mul (Nat.le_trans (Nat.div_le_self _ _) hp) hq
  omega

/-- The set that SolveTwo counts. -/
def two (ta ra tb rb : List Bool) : Nat → Bool := lst (hasB (false :: ta) ra) (hasB tb rb)
end Go.Proofs.Ytedhckahjinieaa.Q

namespace Go.Proofs.Ytedhckahjinieaa.Q
open Go.RowKit Go.Proofs.YtedhckahjinieaaW.PrintWords Go.Proofs.YtedhckahjinieaaW.PrintLast Go.Proofs.YtedhckahjinieaaW.PrintMore
attribute [local go_sem] max2_int min2_int max_two min_two max_three min_three max_four min_four   -- for this text's walks alone
set_option linter.unusedVariables false
set_option linter.unusedSimpArgs false
/-- A state of type 63 at block g of W; what its slices lead to came in by w0. -/
def IsS63 (w0 W : World) (g : Nat) (f0 : List Int) (f1 : Int) : Prop := ∃ A0 c0, W.heap[g]? = some (.cells #[.slice A0 f0.length c0, .int .i64 f1] 63 (0, 0)) ∧ w0.heap.size ≤ g ∧ Kd.C (Kd.int .u8) w0 A0 f0.length f0
theorem IsS63.grown {w0 W : World} {g : Nat} {f0 : List Int} {f1 : Int} {W1 : World} {row : Option Nat} (h : IsS63 w0 W g f0 f1) (hw : W.grownBy W1 row) (hne : some g ≠ row) : IsS63 w0 W1 g f0 f1 := by
 obtain ⟨A0, c0, hb, hg, hr0⟩ := h
 exact ⟨A0, c0, blk_grown hb hw hne, hg, hr0⟩
theorem IsS63.kept {w0 W : World} {g : Nat} {f0 : List Int} {f1 : Int} {W1 : World} {S : Nat → Prop} (h : IsS63 w0 W g f0 f1) (hk : Kept W W1 S) (hne : ¬ S g) : IsS63 w0 W1 g f0 f1 := by
 obtain ⟨A0, c0, hb, hg, hr0⟩ := h
 exact ⟨A0, c0, blk_kept hb hk hne, hg, hr0⟩
theorem IsS63.below {w0 W : World} {g : Nat} {f0 : List Int} {f1 : Int} {W1 : World} (h : IsS63 w0 W g f0 f1) (hw : Below W.heap.size W W1) : IsS63 w0 W1 g f0 f1 := h.grown (grown_of_below hw none) (by simp)
theorem IsS63.alloc {w0 W : World} {g : Nat} {f0 : List Int} {f1 : Int} (h : IsS63 w0 W g f0 f1) (o : Obj) : IsS63 w0 (W.alloc o) g f0 f1 := h.below (bA (Below.refl _ _) o)
theorem IsS63.drewN {w0 W : World} {g : Nat} {f0 : List Int} {f1 : Int} (h : IsS63 w0 W g f0 f1) (m : Nat) : IsS63 w0 (W.drewN m) g f0 f1 := h
theorem IsS63.drew {w0 W : World} {g : Nat} {f0 : List Int} {f1 : Int} (h : IsS63 w0 W g f0 f1) : IsS63 w0 W.drew g f0 f1 := h
theorem IsS63.at_ {w0 W : World} {g : Nat} {f0 : List Int} {f1 : Int} {w' : World} {m : Nat} (hq : W.drewN m = w') (h : IsS63 w0 W g f0 f1) : IsS63 w0 w' g f0 f1 := by subst hq; exact IsS63.drewN h m
theorem IsS63.apart {w0 W : World} {g : Nat} {f0 : List Int} {f1 : Int} {α : Type} {d : Kd α} {e : Nat} {base : Nat} {ok : Nat → Prop} {v : Value} {xs : List α} (h : IsS63 w0 W g f0 f1) (ho : d.R e W base ok v xs) (ht : ∀ q, q ∈ e :: d.E → q ≠ 63) : d.R e W base (fun k => ok k ∧ k ≠ g) v xs := by
 obtain ⟨A0, c0, hb, hg, hr0⟩ := h
 exact Kd.R_types ho hb ht
theorem IsS63.own_ne {w0 W : World} {g : Nat} {f0 : List Int} {f1 : Int} {α : Type} {d : Kd α} {e : Nat} {base : Nat} {ok : Nat → Prop} {v : Value} {xs : List α} (h : IsS63 w0 W g f0 f1) (ho : d.R e W base ok v xs) (ht : e ≠ 63) : some g ≠ v.ownBlock := by
 obtain ⟨A0, c0, hb, hg, hr0⟩ := h
 exact Kd.R_ne ho hb ht
theorem IsS63.lt {w0 W : World} {g : Nat} {f0 : List Int} {f1 : Int} (h : IsS63 w0 W g f0 f1) : g < W.heap.size := by
 obtain ⟨A0, c0, hb, hg, hr0⟩ := h
 exact blk_lt hb
theorem IsS63.far {w0 W : World} {g : Nat} {f0 : List Int} {f1 : Int} {p : Addr} (h : IsS63 w0 W g f0 f1) (hne : g ≠ p.block) (u : Value) : IsS63 w0 (W.setCell p u) g f0 f1 := by
 obtain ⟨A0, c0, hb, hg, hr0⟩ := h
 exact ⟨A0, c0, blk_far hb hne u, hg, hr0⟩
end Go.Proofs.Ytedhckahjinieaa.Q

namespace Go.Proofs.Ytedhckahjinieaa.Q
open Go.RowKit Go.Proofs.YtedhckahjinieaaW.PrintWords Go.Proofs.YtedhckahjinieaaW.PrintLast Go.Proofs.YtedhckahjinieaaW.PrintMore
attribute [local go_sem] max2_int min2_int max_two min_two max_three min_three max_four min_four   -- for this text's walks alone
set_option linter.unusedVariables false
set_option linter.unusedSimpArgs false

end Go.Proofs.Ytedhckahjinieaa.Q

namespace Go.Proofs.Ytedhckahjinieaa.Q
open Go.RowKit Go.Proofs.YtedhckahjinieaaW.PrintWords Go.Proofs.YtedhckahjinieaaW.PrintLast Go.Proofs.YtedhckahjinieaaW.PrintMore
set_option linter.unusedVariables false
set_option linter.unusedSimpArgs false
structure Bs (bs : List Int) : Prop where
  len : bs.length ≤ 2000
  byte : ∀ x ∈ bs, 0 ≤ x ∧ x ≤ 255
end Go.Proofs.Ytedhckahjinieaa.Q

namespace Go.Proofs.Ytedhckahjinieaa.Q
open Go.RowKit Go.Proofs.YtedhckahjinieaaW.PrintWords Go.Proofs.YtedhckahjinieaaW.PrintLast Go.Proofs.YtedhckahjinieaaW.PrintMore
open Go.Proofs.Ytedhckahjinieaa.Pl
set_option linter.unusedVariables false
set_option linter.unusedSimpArgs false
/-- Two sets that are not both small. -/
def NoTwo (s u : ByteArray) : Prop := (NoSmall s ∨ ∃ t r, IsSmall s t r) ∧ (NoSmall u ∨ ∃ t r, IsSmall u t r) ∧ (NoSmall s ∨ NoSmall u)
theorem two_cases (s u : ByteArray) (hs : s.size ≤ 1073741824) (hu : u.size ≤ 1073741824) : NoTwo s u ∨ ∃ ta ra tb rb, IsSmall s ta ra ∧ IsSmall u tb rb := by
  have cs := small_cases s hs
  have cu := small_cases u hu
  rcases cs with h | ⟨t, r, h⟩
  · exact .inl ⟨.inl h, cu, .inl h⟩
  · rcases cu with g | ⟨t', r', g⟩
    · exact .inl ⟨.inr ⟨t, r, h⟩, .inl g, .inr g⟩
    · exact .inr ⟨t, r, t', r', h, g⟩
/-- The states of the loop: each is empty or the text of a set. -/
def Text (x : ByteArray × Bool) : Prop := x = empt ∨ ∃ t r, Canon t r ∧ Good t r ∧ x = (text t r, true)
theorem Text.of {f : Nat → Bool} {x : ByteArray × Bool} (h : Told f x) : Text x := by
  cases c : x.2 with
  | false => exact .inl (h.no c)
  | true =>
    obtain ⟨t, r, h1, h2, h3, h4⟩ := h.yes c
    exact .inr ⟨t, r, h1, h2, h4⟩
theorem sumOf_any (s u : ByteArray) (hs : s.size ≤ 1073741824) (hu : u.size ≤ 1073741824) : ∃ x, Ev (fun k => impl_SumOf.f k s u) x ∧ Ev (fun k => spec_SumOf.f k s u) x ∧ Text x := by
  rcases two_cases s u hs hu with ⟨h1, h2, h3⟩ | ⟨ta, ra, tb, rb, h, h2⟩
  · obtain ⟨e1, e2⟩ := sumOf_no h1 h2 h3
    exact ⟨_, e1, e2, .inl rfl⟩
  · obtain ⟨x, x1, x2, x3⟩ := sumOf_both h h2
    exact ⟨x, x1, x2, Text.of x3⟩
theorem Text.small {x : ByteArray × Bool} (h : Text x) : x.1.size ≤ 1073741824 := by
  rcases h with rfl | ⟨t, r, h1, h2, rfl⟩
  · show (0 : Nat) ≤ _; omega
  · have := text_size t r
    have a := h2.tl
    have b := h2.rl
    show (text t r).size ≤ _; omega
/-- What d more sums make of a state. -/
def Made (s : ByteArray) : Nat → ByteArray × Bool → ByteArray × Bool → Prop
  | 0, x, y => y = x
  | d + 1, x, y => if x.2 = true then ∃ z, Ev (fun k => impl_SumOf.f k x.1 s) z ∧ Ev (fun k => spec_SumOf.f k x.1 s) z ∧ Made s d z y else y = empt
theorem made_some (s : ByteArray) (hs : s.size ≤ 1073741824) (d : Nat) : ∀ x, Text x → ∃ y, Made s d x y ∧ Text y := by
  induction d with
  | zero => exact fun x hx => ⟨x, rfl, hx⟩
  | succ d ih =>
    intro x hx
    by_cases c : x.2 = true
    · obtain ⟨z, z1, z2, z3⟩ := sumOf_any x.1 s hx.small hs
      obtain ⟨y, y1, y2⟩ := ih z z3
      exact ⟨y, by unfold Made; rw [if_pos c]; exact ⟨z, z1, z2, y1⟩, y2⟩
    · exact ⟨empt, by unfold Made; rw [if_neg c], .inl rfl⟩
theorem made_l0_impl (s : ByteArray) (n : Nat) (hn : n ≤ 100) (d : Nat) : ∀ (i : Nat) (x : ByteArray) (y : ByteArray × Bool), i + d = n → Made s d (x, true) y → (y.2 = false → y = empt) → Ev (fun k => impl_SumTimes.l0 k s x n (i : Nat)) y := by
  induction d with
  | zero =>
    intro i x y hi h _
    unfold Made at h
    subst h
    refine Ev.end fun k => ?_
    simp only [impl_SumTimes.l0]
    rw [if_neg (by omega)]
  | succ d ih =>
    intro i x y hi h hy
    unfold Made at h
    rw [if_pos rfl] at h
    obtain ⟨⟨z, o⟩, z1, z2, z3⟩ := h
    refine Ev.step (f := fun k => (impl_SumOf.f k x s).bind fun a => if a.2 = true then impl_SumTimes.l0 k s a.1 n (wrap64 ((i : Int) + 1)) else some empt) (fun k => by simp only [impl_SumTimes.l0]; rw [if_pos (by omega)]) ?_
    refine Ev.bind z1 ?_
    rw [wr1 (by omega)]
    cases o with
    | true => simp only [if_true]; exact ih (i + 1) z y (by omega) z3 hy
    | false =>
      have : y = empt := by
        cases d with
        | zero => unfold Made at z3; subst z3; exact hy rfl
        | succ d => unfold Made at z3; rw [if_neg (by simp)] at z3; exact z3
      subst this
      simp only [Bool.false_eq_true, if_false]
      exact Ev.now _
theorem made_l0_spec (s : ByteArray) (n : Nat) (hn : n ≤ 100) (d : Nat) : ∀ (i : Nat) (x : ByteArray) (y : ByteArray × Bool), i + d = n → Made s d (x, true) y → (y.2 = false → y = empt) → Ev (fun k => spec_SumTimes.l0 k s n x (i : Nat)) y := by
  induction d with
  | zero =>
    intro i x y hi h _
    unfold Made at h
    subst h
    refine Ev.end fun k => ?_
    simp only [spec_SumTimes.l0]
    rw [if_neg (by omega)]
  | succ d ih =>
    intro i x y hi h hy
    unfold Made at h
    rw [if_pos rfl] at h
    obtain ⟨⟨z, o⟩, z1, z2, z3⟩ := h
    refine Ev.step (f := fun k => (spec_SumOf.f k x s).bind fun a => if a.2 = true then spec_SumTimes.l0 k s n a.1 (wrap64 ((i : Int) + 1)) else some empt) (fun k => by simp only [spec_SumTimes.l0]; rw [if_pos (by omega)]) ?_
    refine Ev.bind z2 ?_
    rw [wr1 (by omega)]
    cases o with
    | true => simp only [if_true]; exact ih (i + 1) z y (by omega) z3 hy
    | false =>
      have : y = empt := by
        cases d with
        | zero => unfold Made at z3; subst z3; exact hy rfl
        | succ d => unfold Made at z3; rw [if_neg (by simp)] at z3; exact z3
      subst this
      simp only [Bool.false_eq_true, if_false]
      exact Ev.now _
abbrev one : ByteArray × Bool := ((⟨#[49, 40, 48, 41]⟩ : ByteArray), true)
theorem text_of_no {y : ByteArray × Bool} (h : Text y) (e : y.2 = false) : y = empt := by
  rcases h with h | ⟨t, r, _, _, rfl⟩
  · exact h
  · cases e
theorem sumTimes_yes {s : ByteArray} {t r : List Bool} (h : IsSmall s t r) (n : Nat) (hn : n ≤ 6) {y : ByteArray × Bool} (hy : Made s n one y) (ht : Text y) : Ev (fun k => impl_SumTimes.f k s n) y ∧ Ev (fun k => spec_SumTimes.f k s n) y := by
  have k1 := made_l0_impl s n (by omega) n 0 one.1 y (by omega) hy (text_of_no ht)
  have k2 := made_l0_spec s n (by omega) n 0 one.1 y (by omega) hy (text_of_no ht)
  have i1 : impl_in.f (n : Int) 0 6 = some true := by rw [in_eq', decide_eq_true (by omega)]
  have i2 : spec_l6In.f (n : Int) 0 6 = some true := by rw [l6In_eq', decide_eq_true (by omega)]
  constructor
  · unfold impl_SumTimes.f
    refine Ev.bind h.impl ?_
    simp only [if_true, i1, Option.bind_some]
    exact Ev.step (fun k => by simp only [impl_SumTimes.j0, Bool.not_true, Bool.false_eq_true, if_false]; rfl) k1
  · unfold spec_SumTimes.f
    refine Ev.bind h.spec ?_
    simp only [if_true, i2, Option.bind_some]
    exact Ev.step (fun k => by simp only [spec_SumTimes.j0, Bool.not_true, Bool.false_eq_true, if_false]; rfl) k2
theorem sumTimes_no {s : ByteArray} {n : Int} (hs : NoSmall s ∨ ∃ t r, IsSmall s t r) (h : NoSmall s ∨ ¬ (0 ≤ n ∧ n ≤ 6)) : Ev (fun k => impl_SumTimes.f k s n) empt ∧ Ev (fun k => spec_SumTimes.f k s n) empt := by
  have f1 : ∀ x : Bool, x = true → Ev (fun k => impl_SumTimes.j0 k s n x) empt := fun x hx => Ev.end fun k => by simp only [impl_SumTimes.j0]; rw [if_pos hx]
  have f2 : ∀ x : Bool, x = true → Ev (fun k => spec_SumTimes.j0 k s n x) empt := fun x hx => Ev.end fun k => by simp only [spec_SumTimes.j0]; rw [if_pos hx]
  rcases hs with g | ⟨t, r, g⟩
  · obtain ⟨⟨a, b, e1⟩, ⟨c, d, e2⟩⟩ := g
    constructor
    · unfold impl_SumTimes.f
      refine Ev.bind e1 ?_
      simp only [Bool.false_eq_true, if_false]
      exact f1 _ rfl
    · unfold spec_SumTimes.f
      refine Ev.bind e2 ?_
      simp only [Bool.false_eq_true, if_false]
      exact f2 _ rfl
  · have hn : ¬ (0 ≤ n ∧ n ≤ 6) := by
      rcases h with h | h
      · obtain ⟨⟨a, b, e1⟩, _⟩ := h
        have := Ev.unique e1 g.impl
        simp at this
      · exact h
    have i1 : impl_in.f n 0 6 = some false := by rw [in_eq', decide_eq_false hn]
    have i2 : spec_l6In.f n 0 6 = some false := by rw [l6In_eq', decide_eq_false hn]
    constructor
    · unfold impl_SumTimes.f
      refine Ev.bind g.impl ?_
      simp only [if_true, i1, Option.bind_some]
      exact f1 _ rfl
    · unfold spec_SumTimes.f
      refine Ev.bind g.spec ?_
      simp only [if_true, i2, Option.bind_some]
      exact f2 _ rfl


theorem pair_told (z : Bool → Bool → Bool) {s u : ByteArray} {ta ra tb rb : List Bool} (h : IsSet s ta ra) (h2 : IsSet u tb rb) : ∃ x, Ev (fun k => impl_pair.f k s u z) x ∧ Told (fun n => z (hasB ta ra n) (hasB tb rb n)) x := by
  have g := h.good
  have g2 := h2.good
  have l1 := lcm_le60 g.rl g2.rl
  have l2 := lcm_pos g.pos g2.pos
  have a1 := g.tl
  have a2 := g2.tl
  have hb := both_ev g g2
  have m1 := lcm_mod_left ra.length rb.length
  have m2 := lcm_mod_right ra.length rb.length
  generalize Nat.lcm ra.length rb.length = L at *
  have hT : max ta.length tb.length ≤ 60 := by omega
  have hT1 : ta.length ≤ max ta.length tb.length := by omega
  have hT2 : tb.length ≤ max ta.length tb.length := by omega
  generalize max ta.length tb.length = T at *
  obtain ⟨x, x1, x2⟩ := made_ev (f := fun n => z (hasB ta ra n) (hasB tb rb n)) (from_ := T) (size := L) l2 ⟨by omega, by omega⟩ (fun n hn => by
    show z (hasB ta ra (n + L)) (hasB tb rb (n + L)) = z (hasB ta ra n) (hasB tb rb n)
    rw [hasB_add_mul (by omega) L m1, hasB_add_mul (by omega) L m2]) (P := fun _ => impl_pair.p z ta ra tb rb) (fun n hn => Ev.const fun _ => by
    unfold impl_pair.p
    rw [set_has g n (by omega), set_has g2 n (by omega)]
    rfl)
  refine ⟨x, ?_, x2⟩
  unfold impl_pair.f
  rw [h.impl, h2.impl]; simp only [Option.bind_some, if_true]
  exact Ev.bind hb x1
def bI (b : Bool) : Int := if b = true then 1 else 0
theorem bit_is (b : Bool) : spec_l1Bit.f b = some (bI b) := by cases b <;> rfl
theorem bI_pos (a b : Bool) : 0 ≤ wrap64 ((wrap64 (2 * bI a)) + bI b) := by
  have h : ∀ c : Bool, bI c = 0 ∨ bI c = 1 := fun c => by cases c <;> simp [bI]
  have h1 := h a
  have h2 := h b
  unfold wrap64
  omega
/-- The mask's bit at two bits is what z says. -/
def Mask (m : Int) (z : Bool → Bool → Bool) : Prop := ∀ a b, ((Go.bits .and .i64 (shr .i64 m (wrap64 ((wrap64 (2 * bI a)) + bI b))) 1) == 1) = z a b
theorem mask_or : Mask 14 (fun a b => a || b) := by intro a b; cases a <;> cases b <;> kernel_rfl
theorem mask_and : Mask 8 (fun a b => a && b) := by intro a b; cases a <;> cases b <;> kernel_rfl
theorem pair2_l0 {m : Int} {z : Bool → Bool → Bool} (hm : Mask m z) {ta ra tb rb : List Bool} (ha : Good ta ra) (hb : Good tb rb) (T L : Nat) (hTL : T + L ≤ 10000) {x : ByteArray × Bool}
    (hx : Ev (fun k => spec_l1Done.f k ((List.range T).map fun n => z (hasB ta ra n) (hasB tb rb n)) ((List.range L).map fun j => z (hasB ta ra (T + j)) (hasB tb rb (T + j)))) x) (d : Nat) : ∀ i, i + d = T + L →
    Ev (fun k => spec_l2Two.l0 k m (T : Nat) (L : Nat) (i : Nat) ta ra tb rb ((List.range (min i T)).map fun n => z (hasB ta ra n) (hasB tb rb n)) ((List.range (i - T)).map fun j => z (hasB ta ra (T + j)) (hasB tb rb (T + j)))) x := by
  have hw : wrap64 ((T : Int) + (L : Int)) = ((T + L : Nat) : Int) := by rw [wr (by omega) (by omega)]; omega
  induction d with
  | zero =>
    intro i hi
    rw [show min i T = T by omega, show i - T = L by omega]
    refine Ev.step (f := fun k => (spec_l1Done.f k ((List.range T).map fun n => z (hasB ta ra n) (hasB tb rb n)) ((List.range L).map fun j => z (hasB ta ra (T + j)) (hasB tb rb (T + j)))).bind fun y => some (y.1, y.2)) (fun k => ?_) (Ev.bind hx (Ev.now _))
    simp only [spec_l2Two.l0, hw]
    rw [if_neg (by omega)]
  | succ d ih =>
    intro i hi
    have k1 := ih (i + 1) (by omega)
    have g1 := l1_has ha i (by omega)
    have g2 := l1_has hb i (by omega)
    have hp := bI_pos (hasB ta ra i) (hasB tb rb i)
    have hv := hm (hasB ta ra i) (hasB tb rb i)
    have e1 : wrap64 ((i : Int) + 1) = ((i + 1 : Nat) : Int) := wr1 (by omega)
    by_cases c : i < T
    · rw [show min (i + 1) T = i + 1 by omega, show i + 1 - T = 0 by omega, range_snoc] at k1
      rw [show min i T = i by omega, show i - T = 0 by omega]
      refine Ev.step (fun k => ?_) k1
      simp only [spec_l2Two.l0, hw]
      rw [if_pos (by omega), g1]
      simp only [Option.bind_some, bit_is, g2]
      rw [if_pos hp, if_pos (by omega), if_pos (by simp; omega), e1, hv]
    · rw [show min (i + 1) T = T by omega, show i + 1 - T = (i - T) + 1 by omega, range_snoc] at k1
      rw [show min i T = T by omega]
      refine Ev.step (fun k => ?_) k1
      simp only [spec_l2Two.l0, hw]
      rw [if_pos (by omega), g1]
      simp only [Option.bind_some, bit_is, g2]
      rw [if_pos hp, if_neg (by omega), if_pos (by simp; omega), e1, hv, show T + (i - T) = i by omega]
theorem pair2_told {m : Int} {z : Bool → Bool → Bool} (hm : Mask m z) {s u : ByteArray} {ta ra tb rb : List Bool} (h : IsSet s ta ra) (h2 : IsSet u tb rb) : ∃ x, Ev (fun k => spec_l2Two.f k s u m) x ∧ Told (fun n => z (hasB ta ra n) (hasB tb rb n)) x := by
  have g := h.good
  have g2 := h2.good
  have l1 := lcm_le60 g.rl g2.rl
  have l2 := lcm_pos g.pos g2.pos
  have a1 := g.tl
  have a2 := g2.tl
  have hs := shape_ev g g2
  have m1 := lcm_mod_left ra.length rb.length
  have m2 := lcm_mod_right ra.length rb.length
  generalize Nat.lcm ra.length rb.length = L at *
  have hT : max ta.length tb.length ≤ 60 := by omega
  have hT1 : ta.length ≤ max ta.length tb.length := by omega
  have hT2 : tb.length ≤ max ta.length tb.length := by omega
  generalize max ta.length tb.length = T at *
  obtain ⟨x, x1, x2⟩ := done_told (t := (List.range T).map fun n => z (hasB ta ra n) (hasB tb rb n)) (r := (List.range L).map fun j => z (hasB ta ra (T + j)) (hasB tb rb (T + j))) (by simp; omega) (by simp; omega) (by simp; omega)
  refine ⟨x, ?_, x2.congr fun n => per_of (f := fun n => z (hasB ta ra n) (hasB tb rb n)) l2 (fun n hn => by
    show z (hasB ta ra (n + L)) (hasB tb rb (n + L)) = z (hasB ta ra n) (hasB tb rb n)
    rw [hasB_add_mul (by omega) L m1, hasB_add_mul (by omega) L m2]) n⟩
  unfold spec_l2Two.f
  refine Ev.bind h.spec (Ev.bind h2.spec ?_)
  simp only [if_true, Bool.not_true]
  refine Ev.step (f := fun k => (spec_l1Shape.f k ta ra tb rb).bind fun y => (spec_l2Two.l0 k m y.1 y.2 0 ta ra tb rb (([] : List Bool)) (([] : List Bool)))) (fun k => by simp only [spec_l2Two.j0, Bool.false_eq_true, if_false]) ?_
  refine Ev.bind hs ?_
  have := pair2_l0 hm g g2 T L (by omega) x1 (T + L) 0 (by omega)
  simpa using this
/-- Both answer alike on two texts that tell sets. -/
theorem made_two {m : Int} {z : Bool → Bool → Bool} (hm : Mask m z) {s u : ByteArray} {ta ra tb rb : List Bool} (h : IsSet s ta ra) (h2 : IsSet u tb rb) : ∃ x, Ev (fun k => impl_pair.f k s u z) x ∧ Ev (fun k => (spec_l2Two.f k s u m).bind fun y => some (y.1, y.2)) x ∧ Told (fun n => z (hasB ta ra n) (hasB tb rb n)) x := by
  obtain ⟨x, x1, x2⟩ := pair_told z h h2
  obtain ⟨y, y1, y2⟩ := pair2_told hm h h2
  obtain rfl := x2.unique y2
  exact ⟨x, x1, Ev.bind y1 (Ev.now _), x2⟩

/-- The signs are those of terms. -/
def Tm.ok : Tm → Prop
  | .leaf c => c = 48 ∨ c = 49 ∨ c = 97
  | .un c a => (c = 42 ∨ (50 ≤ c ∧ c ≤ 53)) ∧ a.ok
  | .bin c a b => (c = 43 ∨ c = 46 ∨ c = 38) ∧ a.ok ∧ b.ok
theorem Tm.parse_ok (n : Nat) : ∀ (s : ByteArray) (t : Tm) (r : ByteArray), Tm.parse n s = some (t, r) → t.ok := by
  induction n with
  | zero => intro s t r h; simp [Tm.parse] at h
  | succ n ih =>
    intro s t r h
    unfold Tm.parse at h
    split at h
    · cases h
    split at h
    · rename_i h1
      simp only [Option.some.injEq, Prod.mk.injEq] at h
      rw [← h.1]; exact h1
    split at h
    · rename_i h1
      obtain ⟨⟨a, q⟩, k1, k2⟩ := Option.bind_eq_some_iff.mp h
      simp only [Option.some.injEq, Prod.mk.injEq] at k2
      rw [← k2.1]; exact ⟨h1, ih _ _ _ k1⟩
    split at h
    · obtain ⟨⟨a, q⟩, k1, k2⟩ := Option.bind_eq_some_iff.mp h
      simp only at k2
      split at k2
      · cases k2
      split at k2
      · rename_i h2
        obtain ⟨⟨b, z⟩, k3, k4⟩ := Option.bind_eq_some_iff.mp k2
        simp only at k4
        split at k4
        · cases k4
        split at k4
        · simp only [Option.some.injEq, Prod.mk.injEq] at k4
          rw [← k4.1]; exact ⟨h2, ih _ _ _ k1, ih _ _ _ k3⟩
        · cases k4
      · cases k2
    · cases h
theorem Tm.of_ok {s : ByteArray} {t : Tm} (h : Tm.of s = some t) : t.ok := by
  unfold Tm.of at h
  split at h
  · obtain ⟨⟨a, q⟩, k1, k2⟩ := Option.bind_eq_some_iff.mp h
    simp only at k2
    split at k2
    · obtain rfl := Option.some.inj k2
      exact Tm.parse_ok _ _ _ _ k1
    · cases k2
  · cases h
/-- So many sums more. -/
def powB (f : Nat → Bool) : Nat → (Nat → Bool) → Nat → Bool
  | 0, g => g
  | d + 1, g => powB f d (sumB g f)
/-- The numbers of a term. -/
def Tm.sem : Tm → Nat → Bool
  | .leaf c => fun n => if c = 48 then false else if c = 49 then decide (n = 0) else decide (n = 1)
  | .un c a => if c = 42 then star a.sem else powB a.sem (c - 48).toNat (fun n => decide (n = 0))
  | .bin c a b => if c = 43 then fun n => a.sem n || b.sem n else if c = 46 then sumB a.sem b.sem else fun n => a.sem n && b.sem n
theorem canon_nil : Canon [] [false] := ⟨by decide, fun d h1 h2 => by simp at h2; omega, fun m hm => by simp at hm⟩
theorem has_nil (n : Nat) : hasB [] [false] n = false := by
  rw [hasB_ge (by show 0 ≤ n; omega)]
  simp [Nat.mod_one]
theorem told_nil : Told (fun _ => false) ((⟨#[40, 48, 41]⟩ : ByteArray), true) := by
  rw [show (⟨#[40, 48, 41]⟩ : ByteArray) = text [] [false] from rfl]
  exact Told.of canon_nil ⟨by decide, by decide, by decide⟩ has_nil
theorem canon_a : Canon [false, true] [false] := ⟨by decide, fun d h1 h2 => by simp at h2; omega, fun m hm => by
  obtain rfl : m = 1 := by simpa using hm.symm
  decide⟩
theorem has_a (n : Nat) : hasB [false, true] [false] n = decide (n = 1) := by
  by_cases h : n < 2
  · obtain rfl | rfl : n = 0 ∨ n = 1 := by omega
    · rfl
    · rfl
  · rw [hasB_ge (by show 2 ≤ n; omega), decide_eq_false (by omega)]
    simp [Nat.mod_one]
theorem told_a : Told (fun n => decide (n = 1)) ((⟨#[48, 49, 40, 48, 41]⟩ : ByteArray), true) := by
  rw [show (⟨#[48, 49, 40, 48, 41]⟩ : ByteArray) = text [false, true] [false] from rfl]
  exact Told.of canon_a ⟨by decide, by decide, by decide⟩ has_a
/-- What is told: nothing, or a set. -/
def Tells8 (f : Nat → Bool) (x : ByteArray × Bool) : Prop := x = empt ∨ Told f x
theorem Tells8.cases {f : Nat → Bool} {x : ByteArray × Bool} (h : Tells8 f x) : x = empt ∨ ∃ t r, Canon t r ∧ Good t r ∧ hasB t r = f ∧ x = (text t r, true) := by
  rcases h with h | h
  · exact .inl h
  · cases c : x.2 with
    | false => exact .inl (h.no c)
    | true =>
      obtain ⟨t, r, h1, h2, h3, h4⟩ := h.yes c
      exact .inr ⟨t, r, h1, h2, funext h3, h4⟩
theorem made_empt (s : ByteArray) (d : Nat) : ∀ y, Made s d empt y → y = empt := by
  cases d with
  | zero => exact fun y h => h
  | succ d =>
    intro y h
    unfold Made at h
    rw [if_neg (by simp)] at h
    exact h
theorem made_told {s : ByteArray} {t r : List Bool} (hs : IsSmall s t r) (d : Nat) : ∀ (g : Nat → Bool) (x y : ByteArray × Bool), Tells8 g x → Made s d x y → Tells8 (powB (hasB t r) d g) y := by
  induction d with
  | zero => intro g x y hx h; obtain rfl : y = x := h; exact hx
  | succ d ih =>
    intro g x y hx h
    rcases hx.cases with rfl | ⟨t', r', h1, h2, rfl, rfl⟩
    · exact .inl (made_empt s (d + 1) y h)
    · unfold Made at h
      rw [if_pos rfl] at h
      obtain ⟨z, z1, z2, z3⟩ := h
      rcases text_small h1 h2 with k | k
      · obtain ⟨e1, _⟩ := sumOf_no (.inl k) (.inr ⟨t, r, hs⟩) (.inl k)
        obtain rfl := Ev.unique z1 e1
        exact .inl (made_empt s d y z3)
      · obtain ⟨x', x1, _, x3⟩ := sumOf_both k hs
        obtain rfl := Ev.unique z1 x1
        exact ih _ _ _ (.inr x3) z3
theorem times_both {x : ByteArray × Bool} {f : Nat → Bool} {t r : List Bool} (h1 : Canon t r) (h2 : Good t r) (n : Nat) (hn : n ≤ 6) : ∃ y, Ev (fun k => impl_SumTimes.f k (text t r) n) y ∧ Ev (fun k => spec_SumTimes.f k (text t r) n) y ∧ Tells8 (powB (hasB t r) n (fun n => decide (n = 0))) y := by
  rcases text_small h1 h2 with k | k
  · obtain ⟨e1, e2⟩ := sumTimes_no (n := (n : Int)) (.inl k) (.inl k)
    exact ⟨_, e1, e2, .inl rfl⟩
  · have hsz : (text t r).size ≤ 1073741824 := by
      have := text_size t r
      have a := h2.tl
      have b := h2.rl
      omega
    obtain ⟨y, y1, y2⟩ := made_some (text t r) hsz n one (Text.of told_one)
    obtain ⟨e1, e2⟩ := sumTimes_yes k n hn y1 y2
    exact ⟨y, e1, e2, made_told k n _ one y (.inr told_one) y1⟩
theorem star_no8 {s : ByteArray} (h : NoSmall s) : Ev (fun k => impl_StarOf.f k s) empt ∧ Ev (fun k => spec_StarOf.f k s) empt := by
  obtain ⟨⟨a, b, e1⟩, ⟨c, d, e2⟩⟩ := h
  constructor
  · unfold impl_StarOf.f impl_starred.f
    refine Ev.bind e1 ?_
    simp only [Bool.false_eq_true, if_false]
    exact Ev.now _
  · unfold spec_StarOf.f
    refine Ev.bind e2 ?_
    simp only [Bool.false_eq_true, if_false]
    exact Ev.now _
theorem term_both (t : Tm) : t.ok → ∃ x, Ev (fun k => impl_term_set.f k t) x ∧ Ev (fun k => spec_l7Set.f k t.toS.f0 t.toS.f1) x ∧ Tells8 t.sem x := by
  induction t with
  | leaf c =>
    intro h
    have lf : ∀ y : ByteArray × Bool, (impl_term_set.f 0 (.leaf c) = some y) → (∀ k, spec_l7Set.f (k + 1) c ([] : List S49) = some y) → Told (Tm.sem (.leaf c)) y → ∃ x, Ev (fun k => impl_term_set.f k (.leaf c)) x ∧ Ev (fun k => spec_l7Set.f k (Tm.leaf c).toS.f0 (Tm.leaf c).toS.f1) x ∧ Tells8 (Tm.sem (.leaf c)) x :=
      fun y h1 h2 h3 => ⟨y, Ev.const fun k => h1, Ev.end fun k => h2 k, .inr h3⟩
    rcases h with rfl | rfl | rfl
    · exact lf _ rfl (fun k => by simp [spec_l7Set.f]) told_nil
    · exact lf _ rfl (fun k => by simp [spec_l7Set.f]) told_one
    · exact lf _ rfl (fun k => by simp [spec_l7Set.f]) told_a
  | un c a ih =>
    rintro ⟨hc, ha⟩
    obtain ⟨x, x1, x2, x3⟩ := ih ha
    have n1 : ¬ c = 48 := by omega
    have n2 : ¬ c = 49 := by omega
    have n3 : ¬ c = 97 := by omega
    have st2 : ∀ y, Ev (fun k => if x.2 = true then (if c = 42 then ((spec_StarOf.f k x.1).bind fun b => (some (b.1, b.2))) else (if c ≥ 50 then (if c ≤ 53 then ((spec_SumTimes.f k x.1 ((c - 48) % 256)).bind fun b => (some (b.1, b.2))) else (spec_l7Set.j0 k x.1 c [a.toS])) else (spec_l7Set.j0 k x.1 c [a.toS]))) else (some ((⟨#[]⟩ : ByteArray), false))) y → Ev (fun k => spec_l7Set.f k (Tm.un c a).toS.f0 (Tm.un c a).toS.f1) y := by
      intro y hy
      refine Ev.step (f := fun k => (spec_l7Set.f k a.toS.f0 a.toS.f1).bind fun b => (if b.2 = true then (if c = 42 then ((spec_StarOf.f k b.1).bind fun b => (some (b.1, b.2))) else (if c ≥ 50 then (if c ≤ 53 then ((spec_SumTimes.f k b.1 ((c - 48) % 256)).bind fun b => (some (b.1, b.2))) else (spec_l7Set.j0 k b.1 c [a.toS])) else (spec_l7Set.j0 k b.1 c [a.toS]))) else (some ((⟨#[]⟩ : ByteArray), false)))) (fun k => ?_) (Ev.bind x2 hy)
      show spec_l7Set.f (k + 1) c [a.toS] = _
      simp only [spec_l7Set.f, if_neg n1, if_neg n2, if_neg n3]
      rw [if_pos (by simp)]
      rfl
    have st1 : ∀ y, Ev (fun k => if x.2 = true then (if c = 42 then impl_StarOf.f k x.1 else if 50 ≤ c ∧ c ≤ 53 then impl_SumTimes.f k x.1 (c - 48) else none) else some ((⟨#[]⟩ : ByteArray), false)) y → Ev (fun k => impl_term_set.f k (.un c a)) y := fun y hy => Ev.bind x1 hy
    rcases x3.cases with rfl | ⟨t, r, h1, h2, hf, rfl⟩
    · exact ⟨empt, st1 _ (Ev.const fun k => rfl), st2 _ (Ev.const fun k => rfl), .inl rfl⟩
    · simp only [if_true] at st1 st2
      by_cases h42 : c = 42
      · simp only [if_pos h42] at st1 st2
        rcases text_small h1 h2 with k | k
        · obtain ⟨e1, e2⟩ := star_no8 k
          exact ⟨_, st1 _ e1, st2 _ (Ev.bind e2 (Ev.now _)), .inl rfl⟩
        · obtain ⟨y, y1, y2, y3⟩ := starOf_both k
          refine ⟨y, st1 _ y1, st2 _ (Ev.bind y2 (Ev.now _)), .inr ?_⟩
          show Told (if c = 42 then star a.sem else _) y
          rw [if_pos h42, ← hf]; exact y3
      · have hr : 50 ≤ c ∧ c ≤ 53 := hc.resolve_left h42
        simp only [if_neg h42, if_pos hr] at st1
        simp only [if_neg h42, if_pos (show c ≥ 50 from hr.1), if_pos hr.2] at st2
        obtain ⟨n, hn⟩ : ∃ n : Nat, c - 48 = (n : Int) := ⟨(c - 48).toNat, by omega⟩
        obtain ⟨y, y1, y2, y3⟩ := times_both (x := empt) (f := fun _ => false) h1 h2 n (by omega)
        refine ⟨y, st1 _ (by rw [hn]; exact y1), st2 _ ?_, ?_⟩
        · rw [show (c - 48) % 256 = (n : Int) by omega]
          exact Ev.bind y2 (Ev.now _)
        · show Tells8 (if c = 42 then _ else powB a.sem (c - 48).toNat (fun n => decide (n = 0))) y
          rw [if_neg h42, ← hf, hn, Int.toNat_natCast]
          exact y3
  | bin c a b iha ihb =>
    rintro ⟨hc, ha, hb⟩
    obtain ⟨x, x1, x2, x3⟩ := iha ha
    obtain ⟨y, y1, y2, y3⟩ := ihb hb
    have n1 : ¬ c = 48 := by omega
    have n2 : ¬ c = 49 := by omega
    have n3 : ¬ c = 97 := by omega
    have n4 : ¬ c = 42 := by omega
    have n5 : ¬ c ≥ 50 := by omega
    have st2 : ∀ w, Ev (fun k => if x.2 = true then (if y.2 = true then (if c = 43 then ((spec_MakeEither.f k x.1 y.1).bind fun b => (some (b.1, b.2))) else (if c = 46 then ((spec_SumOf.f k x.1 y.1).bind fun b => (some (b.1, b.2))) else ((spec_MakeBoth.f k x.1 y.1).bind fun b => (some (b.1, b.2))))) else (some ((⟨#[]⟩ : ByteArray), false))) else (some ((⟨#[]⟩ : ByteArray), false))) w → Ev (fun k => spec_l7Set.f k (Tm.bin c a b).toS.f0 (Tm.bin c a b).toS.f1) w := by
      intro w hw
      refine Ev.step (f := fun k => (spec_l7Set.f k a.toS.f0 a.toS.f1).bind fun p => (if p.2 = true then (spec_l7Set.j0 k p.1 c [a.toS, b.toS]) else (some ((⟨#[]⟩ : ByteArray), false)))) (fun k => ?_) (Ev.bind x2 ?_)
      · show spec_l7Set.f (k + 1) c [a.toS, b.toS] = _
        simp only [spec_l7Set.f, if_neg n1, if_neg n2, if_neg n3, if_neg n4, if_neg n5]
        rw [if_pos (by simp)]
        rfl
      · cases hx : x.2 with
        | false => simp only [hx, Bool.false_eq_true, if_false] at hw ⊢; exact hw
        | true =>
          simp only [hx, if_true] at hw ⊢
          refine Ev.step (f := fun k => (spec_l7Set.f k b.toS.f0 b.toS.f1).bind fun p => (if p.2 = true then (if c = 43 then ((spec_MakeEither.f k x.1 p.1).bind fun b => (some (b.1, b.2))) else (if c = 46 then ((spec_SumOf.f k x.1 p.1).bind fun b => (some (b.1, b.2))) else ((spec_MakeBoth.f k x.1 p.1).bind fun b => (some (b.1, b.2))))) else (some ((⟨#[]⟩ : ByteArray), false)))) (fun k => ?_) (Ev.bind y2 hw)
          simp only [spec_l7Set.j0]
          rw [if_pos (by simp)]
          rfl
    have st1 : ∀ w, Ev (fun k => if x.2 = true then (if y.2 = true then (if c = 43 then impl_MakeEither.f k x.1 y.1 else if c = 46 then impl_SumOf.f k x.1 y.1 else if c = 38 then impl_MakeBoth.f k x.1 y.1 else none) else some ((⟨#[]⟩ : ByteArray), false)) else some ((⟨#[]⟩ : ByteArray), false)) w → Ev (fun k => impl_term_set.f k (.bin c a b)) w := by
      intro w hw
      refine Ev.bind x1 ?_
      cases hx : x.2 with
      | false => simp only [hx, Bool.false_eq_true, if_false] at hw ⊢; exact hw
      | true => simp only [hx, if_true] at hw ⊢; exact Ev.bind y1 hw
    rcases x3.cases with rfl | ⟨t, r, h1, h2, hf, rfl⟩
    · exact ⟨empt, st1 _ (Ev.const fun k => rfl), st2 _ (Ev.const fun k => rfl), .inl rfl⟩
    · rcases y3.cases with rfl | ⟨t', r', h1', h2', hf', rfl⟩
      · exact ⟨empt, st1 _ (Ev.const fun k => rfl), st2 _ (Ev.const fun k => rfl), .inl rfl⟩
      · simp only [if_true] at st1 st2
        by_cases h43 : c = 43
        · simp only [if_pos h43] at st1 st2
          obtain ⟨w, w1, w2, w3⟩ := made_two mask_or (text_isSet h2) (text_isSet h2')
          refine ⟨w, st1 _ w1, st2 _ (Ev.bind w2 (Ev.now _)), .inr ?_⟩
          show Told (if c = 43 then (fun n => a.sem n || b.sem n) else _) w
          rw [if_pos h43, ← hf, ← hf']; exact w3
        · by_cases h46 : c = 46
          · simp only [if_neg h43, if_pos h46] at st1 st2
            by_cases no : NoSmall (text t r) ∨ NoSmall (text t' r')
            · obtain ⟨e1, e2⟩ := sumOf_no ((text_small h1 h2).imp id fun h => ⟨_, _, h⟩) ((text_small h1' h2').imp id fun h => ⟨_, _, h⟩) no
              exact ⟨_, st1 _ e1, st2 _ (Ev.bind e2 (Ev.now _)), .inl rfl⟩
            · obtain ⟨w, w1, w2, w3⟩ := sumOf_both ((text_small h1 h2).resolve_left fun h => no (.inl h)) ((text_small h1' h2').resolve_left fun h => no (.inr h))
              refine ⟨w, st1 _ w1, st2 _ (Ev.bind w2 (Ev.now _)), .inr ?_⟩
              show Told (if c = 43 then _ else if c = 46 then sumB a.sem b.sem else _) w
              rw [if_neg h43, if_pos h46, ← hf, ← hf']; exact w3
          · have h38 : c = 38 := by omega
            simp only [if_neg h43, if_neg h46, if_pos h38] at st1
            simp only [if_neg h43, if_neg h46] at st2
            obtain ⟨w, w1, w2, w3⟩ := made_two mask_and (text_isSet h2) (text_isSet h2')
            refine ⟨w, st1 _ w1, st2 _ (Ev.bind w2 (Ev.now _)), .inr ?_⟩
            show Told (if c = 43 then _ else if c = 46 then _ else (fun n => a.sem n && b.sem n)) w
            rw [if_neg h43, if_neg h46, ← hf, ← hf']; exact w3
/-- TermSet: both answer alike, and what is told are the term's numbers. -/
theorem termSet_both (s : ByteArray) : ∃ x, Ev (fun k => impl_TermSet.f k s) x ∧ Ev (fun k => spec_TermSet.f k s) x ∧ (x = empt ∨ ∃ t, Tm.of s = some t ∧ Tells8 t.sem x) := by
  unfold impl_TermSet.f spec_TermSet.f
  cases h : Tm.of s with
  | none => exact ⟨empt, Ev.now _, Ev.now _, .inl rfl⟩
  | some t =>
    obtain ⟨x, x1, x2, x3⟩ := term_both t (Tm.of_ok h)
    exact ⟨x, x1, x2, .inr ⟨t, rfl, x3⟩⟩

end Go.Proofs.Ytedhckahjinieaa.Q

namespace Go.Proofs.Ytedhckahjinieaa.Pure
open Go.RowKit Go.Proofs.Ytedhckahjinieaa.Q Go.Proofs.YtedhckahjinieaaW.PrintWords Go.Proofs.YtedhckahjinieaaW.PrintLast
set_option linter.unusedSimpArgs false
theorem FnExactTermSame : laws_FnExactTermSame.Pure := by
  intro s u hs hu
  by_cases hz : (s.size : Int) > 1048576
  · exact ⟨0, by unfold laws_FnExactTermSame.f; rw [if_pos hz]⟩
  by_cases hz2 : (u.size : Int) > 1048576
  · exact ⟨0, by unfold laws_FnExactTermSame.f; rw [if_neg hz, if_pos hz2]⟩
  obtain ⟨x, h1, h2, _⟩ := termSet_both s
  obtain ⟨y, g1, g2, _⟩ := termSet_both u
  refine Ev.rounds ?_
  unfold laws_FnExactTermSame.f
  simp only [if_neg hz, if_neg hz2]
  have e : ∃ b : Bool, (if x.2 = true then (if y.2 = true then (some (x.1.toList == y.1.toList)) else (some false)) else (some false)) = some b := by
    cases x.2 <;> cases y.2 <;> exact ⟨_, rfl⟩
  obtain ⟨b, e⟩ := e
  have k1 : Ev (fun k => spec_TermSame.f k s u) b := by
    unfold spec_TermSame.f
    exact Ev.bind h2 (Ev.bind g2 (Ev.const fun q => e))
  have k2 : Ev (fun k => impl_TermSame.f k s u) b := by
    unfold impl_TermSame.f
    exact Ev.bind h1 (Ev.bind g1 (Ev.const fun q => e))
  exact Ev.bind k1 (Ev.bind k2 (Ev.const fun q => by simp))

end Go.Proofs.Ytedhckahjinieaa.Pure
