/- A term has what its set has; no condition beyond the statement's own. -/
import Derived.Laws.BitsLemmas
import Derived.Test.YtedhckahjinieaaCFnTermHas1
import Derived.Test.YtedhckahjinieaaCFnTermHas8
import Derived.Test.YtedhckahjinieaaCFnTermHas9
import Derived.Test.YtedhckahjinieaaCFnTermHas10
import Derived.Test.YtedhckahjinieaaCFnTermHas11
import Derived.Test.YtedhckahjinieaaCFnTermHas12
namespace Go.Proofs.Ytedhckahjinieaa.Q
open Go.RowKit Go.Proofs.YtedhckahjinieaaW.PrintWords Go.Proofs.YtedhckahjinieaaW.PrintLast Go.Proofs.YtedhckahjinieaaW.PrintMore
open Go.Proofs.Ytedhckahjinieaa.Pl
set_option linter.unusedVariables false
set_option linter.unusedSimpArgs false
theorem wrm1 {n : Nat} (h0 : 1 ≤ n) (h : n ≤ 4611686018427387904) : wrap64 ((n : Int) - 1) = ((n - 1 : Nat) : Int) := by rw [wr (by omega) (by omega)]; omega

theorem turns_l0 (r : List Bool) (hr : r.length ≤ 1073741824) (d : Nat) (hd : 1 ≤ d) (hdl : d ≤ r.length) (m : Nat) : ∀ i, i + m = r.length → (∀ j, j < i → r.getD j false = r.getD (j % d) false) →
  ∃ b : Bool, Ev (fun k => impl_turns.l0 k r d (r.length : Int) (i : Nat)) b ∧ (b = true ↔ per r d) := by
 induction m with
 | zero =>
  intro i hi hall
  refine ⟨decide (r.length % d = 0), Ev.end fun k => ?_, ?_⟩
  ·simp only [impl_turns.l0]
   rw [if_neg (by omega), if_neg (by omega), ← Int.natCast_emod]
   congr 1
   rw [Bool.eq_iff_iff]
   simp only [beq_iff_eq, decide_eq_true_eq]
   omega
  ·rw [decide_eq_true_eq]
   exact ⟨fun h => ⟨h, fun j hj => hall j (by omega)⟩, fun h => h.1⟩
 | succ m ih =>
  intro i hi hall
  have hm := Nat.mod_lt i (show d > 0 by omega)
  by_cases c : r.getD i false = r.getD (i % d) false
  ·obtain ⟨b, h1, h2⟩ := ih (i + 1) (by omega) (fun j hj => by
    rcases Nat.lt_or_ge j i with h | h
    ·exact hall j h
    ·obtain rfl : j = i := by omega
     exact c)
   refine ⟨b, Ev.step (fun k => ?_) h1, h2⟩
   simp only [impl_turns.l0]
   rw [if_pos (by omega), if_pos (by omega), if_pos (by omega), if_neg (by omega), tmod_nat, if_pos (by omega), if_pos (by omega), rdOf_nat, rdOf_nat, wr1 (by omega), if_neg (by rw [c]; simp)]
  ·refine ⟨false, Ev.end fun k => ?_, ?_⟩
   ·simp only [impl_turns.l0]
    rw [if_pos (by omega), if_pos (by omega), if_pos (by omega), if_neg (by omega), tmod_nat, if_pos (by omega), if_pos (by omega), rdOf_nat, rdOf_nat, if_pos (by simpa using c)]
   ·exact ⟨fun h => absurd h (by simp), fun h => absurd (h.2 i (by omega)) c⟩
theorem turns_ev (r : List Bool) (hr : r.length ≤ 1073741824) (d : Nat) (hd : 1 ≤ d) (hdl : d ≤ r.length) : ∃ b : Bool, Ev (fun k => impl_turns.f k r d) b ∧ (b = true ↔ per r d) :=
 turns_l0 r hr d hd hdl r.length 0 (by omega) (fun j hj => absurd hj (Nat.not_lt_zero j))

theorem rot_append {r : List Bool} : ([r.getD (r.length - 1) false] : List Bool) ++ r.take (r.length - 1) = rot r := by
 simp [rot, List.dropLast_eq_take]

/-- The tail made short. -/
theorem tidy_l1 (n : Nat) : ∀ (t r : List Bool), t.length = n → t.length ≤ 1073741824 → 0 < r.length → r.length ≤ 1073741824 → (∀ d, 1 ≤ d → d < r.length → ¬ per r d) →
  ∃ t' r', Ev (fun k => impl_set_tidy.l1 k (r.length : Int) t r) (t', r') ∧ Canon t' r' ∧ (∀ m, hasB t' r' m = hasB t r m) ∧ t'.length ≤ t.length ∧ r'.length ≤ r.length := by
 induction n with
 | zero =>
  intro t r ht _ h1 h2 h3
  refine ⟨t, r, Ev.end fun k => ?_, ⟨h1, h3, fun m hm => by omega⟩, fun m => rfl, Nat.le_refl _, Nat.le_refl _⟩
  simp only [impl_set_tidy.l1]
  rw [if_neg (by omega)]
 | succ n ih =>
  intro t r ht htl h1 h2 h3
  have e1 : wrap64 ((t.length : Int) - 1) = (n : Nat) := by rw [wrm1 (by omega) (by omega)]; omega
  by_cases c : t.getD n false = r.getD (r.length - 1) false
  ·have hl : (t.take n).length = n := by rw [List.length_take]; omega
   obtain ⟨t', r', g1, g2, g3, g4, g5⟩ := ih (t.take n) (rot r) hl (by omega) (by rw [rot_length h1]; exact h1) (by rw [rot_length h1]; exact h2) (fun d hd1 hd2 hp => by rw [rot_length h1] at hd2; exact h3 d hd1 hd2 (per_rot h1 hd1 hp))
   rw [rot_length h1] at g1 g5
   refine ⟨t', r', Ev.step (fun k => ?_) g1, g2, fun m => by rw [g3, has_rot ht h1 c], by omega, g5⟩
   simp only [impl_set_tidy.l1]
   rw [if_pos (by omega), e1, if_pos (by omega), if_pos (by omega), wrm1 h1 (by omega), if_pos (by omega), if_pos (by omega), rdOf_nat, rdOf_nat, if_pos (by rw [c]; simp), if_pos (by omega)]
   simp only [Option.bind_some]
   rw [if_pos (by omega)]
   rw [if_pos (by simp; omega), Int.toNat_natCast, Int.toNat_natCast, rot_append]
  ·refine ⟨t, r, Ev.end fun k => ?_, ⟨h1, h3, fun m hm => (show n = m by omega) ▸ c⟩, fun m => rfl, Nat.le_refl _, Nat.le_refl _⟩
   simp only [impl_set_tidy.l1]
   rw [if_pos (by omega), e1, if_pos (by omega), if_pos (by omega), wrm1 h1 (by omega), if_pos (by omega), if_pos (by omega), rdOf_nat, rdOf_nat, if_neg (by simpa using c)]

theorem tidy_l0 (t r : List Bool) (ht : t.length ≤ 1073741824) (h1 : 0 < r.length) (h2 : r.length ≤ 1073741824) (m : Nat) : ∀ d, d + m = r.length → 1 ≤ d → (∀ e, 1 ≤ e → e < d → ¬ per r e) →
  ∃ t' r', Ev (fun k => impl_set_tidy.l0 k (d : Nat) t r) (t', r') ∧ Canon t' r' ∧ (∀ m, hasB t' r' m = hasB t r m) ∧ t'.length ≤ t.length ∧ r'.length ≤ r.length := by
 induction m with
 | zero =>
  intro d hd hd1 hno
  obtain ⟨b, hb, hb2⟩ := turns_ev r h2 d hd1 (by omega)
  have hp : per r d := ⟨by rw [show r.length = d from by omega]; exact Nat.mod_self d, fun i hi => by rw [Nat.mod_eq_of_lt (by omega)]⟩
  have hl : (r.take d).length = d := by rw [List.length_take]; omega
  obtain ⟨t', r', g1, g2, g3, g4, g5⟩ := tidy_l1 t.length t (r.take d) rfl ht (by omega) (by omega) (fun e he1 he2 hpe => hno e he1 (by omega) (per_take hd1 he1 (by omega) hp hpe))
  rw [hl] at g1 g5
  refine ⟨t', r', ?_, g2, fun m => by rw [g3, has_take hd1 h1 hp (by omega)], g4, by omega⟩
  refine Ev.step (f := fun k => (impl_turns.f k r d).bind fun x => if x = true then impl_set_tidy.l1 k d t (r.take d) else impl_set_tidy.l0 k (wrap64 (d + 1)) t r) (fun k => ?_) ?_
  ·simp only [impl_set_tidy.l0, slices_Clone_bool_bool.f]
   rw [if_pos (by omega)]
   simp only [Option.bind_some]
   rw [if_pos (by omega), if_pos (by omega), Int.toNat_natCast, if_pos (by omega)]
   simp only [Option.bind_some]
  ·exact Ev.bind hb (by simp only [if_pos (hb2.2 hp)]; exact g1)
 | succ m ih =>
  intro d hd hd1 hno
  obtain ⟨b, hb, hb2⟩ := turns_ev r h2 d hd1 (by omega)
  have hl : (r.take d).length = d := by rw [List.length_take]; omega
  have key : ∃ t' r', Ev (fun k => if b = true then impl_set_tidy.l1 k d t (r.take d) else impl_set_tidy.l0 k (wrap64 ((d : Nat) + 1)) t r) (t', r') ∧ Canon t' r' ∧ (∀ m, hasB t' r' m = hasB t r m) ∧ t'.length ≤ t.length ∧ r'.length ≤ r.length := by
   by_cases c : b = true
   ·have hp := hb2.1 c
    obtain ⟨t', r', g1, g2, g3, g4, g5⟩ := tidy_l1 t.length t (r.take d) rfl ht (by omega) (by omega) (fun e he1 he2 hpe => hno e he1 (by omega) (per_take hd1 he1 (by omega) hp hpe))
    rw [hl] at g1 g5
    refine ⟨t', r', ?_, g2, fun m => by rw [g3, has_take hd1 h1 hp (by omega)], g4, by omega⟩
    simp only [if_pos c]
    exact g1
   ·obtain ⟨t', r', g1, g2, g3, g4, g5⟩ := ih (d + 1) (by omega) (by omega) (fun e he1 he2 hpe => by
     rcases Nat.lt_or_ge e d with h | h
     ·exact hno e he1 h hpe
     ·obtain rfl : e = d := by omega
      exact c (hb2.2 hpe))
    refine ⟨t', r', ?_, g2, g3, g4, g5⟩
    simp only [if_neg c]
    rw [wr1 (by omega)]
    exact g1
  obtain ⟨t', r', g1, g2⟩ := key
  refine ⟨t', r', ?_, g2⟩
  refine Ev.step (f := fun k => (impl_turns.f k r d).bind fun x => if x = true then impl_set_tidy.l1 k d t (r.take d) else impl_set_tidy.l0 k (wrap64 (d + 1)) t r) (fun k => ?_) (Ev.bind hb g1)
  simp only [impl_set_tidy.l0, slices_Clone_bool_bool.f]
  rw [if_pos (by omega)]
  simp only [Option.bind_some]
  rw [if_pos (by omega), if_pos (by omega), Int.toNat_natCast, if_pos (by omega)]
  simp only [Option.bind_some]

theorem tidy_ev {t r : List Bool} (h : Good t r) : ∃ t' r', Ev (fun k => impl_set_tidy.f k t r) (t', r') ∧ Canon t' r' ∧ (∀ m, hasB t' r' m = hasB t r m) ∧ t'.length ≤ t.length ∧ r'.length ≤ r.length := by
 have h1 := h.pos
 have h2 := h.tl
 have h3 := h.rl
 exact tidy_l0 t r (by omega) h1 (by omega) (r.length - 1) 1 (by omega) (by omega) (fun e he1 he2 => by omega)

/-- 'comes again behind d' in the reference's words. -/
theorem per_steps (r : List Bool) (d : Nat) (hd : 1 ≤ d) : (∀ i, d ≤ i → i < r.length → r.getD i false = r.getD (i - d) false) ↔ ∀ i, i < r.length → r.getD i false = r.getD (i % d) false := by
 constructor
 ·intro h i
  induction i using Nat.strongRecOn with
  | _ i ih =>
   intro hi
   rcases Nat.lt_or_ge i d with c | c
   ·rw [Nat.mod_eq_of_lt c]
   ·rw [h i c hi, ih (i - d) (by omega) (by omega), ← Nat.mod_eq_sub_mod c]
 ·intro h i h1 h2
  rw [h i h2, h (i - d) (by omega), ← Nat.mod_eq_sub_mod h1]

/-- The reference's inner loop. -/
theorem less_l1 (t r : List Bool) (hr : r.length ≤ 1073741824) (d : Nat) (hd : 1 ≤ d) (hdl : d < r.length) (g : Bool → Nat → Option (List Bool × List Bool))
  (hgt : ∀ k, g true k = (spec_l1Less.f k t (r.take d)).bind fun x => some (x.1, x.2)) (hgf : ∀ k, g false k = spec_l1Less.l0 k (r.length : Int) ((d + 1 : Nat) : Int) t r) (res : List Bool × List Bool) (m : Nat) :
  ∀ i (b : Bool), i + m = r.length → d ≤ i → (b = true ↔ r.length % d = 0 ∧ ∀ j, d ≤ j → j < i → r.getD j false = r.getD (j - d) false) →
   (∀ c : Bool, (c = true ↔ r.length % d = 0 ∧ ∀ j, d ≤ j → j < r.length → r.getD j false = r.getD (j - d) false) → Ev (g c) res) → Ev (fun k => spec_l1Less.l1 k (r.length : Int) (d : Nat) b (i : Nat) t r) res := by
 induction m with
 | zero =>
  intro i b hi hdi hb hres
  obtain rfl : i = r.length := by omega
  refine Ev.step (fun k => ?_) (hres b hb)
  simp only [spec_l1Less.l1]
  rw [if_neg (by omega)]
  cases b with
  | true => rw [if_pos rfl, if_pos (by omega), if_pos (by omega), Int.toNat_natCast, hgt]
  | false => rw [if_neg (by simp), wr1 (by omega), hgf]
 | succ m ih =>
  intro i b hi hdi hb hres
  cases b with
  | true =>
   have h1 := hb.1 rfl
   have e : wrap64 ((i : Int) - (d : Int)) = ((i - d : Nat) : Int) := by rw [wr (by omega) (by omega)]; omega
   refine Ev.step (fun k => ?_) (ih (i + 1) (r.getD i false == r.getD (i - d) false) (by omega) (by omega) ?_ hres)
   ·simp only [spec_l1Less.l1, if_true]
    rw [if_pos (by omega), if_pos (by omega), if_pos (by omega), e, if_pos (by omega), if_pos (by omega), rdOf_nat, rdOf_nat, wr1 (by omega)]
   ·rw [beq_iff_eq]
    constructor
    ·intro c
     refine ⟨h1.1, fun j hj1 hj2 => ?_⟩
     rcases Nat.lt_or_ge j i with h | h
     ·exact h1.2 j hj1 h
     ·obtain rfl : j = i := by omega
      exact c
    ·intro c
     exact c.2 i hdi (by omega)
  | false =>
   refine Ev.step (fun k => ?_) (hres false ⟨fun h => (by cases h), fun h => (hb.2 ⟨h.1, fun j hj1 hj2 => h.2 j hj1 (by omega)⟩)⟩)
   simp only [spec_l1Less.l1]
   rw [if_pos (by omega), if_neg (by simp), wr1 (by omega), hgf]

theorem less_ev (n : Nat) : ∀ t r : List Bool, t.length + r.length = n → t.length ≤ 1073741824 → 0 < r.length → r.length ≤ 1073741824 →
  ∃ t' r', Ev (fun k => spec_l1Less.f k t r) (t', r') ∧ Canon t' r' ∧ (∀ m, hasB t' r' m = hasB t r m) ∧ t'.length ≤ t.length ∧ r'.length ≤ r.length := by
 induction n using Nat.strongRecOn with
 | _ n ih =>
  intro t r hn ht h1 h2
  have loop : ∀ m d, d + m = r.length → 1 ≤ d → (∀ e, 1 ≤ e → e < d → ¬ per r e) → ∃ t' r', Ev (fun k => spec_l1Less.l0 k (r.length : Int) (d : Nat) t r) (t', r') ∧ Canon t' r' ∧ (∀ m, hasB t' r' m = hasB t r m) ∧ t'.length ≤ t.length ∧ r'.length ≤ r.length := by
   intro m
   induction m with
   | zero =>
    intro d hd hd1 hno
    obtain rfl : d = r.length := by omega
    by_cases ct : t.length = 0
    ·refine ⟨t, r, Ev.end fun k => ?_, ⟨h1, hno, fun m hm => by omega⟩, fun m => rfl, Nat.le_refl _, Nat.le_refl _⟩
     simp only [spec_l1Less.l0]
     rw [if_neg (by omega), if_neg (by omega)]
    ·obtain ⟨q, hq⟩ : ∃ q, t.length = q + 1 := ⟨t.length - 1, by omega⟩
     have e1 : wrap64 ((t.length : Int) - 1) = (q : Nat) := by rw [wrm1 (by omega) (by omega)]; omega
     by_cases c : t.getD q false = r.getD (r.length - 1) false
     ·have hl : (t.take q).length = q := by rw [List.length_take]; omega
      obtain ⟨t', r', g1, g2, g3, g4, g5⟩ := ih (q + r.length) (by omega) (t.take q) (rot r) (by rw [rot_length h1, hl]) (by omega) (by rw [rot_length h1]; exact h1) (by rw [rot_length h1]; exact h2)
      rw [rot_length h1] at g5
      refine ⟨t', r', Ev.step (f := fun k => (spec_l1Less.f k (t.take q) (rot r)).bind fun x => some (x.1, x.2)) (fun k => ?_) (Ev.bind g1 (Ev.now _)), g2, fun m => by rw [g3, has_rot hq h1 c], by omega, g5⟩
      simp only [spec_l1Less.l0]
      rw [if_neg (by omega), if_pos (by omega), e1, if_pos (by omega), if_pos (by omega), wrm1 h1 (by omega), if_pos (by omega), if_pos (by omega), rdOf_nat, rdOf_nat, if_pos (by rw [c]; simp)]
      simp only [Option.bind_some]
      rw [if_pos (by omega)]
      rw [if_pos (by simp; omega), if_pos (by omega), Int.toNat_natCast, Int.toNat_natCast, rot_append]
     ·refine ⟨t, r, Ev.end fun k => ?_, ⟨h1, hno, fun m hm => (show q = m by omega) ▸ c⟩, fun m => rfl, Nat.le_refl _, Nat.le_refl _⟩
      simp only [spec_l1Less.l0]
      rw [if_neg (by omega), if_pos (by omega), e1, if_pos (by omega), if_pos (by omega), wrm1 h1 (by omega), if_pos (by omega), if_pos (by omega), rdOf_nat, rdOf_nat, if_neg (by simpa using c)]
   | succ m ihm =>
    intro d hd hd1 hno
    have hl : (r.take d).length = d := by rw [List.length_take]; omega
    have hstep : ∀ res, Ev (fun k => spec_l1Less.l1 k (r.length : Int) (d : Nat) (decide (r.length % d = 0)) (d : Nat) t r) res → Ev (fun k => spec_l1Less.l0 k (r.length : Int) (d : Nat) t r) res := by
     intro res hres
     refine Ev.step (fun k => ?_) hres
     simp only [spec_l1Less.l0]
     rw [if_pos (by omega), if_neg (by omega), tmod_nat]
     congr 1
     rw [Bool.eq_iff_iff]
     simp only [beq_iff_eq, decide_eq_true_eq]
     omega
    by_cases hp : per r d
    ·obtain ⟨t', r', g1, g2, g3, g4, g5⟩ := ih (t.length + d) (by omega) t (r.take d) (by rw [hl]) ht (by omega) (by omega)
     refine ⟨t', r', hstep _ ?_, g2, fun m => by rw [g3, has_take hd1 h1 hp (by omega)], g4, by omega⟩
     refine less_l1 t r h2 d hd1 (by omega) (fun b k => if b = true then (spec_l1Less.f k t (r.take d)).bind fun x => some (x.1, x.2) else spec_l1Less.l0 k (r.length : Int) ((d + 1 : Nat) : Int) t r) (fun k => if_pos rfl) (fun k => if_neg (by simp)) (t', r') m.succ d (decide (r.length % d = 0)) (by omega) (Nat.le_refl _) ?_ ?_
     ·rw [decide_eq_true_eq]
      exact ⟨fun h => ⟨h, fun j a b => by omega⟩, fun h => h.1⟩
     ·intro c hc
      have : c = true := hc.2 ⟨hp.1, (per_steps r d hd1).2 hp.2⟩
      subst this
      simp only [if_true]
      exact Ev.bind g1 (Ev.now _)
    ·obtain ⟨t', r', g1, g2, g3, g4, g5⟩ := ihm (d + 1) (by omega) (by omega) (fun e he1 he2 hpe => by
      rcases Nat.lt_or_ge e d with h | h
      ·exact hno e he1 h hpe
      ·obtain rfl : e = d := by omega
       exact hp hpe)
     refine ⟨t', r', hstep _ ?_, g2, g3, g4, g5⟩
     refine less_l1 t r h2 d hd1 (by omega) (fun b k => if b = true then (spec_l1Less.f k t (r.take d)).bind fun x => some (x.1, x.2) else spec_l1Less.l0 k (r.length : Int) ((d + 1 : Nat) : Int) t r) (fun k => if_pos rfl) (fun k => if_neg (by simp)) (t', r') m.succ d (decide (r.length % d = 0)) (by omega) (Nat.le_refl _) ?_ ?_
     ·rw [decide_eq_true_eq]
      exact ⟨fun h => ⟨h, fun j a b => by omega⟩, fun h => h.1⟩
     ·intro c hc
      have : ¬ c = true := fun h => hp ⟨(hc.1 h).1, (per_steps r d hd1).1 (hc.1 h).2⟩
      simp only [if_neg this]
      exact g1
  obtain ⟨t', r', g1, g2⟩ := loop (r.length - 1) 1 (by omega) (by omega) (fun e he1 he2 => by omega)
  exact ⟨t', r', Ev.step (fun k => by simp only [spec_l1Less.f]; rfl) g1, g2⟩

/-- The tidy form of a set, for both. -/
structure Tidied (t r t' r' : List Bool) : Prop where
 impl : Ev (fun k => impl_set_tidy.f k t r) (t', r')
 spec : Ev (fun k => spec_l1Less.f k t r) (t', r')
 canon : Canon t' r'
 same : ∀ n, hasB t' r' n = hasB t r n
 good : Good t' r'
 tle : t'.length ≤ t.length
 rle : r'.length ≤ r.length
theorem tidied {t r : List Bool} (h : Good t r) : ∃ t' r', Tidied t r t' r' := by
 have h1 := h.pos
 have h2 := h.tl
 have h3 := h.rl
 obtain ⟨t', r', g1, g2, g3, g4, g5⟩ := tidy_ev h
 obtain ⟨t2, r2, k1, k2, k3, k4, k5⟩ := less_ev (t.length + r.length) t r rfl (by omega) h1 (by omega)
 obtain ⟨rfl, rfl⟩ := canon_unique g2 k2 (fun n => by rw [g3, k3])
 exact ⟨t', r', g1, k1, g2, g3, ⟨g2.pos, by omega, by omega⟩, g4, g5⟩


structure IsSmall (s : ByteArray) (t r : List Bool) : Prop where
 orig : ∃ t0 r0, IsSet s t0 r0 ∧ Tidied t0 r0 t r
 good : Good t r
 tl : t.length ≤ 8
 rl : r.length ≤ 8
 impl : Ev (fun k => impl_small.f k s) (t, r, true)
 spec : Ev (fun k => spec_l4Small.f k s) (t, r, true)
structure NoSmall (s : ByteArray) : Prop where
 impl : ∃ a b, Ev (fun k => impl_small.f k s) (a, b, false)
 spec : ∃ a b, Ev (fun k => spec_l4Small.f k s) (a, b, false)
theorem small_cases (s : ByteArray) (hs : s.size ≤ 1073741824) : NoSmall s ∨ ∃ t r, IsSmall s t r := by
 rcases read_cases s hs with h | ⟨t0, r0, h⟩
 ·left
  obtain ⟨⟨a, b, ha⟩, ⟨a', b', hb⟩⟩ := h
  refine ⟨⟨[], [], ?_⟩, ⟨a', b', ?_⟩⟩
  ·unfold impl_small.f impl_tidied.f
   rw [ha]; simp only [Option.bind_some, Bool.false_eq_true, if_false]
   exact Ev.now _
  ·unfold spec_l4Small.f
   refine Ev.bind hb ?_
   simp only [Bool.false_eq_true, if_false]
   exact Ev.now _
 ·obtain ⟨t, r, hT⟩ := tidied h.good
  have hi : Ev (fun k => impl_small.f k s) (t, r, decide ((t.length : Int) ≤ 8) && decide ((r.length : Int) ≤ 8)) := by
   unfold impl_small.f impl_tidied.f
   rw [h.impl]; simp only [Option.bind_some, if_true]
   refine Ev.bind (a := (t, r, true)) (Ev.bind hT.impl (Ev.now _)) (Ev.const fun k => ?_)
   rw [if_pos rfl]
   by_cases c : (t.length : Int) ≤ 8
   ·rw [if_pos c, decide_eq_true c]; rfl
   ·rw [if_neg c, decide_eq_false c]; rfl
  have hs : Ev (fun k => spec_l4Small.f k s) (t, r, decide ((t.length : Int) ≤ 8) && decide ((r.length : Int) ≤ 8)) := by
   unfold spec_l4Small.f
   refine Ev.bind h.spec ?_
   simp only [if_true]
   refine Ev.bind hT.spec (Ev.const fun k => ?_)
   by_cases c : (t.length : Int) ≤ 8
   ·rw [if_pos c, decide_eq_true c]; rfl
   ·rw [if_neg c, decide_eq_false c]; rfl
  by_cases c : t.length ≤ 8 ∧ r.length ≤ 8
  ·right
   rw [decide_eq_true (by omega), decide_eq_true (by omega)] at hi hs
   exact ⟨t, r, ⟨t0, r0, h, hT⟩, hT.good, c.1, c.2, hi, hs⟩
  ·left
   have : (decide ((t.length : Int) ≤ 8) && decide ((r.length : Int) ≤ 8)) = false := by
    by_cases c1 : t.length ≤ 8
    ·rw [decide_eq_false (show ¬ (r.length : Int) ≤ 8 by omega), Bool.and_false]
    ·rw [decide_eq_false (show ¬ (t.length : Int) ≤ 8 by omega), Bool.false_and]
   rw [this] at hi hs
   exact ⟨⟨t, r, hi⟩, ⟨t, r, hs⟩⟩
theorem getD_set_self (l : List Bool) (i : Nat) (v : Bool) (h : i < l.length) : (l.set i v).getD i false = v := by simp [List.getD, h]
theorem getD_set_ne (l : List Bool) {i j : Nat} (v : Bool) (h : i ≠ j) : (l.set i v).getD j false = l.getD j false := by simp [List.getD, h]
theorem in_eq' (a b c : Int) : impl_in.f a b c = some (decide (b ≤ a ∧ a ≤ c)) := by
 unfold impl_in.f
 by_cases h : b ≤ a
 ·rw [if_pos h]; simp [h]
 ·rw [if_neg (by omega), decide_eq_false (by omega)]
theorem l6In_eq' (a b c : Int) : spec_l6In.f a b c = some (decide (b ≤ a ∧ a ≤ c)) := by
 unfold spec_l6In.f
 by_cases h : b ≤ a
 ·rw [if_pos h]; simp [h]
 ·rw [if_neg (by omega), decide_eq_false (by omega)]


theorem wrs {a b : Nat} (h : b ≤ a) (ha : a ≤ 4611686018427387904) : wrap64 ((a : Int) - (b : Int)) = ((a - b : Nat) : Int) := by rw [wr (by omega) (by omega)]; omega

theorem star_l1 {t r : List Bool} (h : Good t r) (m : Nat) (hm : m ≤ 1000000) (i : Nat) (hi : i < m) (P : List Bool → Prop)
  (hend : ∀ l, l.length = m → (∀ j, j < i + 1 → l.getD j false = star (hasB t r) j) → ∃ l', Ev (fun k => impl_star.l0 k l m ((i + 1 : Nat) : Int) t r) l' ∧ P l') (d : Nat) :
  ∀ (q : Nat) (l : List Bool), q + d = i + 1 → 1 ≤ q → l.length = m → (∀ j, j < i → l.getD j false = star (hasB t r) j) → (l.getD i false = true → star (hasB t r) i = true) → (l.getD i false = false → 1 ≤ i ∧ ∀ y, 1 ≤ y → y < q → ¬ (hasB t r y = true ∧ star (hasB t r) (i - y) = true)) →
   ∃ l', Ev (fun k => impl_star.l1 k l (i : Nat) (q : Nat) m (i : Nat) t r) l' ∧ P l' := by
 have fin : ∀ l : List Bool, l.length = m → (∀ j, j < i → l.getD j false = star (hasB t r) j) → l.getD i false = star (hasB t r) i → ∃ l', Ev (fun k => impl_star.l0 k l m ((i + 1 : Nat) : Int) t r) l' ∧ P l' := by
  intro l hl ha hb
  refine hend l hl fun j hj => ?_
  rcases Nat.lt_or_ge j i with c | c
  ·exact ha j c
  ·obtain rfl : j = i := by omega
   exact hb
 induction d with
 | zero =>
  intro q l hq h1 hl ha hb hc
  have hb' : l.getD i false = star (hasB t r) i := by
   cases e : l.getD i false with
   | true => exact (hb e).symm
   | false =>
    obtain ⟨g1, g2⟩ := hc e
    cases es : star (hasB t r) i with
    | false => rfl
    | true =>
     obtain ⟨y, p1, p2, p3, p4⟩ := (star_iff _ g1).1 es
     exact absurd ⟨p3, p4⟩ (g2 y p1 (by omega))
  obtain ⟨l', k1, k2⟩ := fin l hl ha hb'
  refine ⟨l', Ev.step (fun k => ?_) k1, k2⟩
  simp only [impl_star.l1]
  rw [if_neg (by omega), wr1 (by omega)]
 | succ d ih =>
  intro q l hq h1 hl ha hb hc
  cases e : l.getD i false with
  | true =>
   obtain ⟨l', k1, k2⟩ := fin l hl ha (by rw [e, hb e])
   refine ⟨l', Ev.step (fun k => ?_) k1, k2⟩
   simp only [impl_star.l1]
   rw [if_pos (by omega), if_pos (by omega), if_pos (by omega), rdOf_nat, if_pos e, wr1 (by omega)]
  | false =>
   obtain ⟨g1, g2⟩ := hc e
   have nx : ∀ v : Bool, (v = true ↔ hasB t r q = true ∧ star (hasB t r) (i - q) = true) → ∃ l', Ev (fun k => impl_star.l1 k (l.set i v) (i : Nat) ((q + 1 : Nat) : Int) m (i : Nat) t r) l' ∧ P l' := by
    intro v hv
    refine ih (q + 1) (l.set i v) (by omega) (by omega) (by rw [List.length_set, hl]) (fun j hj => by rw [getD_set_ne _ _ (by omega)]; exact ha j hj) ?_ ?_
    ·rw [getD_set_self _ _ _ (by omega)]
     intro hv1
     obtain ⟨p1, p2⟩ := hv.1 hv1
     exact (star_iff _ g1).2 ⟨q, h1, by omega, p1, p2⟩
    ·rw [getD_set_self _ _ _ (by omega)]
     intro hv1
     refine ⟨g1, fun y a b => ?_⟩
     rcases Nat.lt_or_ge y q with c | c
     ·exact g2 y a c
     ·obtain rfl : y = q := by omega
      intro hx
      rw [hv.2 hx] at hv1
      cases hv1
   by_cases c : hasB t r q = true
   ·obtain ⟨l', k1, k2⟩ := nx (l.getD (i - q) false) (by rw [ha (i - q) (by omega)]; exact ⟨fun h => ⟨c, h⟩, fun h => h.2⟩)
    refine ⟨l', Ev.step (fun k => ?_) k1, k2⟩
    simp only [impl_star.l1]
    rw [if_pos (by omega), if_pos (by omega), if_pos (by omega), rdOf_nat, if_neg (by rw [e]; simp), set_has h q (by omega)]
    simp only [Option.bind_some]
    rw [if_pos c, wrs (by omega) (by omega), if_pos (by omega), if_pos (by omega), rdOf_nat, wr1 (by omega), Int.toNat_natCast]
   ·obtain ⟨l', k1, k2⟩ := nx false (by simp [c])
    refine ⟨l', Ev.step (fun k => ?_) k1, k2⟩
    simp only [impl_star.l1]
    rw [if_pos (by omega), if_pos (by omega), if_pos (by omega), rdOf_nat, if_neg (by rw [e]; simp), set_has h q (by omega)]
    simp only [Option.bind_some]
    rw [if_neg c, wr1 (by omega), Int.toNat_natCast]
/-- A list that tells f up to its length. -/
structure Tells (l : List Bool) (f : Nat → Bool) (m : Nat) : Prop where
 len : l.length = m
 get : ∀ j, j < m → l.getD j false = f j
theorem star_l0 {t r : List Bool} (h : Good t r) (m : Nat) (hm : m ≤ 1000000) (d : Nat) : ∀ (i : Nat) (l : List Bool), i + d = m → l.length = m → (∀ j, j < i → l.getD j false = star (hasB t r) j) → ∃ l', Ev (fun k => impl_star.l0 k l m (i : Nat) t r) l' ∧ Tells l' (star (hasB t r)) m := by
 induction d with
 | zero =>
  intro i l hi hl ha
  obtain rfl : i = m := by omega
  refine ⟨l, Ev.end fun k => ?_, hl, ha⟩
  simp only [impl_star.l0]
  rw [if_neg (by omega)]
 | succ d ih =>
  intro i l hi hl ha
  obtain ⟨l', k1, k2⟩ := star_l1 h m hm i (by omega) (fun l' => Tells l' (star (hasB t r)) m) (fun l hl ha => ih (i + 1) l (by omega) hl ha) i 1 (l.set i (decide (i = 0))) (by omega) (by omega) (by rw [List.length_set, hl]) (fun j hj => by rw [getD_set_ne _ _ (by omega)]; exact ha j hj)
   (by rw [getD_set_self _ _ _ (by omega)]; intro h0; have := of_decide_eq_true h0; subst this; exact star_zero _)
   (by rw [getD_set_self _ _ _ (by omega)]; intro h0; have := of_decide_eq_false h0; exact ⟨by omega, fun y a b => by omega⟩)
  refine ⟨l', Ev.step (fun k => ?_) k1, k2⟩
  simp only [impl_star.l0]
  rw [if_pos (by omega), if_pos (by omega), if_pos (by omega), Int.toNat_natCast]
  congr 2
  rw [Bool.eq_iff_iff, beq_iff_eq, decide_eq_true_eq]; omega
theorem star_ev {t r : List Bool} (h : Good t r) (m : Nat) (hm : m ≤ 1000000) : ∃ l, Ev (fun k => impl_star.f k t r m) l ∧ Tells l (star (hasB t r)) m := by
 obtain ⟨l, k1, k2⟩ := star_l0 h m hm m 0 (List.replicate m false) (by omega) (List.length_replicate ..) (fun j hj => absurd hj (Nat.not_lt_zero j))
 refine ⟨l, ?_, k2⟩
 unfold impl_star.f
 simp only [if_pos (show (0 : Int) ≤ (m : Int) by omega), Int.toNat_natCast, if_pos (show m ≤ 281474976710656 by omega), Option.bind_some, List.length_replicate]
 exact k1


theorem l1Divisor_ev (b : Nat) : ∀ a : Nat, Ev (fun k => spec_l1Divisor.f k (a : Int) (b : Int)) ((Nat.gcd a b : Nat) : Int) := by
 induction b using Nat.strongRecOn with
 | _ b ih =>
  intro a
  by_cases c : b = 0
  ·subst c
   refine Ev.end fun k => ?_
   simp only [spec_l1Divisor.f, spec_l1Divisor.l0]
   rw [if_neg (by omega), Nat.gcd_zero_right]
  ·have h1 := ih (a % b) (Nat.mod_lt _ (by omega)) b
   rw [Nat.gcd_comm b, ← Nat.gcd_rec, Nat.gcd_comm] at h1
   refine Ev.step (fun k => ?_) h1
   simp only [spec_l1Divisor.f, spec_l1Divisor.l0]
   rw [if_pos (by omega), if_neg (by omega), tmod_nat]



theorem mx_nat' (a b : Nat) : mx (a : Int) (b : Int) = ((max a b : Nat) : Int) := by unfold mx; split <;> omega

theorem sums_l0 {ta ra tc rc : List Bool} (ha : Good ta ra) (hc : Good tc rc) (n : Nat) (hn : n ≤ 1000000) (d : Nat) : ∀ q, q + d = n + 1 → (∀ y, y < q → ¬ (hasB ta ra y = true ∧ hasB tc rc (n - y) = true)) → Ev (fun k => impl_sums.l0 k n ((n + 1 : Nat) : Int) (q : Nat) ta ra tc rc) (sumB (hasB ta ra) (hasB tc rc) n) := by
 induction d with
 | zero =>
  intro q hq hno
  have : sumB (hasB ta ra) (hasB tc rc) n = false := by
   cases e : sumB (hasB ta ra) (hasB tc rc) n with
   | false => rfl
   | true =>
    obtain ⟨y, a, b⟩ := (sumB_iff _ _ _).1 e
    exact absurd b (hno y (by omega))
  rw [this]
  refine Ev.end fun k => ?_
  simp only [impl_sums.l0]
  rw [if_neg (by omega)]
 | succ d ih =>
  intro q hq hno
  have hw : wrap64 ((n : Int) - (q : Int)) = ((n - q : Nat) : Int) := wrs (by omega) (by omega)
  have h1 : impl_set_has.f ta ra q = some (hasB ta ra q) := set_has ha q (by omega)
  have h2 : impl_set_has.f tc rc ((n - q : Nat) : Int) = some (hasB tc rc (n - q)) := set_has hc (n - q) (by omega)
  have hlt : (q : Int) < ((n + 1 : Nat) : Int) := by omega
  by_cases c1 : hasB ta ra q = true
  ·by_cases c2 : hasB tc rc (n - q) = true
   ·have : sumB (hasB ta ra) (hasB tc rc) n = true := (sumB_iff _ _ _).2 ⟨q, by omega, c1, c2⟩
    rw [this]
    refine Ev.end fun k => ?_
    simp only [impl_sums.l0, if_pos hlt, h1, Option.bind_some, if_pos c1, hw, h2, if_pos c2]
   ·refine Ev.step (fun k => ?_) (ih (q + 1) (by omega) fun y hy => ?_)
    ·simp only [impl_sums.l0, if_pos hlt, h1, Option.bind_some, if_pos c1, hw, h2, if_neg c2, wr1 (show q ≤ 4611686018427387904 by omega)]
    ·rcases Nat.lt_or_ge y q with e | e
     ·exact hno y e
     ·obtain rfl : y = q := by omega
      exact fun h => c2 h.2
  ·refine Ev.step (fun k => ?_) (ih (q + 1) (by omega) fun y hy => ?_)
   ·simp only [impl_sums.l0, if_pos hlt, h1, Option.bind_some, if_neg c1, wr1 (show q ≤ 4611686018427387904 by omega)]
   ·rcases Nat.lt_or_ge y q with e | e
    ·exact hno y e
    ·obtain rfl : y = q := by omega
     exact fun h => c1 h.1
theorem sums_ev {ta ra tc rc : List Bool} (ha : Good ta ra) (hc : Good tc rc) (n : Nat) (hn : n ≤ 1000000) : Ev (fun k => impl_sums.f k ta ra tc rc n) (sumB (hasB ta ra) (hasB tc rc) n) := by
 unfold impl_sums.f
 rw [wr1 (by omega)]
 exact sums_l0 ha hc n hn (n + 1) 0 (by omega) (fun y hy => absurd hy (Nat.not_lt_zero y))
theorem lcm_eq (p q : Nat) : p / Nat.gcd p q * q = Nat.lcm p q := by
 unfold Nat.lcm
 rw [Nat.mul_comm p q, Nat.mul_div_assoc _ (Nat.gcd_dvd_left p q), Nat.mul_comm]
theorem shape_ev {ta ra tc rc : List Bool} (ha : Good ta ra) (hc : Good tc rc) : Ev (fun k => spec_l1Shape.f k ta ra tc rc) (((max ta.length tc.length : Nat) : Int), ((Nat.lcm ra.length rc.length : Nat) : Int)) := by
 have hg : 0 < Nat.gcd ra.length rc.length := Nat.gcd_pos_of_pos_left _ ha.pos
 have hd := Nat.div_le_self ra.length (Nat.gcd ra.length rc.length)
 have h1 := ha.rl
 have h2 := hc.rl
 have hm : ra.length / Nat.gcd ra.length rc.length * rc.length ≤ 60 * 60 := Nat.mul_le_mul (by omega) h2
 have he := lcm_eq ra.length rc.length
 unfold spec_l1Shape.f
 refine Ev.bind (l1Divisor_ev rc.length ra.length) (Ev.const fun k => ?_)
 rw [if_neg (by omega), mx_nat', ← Int.natCast_ediv]
 generalize Nat.gcd ra.length rc.length = g at *
 generalize ra.length / g = p at *
 rw [wr (x := (p : Int)) (by omega) (by omega), ← Int.natCast_mul, he, wr (by omega) (by omega)]
end Go.Proofs.Ytedhckahjinieaa.Q

namespace Go.Proofs.Ytedhckahjinieaa.Q
open Go.RowKit Go.Proofs.YtedhckahjinieaaW.PrintWords Go.Proofs.YtedhckahjinieaaW.PrintLast Go.Proofs.YtedhckahjinieaaW.PrintMore
open Go.Proofs.Ytedhckahjinieaa.Pl (hasB)
set_option linter.unusedVariables false
set_option linter.unusedSimpArgs false
theorem read_yes (s : ByteArray) (hs : s.size ≤ 1073741824) (i : Nat) (h1 : i < s.data.toList.length) (h2 : Lib.indexByte s.data.toList 40 = i) (h3 : s.data.toList.getD i 0 = 40) (h4 : ∀ j, j < i → s.data.toList.getD j 0 ≠ 40)
  (c1 : i + 2 < s.size) (c2 : s.data.toList.getD (s.size - 1) 0 = 41) (o1 : okL (s.extract 0 i).data.toList = true) (o2 : okL (s.extract (i + 1) (s.size - 1)).data.toList = true) (q : i ≤ 60 ∧ s.size - i - 2 ≤ 60) :
  IsSet s ((s.extract 0 i).data.toList.map (· == 49)) ((s.extract (i + 1) (s.size - 1)).data.toList.map (· == 49)) := by
 have hl := size_data s
 have hsg := fun (x : ByteArray) (hx : x.size ≤ 1073741824) => signs_ev x hx
 have hi : i < s.size := by omega
 have hc : strings_Cut.f s ⟨#[40]⟩ = some (s.extract 0 i, s.extract (i + 1) s.size, true) := by
  unfold strings_Cut.f stringslite_Cut.f stringslite_Index.f
  rw [dif_pos (by rfl)]
  show ((some (Lib.indexByte s.data.toList 40)).bind _).bind _ = _
  rw [h2]
  simp only [Option.bind_some]
  have hz : ((⟨#[40]⟩ : ByteArray).size : Int) = 1 := rfl
  rw [if_pos (by omega), if_pos (by omega), if_pos (by omega), hz, wr (by omega) (by omega), if_pos (by omega), if_pos (by omega)]
  simp only [Option.bind_some, Int.toNat_natCast]
  rw [show ((i : Int) + 1).toNat = i + 1 from by omega]
 have hz1 : (s.extract (i + 1) s.size).size = s.size - (i + 1) := ext_size _ _ _ (Nat.le_refl _)
 have h41 : ((⟨#[41]⟩ : ByteArray).size : Int) = 1 := rfl
 have hsuf : strings_CutSuffix.f (s.extract (i + 1) s.size) ⟨#[41]⟩ = some (if i + 1 < s.size ∧ s.data.toList.getD (s.size - 1) 0 = 41 then (s.extract (i + 1) (s.size - 1), true) else (s.extract (i + 1) s.size, false)) := by
  unfold strings_CutSuffix.f stringslite_CutSuffix.f stringslite_HasSuffix.f
  rw [h41]
  by_cases c : i + 1 < s.size
  ·rw [if_pos (by omega), wr (by omega) (by omega), if_pos (by omega), if_pos (by omega), show (((s.extract (i + 1) s.size).size : Int) - 1).toNat = (s.extract (i + 1) s.size).size - 1 from by omega, last_eq c, ring_eq c]
   simp only [Option.bind_some]
   have hb : ([s.data.toList.getD (s.size - 1) 0] == (⟨#[41]⟩ : ByteArray).toList) = decide (s.data.toList.getD (s.size - 1) 0 = 41) := by
    rw [toList_eq, Bool.eq_iff_iff]; simp
   rw [hb]
   by_cases e : s.data.toList.getD (s.size - 1) 0 = 41
   ·rw [decide_eq_true e, if_pos rfl, if_pos (by omega), if_pos (by omega), if_pos ⟨c, e⟩]; rfl
   ·rw [decide_eq_false e, if_neg (by simp), if_neg (by intro h; exact e h.2)]; rfl
  ·rw [if_neg (by omega)]
   simp only [Option.bind_some, Bool.false_eq_true, if_false]
   rw [if_neg (fun h => c h.1)]
 have hspec : ∀ (r : List Bool × List Bool × Bool), Ev (fun k => spec_l1Read.j1 k s i [] [false]) r → Ev (fun k => spec_l1Read.f k s) r := by
  intro r hr
  exact read_l0 s hs [] [false] i (by omega) (fun j hj => h4 j hj) (fun _ => h3) hr i 0 (by omega)
 have hnull : ∀ x : Bool, x = true → Ev (fun k => spec_l1Read.j2 k s (i : Nat) x [] [false]) (([] : List Bool), [false], false) := by
  intro x hx
  refine Ev.end fun k => ?_
  simp only [spec_l1Read.j2]
  rw [if_pos hx]
 -- for the reader's bracket at the end
 have hj1 : ∀ r, Ev (fun k => spec_l1Read.j2 k s (i : Nat) (decide (s.size ≤ i + 2) || s.data.toList.getD (s.size - 1) 0 != 41) [] [false]) r → Ev (fun k => spec_l1Read.j1 k s i [] [false]) r := by
  intro r hr
  refine Ev.step (fun k => ?_) hr
  simp only [spec_l1Read.j1]
  rw [wr (x := (i : Int) + 2) (by omega) (by omega), wr (x := (s.size : Int) - 1) (by omega) (by omega)]
  by_cases c : s.size ≤ i + 2
  ·rw [if_pos (by omega)]; simp [c]
  ·rw [if_neg (by omega), if_pos (by omega), if_pos (by omega)]
   rw [show (s.size : Int) - 1 = ((s.size - 1 : Nat) : Int) from by omega]
   congr 1
   simp only [c, decide_false, Bool.false_or]
   have := bt_is s (s.size - 1) (by omega) 41 41 rfl
   rw [Bool.eq_iff_iff]; simp only [bne_iff_ne, ne_eq, this]
 rw [if_pos ⟨by omega, c2⟩] at hsuf
 have e1 := hsg (s.extract 0 i) (by rw [ext_size _ _ _ (by omega)]; omega)
 have e2 := hsg (s.extract (i + 1) (s.size - 1)) (by rw [ext_size _ _ _ (by omega)]; omega)
 have g1 := l1Signs_ev (s.extract 0 i) (by rw [ext_size _ _ _ (by omega)]; omega)
 have g2 := l1Signs_ev (s.extract (i + 1) (s.size - 1)) (by rw [ext_size _ _ _ (by omega)]; omega)
 have z1 : (s.extract 0 i).size = i := by rw [ext_size _ _ _ (by omega)]; omega
 have z2 : (s.extract (i + 1) (s.size - 1)).size = s.size - i - 2 := by rw [ext_size _ _ _ (by omega)]; omega
 have y1 := size_data (s.extract 0 i)
 have y2 := size_data (s.extract (i + 1) (s.size - 1))
 rw [z1] at e1 y1
 rw [z2] at e2 y2
 have himpl : impl_setOf.f s = (impl_signs.f (s.extract 0 i)).bind fun x => (impl_signs.f (s.extract (i + 1) (s.size - 1))).bind fun y => some (x.1, y.1, x.2 && y.2 && decide ((y.1.length : Int) > 0)) := by
  unfold impl_setOf.f
  rw [hc]; simp only [Option.bind_some]
  rw [hsuf]; simp only [Option.bind_some]
  congr 1; funext x; congr 1; funext y
  cases x.2 <;> cases y.2 <;> simp
 have hj2 : ∀ (x y : List Bool × Bool), Ev (fun k => spec_l1Signs.f k (s.extract 0 i)) x → Ev (fun k => spec_l1Signs.f k (s.extract (i + 1) (s.size - 1))) y →
   Ev (fun k => spec_l1Read.f k s) (if x.2 && y.2 && decide (x.1.length ≤ 60) && decide (y.1.length ≤ 60) then (x.1, y.1, true) else ([], [false], false)) := by
  intro x y hx hy
  refine hspec _ (hj1 _ ?_)
  have : (decide (s.size ≤ i + 2) || s.data.toList.getD (s.size - 1) 0 != 41) = false := by rw [c2]; simp; omega
  rw [this]
  refine Ev.step (f := fun k => (spec_l1Signs.f k (s.extract 0 i)).bind fun bt121 => (spec_l1Signs.f k (s.extract (i + 1) (s.size - 1))).bind fun bt125 => (if bt121.2 = true then (if bt125.2 = true then (if (bt121.1.length : Int) > 60 then (some (([] : List Bool), [false], false)) else (if (bt125.1.length : Int) > 60 then (some ([], [false], false)) else (some (bt121.1, bt125.1, true)))) else (some ([], [false], false))) else (some ([], [false], false)))) (fun k => ?_) ?_
  ·simp only [spec_l1Read.j2]
   rw [if_neg (by simp), if_pos (by omega), if_pos (by omega), wr (x := (i : Int) + 1) (by omega) (by omega), wr (x := (s.size : Int) - 1) (by omega) (by omega)]
   simp only [if_pos (show (0 : Int) ≤ (i : Int) + 1 from by omega), if_pos (show (i : Int) + 1 ≤ (s.size : Int) - 1 from by omega), if_pos (show (s.size : Int) - 1 ≤ (s.size : Int) from by omega)]
   rw [Int.toNat_natCast, show ((i : Int) + 1).toNat = i + 1 from by omega, show ((s.size : Int) - 1).toNat = s.size - 1 from by omega]
  ·refine Ev.bind hx (Ev.bind hy (Ev.const fun k => ?_))
   obtain ⟨x1, x2⟩ := x
   obtain ⟨y1, y2⟩ := y
   cases x2 <;> cases y2 <;> simp
   by_cases q1 : x1.length ≤ 60
   ·by_cases q2 : y1.length ≤ 60
    ·rw [if_neg (by omega), if_neg (by omega), if_pos ⟨q1, q2⟩]
    ·rw [if_neg (by omega), if_pos (by omega), if_neg (by omega)]
   ·rw [if_pos (by omega), if_neg (by omega)]
 have hfin := hj2 _ _ g1 g2
 rw [e1, e2] at himpl
 simp only [Option.bind_some] at himpl
 rw [o1, o2] at himpl hfin
 simp only [if_true, List.length_map, Bool.and_self, Bool.true_and] at himpl hfin
 rw [y1, y2] at hfin
 rw [y2] at himpl
 refine ⟨⟨?_, by rw [List.length_map]; omega, by rw [List.length_map]; omega⟩, himpl.trans ?_, ?_⟩
 ·rw [List.length_map]; omega
 ·rw [decide_eq_true (show ((i : Nat) : Int) ≤ 60 from by omega), decide_eq_true (show (((s.size - i - 2 : Nat) : Int) ≤ 60) from by omega), decide_eq_true (show (((s.size - i - 2 : Nat) : Int) > 0) from by omega)]
  rfl
 ·rw [decide_eq_true q.1, decide_eq_true q.2] at hfin
  exact hfin

/-- The signs of a list. -/
def tell (l : List Bool) : List UInt8 := l.map fun b => if b = true then 49 else 48
theorem tell_length (l : List Bool) : (tell l).length = l.length := by simp [tell]
theorem tell_back (l : List Bool) : (tell l).map (· == 49) = l := by
 induction l with
 | nil => rfl
 | cons b l ih => cases b <;> simp [tell] at * <;> exact ih
theorem tell_ok (l : List Bool) : okL (tell l) = true := by
 induction l with
 | nil => rfl
 | cons b l ih => cases b <;> simp [tell, okL] at * <;> exact ih
theorem tell_ne (l : List Bool) (j : Nat) (h : j < l.length) : (tell l).getD j 0 ≠ 40 := by
 simp only [tell, List.getD, List.getElem?_map, List.getElem?_eq_getElem h, Option.map_some, Option.getD_some]
 split <;> decide
/-- The text of a tail and a ring. -/
def textL (t r : List Bool) : List UInt8 := tell t ++ 40 :: (tell r ++ [41])
def text (t r : List Bool) : ByteArray := ⟨(textL t r).toArray⟩
theorem textL_length (t r : List Bool) : (textL t r).length = t.length + r.length + 2 := by simp [textL, tell_length]; omega
theorem text_size (t r : List Bool) : (text t r).size = t.length + r.length + 2 := textL_length t r
theorem text_isSet {t r : List Bool} (h : Good t r) : IsSet (text t r) t r := by
 have h1 := h.pos
 have h2 := h.tl
 have h3 := h.rl
 have hz := text_size t r
 have hd : (text t r).data.toList = textL t r := rfl
 have hget : (textL t r).getD t.length 0 = 40 := by
  simp [textL, List.getD, tell_length]
 have hne : ∀ j, j < t.length → (textL t r).getD j 0 ≠ 40 := by
  intro j hj
  have := tell_ne t j hj
  simp only [textL, List.getD] at this ⊢
  rw [List.getElem?_append_left (by rw [tell_length]; exact hj)]
  exact this
 have hlast : (textL t r).getD ((text t r).size - 1) 0 = 41 := by
  rw [hz]
  simp only [textL, List.getD]
  rw [List.getElem?_append_right (by rw [tell_length]; omega), tell_length]
  rw [show t.length + r.length + 2 - 1 - t.length = r.length + 1 from by omega, List.getElem?_cons_succ, List.getElem?_append_right (by rw [tell_length]; omega), tell_length, Nat.sub_self]
  rfl
 have hidx : Lib.indexByte (text t r).data.toList 40 = (t.length : Int) := by
  rcases index_cases (text t r).data.toList 40 with ⟨_, g⟩ | ⟨i, g1, g2, g3, g4⟩
  ·exact absurd hget (g t.length (by rw [hd, textL_length]; omega))
  ·have : i = t.length := by
    rcases Nat.lt_trichotomy i t.length with c | c | c
    ·exact absurd g3 (hne i c)
    ·exact c
    ·exact absurd hget (g4 t.length c)
   rw [g2, this]
 have x1 : ((text t r).extract 0 t.length).data.toList = tell t := by
  rw [ext_list, hd, List.drop_zero]
  simp [textL, tell_length]
 have x2 : ((text t r).extract (t.length + 1) ((text t r).size - 1)).data.toList = tell r := by
  rw [ext_list, hd, hz]
  have e : textL t r = tell t ++ [40] ++ tell r ++ [41] := by simp [textL]
  rw [e, show t.length + r.length + 2 - 1 = (tell t ++ [40] ++ tell r).length from by simp [tell_length]; omega, List.take_left' rfl, List.append_assoc, ← List.append_assoc]
  exact List.drop_left' (by simp [tell_length])
 have := read_yes (text t r) (by omega) t.length (by rw [hd, textL_length]; omega) hidx hget hne (by omega) hlast (by rw [x1]; exact tell_ok t) (by rw [x2]; exact tell_ok r) ⟨by omega, by omega⟩
 rw [x1, x2, tell_back, tell_back] at this
 exact this
end Go.Proofs.Ytedhckahjinieaa.Q

namespace Go.Proofs.Ytedhckahjinieaa.Q
open Go.RowKit Go.Proofs.YtedhckahjinieaaW.PrintWords Go.Proofs.YtedhckahjinieaaW.PrintLast Go.Proofs.YtedhckahjinieaaW.PrintMore
open Go.Proofs.Ytedhckahjinieaa.Pl
set_option linter.unusedVariables false
set_option linter.unusedSimpArgs false
/-- What is told of a set: the text of its tidy form, if this is not too long. -/
def Told (f : Nat → Bool) (x : ByteArray × Bool) : Prop := ∃ t r, Canon t r ∧ (∀ n, hasB t r n = f n) ∧ x = if t.length ≤ 60 ∧ r.length ≤ 60 then (text t r, true) else ((⟨#[]⟩ : ByteArray), false)
theorem Told.unique {f : Nat → Bool} {x y : ByteArray × Bool} (h : Told f x) (k : Told f y) : x = y := by
 obtain ⟨t, r, h1, h2, rfl⟩ := h
 obtain ⟨t', r', k1, k2, rfl⟩ := k
 obtain ⟨rfl, rfl⟩ := canon_unique h1 k1 (fun n => by rw [h2, k2])
 rfl
theorem Told.congr {f g : Nat → Bool} {x : ByteArray × Bool} (h : Told f x) (e : ∀ n, f n = g n) : Told g x := by
 obtain ⟨t, r, h1, h2, h3⟩ := h
 exact ⟨t, r, h1, fun n => by rw [h2, e], h3⟩
theorem Told.yes {f : Nat → Bool} {x : ByteArray × Bool} (h : Told f x) (e : x.2 = true) : ∃ t r, Canon t r ∧ Good t r ∧ (∀ n, hasB t r n = f n) ∧ x = (text t r, true) := by
 obtain ⟨t, r, h1, h2, rfl⟩ := h
 by_cases c : t.length ≤ 60 ∧ r.length ≤ 60
 ·exact ⟨t, r, h1, ⟨h1.pos, c.1, c.2⟩, h2, by rw [if_pos c]⟩
 ·rw [if_neg c] at e; cases e
theorem Told.no {f : Nat → Bool} {x : ByteArray × Bool} (h : Told f x) (e : x.2 = false) : x = ((⟨#[]⟩ : ByteArray), false) := by
 obtain ⟨t, r, h1, h2, rfl⟩ := h
 by_cases c : t.length ≤ 60 ∧ r.length ≤ 60
 ·rw [if_pos c] at e; cases e
 ·rw [if_neg c]
theorem Told.of {f : Nat → Bool} {t r : List Bool} (h : Canon t r) (g : Good t r) (e : ∀ n, hasB t r n = f n) : Told f (text t r, true) := ⟨t, r, h, e, by rw [if_pos ⟨g.tl, g.rl⟩]⟩

theorem tidied_long {t r : List Bool} (ht : t.length ≤ 1073741824) (h1 : 0 < r.length) (h2 : r.length ≤ 1073741824) : ∃ t' r', Ev (fun k => impl_set_tidy.f k t r) (t', r') ∧ Ev (fun k => spec_l1Less.f k t r) (t', r') ∧ Canon t' r' ∧ (∀ n, hasB t' r' n = hasB t r n) := by
 obtain ⟨t', r', g1, g2, g3, g4, g5⟩ := tidy_l0 t r ht h1 h2 (r.length - 1) 1 (by omega) (by omega) (fun e he1 he2 => by omega)
 obtain ⟨t2, r2, k1, k2, k3, k4, k5⟩ := less_ev (t.length + r.length) t r rfl ht h1 h2
 obtain ⟨rfl, rfl⟩ := canon_unique g2 k2 (fun n => by rw [g3, k3])
 exact ⟨t', r', g1, k1, g2, g3⟩

theorem told_eq (l : List Bool) (h : l.length ≤ 1000000) : impl_told.f l = some ⟨(tell l).toArray⟩ := by
 unfold impl_told.f
 rw [if_pos (by omega)]
 rfl
theorem tell_size (l : List Bool) : (⟨(tell l).toArray⟩ : ByteArray).size = l.length := tell_length l
theorem ba_ext {a b : ByteArray} (h : a.data.toList = b.data.toList) : a = b := by
 obtain ⟨⟨a⟩⟩ := a; obtain ⟨⟨b⟩⟩ := b; simp at h; simp [h]
theorem ba_append (a b : ByteArray) : (a ++ b).data.toList = a.data.toList ++ b.data.toList := by simp
theorem text_eq (t r : List Bool) : (((⟨(tell t).toArray⟩ : ByteArray) ++ (⟨#[40]⟩ : ByteArray)) ++ (⟨(tell r).toArray⟩ : ByteArray)) ++ (⟨#[41]⟩ : ByteArray) = text t r := by
 refine ba_ext ?_
 rw [ba_append, ba_append, ba_append]
 simp [text, textL]
theorem text_ev {t r : List Bool} (ht : t.length ≤ 60) (hr : r.length ≤ 60) : Ev (fun k => impl_set_text.f k t r) (text t r, true) := by
 unfold impl_set_text.f
 refine Ev.eq (funext fun k => if_neg (by omega)) ?_
 rw [decide_eq_false (by omega)]
 refine Ev.end fun k => ?_
 simp only [impl_set_text.j0, Bool.false_eq_true, if_false]
 rw [told_eq t (by omega), told_eq r (by omega)]
 simp only [Option.bind_some, tell_size]
 rw [if_pos (by omega), if_pos (by omega), if_pos (by omega), text_eq]
theorem text_no {t r : List Bool} (h : ¬ (t.length ≤ 60 ∧ r.length ≤ 60)) : Ev (fun k => impl_set_text.f k t r) ((⟨#[]⟩ : ByteArray), false) := by
 have go : Ev (fun k => impl_set_text.j0 k true t r) ((⟨#[]⟩ : ByteArray), false) := Ev.end fun k => by simp only [impl_set_text.j0, if_true]
 unfold impl_set_text.f
 by_cases c : (t.length : Int) > 60
 ·exact Ev.eq (funext fun k => if_pos c) go
 ·refine Ev.eq (funext fun k => if_neg c) ?_
  rw [decide_eq_true (by omega)]
  exact go
theorem text_told {t r : List Bool} (h : Canon t r) : ∃ x, Ev (fun k => impl_set_text.f k t r) x ∧ Told (hasB t r) x := by
 by_cases c : t.length ≤ 60 ∧ r.length ≤ 60
 ·exact ⟨_, text_ev c.1 c.2, t, r, h, fun _ => rfl, by rw [if_pos c]⟩
 ·exact ⟨_, text_no c, t, r, h, fun _ => rfl, by rw [if_neg c]⟩

def num (b : Bool) : Int := if b = true then 49 else 48
theorem write_step (b : Bool) {α : Type} (g : Int → Option α) : ((spec_l1Bit.f b).bind fun x => if 0 ≤ x then (if x < 2 then g (bt (⟨#[48, 49]⟩ : ByteArray) x) else none) else none) = g (num b) := by
 cases b <;> rfl
theorem write_l1 (t r : List Bool) (hr : r.length ≤ 1000000) (acc : List Int) (hacc : acc.length ≤ 1000000) (d : Nat) : ∀ i, i + d = r.length → Ev (fun k => spec_l1Write.l1 k (acc ++ (r.take i).map num) (i : Nat) t r) (strOfNums (acc ++ r.map num ++ [41])) := by
 induction d with
 | zero =>
  intro i hi
  obtain rfl : i = r.length := by omega
  refine Ev.end fun k => ?_
  simp only [spec_l1Write.l1]
  rw [List.take_of_length_le (Nat.le_refl _), if_neg (by omega), if_pos (by simp; omega)]
 | succ d ih =>
  intro i hi
  have hg : r.take (i + 1) = r.take i ++ [r.getD i false] := by
   rw [List.take_succ_eq_append_getElem (by omega)]; simp [List.getD, List.getElem?_eq_getElem (show i < r.length by omega)]
  refine Ev.step (fun k => ?_) (ih (i + 1) (by omega))
  simp only [spec_l1Write.l1]
  rw [if_pos (by omega), if_pos (by omega), rdOf_nat, write_step (r.getD i false) (fun v => if (acc ++ (r.take i).map num).length < 140737488355328 then spec_l1Write.l1 k ((acc ++ (r.take i).map num) ++ [v]) (wrap64 ((i : Int) + 1)) t r else none)]
  rw [if_pos (by simp; omega), wr1 (by omega), hg, List.map_append, List.append_assoc]
  rfl
theorem write_l0 (t r : List Bool) (ht : t.length ≤ 100000) (hr : r.length ≤ 1000000) (d : Nat) : ∀ i, i + d = t.length → Ev (fun k => spec_l1Write.l0 k ((t.take i).map num) (i : Nat) t r) (strOfNums (t.map num ++ [40] ++ r.map num ++ [41])) := by
 induction d with
 | zero =>
  intro i hi
  obtain rfl : i = t.length := by omega
  have := write_l1 t r hr (t.map num ++ [40]) (by simp; omega) r.length 0 (by omega)
  refine Ev.step (fun k => ?_) this
  simp only [spec_l1Write.l0]
  rw [List.take_of_length_le (Nat.le_refl _), if_neg (by omega), if_pos (by simp; omega), List.take_zero, List.map_nil, List.append_nil]
  rfl
 | succ d ih =>
  intro i hi
  have hg : t.take (i + 1) = t.take i ++ [t.getD i false] := by
   rw [List.take_succ_eq_append_getElem (by omega)]; simp [List.getD, List.getElem?_eq_getElem (show i < t.length by omega)]
  refine Ev.step (fun k => ?_) (ih (i + 1) (by omega))
  simp only [spec_l1Write.l0]
  rw [if_pos (by omega), if_pos (by omega), rdOf_nat, write_step (t.getD i false) (fun v => if ((t.take i).map num).length < 140737488355328 then spec_l1Write.l0 k (((t.take i).map num) ++ [v]) (wrap64 ((i : Int) + 1)) t r else none)]
  rw [if_pos (by simp; omega), wr1 (by omega), hg, List.map_append]
  rfl
theorem num_byte (l : List Bool) : (l.map num).map (fun n : Int => UInt8.ofNat n.toNat) = tell l := by
 induction l with
 | nil => rfl
 | cons b l ih => simp only [List.map_cons, ih, tell]; cases b <;> rfl
theorem str_text (t r : List Bool) : strOfNums (t.map num ++ [40] ++ r.map num ++ [41]) = text t r := by
 unfold strOfNums text textL
 rw [List.map_append, List.map_append, List.map_append, num_byte, num_byte]
 simp
theorem write_ev {t r : List Bool} (ht : t.length ≤ 60) (hr : r.length ≤ 60) : Ev (fun k => spec_l1Write.f k t r) (text t r) := by
 have := write_l0 t r (by omega) (by omega) t.length 0 (by omega)
 rw [str_text] at this
 exact this
theorem done_told {t r : List Bool} (ht : t.length ≤ 1073741824) (h1 : 0 < r.length) (h2 : r.length ≤ 1073741824) : ∃ x, Ev (fun k => spec_l1Done.f k t r) x ∧ Told (hasB t r) x := by
 obtain ⟨t', r', g1, g2, g3, g4⟩ := tidied_long ht h1 h2
 unfold spec_l1Done.f
 by_cases c1 : t'.length ≤ 60
 ·by_cases c2 : r'.length ≤ 60
  ·refine ⟨(text t' r', true), Ev.bind g2 (Ev.eq (funext fun k => if_neg (by show ¬ (t'.length : Int) > 60; omega)) (Ev.eq (funext fun k => if_neg (by show ¬ (r'.length : Int) > 60; omega)) (Ev.bind (write_ev c1 c2) (Ev.now _)))), t', r', g3, g4, by rw [if_pos ⟨c1, c2⟩]⟩
  ·refine ⟨((⟨#[]⟩ : ByteArray), false), Ev.bind g2 (Ev.eq (funext fun k => if_neg (by show ¬ (t'.length : Int) > 60; omega)) (Ev.eq (funext fun k => if_pos (by show (r'.length : Int) > 60; omega)) (Ev.now _))), t', r', g3, g4, by rw [if_neg (fun h => c2 h.2)]⟩
 ·refine ⟨((⟨#[]⟩ : ByteArray), false), Ev.bind g2 (Ev.eq (funext fun k => if_pos (by show (t'.length : Int) > 60; omega)) (Ev.now _)), t', r', g3, g4, by rw [if_neg (fun h => c1 h.1)]⟩
theorem fill_told {l : List Bool} {m : Nat} (hl : l.length ≤ 1073741824) (hm : m < l.length) : ∃ x, Ev (fun k => spec_l2Fill.f k l m) x ∧ Told (hasB (l.take m) (l.drop m)) x := by
 obtain ⟨x, h1, h2⟩ := done_told (t := l.take m) (r := l.drop m) (by rw [List.length_take]; omega) (by rw [List.length_drop]; omega) (by rw [List.length_drop]; omega)
 refine ⟨x, ?_, h2⟩
 unfold spec_l2Fill.f
 refine Ev.eq (funext fun k => if_pos (by omega)) (Ev.eq (funext fun k => if_pos (by omega)) ?_)
 simp only [Int.toNat_natCast]
 exact Ev.bind h1 (Ev.now _)

theorem per_of {f : Nat → Bool} {from_ size : Nat} (h1 : 1 ≤ size) (hp : ∀ n, from_ ≤ n → f (n + size) = f n) (n : Nat) : hasB ((List.range from_).map f) ((List.range size).map fun i => f (from_ + i)) n = f n := by
 have e1 : ((List.range from_).map f).length = from_ := by simp
 have e2 : ((List.range size).map fun i => f (from_ + i)).length = size := by simp
 rcases Nat.lt_or_ge n from_ with c | c
 ·rw [hasB_lt (by rw [e1]; exact c)]
  simp [List.getD, c]
 ·rw [hasB_ge (by rw [e1]; exact c), e1, e2]
  have hm := Nat.mod_lt (n - from_) h1
  have hd := Nat.div_add_mod (n - from_) size
  have hq : ∀ q m, from_ ≤ m → f (m + q * size) = f m := by
   intro q
   induction q with
   | zero => intro m _; simp
   | succ q ih => intro m hm; rw [Nat.succ_mul, ← Nat.add_assoc, hp _ (by omega), ih m hm]
  simp only [List.getD, List.getElem?_map, List.getElem?_range hm, Option.map_some, Option.getD_some]
  rw [← hq ((n - from_) / size) (from_ + (n - from_) % size) (by omega), Nat.mul_comm]
  congr 1
  omega
theorem range_snoc (f : Nat → Bool) (i : Nat) : (List.range (i + 1)).map f = (List.range i).map f ++ [f i] := by rw [List.range_succ, List.map_append]; rfl
theorem made_l1 (f : Nat → Bool) (from_ size : Nat) (hb : from_ ≤ 1000000 ∧ size ≤ 1000000) (p : Int → Option Bool) (hp : ∀ n : Nat, n < from_ + size → p n = some (f n)) (T : List Bool) {x : ByteArray × Bool}
  (hx : Ev (fun k => (impl_set_tidy.f k T ((List.range size).map fun i => f (from_ + i))).bind fun b => (impl_set_text.f k b.1 b.2).bind fun c => some (c.1, c.2)) x) (d : Nat) :
  ∀ i, i + d = size → Ev (fun k => impl_made.l1 p k from_ size (i : Nat) T ((List.range i).map fun i => f (from_ + i))) x := by
 induction d with
 | zero =>
  intro i hi
  obtain rfl : i = size := by omega
  refine Ev.step (fun k => ?_) hx
  simp only [impl_made.l1]
  rw [if_neg (by omega)]
 | succ d ih =>
  intro i hi
  refine Ev.step (fun k => ?_) (ih (i + 1) (by omega))
  simp only [impl_made.l1]
  rw [if_pos (by omega), wr (x := (from_ : Int) + (i : Int)) (by omega) (by omega), show (from_ : Int) + (i : Int) = ((from_ + i : Nat) : Int) from by omega, hp _ (by omega)]
  simp only [Option.bind_some]
  rw [if_pos (by simp; omega), wr1 (by omega), range_snoc (fun i => f (from_ + i))]
theorem made_l0 (f : Nat → Bool) (from_ size : Nat) (hb : from_ ≤ 1000000 ∧ size ≤ 1000000) (p : Int → Option Bool) (hp : ∀ n : Nat, n < from_ + size → p n = some (f n)) {x : ByteArray × Bool}
  (hx : Ev (fun k => impl_made.l1 p k from_ size 0 ((List.range from_).map f) ([] : List Bool)) x) (d : Nat) :
  ∀ i, i + d = from_ → Ev (fun k => impl_made.l0 p k from_ size from_ (i : Nat) ((List.range i).map f)) x := by
 induction d with
 | zero =>
  intro i hi
  obtain rfl : i = from_ := by omega
  refine Ev.step (fun k => ?_) hx
  simp only [impl_made.l0]
  rw [if_neg (by omega)]
 | succ d ih =>
  intro i hi
  refine Ev.step (fun k => ?_) (ih (i + 1) (by omega))
  simp only [impl_made.l0]
  rw [if_pos (by omega), hp _ (by omega)]
  simp only [Option.bind_some]
  rw [if_pos (by simp; omega), wr1 (by omega), range_snoc f]
theorem made_ev {f : Nat → Bool} {from_ size : Nat} (h1 : 1 ≤ size) (hb : from_ ≤ 1000000 ∧ size ≤ 1000000) (hper : ∀ n, from_ ≤ n → f (n + size) = f n) {P : Nat → Int → Option Bool} (hP : ∀ n : Nat, n < from_ + size → Ev (fun k => P k n) (f n)) :
  ∃ x, Ev (fun k => impl_made.f k from_ size (P k)) x ∧ Told f x := by
 have e2 : ((List.range size).map fun i => f (from_ + i)).length = size := by simp
 obtain ⟨t, r, g1, g2, g3, g4⟩ := tidied_long (t := (List.range from_).map f) (r := (List.range size).map fun i => f (from_ + i)) (by simp; omega) (by rw [e2]; omega) (by rw [e2]; omega)
 obtain ⟨x, k1, k2⟩ := text_told g3
 refine ⟨x, ?_, k2.congr fun n => by rw [g4, per_of h1 hper]⟩
 -- the question, told once
 let p0 : Int → Option Bool := fun n => if 0 ≤ n ∧ n < (from_ + size : Nat) then some (f n.toNat) else none
 have hp0 : ∀ n : Nat, n < from_ + size → p0 n = some (f n) := by
  intro n hn
  show (if 0 ≤ (n : Int) ∧ (n : Int) < (from_ + size : Nat) then some (f (n : Int).toNat) else none) = _
  rw [if_pos ⟨by omega, by omega⟩, Int.toNat_natCast]
 have h0 : Ev (fun k => impl_made.f k from_ size p0) x := by
  have a1 := made_l1 f from_ size hb p0 hp0 ((List.range from_).map f) (x := x) (Ev.bind g1 (Ev.bind k1 (Ev.now _))) size 0 (by omega)
  exact made_l0 f from_ size hb p0 hp0 a1 from_ 0 (by omega)
 -- all of P's answers from one number of rounds on
 have hK : ∀ N, N ≤ from_ + size → ∃ K, ∀ k, K ≤ k → ∀ n : Nat, n < N → P k n = some (f n) := by
  intro N
  induction N with
  | zero => intro _; exact ⟨0, fun k _ n hn => absurd hn (Nat.not_lt_zero n)⟩
  | succ N ih =>
   intro hN
   obtain ⟨K, hK⟩ := ih (by omega)
   obtain ⟨L, hL⟩ := hP N (by omega)
   refine ⟨max K L, fun k hk n hn => ?_⟩
   rcases Nat.lt_or_ge n N with c | c
   ·exact hK k (by omega) n c
   ·obtain rfl : n = N := by omega
    exact hL k (by omega)
 obtain ⟨K, hK⟩ := hK _ (Nat.le_refl _)
 obtain ⟨L, hL⟩ := h0
 refine ⟨max K L + 1, fun k hk => ?_⟩
 obtain ⟨m, rfl⟩ : ∃ m, k = m + 1 := ⟨k - 1, by omega⟩
 refine impl_made.mono p0 (P (m + 1)) (fun n q hq => ?_) (from_ : Int) (size : Int) m x (hL m (by omega))
 have hq' : (if 0 ≤ n ∧ n < (from_ + size : Nat) then some (f n.toNat) else none) = some q := hq
 by_cases c : 0 ≤ n ∧ n < (from_ + size : Nat)
 ·rw [if_pos c] at hq'
  have := hK (m + 1) (by omega) n.toNat (by omega)
  rw [Int.toNat_of_nonneg c.1] at this
  rw [this]; exact hq'
 ·rw [if_neg c] at hq'; cases hq'


theorem gcd_ev (b : Nat) : ∀ a : Nat, Ev (fun k => impl_gcd.f k (a : Int) (b : Int)) ((Nat.gcd a b : Nat) : Int) := by
 induction b using Nat.strongRecOn with
 | _ b ih =>
  intro a
  by_cases c : b = 0
  ·subst c
   refine Ev.end fun k => ?_
   simp only [impl_gcd.f, impl_gcd.l0]
   rw [if_pos (by omega), Nat.gcd_zero_right]
  ·have h1 := ih (a % b) (Nat.mod_lt _ (by omega)) b
   rw [Nat.gcd_comm b, ← Nat.gcd_rec, Nat.gcd_comm] at h1
   refine Ev.step (fun k => ?_) h1
   simp only [impl_gcd.f, impl_gcd.l0]
   rw [if_neg (by omega), tmod_nat]


theorem lcm_ev {p q : Nat} (hp : 1 ≤ p) (hp2 : p ≤ 60) (hq2 : q ≤ 60) : Ev (fun k => impl_lcm.f k (p : Int) (q : Int)) ((Nat.lcm p q : Nat) : Int) := by
 have hg : 0 < Nat.gcd p q := Nat.gcd_pos_of_pos_left _ hp
 have hd := Nat.div_le_self p (Nat.gcd p q)
 have hm : p / Nat.gcd p q * q ≤ 60 * 60 := Nat.mul_le_mul (by omega) hq2
 have he := lcm_eq p q
 unfold impl_lcm.f
 refine Ev.bind (gcd_ev q p) (Ev.const fun k => ?_)
 rw [if_neg (by omega), tdiv_nat]
 generalize Nat.gcd p q = g at *
 generalize p / g = a at *
 rw [wr (x := (a : Int)) (by omega) (by omega), ← Int.natCast_mul, he, wr (by omega) (by omega)]
/-- Marks of a set that comes again from m on, cut there. -/
theorem fill_tells {l : List Bool} {f : Nat → Bool} {m N : Nat} (hl : Tells l f N) (hm : m < N) (hN : N ≤ 1073741824) (hper : ∀ n, m ≤ n → f (n + (N - m)) = f n) : ∃ x, Ev (fun k => spec_l2Fill.f k l m) x ∧ Told f x := by
 obtain ⟨x, h1, h2⟩ := fill_told (l := l) (m := m) (by rw [hl.len]; exact hN) (by rw [hl.len]; exact hm)
 refine ⟨x, h1, h2.congr fun n => ?_⟩
 have e1 : l.take m = (List.range m).map f := by
  refine ext_getD (by simp [hl.len]; omega) fun i hi => ?_
  have hi2 : i < m := by simp [hl.len] at hi; omega
  rw [getD_take hi2, hl.get i (by omega)]
  simp [List.getD, hi2]
 have e2 : l.drop m = (List.range (N - m)).map fun i => f (m + i) := by
  refine ext_getD (by simp [hl.len]) fun i hi => ?_
  have hi2 : i < N - m := by simp [hl.len] at hi; omega
  have := hl.get (m + i) (by omega)
  simp only [List.getD, List.getElem?_drop, List.getElem?_map, List.getElem?_range hi2, Option.map_some, Option.getD_some] at this ⊢
  exact this
 rw [e1, e2]
 exact per_of (by omega) hper n
theorem tells_range (f : Nat → Bool) (N : Nat) : Tells ((List.range N).map f) f N := ⟨by simp, fun j hj => by simp [List.getD, hj]⟩

theorem sumOf_impl {s u : ByteArray} {ta ra tb rb : List Bool} (h : IsSmall s ta ra) (h2 : IsSmall u tb rb) : ∃ x, Ev (fun k => impl_SumOf.f k s u) x ∧ Told (sumB (hasB ta ra) (hasB tb rb)) x := by
 have hL := lcm_small _ h.rl _ h2.rl h.good.pos h2.good.pos
 have hp := lcm_pos h.good.pos h2.good.pos
 have t1 := h.tl
 have t2 := h2.tl
 obtain ⟨x, k1, k2⟩ := made_ev (f := sumB (hasB ta ra) (hasB tb rb)) (from_ := 200) (size := Nat.lcm ra.length rb.length) hp ⟨by omega, by omega⟩
  (fun n hn => sumB_period (Nat.lcm ra.length rb.length) (lcm_mod_left _ _) (lcm_mod_right _ _) (by omega)) (P := fun k n => impl_sums.f k ta ra tb rb n) (fun n hn => sums_ev h.good h2.good n (by omega))
 refine ⟨x, ?_, k2⟩
 unfold impl_SumOf.f
 refine Ev.bind h.impl (Ev.bind h2.impl ?_)
 simp only [if_true]
 refine Ev.step (f := fun k => (impl_lcm.f k (ra.length : Int) (rb.length : Int)).bind fun t => (impl_made.f k 200 t (fun n_ => impl_sums.f k ta ra tb rb n_)).bind fun b => some (b.1, b.2)) (fun k => by simp only [impl_SumOf.j0, Bool.not_true, Bool.false_eq_true, if_false]) ?_
 exact Ev.bind (lcm_ev h.good.pos h.good.rl h2.good.rl) (Ev.bind k1 (Ev.now _))

theorem sum_l1 {ta ra tb rb : List Bool} (ha : Good ta ra) (hb : Good tb rb) (T L : Nat) (acc : List Bool) (i : Nat) (hi : i ≤ 1000000) (hacc : acc.length = i) {res : ByteArray × Bool}
  (hend : Ev (fun k => spec_l4Sum.l0 k false T L (acc ++ [sumB (hasB ta ra) (hasB tb rb) i]) ((i + 1 : Nat) : Int) ta ra tb rb) res) (d : Nat) :
  ∀ (q : Nat) (b : Bool), q + d = i + 1 → (b = true ↔ ∃ y, y < q ∧ hasB ta ra y = true ∧ hasB tb rb (i - y) = true) → Ev (fun k => spec_l4Sum.l1 k false T L acc (i : Nat) b (q : Nat) ta ra tb rb) res := by
 induction d with
 | zero =>
  intro q b hq hbq
  have e : b = sumB (hasB ta ra) (hasB tb rb) i := by
   rw [Bool.eq_iff_iff, hbq, sumB_iff]
   exact ⟨fun ⟨y, a, c⟩ => ⟨y, by omega, c⟩, fun ⟨y, a, c⟩ => ⟨y, by omega, c⟩⟩
  refine Ev.step (fun k => ?_) hend
  simp only [spec_l4Sum.l1]
  rw [if_neg (by omega), if_pos (by omega), wr1 (by omega), e]
 | succ d ih =>
  intro q b hq hbq
  have hw : wrap64 ((i : Int) - (q : Int)) = ((i - q : Nat) : Int) := wrs (by omega) (by omega)
  cases b with
  | true =>
   obtain ⟨y, y1, y2⟩ := hbq.1 rfl
   refine Ev.step (fun k => ?_) (ih (q + 1) true (by omega) ⟨fun _ => ⟨y, by omega, y2⟩, fun _ => rfl⟩)
   simp only [spec_l4Sum.l1]
   rw [if_pos (by omega), if_pos trivial, wr1 (by omega)]
  | false =>
   have hno : ∀ y, y < q → ¬ (hasB ta ra y = true ∧ hasB tb rb (i - y) = true) := fun y h1 h2 => by
    have := hbq.2 ⟨y, h1, h2⟩
    cases this
   have st : ∀ v : Bool, (v = true ↔ hasB ta ra q = true ∧ hasB tb rb (i - q) = true) → Ev (fun k => spec_l4Sum.l1 k false T L acc (i : Nat) v ((q + 1 : Nat) : Int) ta ra tb rb) res := by
    intro v hv
    refine ih (q + 1) v (by omega) ?_
    rw [hv]
    constructor
    ·intro hx; exact ⟨q, by omega, hx⟩
    ·rintro ⟨y, h1, h2⟩
     rcases Nat.lt_or_ge y q with c | c
     ·exact absurd h2 (hno y c)
     ·obtain rfl : y = q := by omega
      exact h2
   cases c1 : hasB ta ra q with
   | false =>
    refine Ev.step (fun k => ?_) (st false ⟨fun h => (by cases h), fun h => (by rw [c1] at h; cases h.1)⟩)
    simp only [spec_l4Sum.l1]
    rw [if_pos (by omega), if_neg (by simp), l1_has ha q (by omega), c1]
    simp only [Option.bind_some, Bool.false_eq_true, if_false]
    rw [wr1 (by omega)]
   | true =>
    cases c2 : hasB tb rb (i - q) with
    | false =>
     refine Ev.step (fun k => ?_) (st false ⟨fun h => (by cases h), fun h => (by rw [c2] at h; cases h.2)⟩)
     simp only [spec_l4Sum.l1]
     rw [if_pos (by omega), if_neg (by simp), l1_has ha q (by omega), c1]
     simp only [Option.bind_some, if_true, hw]
     rw [l1_has hb (i - q) (by omega), c2]
     simp only [Option.bind_some, Bool.false_eq_true, if_false]
     rw [wr1 (by omega)]
    | true =>
     refine Ev.step (fun k => ?_) (st true ⟨fun _ => ⟨c1, c2⟩, fun _ => rfl⟩)
     simp only [spec_l4Sum.l1]
     rw [if_pos (by omega), if_neg (by simp), l1_has ha q (by omega), c1]
     simp only [Option.bind_some, if_true, hw]
     rw [l1_has hb (i - q) (by omega), c2]
     simp only [Option.bind_some, if_true, Bool.false_eq_true, if_false]
     rw [wr1 (by omega)]
theorem sum_l0 {ta ra tb rb : List Bool} (ha : Good ta ra) (hb : Good tb rb) (T L : Nat) (hTL : T + L ≤ 100000) {x : ByteArray × Bool} (hx : Ev (fun k => spec_l2Fill.f k ((List.range (T + L)).map (sumB (hasB ta ra) (hasB tb rb))) T) x) (d : Nat) :
  ∀ i, i + d = T + L → Ev (fun k => spec_l4Sum.l0 k false T L ((List.range i).map (sumB (hasB ta ra) (hasB tb rb))) (i : Nat) ta ra tb rb) x := by
 induction d with
 | zero =>
  intro i hi
  obtain rfl : i = T + L := by omega
  refine Ev.step (f := fun k => (spec_l2Fill.f k ((List.range (T + L)).map (sumB (hasB ta ra) (hasB tb rb))) T).bind fun b => some (b.1, b.2)) (fun k => ?_) (Ev.bind hx (Ev.now _))
  simp only [spec_l4Sum.l0]
  rw [wr (x := (T : Int) + (L : Int)) (by omega) (by omega), if_neg (by omega)]
 | succ d ih =>
  intro i hi
  have h1 := ih (i + 1) (by omega)
  rw [range_snoc] at h1
  refine Ev.step (fun k => ?_) (sum_l1 ha hb T L _ i (by omega) (by simp) h1 (i + 1) 0 false (by omega) ⟨fun h => (by cases h), fun ⟨y, hy, _⟩ => absurd hy (Nat.not_lt_zero y)⟩)
  simp only [spec_l4Sum.l0]
  rw [wr (x := (T : Int) + (L : Int)) (by omega) (by omega), if_pos (by omega)]
  rfl
theorem sumOf_spec {s u : ByteArray} {ta ra tb rb : List Bool} (h : IsSmall s ta ra) (h2 : IsSmall u tb rb) : ∃ x, Ev (fun k => spec_SumOf.f k s u) x ∧ Told (sumB (hasB ta ra) (hasB tb rb)) x := by
 have hL := lcm_small _ h.rl _ h2.rl h.good.pos h2.good.pos
 have hp := lcm_pos h.good.pos h2.good.pos
 have t1 := h.tl
 have t2 := h2.tl
 have hsh := shape_ev h.good h2.good
 have hper := fun n hn => sumB_period (ta := ta) (ra := ra) (tc := tb) (rc := rb) (n := n) (Nat.lcm ra.length rb.length) (lcm_mod_left _ _) (lcm_mod_right _ _) hn
 generalize Nat.lcm ra.length rb.length = L at *
 have hM : max ta.length tb.length ≤ 8 := by omega
 have hM2 : ta.length + tb.length ≤ 2 * max ta.length tb.length := by omega
 generalize max ta.length tb.length = M at *
 obtain ⟨x, k1, k2⟩ := fill_tells (m := 2 * M + 3 * L + 2) (N := (2 * M + 3 * L + 2) + L) (tells_range (sumB (hasB ta ra) (hasB tb rb)) _) (by omega) (by omega) (fun n hn => by rw [Nat.add_sub_cancel_left]; exact hper n (by omega))
 have k3 := sum_l0 h.good h2.good (2 * M + 3 * L + 2) L (by omega) k1 _ 0 (Nat.zero_add _)
 refine ⟨x, ?_, k2⟩
 unfold spec_SumOf.f
 refine Ev.bind h.spec (Ev.bind h2.spec ?_)
 simp only [if_true]
 refine Ev.bind (f := fun k (b : ByteArray × Bool) => some (b.1, b.2)) (a := x) ?_ (Ev.now x)
 unfold spec_l4Sum.f
 refine Ev.bind hsh ?_
 have e1 : wrap64 ((wrap64 ((wrap64 (2 * (M : Int))) + (wrap64 (3 * (L : Int))))) + 2) = ((2 * M + 3 * L + 2 : Nat) : Int) := by
  rw [wr (x := 2 * (M : Int)) (by omega) (by omega), wr (x := 3 * (L : Int)) (by omega) (by omega), wr (x := 2 * (M : Int) + 3 * (L : Int)) (by omega) (by omega), wr (by omega) (by omega)]; omega
 simp only [e1]
 exact k3
theorem sumOf_both {s u : ByteArray} {ta ra tb rb : List Bool} (h : IsSmall s ta ra) (h2 : IsSmall u tb rb) : ∃ x, Ev (fun k => impl_SumOf.f k s u) x ∧ Ev (fun k => spec_SumOf.f k s u) x ∧ Told (sumB (hasB ta ra) (hasB tb rb)) x := by
 obtain ⟨x, k1, k2⟩ := sumOf_impl h h2
 obtain ⟨y, j1, j2⟩ := sumOf_spec h h2
 obtain rfl := k2.unique j2
 exact ⟨x, k1, j1, k2⟩
theorem sumOf_no {s u : ByteArray} (hs : NoSmall s ∨ ∃ t r, IsSmall s t r) (hu : NoSmall u ∨ ∃ t r, IsSmall u t r) (h : NoSmall s ∨ NoSmall u) : Ev (fun k => impl_SumOf.f k s u) ((⟨#[]⟩ : ByteArray), false) ∧ Ev (fun k => spec_SumOf.f k s u) ((⟨#[]⟩ : ByteArray), false) := by
 have any : ∀ w : ByteArray, (NoSmall w ∨ ∃ t r, IsSmall w t r) → ∃ a b c d ok, Ev (fun k => impl_small.f k w) (a, b, ok) ∧ Ev (fun k => spec_l4Small.f k w) (c, d, ok) ∧ (NoSmall w → ok = false) := by
  rintro w (k | ⟨t, r, k⟩)
  ·obtain ⟨⟨a, b, e1⟩, ⟨c, d, e2⟩⟩ := k
   exact ⟨a, b, c, d, false, e1, e2, fun _ => rfl⟩
  ·refine ⟨t, r, t, r, true, k.impl, k.spec, fun k2 => ?_⟩
   obtain ⟨⟨a, b, e1⟩, _⟩ := k2
   have := Ev.unique k.impl e1
   simp only [Prod.mk.injEq] at this
   exact absurd this.2.2 (by simp)
 obtain ⟨a, b, c, d, o, g1, g2, g3⟩ := any s hs
 obtain ⟨a', b', c', d', o', g1', g2', g3'⟩ := any u hu
 have ho : o = false ∨ o' = false := h.elim (fun k => .inl (g3 k)) (fun k => .inr (g3' k))
 constructor
 ·unfold impl_SumOf.f
  refine Ev.bind g1 (Ev.bind g1' ?_)
  have fin : ∀ x : Bool, x = true → Ev (fun k => impl_SumOf.j0 k x a b a' b') ((⟨#[]⟩ : ByteArray), false) := fun x hx => Ev.end fun k => by simp only [impl_SumOf.j0]; rw [if_pos hx]
  cases o with
  | false => simp only [Bool.false_eq_true, if_false]; exact fin _ rfl
  | true =>
   simp only [if_true]
   exact fin _ (by rcases ho with h | h; cases h; rw [h]; rfl)
 ·unfold spec_SumOf.f
  refine Ev.bind g2 (Ev.bind g2' ?_)
  cases o with
  | false => simp only [Bool.false_eq_true, if_false]; exact Ev.now _
  | true =>
   have : o' = false := by rcases ho with h | h; cases h; exact h
   subst this
   simp only [if_true, Bool.false_eq_true, if_false]; exact Ev.now _


/-- The least number greater than 0, or 0 without one. -/
structure Least (t r : List Bool) (m : Nat) : Prop where
 cases : (m = 0 ∧ ∀ z, 1 ≤ z → hasB t r z = false) ∨ (1 ≤ m ∧ m ≤ t.length + r.length ∧ hasB t r m = true ∧ ∀ z, 1 ≤ z → z < m → hasB t r z = false)
theorem Least.unique {t r : List Bool} {m m' : Nat} (h : Least t r m) (k : Least t r m') : m = m' := by
 rcases h.cases with ⟨h1, h2⟩ | ⟨h1, h2, h3, h4⟩
 ·rcases k.cases with ⟨k1, k2⟩ | ⟨k1, k2, k3, k4⟩
  ·omega
  ·rw [h2 m' k1] at k3; cases k3
 ·rcases k.cases with ⟨k1, k2⟩ | ⟨k1, k2, k3, k4⟩
  ·rw [k2 m h1] at h3; cases h3
  ·rcases Nat.lt_trichotomy m m' with c | c | c
   ·rw [k4 m h1 c] at h3; cases h3
   ·exact c
   ·rw [h4 m' k1 c] at k3; cases k3
theorem least_impl_l0 {t r : List Bool} (h : Good t r) (d : Nat) : ∀ i, i + d = t.length + r.length + 1 → 1 ≤ i → (∀ z, 1 ≤ z → z < i → hasB t r z = false) → ∃ m, Least t r m ∧ Ev (fun k => impl_set_least.l0 k (i : Nat) t r) ((m : Nat) : Int) := by
 have h2 := h.tl
 have h3 := h.rl
 have hw : wrap64 ((t.length : Int) + (r.length : Int)) = ((t.length + r.length : Nat) : Int) := by rw [wr (by omega) (by omega)]; omega
 induction d with
 | zero =>
  intro i hi h1 hno
  refine ⟨0, ⟨.inl ⟨rfl, none_far h.pos fun z z1 z2 => hno z z1 (by omega)⟩⟩, Ev.end fun k => ?_⟩
  simp only [impl_set_least.l0, hw]
  rw [if_neg (by omega)]
  rfl
 | succ d ih =>
  intro i hi h1 hno
  cases c : hasB t r i with
  | true =>
   refine ⟨i, ⟨.inr ⟨h1, by omega, c, hno⟩⟩, Ev.end fun k => ?_⟩
   simp only [impl_set_least.l0, hw]
   rw [if_pos (by omega), set_has h i (by omega), c]
   rfl
  | false =>
   obtain ⟨m, m1, m2⟩ := ih (i + 1) (by omega) (by omega) (fun z z1 z2 => by
    rcases Nat.lt_or_ge z i with e | e
    ·exact hno z z1 e
    ·obtain rfl : z = i := by omega
     exact c)
   refine ⟨m, m1, Ev.step (fun k => ?_) m2⟩
   simp only [impl_set_least.l0, hw]
   rw [if_pos (by omega), set_has h i (by omega), c]
   simp only [Option.bind_some, Bool.false_eq_true, if_false]
   rw [wr1 (by omega)]
theorem least_spec_l0 {t r : List Bool} (h : Good t r) (hs : t.length + r.length ≤ 20) (d : Nat) : ∀ i, i + d = 21 → 1 ≤ i → (∀ z, 1 ≤ z → z < i → hasB t r z = false) → ∃ m, Least t r m ∧ Ev (fun k => spec_l4Least.l0 k (i : Nat) t r) ((m : Nat) : Int) := by
 induction d with
 | zero =>
  intro i hi h1 hno
  refine ⟨0, ⟨.inl ⟨rfl, none_far h.pos fun z z1 z2 => hno z z1 (by omega)⟩⟩, Ev.end fun k => ?_⟩
  simp only [spec_l4Least.l0]
  rw [if_neg (by omega)]
  rfl
 | succ d ih =>
  intro i hi h1 hno
  cases c : hasB t r i with
  | true =>
   refine ⟨i, ⟨.inr ⟨h1, ?_, c, hno⟩⟩, Ev.end fun k => ?_⟩
   ·rcases Nat.lt_or_ge (t.length + r.length) i with e | e
    ·rw [none_far h.pos (fun z z1 z2 => hno z z1 (by omega)) i h1] at c; cases c
    ·exact e
   ·simp only [spec_l4Least.l0]
    rw [if_pos (by omega), l1_has h i (by omega), c]
    rfl
  | false =>
   obtain ⟨m, m1, m2⟩ := ih (i + 1) (by omega) (by omega) (fun z z1 z2 => by
    rcases Nat.lt_or_ge z i with e | e
    ·exact hno z z1 e
    ·obtain rfl : z = i := by omega
     exact c)
   refine ⟨m, m1, Ev.step (fun k => ?_) m2⟩
   simp only [spec_l4Least.l0]
   rw [if_pos (by omega), l1_has h i (by omega), c]
   simp only [Option.bind_some, Bool.false_eq_true, if_false]
   rw [wr1 (by omega)]
theorem least_both {t r : List Bool} (h : Good t r) (hs : t.length + r.length ≤ 20) : ∃ m, Least t r m ∧ Ev (fun k => impl_set_least.f k t r) ((m : Nat) : Int) ∧ Ev (fun k => spec_l4Least.f k t r) ((m : Nat) : Int) := by
 obtain ⟨m, a1, a2⟩ := least_impl_l0 h (t.length + r.length) 1 (by omega) (by omega) (fun z z1 z2 => by omega)
 obtain ⟨m', b1, b2⟩ := least_spec_l0 h hs 20 1 (by omega) (by omega) (fun z z1 z2 => by omega)
 obtain rfl := a1.unique b1
 exact ⟨m, a1, a2, b2⟩

structure Parts (f : Nat → Bool) (ps : List Nat) (x : Nat) : Prop where
 all : ∀ q ∈ ps, 1 ≤ q ∧ q < x ∧ f q = true
 some : ∀ y, 1 ≤ y → y < x → f y = true → ∃ q ∈ ps, q ≤ y ∧ star f (y - q) = true
 few : ps.length ≤ x
theorem parts_star {f : Nat → Bool} {ps : List Nat} {x : Nat} (h : Parts f ps x) (hx : 1 ≤ x) : star f x = true ↔ (∃ q ∈ ps, star f (x - q) = true) ∨ f x = true := by
 constructor
 ·intro hs
  obtain ⟨y, a, b, c, d⟩ := (star_iff f hx).1 hs
  rcases Nat.lt_or_ge y x with e | e
  ·obtain ⟨q, q1, q2, q3⟩ := h.some y a e c
   refine .inl ⟨q, q1, ?_⟩
   have := star_add (y - q) (x - y) q3 d
   rwa [show y - q + (x - y) = x - q from by omega] at this
  ·obtain rfl : y = x := by omega
   exact .inr c
 ·rintro (⟨q, q1, q2⟩ | hf)
  ·obtain ⟨a, b, c⟩ := h.all q q1
   exact (star_iff f hx).2 ⟨q, a, by omega, c, q2⟩
  ·exact (star_iff f hx).2 ⟨x, hx, Nat.le_refl _, hf, by rw [Nat.sub_self]; exact star_zero f⟩
theorem rd_cast (ps : List Nat) (i : Nat) (h : i < ps.length) : rd (ps.map fun y : Nat => (y : Int)) (i : Int) = ((ps[i] : Nat) : Int) := by
 simp [rd, List.getD, h]
theorem star4_l1 {t r : List Bool} (N x : Nat) (hN : N ≤ 1000000) (hx : x < N) (ps : List Nat) (hps : Parts (hasB t r) ps x) (Q : List Bool → Prop)
  (hend : ∀ l, l.length = N → (∀ j, j < x → l.getD j false = star (hasB t r) j) → (∀ j, x < j → l.getD j false = false) → (l.getD x false = true ↔ ∃ q ∈ ps, star (hasB t r) (x - q) = true) → ∃ l', Ev (fun k => spec_l4Star.j2 k N l (ps.map fun y : Nat => (y : Int)) x t r) l' ∧ Q l') (d : Nat) :
  ∀ (i : Nat) (l : List Bool), i + d = ps.length → l.length = N → (∀ j, j < x → l.getD j false = star (hasB t r) j) → (∀ j, x < j → l.getD j false = false) → (l.getD x false = true → ∃ q ∈ ps, star (hasB t r) (x - q) = true) → (l.getD x false = false → ∀ j, j < i → ∀ h : j < ps.length, star (hasB t r) (x - ps[j]) = false) →
   ∃ l', Ev (fun k => spec_l4Star.l1 k N l (ps.map fun y : Nat => (y : Int)) x (i : Nat) t r) l' ∧ Q l' := by
 have fin : ∀ l : List Bool, l.length = N → (∀ j, j < x → l.getD j false = star (hasB t r) j) → (∀ j, x < j → l.getD j false = false) → (l.getD x false = true ↔ ∃ q ∈ ps, star (hasB t r) (x - q) = true) → ∀ i : Nat, (i < ps.length → l.getD x false = true) → ∃ l', Ev (fun k => spec_l4Star.l1 k N l (ps.map fun y : Nat => (y : Int)) x (i : Nat) t r) l' ∧ Q l' := by
  intro l h1 h2 h3 h4 i hi
  obtain ⟨l', k1, k2⟩ := hend l h1 h2 h3 h4
  refine ⟨l', Ev.step (fun k => ?_) k1, k2⟩
  simp only [spec_l4Star.l1, List.length_map]
  by_cases c : i < ps.length
  ·rw [if_pos (by omega), if_pos (by omega), if_pos (by omega), rdOf_nat, hi c, if_pos rfl]
  ·rw [if_neg (by omega)]
 induction d with
 | zero =>
  intro i l hi h1 h2 h3 h4 h5
  refine fin l h1 h2 h3 ⟨h4, ?_⟩ i (fun h => by omega)
  rintro ⟨q, q1, q2⟩
  cases c : l.getD x false with
  | true => rfl
  | false =>
   obtain ⟨j, hj, rfl⟩ := List.getElem_of_mem q1
   rw [h5 c j (by omega) hj] at q2; cases q2
 | succ d ih =>
  intro i l hi h1 h2 h3 h4 h5
  cases c : l.getD x false with
  | true => exact fin l h1 h2 h3 ⟨h4, fun _ => c⟩ i (fun _ => c)
  | false =>
   have hil : i < ps.length := by omega
   have hfew := hps.few
   obtain ⟨a1, a2, a3⟩ := hps.all ps[i] (List.getElem_mem hil)
   have hw : wrap64 ((x : Int) - ((ps[i] : Nat) : Int)) = ((x - ps[i] : Nat) : Int) := wrs (by omega) (by omega)
   have hv := h2 (x - ps[i]) (by omega)
   obtain ⟨l', k1, k2⟩ := ih (i + 1) (l.set x (star (hasB t r) (x - ps[i]))) (by omega) (by rw [List.length_set, h1]) (fun j hj => by rw [getD_set_ne _ _ (by omega)]; exact h2 j hj) (fun j hj => by rw [getD_set_ne _ _ (by omega)]; exact h3 j hj)
    (by rw [getD_set_self _ _ _ (by omega)]; intro h; exact ⟨ps[i], List.getElem_mem hil, h⟩)
    (by
     rw [getD_set_self _ _ _ (by omega)]
     intro h j hj hjl
     rcases Nat.lt_or_ge j i with e | e
     ·exact h5 c j e hjl
     ·obtain rfl : j = i := by omega
      exact h)
   refine ⟨l', Ev.step (fun k => ?_) k1, k2⟩
   simp only [spec_l4Star.l1, List.length_map]
   rw [if_pos (by omega), if_pos (by omega), if_pos (by omega), rdOf_nat, c, if_neg (by simp), if_pos (by omega), rd_cast ps i hil, hw, if_pos (by omega), if_pos (by omega), rdOf_nat, hv, wr1 (by omega), Int.toNat_natCast]
theorem star4_l0 {t r : List Bool} (h : Good t r) (N : Nat) (hN : N ≤ 1000000) (d : Nat) : ∀ (x : Nat) (l : List Bool) (ps : List Nat), x + d = N → l.length = N → (∀ j, j < x → l.getD j false = star (hasB t r) j) → (∀ j, x ≤ j → l.getD j false = false) → Parts (hasB t r) ps x →
  ∃ l', Ev (fun k => spec_l4Star.l0 k N l (ps.map fun y : Nat => (y : Int)) (x : Nat) t r) l' ∧ Tells l' (star (hasB t r)) N := by
 induction d with
 | zero =>
  intro x l ps hx h1 h2 h3 h4
  refine ⟨l, Ev.end fun k => ?_, h1, fun j hj => h2 j (by omega)⟩
  simp only [spec_l4Star.l0]
  rw [if_neg (by omega)]
 | succ d ih =>
  intro x l ps hx h1 h2 h3 h4
  have hfew := h4.few
  have go := star4_l1 (t := t) (r := r) N x hN (by omega) ps h4 (fun l' => Tells l' (star (hasB t r)) N) ?_ ps.length 0 l (by omega) h1 h2 (fun j hj => h3 j (by omega)) (by rw [h3 x (Nat.le_refl _)]; intro e; cases e) (fun _ j hj => by omega)
  ·obtain ⟨l', k1, k2⟩ := go
   refine ⟨l', Ev.step (fun k => ?_) k1, k2⟩
   simp only [spec_l4Star.l0]
   rw [if_pos (by omega)]
   rfl
  ·intro m g1 g2 g3 g4
   rcases Nat.eq_zero_or_pos x with e0 | e0
   ·subst e0
    obtain ⟨l', k1, k2⟩ := ih 1 (m.set 0 true) ps (by omega) (by rw [List.length_set, g1]) (fun j hj => by
      obtain rfl : j = 0 := by omega
      rw [getD_set_self _ _ _ (by omega)]; exact (star_zero _).symm) (fun j hj => by rw [getD_set_ne _ _ (by omega)]; exact g3 j (by omega))
     ⟨fun q hq => by have := h4.all q hq; omega, fun y y1 y2 => by omega, by omega⟩
    refine ⟨l', Ev.step (fun k => ?_) k1, k2⟩
    simp only [spec_l4Star.j2]
    rw [if_pos (by omega), if_pos (by omega), wr1 (by omega)]
    rfl
   ·have hps := parts_star h4 e0
    cases c : m.getD x false with
    | true =>
     have hs : star (hasB t r) x = true := hps.2 (.inl (g4.1 c))
     obtain ⟨l', k1, k2⟩ := ih (x + 1) m ps (by omega) g1 (fun j hj => by
       rcases Nat.lt_or_ge j x with e | e
       ·exact g2 j e
       ·obtain rfl : j = x := by omega
        rw [c, hs]) (fun j hj => g3 j (by omega))
      ⟨fun q hq => by have := h4.all q hq; exact ⟨this.1, by omega, this.2.2⟩, fun y y1 y2 y3 => by
       rcases Nat.lt_or_ge y x with e | e
       ·exact h4.some y y1 e y3
       ·obtain rfl : y = x := by omega
        obtain ⟨q, q1, q2⟩ := g4.1 c
        exact ⟨q, q1, by have := h4.all q q1; omega, q2⟩, by omega⟩
     refine ⟨l', Ev.step (fun k => ?_) k1, k2⟩
     simp only [spec_l4Star.j2]
     rw [if_neg (by omega), if_pos (by omega), if_pos (by omega), rdOf_nat, c, if_pos rfl, wr1 (by omega)]
    | false =>
     have hno : ¬ ∃ q ∈ ps, star (hasB t r) (x - q) = true := fun k => by rw [g4.2 k] at c; cases c
     cases cf : hasB t r x with
     | true =>
      have hs : star (hasB t r) x = true := hps.2 (.inr cf)
      obtain ⟨l', k1, k2⟩ := ih (x + 1) (m.set x true) (ps ++ [x]) (by omega) (by rw [List.length_set, g1]) (fun j hj => by
        rcases Nat.lt_or_ge j x with e | e
        ·rw [getD_set_ne _ _ (by omega)]; exact g2 j e
        ·obtain rfl : j = x := by omega
         rw [getD_set_self _ _ _ (by omega), hs]) (fun j hj => by rw [getD_set_ne _ _ (by omega)]; exact g3 j (by omega))
       ⟨fun q hq => by
        rcases List.mem_append.1 hq with k | k
        ·have := h4.all q k; exact ⟨this.1, by omega, this.2.2⟩
        ·obtain rfl : q = x := by simpa using k
         exact ⟨e0, by omega, cf⟩, fun y y1 y2 y3 => by
        rcases Nat.lt_or_ge y x with e | e
        ·obtain ⟨q, q1, q2⟩ := h4.some y y1 e y3
         exact ⟨q, List.mem_append_left _ q1, q2⟩
        ·obtain rfl : y = x := by omega
         exact ⟨y, List.mem_append_right _ (by simp), Nat.le_refl _, by rw [Nat.sub_self]; exact star_zero _⟩, by rw [List.length_append]; simp; omega⟩
      refine ⟨l', Ev.step (fun k => ?_) k1, k2⟩
      simp only [spec_l4Star.j2]
      rw [if_neg (by omega), if_pos (by omega), if_pos (by omega), rdOf_nat, c, if_neg (by simp), l1_has h x (by omega), cf]
      simp only [Option.bind_some, if_true, List.length_map]
      rw [if_pos (by omega), wr1 (by omega), Int.toNat_natCast, List.map_append]
      rfl
     | false =>
      have hs : star (hasB t r) x = false := by
       cases e : star (hasB t r) x with
       | false => rfl
       | true =>
        rcases hps.1 e with k | k
        ·exact absurd k hno
        ·rw [cf] at k; cases k
      obtain ⟨l', k1, k2⟩ := ih (x + 1) m ps (by omega) g1 (fun j hj => by
        rcases Nat.lt_or_ge j x with e | e
        ·exact g2 j e
        ·obtain rfl : j = x := by omega
         rw [c, hs]) (fun j hj => g3 j (by omega))
       ⟨fun q hq => by have := h4.all q hq; exact ⟨this.1, by omega, this.2.2⟩, (fun y y1 y2 y3 => by
        rcases Nat.lt_or_ge y x with e | e
        ·exact h4.some y y1 e y3
        ·obtain rfl : y = x := by omega
         rw [cf] at y3; cases y3), by omega⟩
      refine ⟨l', Ev.step (fun k => ?_) k1, k2⟩
      simp only [spec_l4Star.j2]
      rw [if_neg (by omega), if_pos (by omega), if_pos (by omega), rdOf_nat, c, if_neg (by simp), l1_has h x (by omega), cf]
      simp only [Option.bind_some, Bool.false_eq_true, if_false]
      rw [wr1 (by omega)]
theorem star4_ev {t r : List Bool} (h : Good t r) (N : Nat) (hN : N ≤ 1000000) : ∃ l, Ev (fun k => spec_l4Star.f k t r N) l ∧ Tells l (star (hasB t r)) N := by
 obtain ⟨l, k1, k2⟩ := star4_l0 h N hN N 0 (List.replicate N false) [] (by omega) (by simp) (fun j hj => by omega) (fun j _ => by
   simp only [List.getD, List.getElem?_replicate]
   split <;> rfl) ⟨(fun q hq => by cases hq), (fun y y1 y2 => by omega), by simp⟩
 refine ⟨l, ?_, k2⟩
 unfold spec_l4Star.f
 refine Ev.eq (funext fun k => if_pos (by omega)) (Ev.eq (funext fun k => if_pos (by omega)) ?_)
 rw [Int.toNat_natCast]
 exact k1

/-- The star, with what is told of 0. -/
def starZ (f : Nat → Bool) (z : Bool) (n : Nat) : Bool := if n = 0 then z else star f n
theorem starZ_true (f : Nat → Bool) (n : Nat) : starZ f true n = star f n := by
 unfold starZ
 split
 ·subst_vars; exact (star_zero f).symm
 ·rfl
theorem starZ_pos {f : Nat → Bool} {z : Bool} {n : Nat} (h : 1 ≤ n) : starZ f z n = star f n := by unfold starZ; rw [if_neg (by omega)]
theorem starred_p {t r l : List Bool} {z : List Bool → List Bool → Option Bool} {b : Bool} (hz : z t r = some b) {N : Nat} (hl : Tells l (star (hasB t r)) N) (n : Nat) (hn : n < N) : impl_starred.p z t r l n = some (starZ (hasB t r) b n) := by
 unfold impl_starred.p starZ
 by_cases c : n = 0
 ·subst c
  rw [if_pos (show ((0 : Nat) : Int) = 0 from rfl), hz]
  rfl
 ·rw [if_neg (by omega), if_neg c, if_pos (by omega), if_pos (by rw [hl.len]; omega), rdOf_nat, hl.get n hn]
theorem starred_ev {s : ByteArray} {t r : List Bool} (h : IsSmall s t r) {z : List Bool → List Bool → Option Bool} {b : Bool} (hz : z t r = some b) : ∃ x, Ev (fun k => impl_starred.f k s z) x ∧ Told (starZ (hasB t r) b) x := by
 have t1 := h.tl
 have r1 := h.rl
 obtain ⟨m, m1, m2, _⟩ := least_both h.good (by omega)
 have main : ∀ q : Nat, 1 ≤ q → q ≤ 16 → (∀ n, 1000 ≤ n → starZ (hasB t r) b (n + q) = starZ (hasB t r) b n) → ∃ x, Ev (fun k => impl_starred.g k t r z (q : Int)) x ∧ Told (starZ (hasB t r) b) x := by
  intro q q1 q2 hper
  obtain ⟨l, l1, l2⟩ := star_ev h.good (1000 + q) (by omega)
  obtain ⟨x, x1, x2⟩ := made_ev (f := starZ (hasB t r) b) (from_ := 1000) (size := q) q1 ⟨by omega, by omega⟩ hper (P := fun _ => impl_starred.p z t r l) (fun n hn => by
   have := starred_p hz l2 n hn
   exact Ev.const fun _ => this)
  refine ⟨x, ?_, x2⟩
  unfold impl_starred.g
  have e : (1000 + (q : Int)) = ((1000 + q : Nat) : Int) := by omega
  rw [e]
  exact Ev.bind l1 x1
 rcases m1.cases with ⟨c1, c2⟩ | ⟨c1, c2, c3, c4⟩
 ·subst c1
  obtain ⟨x, x1, x2⟩ := main 1 (by omega) (by omega) (fun n hn => by
   rw [starZ_pos (by omega), starZ_pos (by omega), star_none c2, star_none c2, decide_eq_false (by omega), decide_eq_false (by omega)])
  refine ⟨x, ?_, x2⟩
  unfold impl_starred.f
  refine Ev.bind h.impl ?_
  simp only [if_true]
  refine Ev.bind m2 (Ev.eq (funext fun k => if_neg (by omega)) ?_)
  exact x1
 ·obtain ⟨x, x1, x2⟩ := main m c1 (by omega) (fun n hn => by
   rw [starZ_pos (by omega), starZ_pos (by omega)]; exact star_period h.good.pos t1 r1 c1 c4 c3 c2 hn)
  refine ⟨x, ?_, x2⟩
  unfold impl_starred.f
  refine Ev.bind h.impl ?_
  simp only [if_true]
  refine Ev.bind m2 (Ev.eq (funext fun k => if_pos (by omega)) (Ev.eq (funext fun k => if_pos (by omega)) ?_))
  exact x1
theorem canon_one : Canon [true] [false] := ⟨by decide, fun d h1 h2 => by simp at h2; omega, fun m hm => by
 obtain rfl : m = 0 := by simpa using hm.symm
 decide⟩
theorem has_one (n : Nat) : hasB [true] [false] n = decide (n = 0) := by
 rcases Nat.eq_zero_or_pos n with h | h
 ·subst h; rfl
 ·rw [hasB_ge (by show 1 ≤ n; omega), decide_eq_false (by omega)]
  simp [Nat.mod_one]
theorem text_one : text [true] [false] = (⟨#[49, 40, 48, 41]⟩ : ByteArray) := rfl
theorem told_one : Told (fun n => decide (n = 0)) ((⟨#[49, 40, 48, 41]⟩ : ByteArray), true) := by
 rw [← text_one]
 exact Told.of canon_one ⟨by decide, by decide, by decide⟩ has_one
theorem starOf_both {s : ByteArray} {t r : List Bool} (h : IsSmall s t r) : ∃ x, Ev (fun k => impl_StarOf.f k s) x ∧ Ev (fun k => spec_StarOf.f k s) x ∧ Told (star (hasB t r)) x := by
 obtain ⟨x, x1, x2⟩ := starred_ev h (z := fun _ _ => some true) (b := true) rfl
 have x3 : Told (star (hasB t r)) x := x2.congr (starZ_true _)
 refine ⟨x, x1, ?_, x3⟩
 have t1 := h.tl
 have r1 := h.rl
 obtain ⟨m, m1, _, m2⟩ := least_both h.good (by omega)
 unfold spec_StarOf.f
 refine Ev.bind h.spec ?_
 simp only [if_true]
 refine Ev.bind (f := fun k (b : ByteArray × Bool) => some (b.1, b.2)) (a := x) ?_ (Ev.now x)
 unfold spec_l4Whole.f
 rcases m1.cases with ⟨c1, c2⟩ | ⟨c1, c2, c3, c4⟩
 ·subst c1
  refine Ev.bind m2 (Ev.eq (funext fun k => if_pos rfl) ?_)
  rw [x3.unique (told_one.congr fun n => (star_none c2 n).symm)]
  exact Ev.now _
 ·refine Ev.bind m2 (Ev.eq (funext fun k => if_neg (by omega)) ?_)
  obtain ⟨l, l1, l2⟩ := star4_ev h.good (2400 + m) (by omega)
  obtain ⟨y, y1, y2⟩ := fill_tells l2 (m := 2400) (by omega) (by omega) (fun n hn => by
   rw [Nat.add_sub_cancel_left]; exact star_period h.good.pos t1 r1 c1 c4 c3 c2 (by omega))
  rw [wr (x := 2400 + (m : Int)) (by omega) (by omega), show (2400 + (m : Int)) = ((2400 + m : Nat) : Int) from by omega, x3.unique y2]
  exact Ev.bind l1 (Ev.bind y1 (Ev.now y))

abbrev empt : ByteArray × Bool := ((⟨#[]⟩ : ByteArray), false)

theorem tidied_self {t r : List Bool} (h : Canon t r) (g : Good t r) : Tidied t r t r := by
 obtain ⟨t', r', hT⟩ := tidied g
 obtain ⟨rfl, rfl⟩ := canon_unique hT.canon h hT.same
 exact hT
theorem small_dec {s : ByteArray} {t0 r0 t r : List Bool} (h : IsSet s t0 r0) (hT : Tidied t0 r0 t r) : NoSmall s ∨ IsSmall s t r := by
 have hi : Ev (fun k => impl_small.f k s) (t, r, decide ((t.length : Int) ≤ 8) && decide ((r.length : Int) ≤ 8)) := by
  unfold impl_small.f impl_tidied.f
  rw [h.impl]; simp only [Option.bind_some, if_true]
  refine Ev.bind (a := (t, r, true)) (Ev.bind hT.impl (Ev.now _)) (Ev.const fun k => ?_)
  rw [if_pos rfl]
  by_cases c : (t.length : Int) ≤ 8
  ·rw [if_pos c, decide_eq_true c]; rfl
  ·rw [if_neg c, decide_eq_false c]; rfl
 have hs : Ev (fun k => spec_l4Small.f k s) (t, r, decide ((t.length : Int) ≤ 8) && decide ((r.length : Int) ≤ 8)) := by
  unfold spec_l4Small.f
  refine Ev.bind h.spec ?_
  simp only [if_true]
  refine Ev.bind hT.spec (Ev.const fun k => ?_)
  by_cases c : (t.length : Int) ≤ 8
  ·rw [if_pos c, decide_eq_true c]; rfl
  ·rw [if_neg c, decide_eq_false c]; rfl
 by_cases c : t.length ≤ 8 ∧ r.length ≤ 8
 ·right
  rw [decide_eq_true (by omega), decide_eq_true (by omega)] at hi hs
  exact ⟨⟨t0, r0, h, hT⟩, hT.good, c.1, c.2, hi, hs⟩
 ·left
  have : (decide ((t.length : Int) ≤ 8) && decide ((r.length : Int) ≤ 8)) = false := by
   by_cases c1 : t.length ≤ 8
   ·rw [decide_eq_false (show ¬ (r.length : Int) ≤ 8 by omega), Bool.and_false]
   ·rw [decide_eq_false (show ¬ (t.length : Int) ≤ 8 by omega), Bool.false_and]
  rw [this] at hi hs
  exact ⟨⟨t, r, hi⟩, ⟨t, r, hs⟩⟩
theorem text_small {t r : List Bool} (h : Canon t r) (g : Good t r) : NoSmall (text t r) ∨ IsSmall (text t r) t r := small_dec (text_isSet g) (tidied_self h g)
theorem setHas4 {s : ByteArray} {t r : List Bool} (h : IsSet s t r) (n : Nat) (hn : n ≤ 1073741824) : impl_SetHas.f s n = some (hasB t r n) := by
 unfold impl_SetHas.f
 rw [h.impl]; simp only [Option.bind_some, if_true]
 rw [set_has h.good n (by omega)]; rfl
theorem both_ev {ta ra tb rb : List Bool} (ha : Good ta ra) (hb : Good tb rb) : Ev (fun k => impl_both.f k ta ra tb rb) (((max ta.length tb.length : Nat) : Int), ((Nat.lcm ra.length rb.length : Nat) : Int)) := by
 unfold impl_both.f
 refine Ev.bind (lcm_ev ha.pos ha.rl hb.rl) (Ev.const fun k => ?_)
 rw [mx_nat']
theorem lcm_le60 {p q : Nat} (hp : p ≤ 60) (hq : q ≤ 60) : Nat.lcm p q ≤ 3600 := by
 rw [← lcm_eq]
 have h1 : p / Nat.gcd p q * q ≤ 60 * 60 := Nat.mul_le_mul (Nat.le_trans (Nat.div_le_self _ _) hp) hq
 omega
end Go.Proofs.Ytedhckahjinieaa.Q

namespace Go.Proofs.Ytedhckahjinieaa.Q
open Go.RowKit Go.Proofs.YtedhckahjinieaaW.PrintWords Go.Proofs.YtedhckahjinieaaW.PrintLast Go.Proofs.YtedhckahjinieaaW.PrintMore
set_option linter.unusedVariables false
set_option linter.unusedSimpArgs false
structure Bs (bs : List Int) : Prop where
 len : bs.length ≤ 2000
 byte : ∀ x ∈ bs, 0 ≤ x ∧ x ≤ 255
theorem byte_wf {x : Int} (h : (Lit.int .u8 x).wf = true) : 0 ≤ x ∧ x ≤ 255 := by
 have h1 : IntKind.u8.min = 0 := rfl
 have h2 : IntKind.u8.max = 255 := rfl
 simp [Lit.wf] at h
 omega
theorem open_ev (l0 : List Int) (h : ∀ x ∈ l0, (Lit.int .u8 x).wf = true) : ∃ bs, Bs bs ∧ spec_l6Open.f l0 = some (bs, 0) := by
 unfold spec_l6Open.f
 by_cases c : (l0.length : Int) > 2000
 ·refine ⟨l0.take 2000, ⟨List.length_take_le _ _, fun x hx => byte_wf (h x (List.mem_of_mem_take hx))⟩, ?_⟩
  rw [if_pos c, if_pos (by omega)]
 ·exact ⟨l0, ⟨by omega, fun x hx => byte_wf (h x hx)⟩, by rw [if_neg c]⟩
theorem rd_byte {bs : List Int} (h : Bs bs) (i : Nat) : ∃ b : Nat, b ≤ 255 ∧ rd bs (i : Int) = b := by
 have hx : 0 ≤ rd bs (i : Int) ∧ rd bs (i : Int) ≤ 255 := by
  unfold rd
  rw [Int.toNat_natCast]
  by_cases c : i < bs.length
  ·have : bs.getD i 0 = bs[i] := by simp [List.getD, c]
   rw [this]
   exact h.byte _ (List.getElem_mem c)
  ·have : bs.getD i 0 = 0 := by simp [List.getD, List.getElem?_eq_none (show bs.length ≤ i by omega)]
   rw [this]; omega
 obtain ⟨b, hb⟩ := Int.eq_ofNat_of_zero_le hx.1
 exact ⟨b, by omega, hb⟩
theorem xor_nat (a b : Nat) (ha : a < 2 ^ 62) (hb : b < 2 ^ 62) : Go.bits .xor .i64 (a : Int) (b : Int) = ((a ^^^ b : Nat) : Int) := by
 have h64 : IntKind.i64.bits = 64 := rfl
 have ha' : a % 2 ^ 64 = a := Nat.mod_eq_of_lt (by omega)
 have hb' : b % 2 ^ 64 = b := Nat.mod_eq_of_lt (by omega)
 have hx : a ^^^ b < 2 ^ 62 := Nat.xor_lt_two_pow ha hb
 simp only [Go.bits, h64, BitVec.ofInt_natCast, BitVec.toNat_xor, BitVec.toNat_ofNat, ha', hb']
 rw [IntKind.wrap_i64]
 omega
theorem pick_ev {bs : List Int} (h : Bs bs) (p n : Nat) (hp : p ≤ 1000000) (hn : 1 ≤ n) (hn2 : n ≤ 1000000) : ∃ v : Nat, v < n ∧ Ev (fun k => spec_l6Rd_pick.f k bs p n) ((v : Int), ((p + 1 : Nat) : Int)) := by
 have hl := h.len
 have e1 : wrap64 (((p + 1 : Nat) : Int) - 1) = (p : Nat) := by rw [wr (by omega) (by omega)]; omega
 have pos : ∀ v : Nat, Ev (fun k => spec_l6Rd_pick.j0 k n ((bs.length : Int) == 0) bs ((p + 1 : Nat) : Int)) ((v : Int), ((p + 1 : Nat) : Int)) → Ev (fun k => spec_l6Rd_pick.f k bs p n) ((v : Int), ((p + 1 : Nat) : Int)) := by
  intro v hv
  refine Ev.congr (fun k => ?_) hv
  unfold spec_l6Rd_pick.f
  rw [if_neg (by omega), wr1 (by omega)]
 by_cases c0 : bs.length = 0
 ·refine ⟨0, by omega, pos 0 (Ev.end fun k => ?_)⟩
  simp only [spec_l6Rd_pick.j0]
  rw [if_pos (by rw [c0]; rfl)]
  rfl
 ·have hne : ¬ (((bs.length : Int) == 0) = true) := by simp; intro h; exact c0 (by simp [h])
  by_cases c : p < bs.length
  ·obtain ⟨b, hb, eb⟩ := rd_byte h p
   refine ⟨b % n, Nat.mod_lt _ (by omega), pos _ (Ev.end fun k => ?_)⟩
   simp only [spec_l6Rd_pick.j0]
   rw [if_neg hne, e1, if_pos (by omega), if_pos (by omega), if_neg (by omega), eb, wr (by omega) (by omega), tmod_nat]
  ·have hm1 := Nat.mod_lt p (show bs.length > 0 by omega)
   have hm2 := Nat.mod_lt (p * 7 + 3) (show bs.length > 0 by omega)
   obtain ⟨b1, hb1, eb1⟩ := rd_byte h (p % bs.length)
   obtain ⟨b2, hb2, eb2⟩ := rd_byte h ((p * 7 + 3) % bs.length)
   have hd := Nat.div_le_self p bs.length
   have hx : b1 * 131 + b2 * 1117 + p * 29 + p / bs.length * 53 ≤ 100000000 := by omega
   refine ⟨((b1 * 131 + b2 * 1117 + p * 29 + p / bs.length * 53) ^^^ ((b1 * 131 + b2 * 1117 + p * 29 + p / bs.length * 53) / 64)) % n, Nat.mod_lt _ (by omega), pos _ (Ev.end fun k => ?_)⟩
   simp only [spec_l6Rd_pick.j0]
   have e7 : wrap64 (wrap64 (((p : Nat) : Int) * 7) + 3) = ((p * 7 + 3 : Nat) : Int) := by rw [wr (x := (p : Int) * 7) (by omega) (by omega), wr (by omega) (by omega)]; omega
   rw [if_neg hne, e1, if_neg (by omega), if_neg (by omega), e7, tmod_nat, tmod_nat, if_pos (by omega), if_pos (by omega), if_pos (by omega), if_pos (by omega), if_neg (by omega), eb1, eb2, tdiv_nat]
   have hX : wrap64 (wrap64 (wrap64 (wrap64 (wrap64 (b1 : Int) * 131) + wrap64 (wrap64 (b2 : Int) * 1117)) + wrap64 ((p : Int) * 29)) + wrap64 (wrap64 ((p / bs.length : Nat) : Int) * 53)) = ((b1 * 131 + b2 * 1117 + p * 29 + p / bs.length * 53 : Nat) : Int) := by
    generalize p / bs.length = q at *
    rw [wr (x := (b1 : Int)) (by omega) (by omega), wr (x := (b2 : Int)) (by omega) (by omega), wr (x := (b1 : Int) * 131) (by omega) (by omega), wr (x := (b2 : Int) * 1117) (by omega) (by omega), wr (x := (p : Int) * 29) (by omega) (by omega), wr (x := (q : Int)) (by omega) (by omega), wr (x := (q : Int) * 53) (by omega) (by omega), wr (x := (b1 : Int) * 131 + (b2 : Int) * 1117) (by omega) (by omega), wr (x := (b1 : Int) * 131 + (b2 : Int) * 1117 + (p : Int) * 29) (by omega) (by omega), wr (by omega) (by omega)]
    omega
   rw [hX]
   generalize b1 * 131 + b2 * 1117 + p * 29 + p / bs.length * 53 = X at hx
   have hq : wrap64 (Int.tdiv (X : Int) 64) = ((X / 64 : Nat) : Int) := by
    rw [show (64 : Int) = ((64 : Nat) : Int) from rfl, tdiv_nat, wr (by omega) (by omega)]
   rw [hq, xor_nat _ _ (by omega) (by omega), tmod_nat]

end Go.Proofs.Ytedhckahjinieaa.Q

namespace Go.Proofs.Ytedhckahjinieaa.Q
open Go.RowKit Go.Proofs.YtedhckahjinieaaW.PrintWords Go.Proofs.YtedhckahjinieaaW.PrintLast Go.Proofs.YtedhckahjinieaaW.PrintMore
open Go.Proofs.Ytedhckahjinieaa.Pl
set_option linter.unusedVariables false
set_option linter.unusedSimpArgs false
/-- Two sets that are not both small. -/
def NoTwo (s u : ByteArray) : Prop := (NoSmall s ∨ ∃ t r, IsSmall s t r) ∧ (NoSmall u ∨ ∃ t r, IsSmall u t r) ∧ (NoSmall s ∨ NoSmall u)
theorem two_cases (s u : ByteArray) (hs : s.size ≤ 1073741824) (hu : u.size ≤ 1073741824) : NoTwo s u ∨ ∃ ta ra tb rb, IsSmall s ta ra ∧ IsSmall u tb rb := by
 have cs := small_cases s hs
 have cu := small_cases u hu
 rcases cs with h | ⟨t, r, h⟩
 ·exact .inl ⟨.inl h, cu, .inl h⟩
 ·rcases cu with g | ⟨t', r', g⟩
  ·exact .inl ⟨.inr ⟨t, r, h⟩, .inl g, .inr g⟩
  ·exact .inr ⟨t, r, t', r', h, g⟩
/-- The states of the loop: each is empty or the text of a set. -/
def Text (x : ByteArray × Bool) : Prop := x = empt ∨ ∃ t r, Canon t r ∧ Good t r ∧ x = (text t r, true)
theorem Text.of {f : Nat → Bool} {x : ByteArray × Bool} (h : Told f x) : Text x := by
 cases c : x.2 with
 | false => exact .inl (h.no c)
 | true =>
  obtain ⟨t, r, h1, h2, h3, h4⟩ := h.yes c
  exact .inr ⟨t, r, h1, h2, h4⟩
theorem sumOf_any (s u : ByteArray) (hs : s.size ≤ 1073741824) (hu : u.size ≤ 1073741824) : ∃ x, Ev (fun k => impl_SumOf.f k s u) x ∧ Ev (fun k => spec_SumOf.f k s u) x ∧ Text x := by
 rcases two_cases s u hs hu with ⟨h1, h2, h3⟩ | ⟨ta, ra, tb, rb, h, h2⟩
 ·obtain ⟨e1, e2⟩ := sumOf_no h1 h2 h3
  exact ⟨_, e1, e2, .inl rfl⟩
 ·obtain ⟨x, x1, x2, x3⟩ := sumOf_both h h2
  exact ⟨x, x1, x2, Text.of x3⟩
theorem Text.small {x : ByteArray × Bool} (h : Text x) : x.1.size ≤ 1073741824 := by
 rcases h with rfl | ⟨t, r, h1, h2, rfl⟩
 ·show (0 : Nat) ≤ _; omega
 ·have := text_size t r
  have a := h2.tl
  have b := h2.rl
  show (text t r).size ≤ _; omega
/-- What d more sums make of a state. -/
def Made (s : ByteArray) : Nat → ByteArray × Bool → ByteArray × Bool → Prop
 | 0, x, y => y = x
 | d + 1, x, y => if x.2 = true then ∃ z, Ev (fun k => impl_SumOf.f k x.1 s) z ∧ Ev (fun k => spec_SumOf.f k x.1 s) z ∧ Made s d z y else y = empt
theorem made_some (s : ByteArray) (hs : s.size ≤ 1073741824) (d : Nat) : ∀ x, Text x → ∃ y, Made s d x y ∧ Text y := by
 induction d with
 | zero => exact fun x hx => ⟨x, rfl, hx⟩
 | succ d ih =>
  intro x hx
  by_cases c : x.2 = true
  ·obtain ⟨z, z1, z2, z3⟩ := sumOf_any x.1 s hx.small hs
   obtain ⟨y, y1, y2⟩ := ih z z3
   exact ⟨y, by unfold Made; rw [if_pos c]; exact ⟨z, z1, z2, y1⟩, y2⟩
  ·exact ⟨empt, by unfold Made; rw [if_neg c], .inl rfl⟩
theorem made_l0_impl (s : ByteArray) (n : Nat) (hn : n ≤ 100) (d : Nat) : ∀ (i : Nat) (x : ByteArray) (y : ByteArray × Bool), i + d = n → Made s d (x, true) y → (y.2 = false → y = empt) → Ev (fun k => impl_SumTimes.l0 k s x n (i : Nat)) y := by
 induction d with
 | zero =>
  intro i x y hi h _
  unfold Made at h
  subst h
  refine Ev.end fun k => ?_
  simp only [impl_SumTimes.l0]
  rw [if_neg (by omega)]
 | succ d ih =>
  intro i x y hi h hy
  unfold Made at h
  rw [if_pos rfl] at h
  obtain ⟨⟨z, o⟩, z1, z2, z3⟩ := h
  refine Ev.step (f := fun k => (impl_SumOf.f k x s).bind fun a => if a.2 = true then impl_SumTimes.l0 k s a.1 n (wrap64 ((i : Int) + 1)) else some empt) (fun k => by simp only [impl_SumTimes.l0]; rw [if_pos (by omega)]) ?_
  refine Ev.bind z1 ?_
  rw [wr1 (by omega)]
  cases o with
  | true => simp only [if_true]; exact ih (i + 1) z y (by omega) z3 hy
  | false =>
   have : y = empt := by
    cases d with
    | zero => unfold Made at z3; subst z3; exact hy rfl
    | succ d => unfold Made at z3; rw [if_neg (by simp)] at z3; exact z3
   subst this
   simp only [Bool.false_eq_true, if_false]
   exact Ev.now _
theorem made_l0_spec (s : ByteArray) (n : Nat) (hn : n ≤ 100) (d : Nat) : ∀ (i : Nat) (x : ByteArray) (y : ByteArray × Bool), i + d = n → Made s d (x, true) y → (y.2 = false → y = empt) → Ev (fun k => spec_SumTimes.l0 k s n x (i : Nat)) y := by
 induction d with
 | zero =>
  intro i x y hi h _
  unfold Made at h
  subst h
  refine Ev.end fun k => ?_
  simp only [spec_SumTimes.l0]
  rw [if_neg (by omega)]
 | succ d ih =>
  intro i x y hi h hy
  unfold Made at h
  rw [if_pos rfl] at h
  obtain ⟨⟨z, o⟩, z1, z2, z3⟩ := h
  refine Ev.step (f := fun k => (spec_SumOf.f k x s).bind fun a => if a.2 = true then spec_SumTimes.l0 k s n a.1 (wrap64 ((i : Int) + 1)) else some empt) (fun k => by simp only [spec_SumTimes.l0]; rw [if_pos (by omega)]) ?_
  refine Ev.bind z2 ?_
  rw [wr1 (by omega)]
  cases o with
  | true => simp only [if_true]; exact ih (i + 1) z y (by omega) z3 hy
  | false =>
   have : y = empt := by
    cases d with
    | zero => unfold Made at z3; subst z3; exact hy rfl
    | succ d => unfold Made at z3; rw [if_neg (by simp)] at z3; exact z3
   subst this
   simp only [Bool.false_eq_true, if_false]
   exact Ev.now _
abbrev one : ByteArray × Bool := ((⟨#[49, 40, 48, 41]⟩ : ByteArray), true)
theorem text_of_no {y : ByteArray × Bool} (h : Text y) (e : y.2 = false) : y = empt := by
 rcases h with h | ⟨t, r, _, _, rfl⟩
 ·exact h
 ·cases e
theorem sumTimes_yes {s : ByteArray} {t r : List Bool} (h : IsSmall s t r) (n : Nat) (hn : n ≤ 6) {y : ByteArray × Bool} (hy : Made s n one y) (ht : Text y) : Ev (fun k => impl_SumTimes.f k s n) y ∧ Ev (fun k => spec_SumTimes.f k s n) y := by
 have k1 := made_l0_impl s n (by omega) n 0 one.1 y (by omega) hy (text_of_no ht)
 have k2 := made_l0_spec s n (by omega) n 0 one.1 y (by omega) hy (text_of_no ht)
 have i1 : impl_in.f (n : Int) 0 6 = some true := by rw [in_eq', decide_eq_true (by omega)]
 have i2 : spec_l6In.f (n : Int) 0 6 = some true := by rw [l6In_eq', decide_eq_true (by omega)]
 constructor
 ·unfold impl_SumTimes.f
  refine Ev.bind h.impl ?_
  simp only [if_true, i1, Option.bind_some]
  exact Ev.step (fun k => by simp only [impl_SumTimes.j0, Bool.not_true, Bool.false_eq_true, if_false]; rfl) k1
 ·unfold spec_SumTimes.f
  refine Ev.bind h.spec ?_
  simp only [if_true, i2, Option.bind_some]
  exact Ev.step (fun k => by simp only [spec_SumTimes.j0, Bool.not_true, Bool.false_eq_true, if_false]; rfl) k2
theorem sumTimes_no {s : ByteArray} {n : Int} (hs : NoSmall s ∨ ∃ t r, IsSmall s t r) (h : NoSmall s ∨ ¬ (0 ≤ n ∧ n ≤ 6)) : Ev (fun k => impl_SumTimes.f k s n) empt ∧ Ev (fun k => spec_SumTimes.f k s n) empt := by
 have f1 : ∀ x : Bool, x = true → Ev (fun k => impl_SumTimes.j0 k s n x) empt := fun x hx => Ev.end fun k => by simp only [impl_SumTimes.j0]; rw [if_pos hx]
 have f2 : ∀ x : Bool, x = true → Ev (fun k => spec_SumTimes.j0 k s n x) empt := fun x hx => Ev.end fun k => by simp only [spec_SumTimes.j0]; rw [if_pos hx]
 rcases hs with g | ⟨t, r, g⟩
 ·obtain ⟨⟨a, b, e1⟩, ⟨c, d, e2⟩⟩ := g
  constructor
  ·unfold impl_SumTimes.f
   refine Ev.bind e1 ?_
   simp only [Bool.false_eq_true, if_false]
   exact f1 _ rfl
  ·unfold spec_SumTimes.f
   refine Ev.bind e2 ?_
   simp only [Bool.false_eq_true, if_false]
   exact f2 _ rfl
 ·have hn : ¬ (0 ≤ n ∧ n ≤ 6) := by
   rcases h with h | h
   ·obtain ⟨⟨a, b, e1⟩, _⟩ := h
    have := Ev.unique e1 g.impl
    simp at this
   ·exact h
  have i1 : impl_in.f n 0 6 = some false := by rw [in_eq', decide_eq_false hn]
  have i2 : spec_l6In.f n 0 6 = some false := by rw [l6In_eq', decide_eq_false hn]
  constructor
  ·unfold impl_SumTimes.f
   refine Ev.bind g.impl ?_
   simp only [if_true, i1, Option.bind_some]
   exact f1 _ rfl
  ·unfold spec_SumTimes.f
   refine Ev.bind g.spec ?_
   simp only [if_true, i2, Option.bind_some]
   exact f2 _ rfl


theorem pair_told (z : Bool → Bool → Bool) {s u : ByteArray} {ta ra tb rb : List Bool} (h : IsSet s ta ra) (h2 : IsSet u tb rb) : ∃ x, Ev (fun k => impl_pair.f k s u z) x ∧ Told (fun n => z (hasB ta ra n) (hasB tb rb n)) x := by
 have g := h.good
 have g2 := h2.good
 have l1 := lcm_le60 g.rl g2.rl
 have l2 := lcm_pos g.pos g2.pos
 have a1 := g.tl
 have a2 := g2.tl
 have hb := both_ev g g2
 have m1 := lcm_mod_left ra.length rb.length
 have m2 := lcm_mod_right ra.length rb.length
 generalize Nat.lcm ra.length rb.length = L at *
 have hT : max ta.length tb.length ≤ 60 := by omega
 have hT1 : ta.length ≤ max ta.length tb.length := by omega
 have hT2 : tb.length ≤ max ta.length tb.length := by omega
 generalize max ta.length tb.length = T at *
 obtain ⟨x, x1, x2⟩ := made_ev (f := fun n => z (hasB ta ra n) (hasB tb rb n)) (from_ := T) (size := L) l2 ⟨by omega, by omega⟩ (fun n hn => by
  show z (hasB ta ra (n + L)) (hasB tb rb (n + L)) = z (hasB ta ra n) (hasB tb rb n)
  rw [hasB_add_mul (by omega) L m1, hasB_add_mul (by omega) L m2]) (P := fun _ => impl_pair.p z ta ra tb rb) (fun n hn => Ev.const fun _ => by
  unfold impl_pair.p
  rw [set_has g n (by omega), set_has g2 n (by omega)]
  rfl)
 refine ⟨x, ?_, x2⟩
 unfold impl_pair.f
 rw [h.impl, h2.impl]; simp only [Option.bind_some, if_true]
 exact Ev.bind hb x1
def bI (b : Bool) : Int := if b = true then 1 else 0
theorem bit_is (b : Bool) : spec_l1Bit.f b = some (bI b) := by cases b <;> rfl
theorem bI_pos (a b : Bool) : 0 ≤ wrap64 ((wrap64 (2 * bI a)) + bI b) := by
 have h : ∀ c : Bool, bI c = 0 ∨ bI c = 1 := fun c => by cases c <;> simp [bI]
 have h1 := h a
 have h2 := h b
 unfold wrap64
 omega
/-- The mask's bit at two bits is what z says. -/
def Mask (m : Int) (z : Bool → Bool → Bool) : Prop := ∀ a b, ((Go.bits .and .i64 (shr .i64 m (wrap64 ((wrap64 (2 * bI a)) + bI b))) 1) == 1) = z a b
theorem mask_or : Mask 14 (fun a b => a || b) := by intro a b; cases a <;> cases b <;> kernel_rfl
theorem mask_and : Mask 8 (fun a b => a && b) := by intro a b; cases a <;> cases b <;> kernel_rfl
theorem pair2_l0 {m : Int} {z : Bool → Bool → Bool} (hm : Mask m z) {ta ra tb rb : List Bool} (ha : Good ta ra) (hb : Good tb rb) (T L : Nat) (hTL : T + L ≤ 10000) {x : ByteArray × Bool}
  (hx : Ev (fun k => spec_l1Done.f k ((List.range T).map fun n => z (hasB ta ra n) (hasB tb rb n)) ((List.range L).map fun j => z (hasB ta ra (T + j)) (hasB tb rb (T + j)))) x) (d : Nat) : ∀ i, i + d = T + L →
  Ev (fun k => spec_l2Two.l0 k m (T : Nat) (L : Nat) (i : Nat) ta ra tb rb ((List.range (min i T)).map fun n => z (hasB ta ra n) (hasB tb rb n)) ((List.range (i - T)).map fun j => z (hasB ta ra (T + j)) (hasB tb rb (T + j)))) x := by
 have hw : wrap64 ((T : Int) + (L : Int)) = ((T + L : Nat) : Int) := by rw [wr (by omega) (by omega)]; omega
 induction d with
 | zero =>
  intro i hi
  rw [show min i T = T by omega, show i - T = L by omega]
  refine Ev.step (f := fun k => (spec_l1Done.f k ((List.range T).map fun n => z (hasB ta ra n) (hasB tb rb n)) ((List.range L).map fun j => z (hasB ta ra (T + j)) (hasB tb rb (T + j)))).bind fun y => some (y.1, y.2)) (fun k => ?_) (Ev.bind hx (Ev.now _))
  simp only [spec_l2Two.l0, hw]
  rw [if_neg (by omega)]
 | succ d ih =>
  intro i hi
  have k1 := ih (i + 1) (by omega)
  have g1 := l1_has ha i (by omega)
  have g2 := l1_has hb i (by omega)
  have hp := bI_pos (hasB ta ra i) (hasB tb rb i)
  have hv := hm (hasB ta ra i) (hasB tb rb i)
  have e1 : wrap64 ((i : Int) + 1) = ((i + 1 : Nat) : Int) := wr1 (by omega)
  by_cases c : i < T
  ·rw [show min (i + 1) T = i + 1 by omega, show i + 1 - T = 0 by omega, range_snoc] at k1
   rw [show min i T = i by omega, show i - T = 0 by omega]
   refine Ev.step (fun k => ?_) k1
   simp only [spec_l2Two.l0, hw]
   rw [if_pos (by omega), g1]
   simp only [Option.bind_some, bit_is, g2]
   rw [if_pos hp, if_pos (by omega), if_pos (by simp; omega), e1, hv]
  ·rw [show min (i + 1) T = T by omega, show i + 1 - T = (i - T) + 1 by omega, range_snoc] at k1
   rw [show min i T = T by omega]
   refine Ev.step (fun k => ?_) k1
   simp only [spec_l2Two.l0, hw]
   rw [if_pos (by omega), g1]
   simp only [Option.bind_some, bit_is, g2]
   rw [if_pos hp, if_neg (by omega), if_pos (by simp; omega), e1, hv, show T + (i - T) = i by omega]
theorem pair2_told {m : Int} {z : Bool → Bool → Bool} (hm : Mask m z) {s u : ByteArray} {ta ra tb rb : List Bool} (h : IsSet s ta ra) (h2 : IsSet u tb rb) : ∃ x, Ev (fun k => spec_l2Two.f k s u m) x ∧ Told (fun n => z (hasB ta ra n) (hasB tb rb n)) x := by
 have g := h.good
 have g2 := h2.good
 have l1 := lcm_le60 g.rl g2.rl
 have l2 := lcm_pos g.pos g2.pos
 have a1 := g.tl
 have a2 := g2.tl
 have hs := shape_ev g g2
 have m1 := lcm_mod_left ra.length rb.length
 have m2 := lcm_mod_right ra.length rb.length
 generalize Nat.lcm ra.length rb.length = L at *
 have hT : max ta.length tb.length ≤ 60 := by omega
 have hT1 : ta.length ≤ max ta.length tb.length := by omega
 have hT2 : tb.length ≤ max ta.length tb.length := by omega
 generalize max ta.length tb.length = T at *
 obtain ⟨x, x1, x2⟩ := done_told (t := (List.range T).map fun n => z (hasB ta ra n) (hasB tb rb n)) (r := (List.range L).map fun j => z (hasB ta ra (T + j)) (hasB tb rb (T + j))) (by simp; omega) (by simp; omega) (by simp; omega)
 refine ⟨x, ?_, x2.congr fun n => per_of (f := fun n => z (hasB ta ra n) (hasB tb rb n)) l2 (fun n hn => by
  show z (hasB ta ra (n + L)) (hasB tb rb (n + L)) = z (hasB ta ra n) (hasB tb rb n)
  rw [hasB_add_mul (by omega) L m1, hasB_add_mul (by omega) L m2]) n⟩
 unfold spec_l2Two.f
 refine Ev.bind h.spec (Ev.bind h2.spec ?_)
 simp only [if_true, Bool.not_true]
 refine Ev.step (f := fun k => (spec_l1Shape.f k ta ra tb rb).bind fun y => (spec_l2Two.l0 k m y.1 y.2 0 ta ra tb rb (([] : List Bool)) (([] : List Bool)))) (fun k => by simp only [spec_l2Two.j0, Bool.false_eq_true, if_false]) ?_
 refine Ev.bind hs ?_
 have := pair2_l0 hm g g2 T L (by omega) x1 (T + L) 0 (by omega)
 simpa using this
/-- Both answer alike on two texts that tell sets. -/
theorem made_two {m : Int} {z : Bool → Bool → Bool} (hm : Mask m z) {s u : ByteArray} {ta ra tb rb : List Bool} (h : IsSet s ta ra) (h2 : IsSet u tb rb) : ∃ x, Ev (fun k => impl_pair.f k s u z) x ∧ Ev (fun k => (spec_l2Two.f k s u m).bind fun y => some (y.1, y.2)) x ∧ Told (fun n => z (hasB ta ra n) (hasB tb rb n)) x := by
 obtain ⟨x, x1, x2⟩ := pair_told z h h2
 obtain ⟨y, y1, y2⟩ := pair2_told hm h h2
 obtain rfl := x2.unique y2
 exact ⟨x, x1, Ev.bind y1 (Ev.now _), x2⟩

/-- The signs are those of terms. -/
def Tm.ok : Tm → Prop
 | .leaf c => c = 48 ∨ c = 49 ∨ c = 97
 | .un c a => (c = 42 ∨ (50 ≤ c ∧ c ≤ 53)) ∧ a.ok
 | .bin c a b => (c = 43 ∨ c = 46 ∨ c = 38) ∧ a.ok ∧ b.ok
theorem Tm.parse_ok (n : Nat) : ∀ (s : ByteArray) (t : Tm) (r : ByteArray), Tm.parse n s = some (t, r) → t.ok := by
 induction n with
 | zero => intro s t r h; simp [Tm.parse] at h
 | succ n ih =>
  intro s t r h
  unfold Tm.parse at h
  split at h
  ·cases h
  split at h
  ·rename_i h1
   simp only [Option.some.injEq, Prod.mk.injEq] at h
   rw [← h.1]; exact h1
  split at h
  ·rename_i h1
   obtain ⟨⟨a, q⟩, k1, k2⟩ := Option.bind_eq_some_iff.mp h
   simp only [Option.some.injEq, Prod.mk.injEq] at k2
   rw [← k2.1]; exact ⟨h1, ih _ _ _ k1⟩
  split at h
  ·obtain ⟨⟨a, q⟩, k1, k2⟩ := Option.bind_eq_some_iff.mp h
   simp only at k2
   split at k2
   ·cases k2
   split at k2
   ·rename_i h2
    obtain ⟨⟨b, z⟩, k3, k4⟩ := Option.bind_eq_some_iff.mp k2
    simp only at k4
    split at k4
    ·cases k4
    split at k4
    ·simp only [Option.some.injEq, Prod.mk.injEq] at k4
     rw [← k4.1]; exact ⟨h2, ih _ _ _ k1, ih _ _ _ k3⟩
    ·cases k4
   ·cases k2
  ·cases h
theorem Tm.of_ok {s : ByteArray} {t : Tm} (h : Tm.of s = some t) : t.ok := by
 unfold Tm.of at h
 split at h
 ·obtain ⟨⟨a, q⟩, k1, k2⟩ := Option.bind_eq_some_iff.mp h
  simp only at k2
  split at k2
  ·obtain rfl := Option.some.inj k2
   exact Tm.parse_ok _ _ _ _ k1
  ·cases k2
 ·cases h
/-- So many sums more. -/
def powB (f : Nat → Bool) : Nat → (Nat → Bool) → Nat → Bool
 | 0, g => g
 | d + 1, g => powB f d (sumB g f)
/-- The numbers of a term. -/
def Tm.sem : Tm → Nat → Bool
 | .leaf c => fun n => if c = 48 then false else if c = 49 then decide (n = 0) else decide (n = 1)
 | .un c a => if c = 42 then star a.sem else powB a.sem (c - 48).toNat (fun n => decide (n = 0))
 | .bin c a b => if c = 43 then fun n => a.sem n || b.sem n else if c = 46 then sumB a.sem b.sem else fun n => a.sem n && b.sem n
theorem canon_nil : Canon [] [false] := ⟨by decide, fun d h1 h2 => by simp at h2; omega, fun m hm => by simp at hm⟩
theorem has_nil (n : Nat) : hasB [] [false] n = false := by
 rw [hasB_ge (by show 0 ≤ n; omega)]
 simp [Nat.mod_one]
theorem told_nil : Told (fun _ => false) ((⟨#[40, 48, 41]⟩ : ByteArray), true) := by
 rw [show (⟨#[40, 48, 41]⟩ : ByteArray) = text [] [false] from rfl]
 exact Told.of canon_nil ⟨by decide, by decide, by decide⟩ has_nil
theorem canon_a : Canon [false, true] [false] := ⟨by decide, fun d h1 h2 => by simp at h2; omega, fun m hm => by
 obtain rfl : m = 1 := by simpa using hm.symm
 decide⟩
theorem has_a (n : Nat) : hasB [false, true] [false] n = decide (n = 1) := by
 by_cases h : n < 2
 ·obtain rfl | rfl : n = 0 ∨ n = 1 := by omega
  ·rfl
  ·rfl
 ·rw [hasB_ge (by show 2 ≤ n; omega), decide_eq_false (by omega)]
  simp [Nat.mod_one]
theorem told_a : Told (fun n => decide (n = 1)) ((⟨#[48, 49, 40, 48, 41]⟩ : ByteArray), true) := by
 rw [show (⟨#[48, 49, 40, 48, 41]⟩ : ByteArray) = text [false, true] [false] from rfl]
 exact Told.of canon_a ⟨by decide, by decide, by decide⟩ has_a
/-- What is told: nothing, or a set. -/
def Tells8 (f : Nat → Bool) (x : ByteArray × Bool) : Prop := x = empt ∨ Told f x
theorem Tells8.cases {f : Nat → Bool} {x : ByteArray × Bool} (h : Tells8 f x) : x = empt ∨ ∃ t r, Canon t r ∧ Good t r ∧ hasB t r = f ∧ x = (text t r, true) := by
 rcases h with h | h
 ·exact .inl h
 ·cases c : x.2 with
  | false => exact .inl (h.no c)
  | true =>
   obtain ⟨t, r, h1, h2, h3, h4⟩ := h.yes c
   exact .inr ⟨t, r, h1, h2, funext h3, h4⟩
theorem made_empt (s : ByteArray) (d : Nat) : ∀ y, Made s d empt y → y = empt := by
 cases d with
 | zero => exact fun y h => h
 | succ d =>
  intro y h
  unfold Made at h
  rw [if_neg (by simp)] at h
  exact h
theorem made_told {s : ByteArray} {t r : List Bool} (hs : IsSmall s t r) (d : Nat) : ∀ (g : Nat → Bool) (x y : ByteArray × Bool), Tells8 g x → Made s d x y → Tells8 (powB (hasB t r) d g) y := by
 induction d with
 | zero => intro g x y hx h; obtain rfl : y = x := h; exact hx
 | succ d ih =>
  intro g x y hx h
  rcases hx.cases with rfl | ⟨t', r', h1, h2, rfl, rfl⟩
  ·exact .inl (made_empt s (d + 1) y h)
  ·unfold Made at h
   rw [if_pos rfl] at h
   obtain ⟨z, z1, z2, z3⟩ := h
   rcases text_small h1 h2 with k | k
   ·obtain ⟨e1, _⟩ := sumOf_no (.inl k) (.inr ⟨t, r, hs⟩) (.inl k)
    obtain rfl := Ev.unique z1 e1
    exact .inl (made_empt s d y z3)
   ·obtain ⟨x', x1, _, x3⟩ := sumOf_both k hs
    obtain rfl := Ev.unique z1 x1
    exact ih _ _ _ (.inr x3) z3
theorem times_both {x : ByteArray × Bool} {f : Nat → Bool} {t r : List Bool} (h1 : Canon t r) (h2 : Good t r) (n : Nat) (hn : n ≤ 6) : ∃ y, Ev (fun k => impl_SumTimes.f k (text t r) n) y ∧ Ev (fun k => spec_SumTimes.f k (text t r) n) y ∧ Tells8 (powB (hasB t r) n (fun n => decide (n = 0))) y := by
 rcases text_small h1 h2 with k | k
 ·obtain ⟨e1, e2⟩ := sumTimes_no (n := (n : Int)) (.inl k) (.inl k)
  exact ⟨_, e1, e2, .inl rfl⟩
 ·have hsz : (text t r).size ≤ 1073741824 := by
   have := text_size t r
   have a := h2.tl
   have b := h2.rl
   omega
  obtain ⟨y, y1, y2⟩ := made_some (text t r) hsz n one (Text.of told_one)
  obtain ⟨e1, e2⟩ := sumTimes_yes k n hn y1 y2
  exact ⟨y, e1, e2, made_told k n _ one y (.inr told_one) y1⟩
theorem star_no8 {s : ByteArray} (h : NoSmall s) : Ev (fun k => impl_StarOf.f k s) empt ∧ Ev (fun k => spec_StarOf.f k s) empt := by
 obtain ⟨⟨a, b, e1⟩, ⟨c, d, e2⟩⟩ := h
 constructor
 ·unfold impl_StarOf.f impl_starred.f
  refine Ev.bind e1 ?_
  simp only [Bool.false_eq_true, if_false]
  exact Ev.now _
 ·unfold spec_StarOf.f
  refine Ev.bind e2 ?_
  simp only [Bool.false_eq_true, if_false]
  exact Ev.now _
theorem term_both (t : Tm) : t.ok → ∃ x, Ev (fun k => impl_term_set.f k t) x ∧ Ev (fun k => spec_l7Set.f k t.toS.f0 t.toS.f1) x ∧ Tells8 t.sem x := by
 induction t with
 | leaf c =>
  intro h
  have lf : ∀ y : ByteArray × Bool, (impl_term_set.f 0 (.leaf c) = some y) → (∀ k, spec_l7Set.f (k + 1) c ([] : List S49) = some y) → Told (Tm.sem (.leaf c)) y → ∃ x, Ev (fun k => impl_term_set.f k (.leaf c)) x ∧ Ev (fun k => spec_l7Set.f k (Tm.leaf c).toS.f0 (Tm.leaf c).toS.f1) x ∧ Tells8 (Tm.sem (.leaf c)) x :=
   fun y h1 h2 h3 => ⟨y, Ev.const fun k => h1, Ev.end fun k => h2 k, .inr h3⟩
  rcases h with rfl | rfl | rfl
  ·exact lf _ rfl (fun k => by simp [spec_l7Set.f]) told_nil
  ·exact lf _ rfl (fun k => by simp [spec_l7Set.f]) told_one
  ·exact lf _ rfl (fun k => by simp [spec_l7Set.f]) told_a
 | un c a ih =>
  rintro ⟨hc, ha⟩
  obtain ⟨x, x1, x2, x3⟩ := ih ha
  have n1 : ¬ c = 48 := by omega
  have n2 : ¬ c = 49 := by omega
  have n3 : ¬ c = 97 := by omega
  have st2 : ∀ y, Ev (fun k => if x.2 = true then (if c = 42 then ((spec_StarOf.f k x.1).bind fun b => (some (b.1, b.2))) else (if c ≥ 50 then (if c ≤ 53 then ((spec_SumTimes.f k x.1 ((c - 48) % 256)).bind fun b => (some (b.1, b.2))) else (spec_l7Set.j0 k x.1 c [a.toS])) else (spec_l7Set.j0 k x.1 c [a.toS]))) else (some ((⟨#[]⟩ : ByteArray), false))) y → Ev (fun k => spec_l7Set.f k (Tm.un c a).toS.f0 (Tm.un c a).toS.f1) y := by
   intro y hy
   refine Ev.step (f := fun k => (spec_l7Set.f k a.toS.f0 a.toS.f1).bind fun b => (if b.2 = true then (if c = 42 then ((spec_StarOf.f k b.1).bind fun b => (some (b.1, b.2))) else (if c ≥ 50 then (if c ≤ 53 then ((spec_SumTimes.f k b.1 ((c - 48) % 256)).bind fun b => (some (b.1, b.2))) else (spec_l7Set.j0 k b.1 c [a.toS])) else (spec_l7Set.j0 k b.1 c [a.toS]))) else (some ((⟨#[]⟩ : ByteArray), false)))) (fun k => ?_) (Ev.bind x2 hy)
   show spec_l7Set.f (k + 1) c [a.toS] = _
   simp only [spec_l7Set.f, if_neg n1, if_neg n2, if_neg n3]
   rw [if_pos (by simp)]
   rfl
  have st1 : ∀ y, Ev (fun k => if x.2 = true then (if c = 42 then impl_StarOf.f k x.1 else if 50 ≤ c ∧ c ≤ 53 then impl_SumTimes.f k x.1 (c - 48) else none) else some ((⟨#[]⟩ : ByteArray), false)) y → Ev (fun k => impl_term_set.f k (.un c a)) y := fun y hy => Ev.bind x1 hy
  rcases x3.cases with rfl | ⟨t, r, h1, h2, hf, rfl⟩
  ·exact ⟨empt, st1 _ (Ev.const fun k => rfl), st2 _ (Ev.const fun k => rfl), .inl rfl⟩
  ·simp only [if_true] at st1 st2
   by_cases h42 : c = 42
   ·simp only [if_pos h42] at st1 st2
    rcases text_small h1 h2 with k | k
    ·obtain ⟨e1, e2⟩ := star_no8 k
     exact ⟨_, st1 _ e1, st2 _ (Ev.bind e2 (Ev.now _)), .inl rfl⟩
    ·obtain ⟨y, y1, y2, y3⟩ := starOf_both k
     refine ⟨y, st1 _ y1, st2 _ (Ev.bind y2 (Ev.now _)), .inr ?_⟩
     show Told (if c = 42 then star a.sem else _) y
     rw [if_pos h42, ← hf]; exact y3
   ·have hr : 50 ≤ c ∧ c ≤ 53 := hc.resolve_left h42
    simp only [if_neg h42, if_pos hr] at st1
    simp only [if_neg h42, if_pos (show c ≥ 50 from hr.1), if_pos hr.2] at st2
    obtain ⟨n, hn⟩ : ∃ n : Nat, c - 48 = (n : Int) := ⟨(c - 48).toNat, by omega⟩
    obtain ⟨y, y1, y2, y3⟩ := times_both (x := empt) (f := fun _ => false) h1 h2 n (by omega)
    refine ⟨y, st1 _ (by rw [hn]; exact y1), st2 _ ?_, ?_⟩
    ·rw [show (c - 48) % 256 = (n : Int) by omega]
     exact Ev.bind y2 (Ev.now _)
    ·show Tells8 (if c = 42 then _ else powB a.sem (c - 48).toNat (fun n => decide (n = 0))) y
     rw [if_neg h42, ← hf, hn, Int.toNat_natCast]
     exact y3
 | bin c a b iha ihb =>
  rintro ⟨hc, ha, hb⟩
  obtain ⟨x, x1, x2, x3⟩ := iha ha
  obtain ⟨y, y1, y2, y3⟩ := ihb hb
  have n1 : ¬ c = 48 := by omega
  have n2 : ¬ c = 49 := by omega
  have n3 : ¬ c = 97 := by omega
  have n4 : ¬ c = 42 := by omega
  have n5 : ¬ c ≥ 50 := by omega
  have st2 : ∀ w, Ev (fun k => if x.2 = true then (if y.2 = true then (if c = 43 then ((spec_MakeEither.f k x.1 y.1).bind fun b => (some (b.1, b.2))) else (if c = 46 then ((spec_SumOf.f k x.1 y.1).bind fun b => (some (b.1, b.2))) else ((spec_MakeBoth.f k x.1 y.1).bind fun b => (some (b.1, b.2))))) else (some ((⟨#[]⟩ : ByteArray), false))) else (some ((⟨#[]⟩ : ByteArray), false))) w → Ev (fun k => spec_l7Set.f k (Tm.bin c a b).toS.f0 (Tm.bin c a b).toS.f1) w := by
   intro w hw
   refine Ev.step (f := fun k => (spec_l7Set.f k a.toS.f0 a.toS.f1).bind fun p => (if p.2 = true then (spec_l7Set.j0 k p.1 c [a.toS, b.toS]) else (some ((⟨#[]⟩ : ByteArray), false)))) (fun k => ?_) (Ev.bind x2 ?_)
   ·show spec_l7Set.f (k + 1) c [a.toS, b.toS] = _
    simp only [spec_l7Set.f, if_neg n1, if_neg n2, if_neg n3, if_neg n4, if_neg n5]
    rw [if_pos (by simp)]
    rfl
   ·cases hx : x.2 with
    | false => simp only [hx, Bool.false_eq_true, if_false] at hw ⊢; exact hw
    | true =>
     simp only [hx, if_true] at hw ⊢
     refine Ev.step (f := fun k => (spec_l7Set.f k b.toS.f0 b.toS.f1).bind fun p => (if p.2 = true then (if c = 43 then ((spec_MakeEither.f k x.1 p.1).bind fun b => (some (b.1, b.2))) else (if c = 46 then ((spec_SumOf.f k x.1 p.1).bind fun b => (some (b.1, b.2))) else ((spec_MakeBoth.f k x.1 p.1).bind fun b => (some (b.1, b.2))))) else (some ((⟨#[]⟩ : ByteArray), false)))) (fun k => ?_) (Ev.bind y2 hw)
     simp only [spec_l7Set.j0]
     rw [if_pos (by simp)]
     rfl
  have st1 : ∀ w, Ev (fun k => if x.2 = true then (if y.2 = true then (if c = 43 then impl_MakeEither.f k x.1 y.1 else if c = 46 then impl_SumOf.f k x.1 y.1 else if c = 38 then impl_MakeBoth.f k x.1 y.1 else none) else some ((⟨#[]⟩ : ByteArray), false)) else some ((⟨#[]⟩ : ByteArray), false)) w → Ev (fun k => impl_term_set.f k (.bin c a b)) w := by
   intro w hw
   refine Ev.bind x1 ?_
   cases hx : x.2 with
   | false => simp only [hx, Bool.false_eq_true, if_false] at hw ⊢; exact hw
   | true => simp only [hx, if_true] at hw ⊢; exact Ev.bind y1 hw
  rcases x3.cases with rfl | ⟨t, r, h1, h2, hf, rfl⟩
  ·exact ⟨empt, st1 _ (Ev.const fun k => rfl), st2 _ (Ev.const fun k => rfl), .inl rfl⟩
  ·rcases y3.cases with rfl | ⟨t', r', h1', h2', hf', rfl⟩
   ·exact ⟨empt, st1 _ (Ev.const fun k => rfl), st2 _ (Ev.const fun k => rfl), .inl rfl⟩
   ·simp only [if_true] at st1 st2
    by_cases h43 : c = 43
    ·simp only [if_pos h43] at st1 st2
     obtain ⟨w, w1, w2, w3⟩ := made_two mask_or (text_isSet h2) (text_isSet h2')
     refine ⟨w, st1 _ w1, st2 _ (Ev.bind w2 (Ev.now _)), .inr ?_⟩
     show Told (if c = 43 then (fun n => a.sem n || b.sem n) else _) w
     rw [if_pos h43, ← hf, ← hf']; exact w3
    ·by_cases h46 : c = 46
     ·simp only [if_neg h43, if_pos h46] at st1 st2
      by_cases no : NoSmall (text t r) ∨ NoSmall (text t' r')
      ·obtain ⟨e1, e2⟩ := sumOf_no ((text_small h1 h2).imp id fun h => ⟨_, _, h⟩) ((text_small h1' h2').imp id fun h => ⟨_, _, h⟩) no
       exact ⟨_, st1 _ e1, st2 _ (Ev.bind e2 (Ev.now _)), .inl rfl⟩
      ·obtain ⟨w, w1, w2, w3⟩ := sumOf_both ((text_small h1 h2).resolve_left fun h => no (.inl h)) ((text_small h1' h2').resolve_left fun h => no (.inr h))
       refine ⟨w, st1 _ w1, st2 _ (Ev.bind w2 (Ev.now _)), .inr ?_⟩
       show Told (if c = 43 then _ else if c = 46 then sumB a.sem b.sem else _) w
       rw [if_neg h43, if_pos h46, ← hf, ← hf']; exact w3
     ·have h38 : c = 38 := by omega
      simp only [if_neg h43, if_neg h46, if_pos h38] at st1
      simp only [if_neg h43, if_neg h46] at st2
      obtain ⟨w, w1, w2, w3⟩ := made_two mask_and (text_isSet h2) (text_isSet h2')
      refine ⟨w, st1 _ w1, st2 _ (Ev.bind w2 (Ev.now _)), .inr ?_⟩
      show Told (if c = 43 then _ else if c = 46 then _ else (fun n => a.sem n && b.sem n)) w
      rw [if_neg h43, if_neg h46, ← hf, ← hf']; exact w3
/-- TermSet: both answer alike, and what is told are the term's numbers. -/
theorem termSet_both (s : ByteArray) : ∃ x, Ev (fun k => impl_TermSet.f k s) x ∧ Ev (fun k => spec_TermSet.f k s) x ∧ (x = empt ∨ ∃ t, Tm.of s = some t ∧ Tells8 t.sem x) := by
 unfold impl_TermSet.f spec_TermSet.f
 cases h : Tm.of s with
 | none => exact ⟨empt, Ev.now _, Ev.now _, .inl rfl⟩
 | some t =>
  obtain ⟨x, x1, x2, x3⟩ := term_both t (Tm.of_ok h)
  exact ⟨x, x1, x2, .inr ⟨t, rfl, x3⟩⟩


theorem starN_eq (f : Nat → Bool) : starN f = star f := by
 funext n
 induction n using Nat.strongRecOn with
 | ind n ih =>
  by_cases h : n = 0
  ·subst h; rw [starN_zero, star_zero]
  ·rw [Bool.eq_iff_iff, starN_iff f n (by omega), star_iff f (by omega)]
   exact ⟨fun ⟨y, a, b, c, d⟩ => ⟨y, a, b, c, by rw [← ih (n - y) (by omega)]; exact d⟩, fun ⟨y, a, b, c, d⟩ => ⟨y, a, b, c, by rw [ih (n - y) (by omega)]; exact d⟩⟩
theorem powB_last (f : Nat → Bool) (d : Nat) : ∀ g, powB f (d + 1) g = sumB (powB f d g) f := by
 induction d with
 | zero => intro g; rfl
 | succ d ih => intro g; rw [powB, ih]; rfl
theorem powN_eq (f : Nat → Bool) (d : Nat) : powN f d = powB f d (fun n => decide (n = 0)) := by
 induction d with
 | zero => rfl
 | succ d ih => rw [powB_last, ← ih]; rfl
theorem numbers_sem (t : Tm) : t.ok → impl_term_numbers.f t = some t.sem := by
 induction t with
 | leaf c =>
  intro h
  unfold impl_term_numbers.f
  rcases h with rfl | rfl | rfl <;> rfl
 | un c a ih =>
  rintro ⟨h, h2⟩
  unfold impl_term_numbers.f Tm.sem
  rw [ih h2, Option.bind_some]
  by_cases c0 : c = 42
  ·rw [if_pos c0, if_pos c0, starN_eq]
  ·rw [if_neg c0, if_neg c0, if_pos (h.resolve_left c0), powN_eq]
 | bin c a b ih1 ih2 =>
  rintro ⟨h, h2, h3⟩
  unfold impl_term_numbers.f Tm.sem
  rw [ih1 h2, ih2 h3, Option.bind_some, Option.bind_some]
  rcases h with rfl | rfl | rfl <;> rfl
theorem tells_yes {v : ByteArray} {z : ByteArray × Bool} (hz : z.2 = true) (h : z = empt ∨ ∃ t, Tm.of v = some t ∧ Tells8 t.sem z) : ∃ t t0 r0, Tm.of v = some t ∧ IsSet z.1 t0 r0 ∧ hasB t0 r0 = t.sem := by
 rcases h with rfl | ⟨t, ht, hT⟩
 ·cases hz
 rcases hT.cases with rfl | ⟨t0, r0, _, hg, hs, rfl⟩
 ·cases hz
 exact ⟨t, t0, r0, ht, text_isSet hg, hs⟩
end Go.Proofs.Ytedhckahjinieaa.Q

namespace Go.Proofs.Ytedhckahjinieaa.Q
open Go.RowKit Go.Proofs.YtedhckahjinieaaW.PrintWords Go.Proofs.YtedhckahjinieaaW.PrintLast Go.Proofs.YtedhckahjinieaaW.PrintMore
set_option linter.unusedVariables false
set_option linter.unusedSimpArgs false
theorem rdOf_one (l : List ByteArray) (hl : ∀ x ∈ l, x.size ≤ 1) (u : Int) : (rdOf ByteArray.empty l u).size ≤ 1 := by
 unfold rdOf
 simp only [List.getD]
 cases e : l[u.toNat]? with
 | none => simp
 | some x => exact hl x (List.mem_of_getElem? e)
theorem term_leaf {bs : List Int} (h : Bs bs) (p : Nat) (hp : p ≤ 900000) (d : Int) : ∃ s : ByteArray, s.size ≤ 1 ∧ Ev (fun k => spec_l91Term.j0 k d true bs p) (s, ((p + 1 : Nat) : Int)) := by
 obtain ⟨v, hv, e⟩ := pick_ev h p 4 (by omega) (by omega) (by omega)
 refine ⟨rdOf ByteArray.empty [(⟨#[48]⟩ : ByteArray), (⟨#[49]⟩ : ByteArray), (⟨#[97]⟩ : ByteArray), (⟨#[97]⟩ : ByteArray)] v, rdOf_one _ (by intro x hx; simp at hx; rcases hx with rfl | rfl | rfl <;> decide) _, Ev.step (fun k => by rw [spec_l91Term.j0]) ?_⟩
 simp only [if_true, Option.bind_some]
 refine Ev.bind e (Ev.const fun k => ?_)
 rw [if_pos (by omega), if_pos (by simp; omega)]
theorem term_draw {bs : List Int} (h : Bs bs) (d : Nat) : ∀ p, d ≤ 3 → p + 5 * 2 ^ d ≤ 800000 → ∃ (s : ByteArray) (q : Nat), s.size + 3 ≤ 4 * 2 ^ d ∧ q + 3 ≤ p + 5 * 2 ^ d ∧ Ev (fun k => spec_l91Term.f k bs p d) (s, (q : Int)) := by
 induction d with
 | zero =>
  intro p _ hp
  obtain ⟨s, h1, h2⟩ := term_leaf h p (by omega) 0
  refine ⟨s, p + 1, by omega, by omega, Ev.step (fun k => by rw [spec_l91Term.f]) ?_⟩
  simp only [Int.natCast_zero, if_true]
  exact h2
 | succ d ih =>
  intro p hd hp
  have hx : 2 ^ (d + 1) = 2 * 2 ^ d := by rw [Nat.pow_succ]; omega
  have hx1 : 1 ≤ 2 ^ d := Nat.one_le_two_pow
  rw [hx] at hp ⊢
  generalize 2 ^ d = x at ih hp hx1 ⊢
  clear hx
  obtain ⟨v, hv, e⟩ := pick_ev h p 5 (by omega) (by omega) (by omega)
  have hdd : x ≤ 200000 := by omega
  have key : ∃ (s : ByteArray) (q : Nat), s.size + 3 ≤ 4 * (2 * x) ∧ q + 3 ≤ p + 5 * (2 * x) ∧ Ev (fun k => spec_l91Term.j0 k ((d + 1 : Nat) : Int) ((v : Int) == 0) bs ((p + 1 : Nat) : Int)) (s, (q : Int)) := by
   by_cases hv0 : v = 0
   ·subst hv0
    obtain ⟨s, h1, h2⟩ := term_leaf h (p + 1) (by omega) ((d + 1 : Nat) : Int)
    exact ⟨s, p + 1 + 1, by omega, by omega, h2⟩
   ·rw [show ((v : Int) == 0) = false from beq_eq_false_iff_ne.2 (by omega)]
    have hw : wrap64 (((d + 1 : Nat) : Int) - 1) = (d : Int) := by rw [wr (by omega) (by omega)]; omega
    obtain ⟨u, hu, e2⟩ := pick_ev h (p + 1) 6 (by omega) (by omega) (by omega)
    have key2 : ∃ (s : ByteArray) (q : Nat), s.size + 3 ≤ 4 * (2 * x) ∧ q + 3 ≤ p + 5 * (2 * x) ∧ Ev (fun k => (fun (k : Nat) (y : Int × Int) => (if y.1 = 0 then ((spec_l91Term.f k bs y.2 (wrap64 (((d + 1 : Nat) : Int) - 1))).bind fun bt124 => (if 1 + bt124.1.size ≤ 9223372036854775807 then (some ((⟨#[42]⟩ : ByteArray) ++ bt124.1, bt124.2)) else (none))) else (if y.1 = 1 then ((some (([(⟨#[50]⟩ : ByteArray), (⟨#[51]⟩ : ByteArray), (⟨#[52]⟩ : ByteArray), (⟨#[53]⟩ : ByteArray)] : List ByteArray) : List ByteArray)).bind fun y126 => ((spec_l6Rd_pick.f k bs y.2 4).bind fun bt129 => (if 0 ≤ bt129.1 then (if bt129.1 < (y126.length : Int) then ((spec_l91Term.f k bs bt129.2 (wrap64 (((d + 1 : Nat) : Int) - 1))).bind fun bt132 => (if (rdOf ByteArray.empty y126 bt129.1).size + bt132.1.size ≤ 9223372036854775807 then (some ((rdOf ByteArray.empty y126 bt129.1) ++ bt132.1, bt132.2)) else (none))) else (none)) else (none)))) else ((spec_l91Term.f k bs y.2 (wrap64 (((d + 1 : Nat) : Int) - 1))).bind fun bt134 => (if 1 + bt134.1.size ≤ 9223372036854775807 then ((some (([(⟨#[43]⟩ : ByteArray), (⟨#[43]⟩ : ByteArray), (⟨#[46]⟩ : ByteArray), (⟨#[38]⟩ : ByteArray)] : List ByteArray) : List ByteArray)).bind fun y136 => ((spec_l6Rd_pick.f k bs bt134.2 4).bind fun bt139 => (if 0 ≤ bt139.1 then (if bt139.1 < (y136.length : Int) then (if 1 + bt134.1.size + (rdOf ByteArray.empty y136 bt139.1).size ≤ 9223372036854775807 then ((spec_l91Term.f k bs bt139.2 (wrap64 (((d + 1 : Nat) : Int) - 1))).bind fun bt142 => (if 1 + bt134.1.size + (rdOf ByteArray.empty y136 bt139.1).size + bt142.1.size ≤ 9223372036854775807 then (if 1 + bt134.1.size + (rdOf ByteArray.empty y136 bt139.1).size + bt142.1.size + 1 ≤ 9223372036854775807 then (some (((((⟨#[40]⟩ : ByteArray) ++ bt134.1) ++ (rdOf ByteArray.empty y136 bt139.1)) ++ bt142.1) ++ (⟨#[41]⟩ : ByteArray), bt142.2)) else (none)) else (none))) else (none)) else (none)) else (none)))) else (none)))))) k ((u : Int), ((p + 1 + 1 : Nat) : Int))) (s, (q : Int)) := by
     simp only [hw]
     have z1 : (⟨#[42]⟩ : ByteArray).size = 1 := rfl
     have z2 : (⟨#[40]⟩ : ByteArray).size = 1 := rfl
     have z3 : (⟨#[41]⟩ : ByteArray).size = 1 := rfl
     by_cases c0 : u = 0
     ·simp only [if_pos (show (u : Int) = 0 by omega)]
      obtain ⟨s, q, g1, g2, g3⟩ := ih (p + 1 + 1) (by omega) (by omega)
      refine ⟨(⟨#[42]⟩ : ByteArray) ++ s, q, by rw [ByteArray.size_append, z1]; omega, by omega, Ev.bind g3 (Ev.const fun k => ?_)⟩
      rw [if_pos (by show 1 + s.size ≤ _; omega)]
     ·simp only [if_neg (show ¬ (u : Int) = 0 by omega)]
      by_cases c1 : u = 1
      ·simp only [if_pos (show (u : Int) = 1 by omega), Option.bind_some]
       obtain ⟨a, ha, e3⟩ := pick_ev h (p + 1 + 1) 4 (by omega) (by omega) (by omega)
       obtain ⟨s, q, g1, g2, g3⟩ := ih (p + 1 + 1 + 1) (by omega) (by omega)
       have z := rdOf_one [(⟨#[50]⟩ : ByteArray), (⟨#[51]⟩ : ByteArray), (⟨#[52]⟩ : ByteArray), (⟨#[53]⟩ : ByteArray)] (by intro x hx; simp at hx; rcases hx with rfl | rfl | rfl | rfl <;> decide) a
       refine ⟨(rdOf ByteArray.empty [(⟨#[50]⟩ : ByteArray), (⟨#[51]⟩ : ByteArray), (⟨#[52]⟩ : ByteArray), (⟨#[53]⟩ : ByteArray)] a) ++ s, q, by rw [ByteArray.size_append]; omega, by omega, Ev.bind e3 ?_⟩
       simp only [if_pos (show (0 : Int) ≤ (a : Int) by omega), if_pos (show (a : Int) < (([(⟨#[50]⟩ : ByteArray), (⟨#[51]⟩ : ByteArray), (⟨#[52]⟩ : ByteArray), (⟨#[53]⟩ : ByteArray)].length : Nat) : Int) by simp; omega)]
       refine Ev.bind g3 (Ev.const fun k => ?_)
       rw [if_pos (by show _ + s.size ≤ _; omega)]
      ·simp only [if_neg (show ¬ (u : Int) = 1 by omega), Option.bind_some]
       obtain ⟨s, q, g1, g2, g3⟩ := ih (p + 1 + 1) (by omega) (by omega)
       obtain ⟨a, ha, e3⟩ := pick_ev h q 4 (by omega) (by omega) (by omega)
       obtain ⟨s2, q2, f1, f2, f3⟩ := ih (q + 1) (by omega) (by omega)
       have z := rdOf_one [(⟨#[43]⟩ : ByteArray), (⟨#[43]⟩ : ByteArray), (⟨#[46]⟩ : ByteArray), (⟨#[38]⟩ : ByteArray)] (by intro x hx; simp at hx; rcases hx with rfl | rfl | rfl <;> decide) a
       refine ⟨((((⟨#[40]⟩ : ByteArray) ++ s) ++ (rdOf ByteArray.empty [(⟨#[43]⟩ : ByteArray), (⟨#[43]⟩ : ByteArray), (⟨#[46]⟩ : ByteArray), (⟨#[38]⟩ : ByteArray)] a)) ++ s2) ++ (⟨#[41]⟩ : ByteArray), q2, by simp only [ByteArray.size_append, z2, z3]; omega, by omega, Ev.bind g3 ?_⟩
       simp only [if_pos (show 1 + s.size ≤ 9223372036854775807 by omega)]
       refine Ev.bind e3 ?_
       simp only [if_pos (show (0 : Int) ≤ (a : Int) by omega), if_pos (show (a : Int) < (([(⟨#[43]⟩ : ByteArray), (⟨#[43]⟩ : ByteArray), (⟨#[46]⟩ : ByteArray), (⟨#[38]⟩ : ByteArray)].length : Nat) : Int) by simp; omega)]
       generalize rdOf ByteArray.empty [(⟨#[43]⟩ : ByteArray), (⟨#[43]⟩ : ByteArray), (⟨#[46]⟩ : ByteArray), (⟨#[38]⟩ : ByteArray)] (a : Int) = o at z ⊢
       simp only [if_pos (show 1 + s.size + o.size ≤ 9223372036854775807 by omega)]
       refine Ev.bind f3 (Ev.const fun k => ?_)
       rw [if_pos (by show 1 + s.size + o.size + s2.size ≤ _; omega), if_pos (by show 1 + s.size + o.size + s2.size + 1 ≤ _; omega)]
    obtain ⟨s, q, g1, g2, g3⟩ := key2
    refine ⟨s, q, g1, g2, Ev.step (fun k => by rw [spec_l91Term.j0]) ?_⟩
    simp only [Bool.false_eq_true, if_false]
    exact Ev.bind e2 g3
  obtain ⟨s, q, g1, g2, g3⟩ := key
  refine ⟨s, q, g1, g2, Ev.step (fun k => by rw [spec_l91Term.f]) ?_⟩
  simp only [if_neg (show ¬ ((d + 1 : Nat) : Int) = 0 by omega)]
  exact Ev.bind e g3
theorem said_draw {bs : List Int} (h : Bs bs) (p : Nat) (hp : p ≤ 50000) : ∃ (s : ByteArray) (q : Nat), q ≤ p + 100 ∧ Ev (fun k => spec_l91Said.f k bs p) (s, (q : Int)) := by
 obtain ⟨d, hd, e1⟩ := pick_ev h p 4 (by omega) (by omega) (by omega)
 have hx : 2 ^ d ≤ 8 := by
  have : d = 0 ∨ d = 1 ∨ d = 2 ∨ d = 3 := by omega
  rcases this with rfl | rfl | rfl | rfl <;> decide
 obtain ⟨s, q, g1, g2, g3⟩ := term_draw h d (p + 1) (by omega) (by omega)
 obtain ⟨v, hv, e2⟩ := pick_ev h q 16 (by omega) (by omega) (by omega)
 have key : ∃ (s' : ByteArray) (q' : Nat), q' ≤ p + 100 ∧ Ev (fun k => (if (v : Int) = 0 then ((spec_l6Rd_pick.f k bs ((q + 1 : Nat) : Int) (wrap64 ((s.size : Int) + 1))).bind fun bt150 => (if 0 ≤ bt150.1 then (if bt150.1 ≤ (s.size : Int) then ((some (([(⟨#[]⟩ : ByteArray), (⟨#[98]⟩ : ByteArray), (⟨#[40]⟩ : ByteArray), (⟨#[41]⟩ : ByteArray), (⟨#[43]⟩ : ByteArray)] : List ByteArray) : List ByteArray)).bind fun y152 => ((spec_l6Rd_pick.f k bs bt150.2 5).bind fun bt155 => (if 0 ≤ bt155.1 then (if bt155.1 < (y152.length : Int) then (if (s.extract 0 (bt150.1 : Int).toNat).size + (rdOf ByteArray.empty y152 bt155.1).size ≤ 9223372036854775807 then (if (s.extract 0 (bt150.1 : Int).toNat).size + (rdOf ByteArray.empty y152 bt155.1).size + (s.extract (bt150.1 : Int).toNat s.size).size ≤ 9223372036854775807 then (some (((s.extract 0 (bt150.1 : Int).toNat) ++ (rdOf ByteArray.empty y152 bt155.1)) ++ (s.extract (bt150.1 : Int).toNat s.size), bt155.2)) else (none)) else (none)) else (none)) else (none)))) else (none)) else (none))) else (some (s, ((q + 1 : Nat) : Int))))) (s', (q' : Int)) := by
  by_cases c0 : v = 0
  ·simp only [if_pos (show (v : Int) = 0 by omega), Option.bind_some]
   rw [show wrap64 ((s.size : Int) + 1) = ((s.size + 1 : Nat) : Int) by rw [wr (by omega) (by omega)]; omega]
   obtain ⟨a, ha, e3⟩ := pick_ev h (q + 1) (s.size + 1) (by omega) (by omega) (by omega)
   obtain ⟨b, hb, e4⟩ := pick_ev h (q + 1 + 1) 5 (by omega) (by omega) (by omega)
   have z := rdOf_one [(⟨#[]⟩ : ByteArray), (⟨#[98]⟩ : ByteArray), (⟨#[40]⟩ : ByteArray), (⟨#[41]⟩ : ByteArray), (⟨#[43]⟩ : ByteArray)] (by intro x hx; simp at hx; rcases hx with rfl | rfl | rfl | rfl | rfl <;> decide) b
   refine ⟨((s.extract 0 ((a : Int)).toNat) ++ (rdOf ByteArray.empty [(⟨#[]⟩ : ByteArray), (⟨#[98]⟩ : ByteArray), (⟨#[40]⟩ : ByteArray), (⟨#[41]⟩ : ByteArray), (⟨#[43]⟩ : ByteArray)] b)) ++ (s.extract ((a : Int)).toNat s.size), q + 1 + 1 + 1, by omega, Ev.bind e3 ?_⟩
   simp only [if_pos (show (0 : Int) ≤ (a : Int) by omega), if_pos (show (a : Int) ≤ (s.size : Int) by omega)]
   refine Ev.bind e4 (Ev.const fun k => ?_)
   rw [if_pos (show (0 : Int) ≤ (b : Int) by omega), if_pos (show (b : Int) < (([(⟨#[]⟩ : ByteArray), (⟨#[98]⟩ : ByteArray), (⟨#[40]⟩ : ByteArray), (⟨#[41]⟩ : ByteArray), (⟨#[43]⟩ : ByteArray)].length : Nat) : Int) by simp; omega)]
   rw [if_pos (by simp only [ByteArray.size_extract]; omega), if_pos (by simp only [ByteArray.size_extract]; omega)]
  ·simp only [if_neg (show ¬ (v : Int) = 0 by omega)]
   exact ⟨s, q + 1, by omega, Ev.now _⟩
 obtain ⟨s', q', k1, k2⟩ := key
 refine ⟨s', q', k1, ?_⟩
 unfold spec_l91Said.f
 exact Ev.bind e1 (Ev.bind g3 (Ev.bind e2 k2))

end Go.Proofs.Ytedhckahjinieaa.Q

namespace Go.Proofs.Ytedhckahjinieaa.Q
open Go.RowKit Go.Proofs.YtedhckahjinieaaW.PrintWords Go.Proofs.YtedhckahjinieaaW.PrintLast Go.Proofs.YtedhckahjinieaaW.PrintMore
open Go.Proofs.Ytedhckahjinieaa.Pl
set_option linter.unusedVariables false
set_option linter.unusedSimpArgs false
theorem wra {a b : Nat} (ha : a ≤ 1000000) (hb : b ≤ 1000000) : wrap64 ((a : Int) + (b : Int)) = ((a + b : Nat) : Int) := by rw [wr (by omega) (by omega)]; omega
def Sm (f g : Nat → Bool) (x y j : Nat) : Prop := ∃ k, k ≤ j ∧ f k = true ∧ g (j - k) = true ∧ (k < x ∨ (k = x ∧ j < x + y))
theorem sum7_l1 {a b : List Bool} {f g : Nat → Bool} {m : Nat} (ha : Tells a f m) (hb : Tells b g m) (hm : m ≤ 1000) (x : Nat) (hx : x < m) (P : List Bool → Prop)
  (hend : ∀ l, l.length = m → (∀ j, j < m → (l.getD j false = true ↔ Sm f g (x + 1) 0 j)) → ∃ l', Ev (fun k => spec_l7Sum.l0 k a b l ((x + 1 : Nat) : Int)) l' ∧ P l') (d : Nat) :
  ∀ (y : Nat) (l : List Bool), x + y + d = m → l.length = m → (∀ j, j < m → (l.getD j false = true ↔ Sm f g x y j)) → ∃ l', Ev (fun k => spec_l7Sum.l1 k a b l (x : Nat) (y : Nat)) l' ∧ P l' := by
 have hal := ha.len
 have hbl := hb.len
 induction d with
 | zero =>
  intro y l hy hl hv
  obtain ⟨l', k1, k2⟩ := hend l hl (fun j hj => (hv j hj).trans ⟨fun ⟨k, p1, p2, p3, p4⟩ => ⟨k, p1, p2, p3, .inl (by omega)⟩, fun ⟨k, p1, p2, p3, p4⟩ => ⟨k, p1, p2, p3, by omega⟩⟩)
  refine ⟨l', Ev.step (fun k => ?_) k1, k2⟩
  simp only [spec_l7Sum.l1, wra (show x ≤ 1000000 by omega) (show y ≤ 1000000 by omega)]
  rw [if_neg (by omega), wr1 (by omega)]
 | succ d ih =>
  intro y l hy hl hv
  by_cases c : f x = true
  ·have nx : ∀ v : Bool, (v = true ↔ l.getD (x + y) false = true ∨ g y = true) → ∃ l', Ev (fun k => spec_l7Sum.l1 k a b (l.set (x + y) v) (x : Nat) ((y + 1 : Nat) : Int)) l' ∧ P l' := by
    intro v hv2
    refine ih (y + 1) (l.set (x + y) v) (by omega) (by rw [List.length_set, hl]) (fun j hj => ?_)
    by_cases e : j = x + y
    ·subst e
     rw [getD_set_self _ _ _ (by omega), hv2, hv _ hj]
     constructor
     ·rintro (⟨k, p1, p2, p3, p4⟩ | h)
      ·exact ⟨k, p1, p2, p3, by omega⟩
      ·exact ⟨x, by omega, c, by rw [Nat.add_sub_cancel_left]; exact h, .inr ⟨rfl, by omega⟩⟩
     ·rintro ⟨k, p1, p2, p3, p4⟩
      rcases p4 with h | ⟨rfl, h⟩
      ·exact .inl ⟨k, p1, p2, p3, .inl h⟩
      ·right; rw [Nat.add_sub_cancel_left] at p3; exact p3
    ·rw [getD_set_ne _ _ (show x + y ≠ j by omega), hv _ hj]
     exact ⟨fun ⟨k, p1, p2, p3, p4⟩ => ⟨k, p1, p2, p3, by omega⟩, fun ⟨k, p1, p2, p3, p4⟩ => ⟨k, p1, p2, p3, by omega⟩⟩
   cases e : l.getD (x + y) false with
   | true =>
    obtain ⟨l', k1, k2⟩ := nx true ⟨fun _ => .inl e, fun _ => rfl⟩
    refine ⟨l', Ev.step (fun k => ?_) k1, k2⟩
    simp only [spec_l7Sum.l1, wra (show x ≤ 1000000 by omega) (show y ≤ 1000000 by omega), rdOf_nat, ha.get x hx, e, c, if_true]
    rw [if_pos (by omega), if_pos (by omega), if_pos (by omega), if_pos (by omega), if_pos (by omega), Int.toNat_natCast, wr1 (by omega)]
   | false =>
    obtain ⟨l', k1, k2⟩ := nx (g y) (by rw [e]; simp)
    refine ⟨l', Ev.step (fun k => ?_) k1, k2⟩
    simp only [spec_l7Sum.l1, wra (show x ≤ 1000000 by omega) (show y ≤ 1000000 by omega), rdOf_nat, ha.get x hx, e, c, if_true, Bool.false_eq_true, if_false]
    rw [if_pos (by omega), if_pos (by omega), if_pos (by omega), if_pos (by omega), if_pos (by omega), if_pos (by omega), if_pos (by omega), Int.toNat_natCast, wr1 (by omega), hb.get y (by omega)]
  ·obtain ⟨l', k1, k2⟩ := hend l hl (fun j hj => (hv j hj).trans ⟨fun ⟨k, p1, p2, p3, p4⟩ => ⟨k, p1, p2, p3, .inl (by omega)⟩, fun ⟨k, p1, p2, p3, p4⟩ => ⟨k, p1, p2, p3, by
    rcases p4 with h | h
    ·by_cases q : k = x
     ·subst q; exact absurd p2 c
     ·omega
    ·omega⟩⟩)
   refine ⟨l', Ev.step (fun k => ?_) k1, k2⟩
   simp only [spec_l7Sum.l1, wra (show x ≤ 1000000 by omega) (show y ≤ 1000000 by omega), rdOf_nat, ha.get x hx, c, Bool.false_eq_true, if_false]
   rw [if_pos (by omega), if_pos (by omega), if_pos (by omega), wr1 (by omega)]
theorem sum7_l0 {a b : List Bool} {f g : Nat → Bool} {m : Nat} (ha : Tells a f m) (hb : Tells b g m) (hm : m ≤ 1000) (d : Nat) :
  ∀ (x : Nat) (l : List Bool), x + d = m → l.length = m → (∀ j, j < m → (l.getD j false = true ↔ Sm f g x 0 j)) → ∃ l', Ev (fun k => spec_l7Sum.l0 k a b l (x : Nat)) l' ∧ Tells l' (sumB f g) m := by
 have hal := ha.len
 induction d with
 | zero =>
  intro x l hx hl hv
  refine ⟨l, Ev.end fun k => ?_, hl, fun j hj => ?_⟩
  ·simp only [spec_l7Sum.l0]
   rw [if_neg (by omega)]
  ·rw [Bool.eq_iff_iff, hv j hj, sumB_iff]
   exact ⟨fun ⟨k, p1, p2, p3, p4⟩ => ⟨k, p1, p2, p3⟩, fun ⟨k, p1, p2, p3⟩ => ⟨k, p1, p2, p3, .inl (by omega)⟩⟩
 | succ d ih =>
  intro x l hx hl hv
  obtain ⟨l', k1, k2⟩ := sum7_l1 ha hb hm x (by omega) (fun l' => Tells l' (sumB f g) m) (fun l hl hv => ih (x + 1) l (by omega) hl hv) (m - x) 0 l (by omega) hl hv
  refine ⟨l', Ev.step (fun k => ?_) k1, k2⟩
  simp only [spec_l7Sum.l0]
  rw [if_pos (by omega)]
  rfl
theorem sum7_ev {a b : List Bool} {f g : Nat → Bool} {m : Nat} (ha : Tells a f m) (hb : Tells b g m) (hm : m ≤ 1000) : ∃ l, Ev (fun k => spec_l7Sum.f k a b) l ∧ Tells l (sumB f g) m := by
 obtain ⟨l, k1, k2⟩ := sum7_l0 ha hb hm m 0 (List.replicate m false) (by omega) (List.length_replicate ..) (fun j hj => ⟨fun h => by simp [List.getD, hj] at h, fun ⟨k, p1, p2, p3, p4⟩ => by omega⟩)
 refine ⟨l, ?_, k2⟩
 unfold spec_l7Sum.f
 simp only [if_pos (show (0 : Int) ≤ (a.length : Int) by omega), Int.toNat_natCast, ha.len, if_pos (show m ≤ 281474976710656 by omega)]
 exact k1

theorem marks_l1 {a : List Bool} {f : Nat → Bool} {m : Nat} (ha : Tells a f m) (hm : m ≤ 1000) (i : Nat) (hi : i < m) (P : List Bool → Prop)
  (hend : ∀ l, l.length = m → (∀ j, j < i + 1 → l.getD j false = star f j) → ∃ l', Ev (fun k => spec_l7Marks.l0 k m l a ((i + 1 : Nat) : Int)) l' ∧ P l') (d : Nat) :
  ∀ (q : Nat) (l : List Bool), q + d = i + 1 → 1 ≤ q → l.length = m → (∀ j, j < i → l.getD j false = star f j) → (l.getD i false = true ↔ (i = 0 ∨ ∃ y, 1 ≤ y ∧ y < q ∧ f y = true ∧ star f (i - y) = true)) →
   ∃ l', Ev (fun k => spec_l7Marks.l1 k m l a (i : Nat) (q : Nat)) l' ∧ P l' := by
 have hal := ha.len
 induction d with
 | zero =>
  intro q l hq h1 hl hv hb
  obtain ⟨l', k1, k2⟩ := hend l hl (fun j hj => by
   rcases Nat.lt_or_ge j i with c | c
   ·exact hv j c
   ·obtain rfl : j = i := by omega
    rw [Bool.eq_iff_iff, hb]
    by_cases z : j = 0
    ·subst z; simp [star_zero]
    ·rw [star_iff f (by omega)]
     constructor
     ·rintro (h | ⟨y, p1, p2, p3, p4⟩)
      ·exact absurd h z
      ·exact ⟨y, p1, by omega, p3, p4⟩
     ·rintro ⟨y, p1, p2, p3, p4⟩
      exact .inr ⟨y, p1, by omega, p3, p4⟩)
  refine ⟨l', Ev.step (fun k => ?_) k1, k2⟩
  simp only [spec_l7Marks.l1]
  rw [if_neg (by omega), wr1 (by omega)]
 | succ d ih =>
  intro q l hq h1 hl hv hb
  have nx : ∀ v : Bool, (v = true ↔ l.getD i false = true ∨ (f q = true ∧ star f (i - q) = true)) → ∃ l', Ev (fun k => spec_l7Marks.l1 k m (l.set i v) a (i : Nat) ((q + 1 : Nat) : Int)) l' ∧ P l' := by
   intro v hv2
   refine ih (q + 1) (l.set i v) (by omega) (by omega) (by rw [List.length_set, hl]) (fun j hj => by rw [getD_set_ne _ _ (by omega)]; exact hv j hj) ?_
   rw [getD_set_self _ _ _ (by omega), hv2, hb]
   constructor
   ·rintro ((h | ⟨y, p1, p2, p3, p4⟩) | ⟨h3, h4⟩)
    ·exact .inl h
    ·exact .inr ⟨y, p1, by omega, p3, p4⟩
    ·exact .inr ⟨q, h1, by omega, h3, h4⟩
   ·rintro (h | ⟨y, p1, p2, p3, p4⟩)
    ·exact .inl (.inl h)
    ·by_cases e : y = q
     ·subst e; exact .inr ⟨p3, p4⟩
     ·exact .inl (.inr ⟨y, p1, by omega, p3, p4⟩)
  cases e : l.getD i false with
  | true =>
   obtain ⟨l', k1, k2⟩ := nx true ⟨fun _ => .inl e, fun _ => rfl⟩
   refine ⟨l', Ev.step (fun k => ?_) k1, k2⟩
   simp only [spec_l7Marks.l1, rdOf_nat, e, if_true]
   rw [if_pos (by omega), if_pos (by omega), if_pos (by omega), Int.toNat_natCast, wr1 (by omega)]
  | false =>
   by_cases c : f q = true
   ·obtain ⟨l', k1, k2⟩ := nx (l.getD (i - q) false) (by rw [hv (i - q) (by omega), e, c]; simp)
    refine ⟨l', Ev.step (fun k => ?_) k1, k2⟩
    simp only [spec_l7Marks.l1, rdOf_nat, e, ha.get q (by omega), c, wrs (show q ≤ i by omega) (show i ≤ 4611686018427387904 by omega), if_true, Bool.false_eq_true, if_false]
    rw [if_pos (by omega), if_pos (by omega), if_pos (by omega), if_pos (by omega), if_pos (by omega), if_pos (by omega), if_pos (by omega), Int.toNat_natCast, wr1 (by omega)]
   ·obtain ⟨l', k1, k2⟩ := nx false (by rw [e]; simp [c])
    refine ⟨l', Ev.step (fun k => ?_) k1, k2⟩
    simp only [spec_l7Marks.l1, rdOf_nat, e, ha.get q (by omega), c, Bool.false_eq_true, if_false]
    rw [if_pos (by omega), if_pos (by omega), if_pos (by omega), if_pos (by omega), if_pos (by omega), Int.toNat_natCast, wr1 (by omega)]
theorem marks_l0 {a : List Bool} {f : Nat → Bool} {m : Nat} (ha : Tells a f m) (hm : m ≤ 1000) (d : Nat) : ∀ (i : Nat) (l : List Bool), i + d = m → l.length = m → (∀ j, j < i → l.getD j false = star f j) → ∃ l', Ev (fun k => spec_l7Marks.l0 k m l a (i : Nat)) l' ∧ Tells l' (star f) m := by
 induction d with
 | zero =>
  intro i l hi hl hv
  obtain rfl : i = m := by omega
  refine ⟨l, Ev.end fun k => ?_, hl, hv⟩
  simp only [spec_l7Marks.l0]
  rw [if_neg (by omega)]
 | succ d ih =>
  intro i l hi hl hv
  obtain ⟨l', k1, k2⟩ := marks_l1 ha hm i (by omega) (fun l' => Tells l' (star f) m) (fun l hl hv => ih (i + 1) l (by omega) hl hv) i 1 (l.set i (decide (i = 0))) (by omega) (by omega) (by rw [List.length_set, hl]) (fun j hj => by rw [getD_set_ne _ _ (by omega)]; exact hv j hj)
   (by rw [getD_set_self _ _ _ (by omega), decide_eq_true_eq]; exact ⟨.inl, fun h => h.elim id fun ⟨y, p1, p2, _⟩ => by omega⟩)
  refine ⟨l', Ev.step (fun k => ?_) k1, k2⟩
  simp only [spec_l7Marks.l0]
  rw [if_pos (by omega), if_pos (by omega), if_pos (by omega), Int.toNat_natCast]
  congr 2
  rw [Bool.eq_iff_iff, beq_iff_eq, decide_eq_true_eq]; omega

theorem marks_l2 {a : List Bool} {f : Nat → Bool} {m : Nat} (ha : Tells a f m) (hm : m ≤ 1000) (c : Nat) (hc : c ≤ 53) (L : List S49) (d : Nat) : ∀ (i : Nat) (l : List Bool) (g : Nat → Bool), i + d = c → Tells l g m → ∃ l', Ev (fun k => spec_l7Marks.l2 k l a (i : Nat) (c : Nat) L) l' ∧ Tells l' (powB f d g) m := by
 induction d with
 | zero =>
  intro i l g hi hl
  refine ⟨l, Ev.end fun k => ?_, hl⟩
  simp only [spec_l7Marks.l2]
  rw [if_neg (by omega)]
 | succ d ih =>
  intro i l g hi hl
  obtain ⟨s, s1, s2⟩ := sum7_ev hl ha hm
  obtain ⟨l', k1, k2⟩ := ih (i + 1) s (sumB g f) (by omega) s2
  refine ⟨l', Ev.step (f := fun k => (spec_l7Sum.f k l a).bind fun t => (spec_l7Marks.l2 k t a (((i : Nat) : Int) + 1) (c : Nat) L)) (fun k => ?_) (Ev.bind s1 ?_), k2⟩
  ·simp only [spec_l7Marks.l2]
   rw [if_pos (by omega), show ((i : Int) + 1) % 256 = (i : Int) + 1 by omega]
  ·rw [show ((i : Nat) : Int) + 1 = ((i + 1 : Nat) : Int) by omega]; exact k1
theorem sumB_zero (f : Nat → Bool) : sumB (fun n => decide (n = 0)) f = f := by
 funext n
 rw [Bool.eq_iff_iff, sumB_iff]
 constructor
 ·rintro ⟨k, _, p, q⟩
  have := of_decide_eq_true p
  subst this
  exact q
 ·intro h
  exact ⟨0, by omega, by simp, h⟩

theorem marks_l3 {a b : List Bool} {f g : Nat → Bool} {m : Nat} (ha : Tells a f m) (hb : Tells b g m) (hm : m ≤ 1000) (c : Int) (L : List S49) (d : Nat) : ∀ (i : Nat) (l : List Bool), i + d = m → l.length = m → (∀ j, j < i → l.getD j false = (if c = 43 then (f j || g j) else (f j && g j))) →
  ∃ l', Ev (fun k => spec_l7Marks.l3 k m l a b (i : Nat) c L) l' ∧ Tells l' (fun j => if c = 43 then (f j || g j) else (f j && g j)) m := by
 have hal := ha.len
 have hbl := hb.len
 induction d with
 | zero =>
  intro i l hi hl hv
  obtain rfl : i = m := by omega
  refine ⟨l, Ev.end fun k => ?_, hl, hv⟩
  simp only [spec_l7Marks.l3]
  rw [if_neg (by omega)]
 | succ d ih =>
  intro i l hi hl hv
  obtain ⟨l', k1, k2⟩ := ih (i + 1) (l.set i (if c = 43 then (f i || g i) else (f i && g i))) (by omega) (by rw [List.length_set, hl]) (fun j hj => by
   by_cases e : j = i
   ·subst e; rw [getD_set_self _ _ _ (by omega)]
   ·rw [getD_set_ne _ _ (show i ≠ j by omega)]; exact hv j (by omega))
  refine ⟨l', Ev.step (fun k => ?_) k1, k2⟩
  simp only [spec_l7Marks.l3, rdOf_nat, ha.get i (by omega), hb.get i (by omega), wr1 (show i ≤ 4611686018427387904 by omega), Int.toNat_natCast, if_pos (show (i : Int) < (m : Int) by omega), if_pos (show (0 : Int) ≤ (i : Int) by omega), if_pos (show (i : Int) < (a.length : Int) by omega), if_pos (show (i : Int) < (b.length : Int) by omega), if_pos (show (i : Int) < (l.length : Int) by omega)]
  by_cases e : c = 43
  ·simp only [if_pos e]
   cases f i <;> simp
  ·simp only [if_neg e]
   cases f i <;> simp
theorem marks_ev (m : Nat) (hm : m ≤ 1000) (t : Tm) : t.ok → ∃ l, Ev (fun k => spec_l7Marks.f k t.toS.f0 t.toS.f1 m) l ∧ Tells l t.sem m := by
 have open_ : ∀ (c : Int) (L : List S49) (r : List Bool), Ev (fun k => if c = 48 then some (List.replicate m false) else if c = 49 then spec_l7Marks.j0 k m (List.replicate m false) true c L else spec_l7Marks.j0 k m (List.replicate m false) (c == 97) c L) r → Ev (fun k => spec_l7Marks.f k c L m) r := by
  intro c L r h
  refine Ev.step (fun k => ?_) h
  simp only [spec_l7Marks.f]
  rw [if_pos (by omega), Int.toNat_natCast, if_pos (by omega), Option.bind_some]
 induction t with
 | leaf c =>
  intro h
  have one : ∀ v : Nat, v ≤ 1 → (fun n => decide (n = v)) = Tm.sem (.leaf c) → spec_l1Bit.f (c == 97) = some (v : Int) → ∃ l, Ev (fun k => spec_l7Marks.j0 k m (List.replicate m false) true c ([] : List S49)) l ∧ Tells l (Tm.sem (.leaf c)) m := by
   intro v hv e hb
   rw [← e]
   by_cases q : v < m
   ·refine ⟨(List.replicate m false).set v true, Ev.end fun k => ?_, by simp, fun j hj => ?_⟩
    ·simp only [spec_l7Marks.j0, if_true, hb, Option.bind_some]
     rw [if_pos (by omega), if_pos (by omega), if_pos (by simp; omega), Int.toNat_natCast]
    ·by_cases z : j = v
     ·subst z; rw [getD_set_self _ _ _ (by simp; omega)]; simp
     ·rw [getD_set_ne _ _ (by omega)]; simp [List.getD, hj, z]
   ·refine ⟨List.replicate m false, Ev.end fun k => ?_, by simp, fun j hj => ?_⟩
    ·simp only [spec_l7Marks.j0, if_true, hb, Option.bind_some]
     rw [if_neg (by omega)]
    ·have : j ≠ v := by omega
     simp [List.getD, hj, this]
  rcases h with rfl | rfl | rfl
  ·exact ⟨List.replicate m false, open_ 48 [] _ (Ev.const fun k => rfl), by simp, fun j hj => by simp [List.getD, hj, Tm.sem]⟩
  ·obtain ⟨l, l1, l2⟩ := one 0 (by omega) rfl rfl
   exact ⟨l, open_ 49 [] _ l1, l2⟩
  ·obtain ⟨l, l1, l2⟩ := one 1 (by omega) rfl rfl
   exact ⟨l, open_ 97 [] _ l1, l2⟩
 | un c a ih =>
  rintro ⟨hc, hok⟩
  obtain ⟨la, a1, a2⟩ := ih hok
  have n1 : ¬ c = 48 := by omega
  have n2 : ¬ c = 49 := by omega
  have n3 : ¬ c = 97 := by omega
  have st : ∀ r, Ev (fun k => if c = 42 then (spec_l7Marks.l0 k m (List.replicate m false) la 0) else (if c ≥ 50 then (spec_l7Marks.j3 k m (List.replicate m false) la (decide (c ≤ 53)) c [a.toS]) else (spec_l7Marks.j3 k m (List.replicate m false) la false c [a.toS]))) r → Ev (fun k => spec_l7Marks.f k (Tm.un c a).toS.f0 (Tm.un c a).toS.f1 m) r := by
   intro r hr
   refine open_ c [a.toS] r ?_
   simp only [if_neg n1, if_neg n2, beq_eq_false_iff_ne.2 n3]
   refine Ev.step (f := fun k => (spec_l7Marks.f k a.toS.f0 a.toS.f1 m).bind fun t => if c = 42 then (spec_l7Marks.l0 k m (List.replicate m false) t 0) else (if c ≥ 50 then (spec_l7Marks.j3 k m (List.replicate m false) t (decide (c ≤ 53)) c [a.toS]) else (spec_l7Marks.j3 k m (List.replicate m false) t false c [a.toS]))) (fun k => ?_) (Ev.bind a1 hr)
   simp only [spec_l7Marks.j0, Bool.false_eq_true, if_false]
   rw [if_pos (by simp)]
   rfl
  show ∃ l, _ ∧ Tells l (if c = 42 then star a.sem else powB a.sem (c - 48).toNat (fun n => decide (n = 0))) m
  by_cases h42 : c = 42
  ·simp only [if_pos h42] at st ⊢
   obtain ⟨l, l1, l2⟩ := marks_l0 a2 hm m 0 (List.replicate m false) (by omega) (by simp) (fun j hj => by omega)
   exact ⟨l, st _ l1, l2⟩
  ·have hr : 50 ≤ c ∧ c ≤ 53 := hc.resolve_left h42
   simp only [if_neg h42, if_pos (show c ≥ 50 from hr.1), decide_eq_true hr.2] at st ⊢
   obtain ⟨n, rfl⟩ : ∃ n : Nat, c = (n : Int) := ⟨c.toNat, by omega⟩
   obtain ⟨l, l1, l2⟩ := marks_l2 a2 hm n (by omega) [a.toS] (n - 49) 49 la a.sem (by omega) a2
   refine ⟨l, st _ (Ev.step (fun k => ?_) l1), ?_⟩
   ·simp only [spec_l7Marks.j3, if_true]
    rfl
   ·rw [show ((n : Int) - 48).toNat = (n - 49) + 1 by omega]
    show Tells l (powB a.sem (n - 49) (sumB (fun n => decide (n = 0)) a.sem)) m
    rw [sumB_zero]
    exact l2
 | bin c a b iha ihb =>
  rintro ⟨hc, hoa, hob⟩
  obtain ⟨la, a1, a2⟩ := iha hoa
  obtain ⟨lb, b1, b2⟩ := ihb hob
  have n1 : ¬ c = 48 := by omega
  have n2 : ¬ c = 49 := by omega
  have n3 : ¬ c = 97 := by omega
  have n4 : ¬ c = 42 := by omega
  have n5 : ¬ c ≥ 50 := by omega
  have st : ∀ r, Ev (fun k => if c = 46 then ((spec_l7Sum.f k la lb).bind fun t => (some t)) else (spec_l7Marks.l3 k m (List.replicate m false) la lb 0 c [a.toS, b.toS])) r → Ev (fun k => spec_l7Marks.f k (Tm.bin c a b).toS.f0 (Tm.bin c a b).toS.f1 m) r := by
   intro r hr
   refine open_ c [a.toS, b.toS] r ?_
   simp only [if_neg n1, if_neg n2, beq_eq_false_iff_ne.2 n3]
   refine Ev.step (f := fun k => (spec_l7Marks.f k a.toS.f0 a.toS.f1 m).bind fun t => spec_l7Marks.j3 k m (List.replicate m false) t false c [a.toS, b.toS]) (fun k => ?_) (Ev.bind a1 ?_)
   ·simp only [spec_l7Marks.j0, Bool.false_eq_true, if_false, if_neg n4, if_neg n5]
    rw [if_pos (by simp)]
    rfl
   ·refine Ev.step (f := fun k => (spec_l7Marks.f k b.toS.f0 b.toS.f1 m).bind fun t => if c = 46 then ((spec_l7Sum.f k la t).bind fun t => (some t)) else (spec_l7Marks.l3 k m (List.replicate m false) la t 0 c [a.toS, b.toS])) (fun k => ?_) (Ev.bind b1 hr)
    simp only [spec_l7Marks.j3, Bool.false_eq_true, if_false]
    rw [if_pos (by simp)]
    rfl
  by_cases h46 : c = 46
  ·simp only [if_pos h46] at st
   obtain ⟨l, l1, l2⟩ := sum7_ev a2 b2 hm
   refine ⟨l, st _ (Ev.bind l1 (Ev.now _)), ?_⟩
   show Tells l (if c = 43 then _ else if c = 46 then sumB a.sem b.sem else _) m
   rw [if_neg (by omega), if_pos h46]
   exact l2
  ·simp only [if_neg h46] at st
   obtain ⟨l, l1, l2⟩ := marks_l3 a2 b2 hm c [a.toS, b.toS] m 0 (List.replicate m false) (by omega) (by simp) (fun j hj => by omega)
   refine ⟨l, st _ l1, ?_⟩
   show Tells l (if c = 43 then _ else if c = 46 then _ else _) m
   by_cases h43 : c = 43
   ·simp only [if_pos h43] at l2 ⊢; exact l2
   ·simp only [if_neg h43, if_neg h46] at l2 ⊢; exact l2

end Go.Proofs.Ytedhckahjinieaa.Q

namespace Go.Proofs.Ytedhckahjinieaa.Pure
open Go.RowKit Go.Proofs.Ytedhckahjinieaa.Q Go.Proofs.YtedhckahjinieaaW.PrintWords Go.Proofs.YtedhckahjinieaaW.PrintLast
set_option linter.unusedSimpArgs false
theorem drawTermHas_ev (l0 : List Int) (h : ∀ x ∈ l0, (Lit.int .u8 x).wf = true) : ∃ (s : ByteArray) (n : Int), -1 ≤ n ∧ n ≤ 201 ∧ Ev (fun k => spec_DrawTermHas.f k l0) (s, n) := by
 obtain ⟨bs, hb, eo⟩ := open_ev l0 h
 obtain ⟨s, q, hq, g⟩ := said_draw hb 0 (by omega)
 obtain ⟨u, hu, e1⟩ := pick_ev hb q 30 (by omega) (by omega) (by omega)
 obtain ⟨v, hv, e2⟩ := pick_ev hb (q + 1) 201 (by omega) (by omega) (by omega)
 obtain ⟨x, hx, e3⟩ := pick_ev hb (q + 1 + 1) 5 (by omega) (by omega) (by omega)
 have hr : -1 ≤ rd ([(u : Int), (v : Int), 200, 201, (-1)] : List Int) (x : Int) ∧ rd ([(u : Int), (v : Int), 200, 201, (-1)] : List Int) (x : Int) ≤ 201 := by
  have : x = 0 ∨ x = 1 ∨ x = 2 ∨ x = 3 ∨ x = 4 := by omega
  rcases this with rfl | rfl | rfl | rfl | rfl
  ·show -1 ≤ (u : Int) ∧ (u : Int) ≤ 201; omega
  ·show -1 ≤ (v : Int) ∧ (v : Int) ≤ 201; omega
  ·show -1 ≤ (200 : Int) ∧ (200 : Int) ≤ 201; omega
  ·show -1 ≤ (201 : Int) ∧ (201 : Int) ≤ 201; omega
  ·show -1 ≤ (-1 : Int) ∧ (-1 : Int) ≤ 201; omega
 refine ⟨s, _, hr.1, hr.2, ?_⟩
 unfold spec_DrawTermHas.f
 rw [eo]
 simp only [Option.bind_some]
 refine Ev.bind g (Ev.bind e1 (Ev.bind e2 (Ev.bind e3 (Ev.const fun k => ?_))))
 rw [if_pos (by omega), if_pos (by simp; omega)]
theorem FnTermHas : laws_FnTermHas.Pure := by
 intro l0 hm hy hw
 by_cases hz : (l0.length : Int) > 1048576
 ·exact ⟨0, by unfold laws_FnTermHas.f; rw [if_pos hz]⟩
 obtain ⟨s, n, hn1, hn2, e⟩ := drawTermHas_ev l0 hw
 obtain ⟨x, h1, h2, h3⟩ := termSet_both s
 refine Ev.rounds ?_
 unfold laws_FnTermHas.f
 simp only [if_neg hz]
 have fin : ∀ b : Bool, Ev (fun k => impl_TermHas.f k s n) b → Ev (fun k => spec_TermHas.f k s n) b → (x.2 = true → 0 ≤ n → n ≤ 200 → impl_SetHas.f x.1 n = some b) → Ev (fun k => (spec_DrawTermHas.f k l0).bind fun bt377 => ((impl_TermHas.f k bt377.1 bt377.2).bind fun t379 => ((spec_TermHas.f k bt377.1 bt377.2).bind fun t380 => (if ((t379 == t380) = true) then ((impl_TermSet.f k bt377.1).bind fun bt381 => (if bt381.2 = true then (if bt377.2 < 0 then (some true) else (if bt377.2 > 200 then (some true) else ((impl_SetHas.f bt381.1 bt377.2).bind fun t383 => (some (t383 == t379))))) else (some true))) else (some false))))) true := by
  intro b k1 k2 k3
  refine Ev.bind e (Ev.bind k1 (Ev.bind k2 ?_))
  simp only [beq_self_eq_true, if_true]
  refine Ev.bind h1 (Ev.const fun k => ?_)
  cases hx : x.2 with
  | false => rfl
  | true =>
   simp only [if_true]
   by_cases c0 : n < 0
   ·rw [if_pos c0]
   ·by_cases c1 : n > 200
    ·rw [if_neg c0, if_pos c1]
    ·rw [if_neg c0, if_neg c1, k3 hx (by omega) (by omega), Option.bind_some, beq_self_eq_true]
 refine (fin ?b ?_ ?_ ?_)
 case b => exact match Tm.of s with | some t => if 0 ≤ n ∧ n ≤ 200 then t.sem n.toNat else false | none => false
 ·unfold impl_TermHas.f
  cases ht : Tm.of s with
  | none => exact Ev.now _
  | some t =>
   simp only
   by_cases c : 0 ≤ n ∧ n ≤ 200
   ·rw [if_pos c, if_pos c, numbers_sem t (Tm.of_ok ht)]; exact Ev.now _
   ·rw [if_neg c, if_neg c]; exact Ev.now _
 ·unfold spec_TermHas.f
  cases ht : Tm.of s with
  | none => exact Ev.now _
  | some t =>
   simp only
   by_cases c : 0 ≤ n ∧ n ≤ 200
   ·obtain ⟨m, rfl⟩ : ∃ m : Nat, n = (m : Int) := ⟨n.toNat, by omega⟩
    obtain ⟨l, l1, l2⟩ := marks_ev (m + 1) (by omega) t (Tm.of_ok ht)
    simp only [if_pos c]
    rw [show (m : Int) + 1 = ((m + 1 : Nat) : Int) by omega]
    refine Ev.bind l1 (Ev.const fun k => ?_)
    have hl := l2.len
    rw [if_pos (by omega), rdOf_nat, l2.get m (by omega), Int.toNat_natCast]
   ·simp only [if_neg c]
    exact Ev.now _
 ·intro hx c0 c1
  obtain ⟨t, t0, r0, ht, hg, hs⟩ := tells_yes hx h3
  obtain ⟨m, rfl⟩ : ∃ m : Nat, n = (m : Int) := ⟨n.toNat, by omega⟩
  rw [setHas4 hg m (by omega), hs, ht]
  simp only [if_pos (show (0 : Int) ≤ (m : Int) ∧ (m : Int) ≤ 200 from ⟨c0, c1⟩), Int.toNat_natCast]

end Go.Proofs.Ytedhckahjinieaa.Pure
