/- The program's WaysOdd returns what the reference's returns, for all arguments; no condition beyond the statement's own. -/
import Derived.Test.YtcbgflejdgcmeaaCFnExactWaysOdd1
import Derived.Test.YtcbgflejdgcmeaaCFnExactWaysOdd6
import Derived.Test.YtcbgflejdgcmeaaCFnExactWaysOdd7
import Derived.Test.YtcbgflejdgcmeaaCFnExactWaysOdd8
import Derived.Test.YtcbgflejdgcmeaaCFnExactWaysOdd9
namespace Go.Proofs.Ytcbgflejdgcmeaa.Q
open Go.RowKit Go.Proofs.YtcbgflejdgcmeaaW.PrintWords Go.Proofs.YtcbgflejdgcmeaaW.PrintLast Go.Proofs.YtcbgflejdgcmeaaW.PrintMore
open Go.Proofs.Ytcbgflejdgcmeaa.Pl
set_option linter.unusedVariables false
set_option linter.unusedSimpArgs false
theorem wrm1 {n : Nat} (h0 : 1 ≤ n) (h : n ≤ 4611686018427387904) : wrap64 ((n : Int) - 1) = ((n - 1 : Nat) : Int) := by rw [wr (by omega) (by omega)]; omega

theorem turns_l0 (r : List Bool) (hr : r.length ≤ 1073741824) (d : Nat) (hd : 1 ≤ d) (hdl : d ≤ r.length) (m : Nat) : ∀ i, i + m = r.length → (∀ j, j < i → r.getD j false = r.getD (j % d) false) →
    ∃ b : Bool, Ev (fun k => impl_turns.l0 k r d (r.length : Int) (i : Nat)) b ∧ (b = true ↔ per r d) := by
  induction m with
  | zero =>
    intro i hi hall
    refine ⟨decide (r.length % d = 0), Ev.end fun k => ?_, ?_⟩
    · simp only [impl_turns.l0]
      rw [if_neg (by omega), if_neg (by omega), ← Int.natCast_emod]
      congr 1
      rw [Bool.eq_iff_iff]
      simp only [beq_iff_eq, decide_eq_true_eq]
      omega
    · rw [decide_eq_true_eq]
      exact ⟨fun h => ⟨h, fun j hj => hall j (by omega)⟩, fun h => h.1⟩
  | succ m ih =>
    intro i hi hall
    have hm := Nat.mod_lt i (show d > 0 by omega)
    by_cases c : r.getD i false = r.getD (i % d) false
    · obtain ⟨b, h1, h2⟩ := ih (i + 1) (by omega) (fun j hj => by
        rcases Nat.lt_or_ge j i with h | h
        · exact hall j h
        · obtain rfl : j = i := by omega
          exact c)
      refine ⟨b, Ev.step (fun k => ?_) h1, h2⟩
      simp only [impl_turns.l0]
      rw [if_pos (by omega), if_pos (by omega), if_pos (by omega), if_neg (by omega), tmod_nat, if_pos (by omega), if_pos (by omega), rdOf_nat, rdOf_nat, wr1 (by omega), if_neg (by rw [c]; simp)]
    · refine ⟨false, Ev.end fun k => ?_, ?_⟩
      · simp only [impl_turns.l0]
        rw [if_pos (by omega), if_pos (by omega), if_pos (by omega), if_neg (by omega), tmod_nat, if_pos (by omega), if_pos (by omega), rdOf_nat, rdOf_nat, if_pos (by simpa using c)]
      · exact ⟨fun h => absurd h (by simp), fun h => absurd (h.2 i (by omega)) c⟩
theorem turns_ev (r : List Bool) (hr : r.length ≤ 1073741824) (d : Nat) (hd : 1 ≤ d) (hdl : d ≤ r.length) : ∃ b : Bool, Ev (fun k => impl_turns.f k r d) b ∧ (b = true ↔ per r d) :=
  turns_l0 r hr d hd hdl r.length 0 (by omega) (fun j hj => absurd hj (Nat.not_lt_zero j))

theorem rot_append {r : List Bool} : ([r.getD (r.length - 1) false] : List Bool) ++ r.take (r.length - 1) = rot r := by
  simp [rot, List.dropLast_eq_take]

/-- The tail made short. -/
theorem tidy_l1 (n : Nat) : ∀ (t r : List Bool), t.length = n → t.length ≤ 1073741824 → 0 < r.length → r.length ≤ 1073741824 → (∀ d, 1 ≤ d → d < r.length → ¬ per r d) →
    ∃ t' r', Ev (fun k => impl_set_tidy.l1 k (r.length : Int) t r) (t', r') ∧ Canon t' r' ∧ (∀ m, hasB t' r' m = hasB t r m) ∧ t'.length ≤ t.length ∧ r'.length ≤ r.length := by
  induction n with
  | zero =>
    intro t r ht _ h1 h2 h3
    refine ⟨t, r, Ev.end fun k => ?_, ⟨h1, h3, fun m hm => by omega⟩, fun m => rfl, Nat.le_refl _, Nat.le_refl _⟩
    simp only [impl_set_tidy.l1]
    rw [if_neg (by omega)]
  | succ n ih =>
    intro t r ht htl h1 h2 h3
    have e1 : wrap64 ((t.length : Int) - 1) = (n : Nat) := by rw [wrm1 (by omega) (by omega)]; omega
    by_cases c : t.getD n false = r.getD (r.length - 1) false
    · have hl : (t.take n).length = n := by rw [List.length_take]; omega
      obtain ⟨t', r', g1, g2, g3, g4, g5⟩ := ih (t.take n) (rot r) hl (by omega) (by rw [rot_length h1]; exact h1) (by rw [rot_length h1]; exact h2) (fun d hd1 hd2 hp => by rw [rot_length h1] at hd2; exact h3 d hd1 hd2 (per_rot h1 hd1 hp))
      rw [rot_length h1] at g1 g5
      refine ⟨t', r', Ev.step (fun k => ?_) g1, g2, fun m => by rw [g3, has_rot ht h1 c], by omega, g5⟩
      simp only [impl_set_tidy.l1]
      rw [if_pos (by omega), e1, if_pos (by omega), if_pos (by omega), wrm1 h1 (by omega), if_pos (by omega), if_pos (by omega), rdOf_nat, rdOf_nat, if_pos (by rw [c]; simp), if_pos (by omega)]
      simp only [Option.bind_some]
      rw [if_pos (by omega)]
      rw [if_pos (by simp; omega), Int.toNat_natCast, Int.toNat_natCast, rot_append]
    · refine ⟨t, r, Ev.end fun k => ?_, ⟨h1, h3, fun m hm => (show n = m by omega) ▸ c⟩, fun m => rfl, Nat.le_refl _, Nat.le_refl _⟩
      simp only [impl_set_tidy.l1]
      rw [if_pos (by omega), e1, if_pos (by omega), if_pos (by omega), wrm1 h1 (by omega), if_pos (by omega), if_pos (by omega), rdOf_nat, rdOf_nat, if_neg (by simpa using c)]

theorem tidy_l0 (t r : List Bool) (ht : t.length ≤ 1073741824) (h1 : 0 < r.length) (h2 : r.length ≤ 1073741824) (m : Nat) : ∀ d, d + m = r.length → 1 ≤ d → (∀ e, 1 ≤ e → e < d → ¬ per r e) →
    ∃ t' r', Ev (fun k => impl_set_tidy.l0 k (d : Nat) t r) (t', r') ∧ Canon t' r' ∧ (∀ m, hasB t' r' m = hasB t r m) ∧ t'.length ≤ t.length ∧ r'.length ≤ r.length := by
  induction m with
  | zero =>
    intro d hd hd1 hno
    obtain ⟨b, hb, hb2⟩ := turns_ev r h2 d hd1 (by omega)
    have hp : per r d := ⟨by rw [show r.length = d from by omega]; exact Nat.mod_self d, fun i hi => by rw [Nat.mod_eq_of_lt (by omega)]⟩
    have hl : (r.take d).length = d := by rw [List.length_take]; omega
    obtain ⟨t', r', g1, g2, g3, g4, g5⟩ := tidy_l1 t.length t (r.take d) rfl ht (by omega) (by omega) (fun e he1 he2 hpe => hno e he1 (by omega) (per_take hd1 he1 (by omega) hp hpe))
    rw [hl] at g1 g5
    refine ⟨t', r', ?_, g2, fun m => by rw [g3, has_take hd1 h1 hp (by omega)], g4, by omega⟩
    refine Ev.step (f := fun k => (impl_turns.f k r d).bind fun x => if x = true then impl_set_tidy.l1 k d t (r.take d) else impl_set_tidy.l0 k (wrap64 (d + 1)) t r) (fun k => ?_) ?_
    · simp only [impl_set_tidy.l0, slices_Clone_bool_bool.f]
      rw [if_pos (by omega)]
      simp only [Option.bind_some]
      rw [if_pos (by omega), if_pos (by omega), Int.toNat_natCast, if_pos (by omega)]
      simp only [Option.bind_some]
    · exact Ev.bind hb (by simp only [if_pos (hb2.2 hp)]; exact g1)
  | succ m ih =>
    intro d hd hd1 hno
    obtain ⟨b, hb, hb2⟩ := turns_ev r h2 d hd1 (by omega)
    have hl : (r.take d).length = d := by rw [List.length_take]; omega
    have key : ∃ t' r', Ev (fun k => if b = true then impl_set_tidy.l1 k d t (r.take d) else impl_set_tidy.l0 k (wrap64 ((d : Nat) + 1)) t r) (t', r') ∧ Canon t' r' ∧ (∀ m, hasB t' r' m = hasB t r m) ∧ t'.length ≤ t.length ∧ r'.length ≤ r.length := by
      by_cases c : b = true
      · have hp := hb2.1 c
        obtain ⟨t', r', g1, g2, g3, g4, g5⟩ := tidy_l1 t.length t (r.take d) rfl ht (by omega) (by omega) (fun e he1 he2 hpe => hno e he1 (by omega) (per_take hd1 he1 (by omega) hp hpe))
        rw [hl] at g1 g5
        refine ⟨t', r', ?_, g2, fun m => by rw [g3, has_take hd1 h1 hp (by omega)], g4, by omega⟩
        simp only [if_pos c]
        exact g1
      · obtain ⟨t', r', g1, g2, g3, g4, g5⟩ := ih (d + 1) (by omega) (by omega) (fun e he1 he2 hpe => by
          rcases Nat.lt_or_ge e d with h | h
          · exact hno e he1 h hpe
          · obtain rfl : e = d := by omega
            exact c (hb2.2 hpe))
        refine ⟨t', r', ?_, g2, g3, g4, g5⟩
        simp only [if_neg c]
        rw [wr1 (by omega)]
        exact g1
    obtain ⟨t', r', g1, g2⟩ := key
    refine ⟨t', r', ?_, g2⟩
    refine Ev.step (f := fun k => (impl_turns.f k r d).bind fun x => if x = true then impl_set_tidy.l1 k d t (r.take d) else impl_set_tidy.l0 k (wrap64 (d + 1)) t r) (fun k => ?_) (Ev.bind hb g1)
    simp only [impl_set_tidy.l0, slices_Clone_bool_bool.f]
    rw [if_pos (by omega)]
    simp only [Option.bind_some]
    rw [if_pos (by omega), if_pos (by omega), Int.toNat_natCast, if_pos (by omega)]
    simp only [Option.bind_some]

theorem tidy_ev {t r : List Bool} (h : Good t r) : ∃ t' r', Ev (fun k => impl_set_tidy.f k t r) (t', r') ∧ Canon t' r' ∧ (∀ m, hasB t' r' m = hasB t r m) ∧ t'.length ≤ t.length ∧ r'.length ≤ r.length := by
  have h1 := h.pos
  have h2 := h.tl
  have h3 := h.rl
  exact tidy_l0 t r (by omega) h1 (by omega) (r.length - 1) 1 (by omega) (by omega) (fun e he1 he2 => by omega)

/-- 'comes again behind d' in the reference's words. -/
theorem per_steps (r : List Bool) (d : Nat) (hd : 1 ≤ d) : (∀ i, d ≤ i → i < r.length → r.getD i false = r.getD (i - d) false) ↔ ∀ i, i < r.length → r.getD i false = r.getD (i % d) false := by
  constructor
  · intro h i
    induction i using Nat.strongRecOn with
    | _ i ih =>
      intro hi
      rcases Nat.lt_or_ge i d with c | c
      · rw [Nat.mod_eq_of_lt c]
      · rw [h i c hi, ih (i - d) (by omega) (by omega), ← Nat.mod_eq_sub_mod c]
  · intro h i h1 h2
    rw [h i h2, h (i - d) (by omega), ← Nat.mod_eq_sub_mod h1]

/-- The reference's inner loop. -/
theorem less_l1 (t r : List Bool) (hr : r.length ≤ 1073741824) (d : Nat) (hd : 1 ≤ d) (hdl : d < r.length) (g : Bool → Nat → Option (List Bool × List Bool))
    (hgt : ∀ k, g true k = (spec_l1Less.f k t (r.take d)).bind fun x => some (x.1, x.2)) (hgf : ∀ k, g false k = spec_l1Less.l0 k (r.length : Int) ((d + 1 : Nat) : Int) t r) (res : List Bool × List Bool) (m : Nat) :
    ∀ i (b : Bool), i + m = r.length → d ≤ i → (b = true ↔ r.length % d = 0 ∧ ∀ j, d ≤ j → j < i → r.getD j false = r.getD (j - d) false) →
      (∀ c : Bool, (c = true ↔ r.length % d = 0 ∧ ∀ j, d ≤ j → j < r.length → r.getD j false = r.getD (j - d) false) → Ev (g c) res) → Ev (fun k => spec_l1Less.l1 k (r.length : Int) (d : Nat) b (i : Nat) t r) res := by
  induction m with
  | zero =>
    intro i b hi hdi hb hres
    obtain rfl : i = r.length := by omega
    refine Ev.step (fun k => ?_) (hres b hb)
    simp only [spec_l1Less.l1]
    rw [if_neg (by omega)]
    cases b with
    | true => rw [if_pos rfl, if_pos (by omega), if_pos (by omega), Int.toNat_natCast, hgt]
    | false => rw [if_neg (by simp), wr1 (by omega), hgf]
  | succ m ih =>
    intro i b hi hdi hb hres
    cases b with
    | true =>
      have h1 := hb.1 rfl
      have e : wrap64 ((i : Int) - (d : Int)) = ((i - d : Nat) : Int) := by rw [wr (by omega) (by omega)]; omega
      refine Ev.step (fun k => ?_) (ih (i + 1) (r.getD i false == r.getD (i - d) false) (by omega) (by omega) ?_ hres)
      · simp only [spec_l1Less.l1, if_true]
        rw [if_pos (by omega), if_pos (by omega), if_pos (by omega), e, if_pos (by omega), if_pos (by omega), rdOf_nat, rdOf_nat, wr1 (by omega)]
      · rw [beq_iff_eq]
        constructor
        · intro c
          refine ⟨h1.1, fun j hj1 hj2 => ?_⟩
          rcases Nat.lt_or_ge j i with h | h
          · exact h1.2 j hj1 h
          · obtain rfl : j = i := by omega
            exact c
        · intro c
          exact c.2 i hdi (by omega)
    | false =>
      refine Ev.step (fun k => ?_) (hres false ⟨fun h => (by cases h), fun h => (hb.2 ⟨h.1, fun j hj1 hj2 => h.2 j hj1 (by omega)⟩)⟩)
      simp only [spec_l1Less.l1]
      rw [if_pos (by omega), if_neg (by simp), wr1 (by omega), hgf]

theorem less_ev (n : Nat) : ∀ t r : List Bool, t.length + r.length = n → t.length ≤ 1073741824 → 0 < r.length → r.length ≤ 1073741824 →
    ∃ t' r', Ev (fun k => spec_l1Less.f k t r) (t', r') ∧ Canon t' r' ∧ (∀ m, hasB t' r' m = hasB t r m) ∧ t'.length ≤ t.length ∧ r'.length ≤ r.length := by
  induction n using Nat.strongRecOn with
  | _ n ih =>
    intro t r hn ht h1 h2
    have loop : ∀ m d, d + m = r.length → 1 ≤ d → (∀ e, 1 ≤ e → e < d → ¬ per r e) → ∃ t' r', Ev (fun k => spec_l1Less.l0 k (r.length : Int) (d : Nat) t r) (t', r') ∧ Canon t' r' ∧ (∀ m, hasB t' r' m = hasB t r m) ∧ t'.length ≤ t.length ∧ r'.length ≤ r.length := by
      intro m
      induction m with
      | zero =>
        intro d hd hd1 hno
        obtain rfl : d = r.length := by omega
        by_cases ct : t.length = 0
        · refine ⟨t, r, Ev.end fun k => ?_, ⟨h1, hno, fun m hm => by omega⟩, fun m => rfl, Nat.le_refl _, Nat.le_refl _⟩
          simp only [spec_l1Less.l0]
          rw [if_neg (by omega), if_neg (by omega)]
        · obtain ⟨q, hq⟩ : ∃ q, t.length = q + 1 := ⟨t.length - 1, by omega⟩
          have e1 : wrap64 ((t.length : Int) - 1) = (q : Nat) := by rw [wrm1 (by omega) (by omega)]; omega
          by_cases c : t.getD q false = r.getD (r.length - 1) false
          · have hl : (t.take q).length = q := by rw [List.length_take]; omega
            obtain ⟨t', r', g1, g2, g3, g4, g5⟩ := ih (q + r.length) (by omega) (t.take q) (rot r) (by rw [rot_length h1, hl]) (by omega) (by rw [rot_length h1]; exact h1) (by rw [rot_length h1]; exact h2)
            rw [rot_length h1] at g5
            refine ⟨t', r', Ev.step (f := fun k => (spec_l1Less.f k (t.take q) (rot r)).bind fun x => some (x.1, x.2)) (fun k => ?_) (Ev.bind g1 (Ev.now _)), g2, fun m => by rw [g3, has_rot hq h1 c], by omega, g5⟩
            simp only [spec_l1Less.l0]
            rw [if_neg (by omega), if_pos (by omega), e1, if_pos (by omega), if_pos (by omega), wrm1 h1 (by omega), if_pos (by omega), if_pos (by omega), rdOf_nat, rdOf_nat, if_pos (by rw [c]; simp)]
            simp only [Option.bind_some]
            rw [if_pos (by omega)]
            rw [if_pos (by simp; omega), if_pos (by omega), Int.toNat_natCast, Int.toNat_natCast, rot_append]
          · refine ⟨t, r, Ev.end fun k => ?_, ⟨h1, hno, fun m hm => (show q = m by omega) ▸ c⟩, fun m => rfl, Nat.le_refl _, Nat.le_refl _⟩
            simp only [spec_l1Less.l0]
            rw [if_neg (by omega), if_pos (by omega), e1, if_pos (by omega), if_pos (by omega), wrm1 h1 (by omega), if_pos (by omega), if_pos (by omega), rdOf_nat, rdOf_nat, if_neg (by simpa using c)]
      | succ m ihm =>
        intro d hd hd1 hno
        have hl : (r.take d).length = d := by rw [List.length_take]; omega
        have hstep : ∀ res, Ev (fun k => spec_l1Less.l1 k (r.length : Int) (d : Nat) (decide (r.length % d = 0)) (d : Nat) t r) res → Ev (fun k => spec_l1Less.l0 k (r.length : Int) (d : Nat) t r) res := by
          intro res hres
          refine Ev.step (fun k => ?_) hres
          simp only [spec_l1Less.l0]
          rw [if_pos (by omega), if_neg (by omega), tmod_nat]
          congr 1
          rw [Bool.eq_iff_iff]
          simp only [beq_iff_eq, decide_eq_true_eq]
          omega
        by_cases hp : per r d
        · obtain ⟨t', r', g1, g2, g3, g4, g5⟩ := ih (t.length + d) (by omega) t (r.take d) (by rw [hl]) ht (by omega) (by omega)
          refine ⟨t', r', hstep _ ?_, g2, fun m => by rw [g3, has_take hd1 h1 hp (by omega)], g4, by omega⟩
          refine less_l1 t r h2 d hd1 (by omega) (fun b k => if b = true then (spec_l1Less.f k t (r.take d)).bind fun x => some (x.1, x.2) else spec_l1Less.l0 k (r.length : Int) ((d + 1 : Nat) : Int) t r) (fun k => if_pos rfl) (fun k => if_neg (by simp)) (t', r') m.succ d (decide (r.length % d = 0)) (by omega) (Nat.le_refl _) ?_ ?_
          · rw [decide_eq_true_eq]
            exact ⟨fun h => ⟨h, fun j a b => by omega⟩, fun h => h.1⟩
          · intro c hc
            have : c = true := hc.2 ⟨hp.1, (per_steps r d hd1).2 hp.2⟩
            subst this
            simp only [if_true]
            exact Ev.bind g1 (Ev.now _)
        · obtain ⟨t', r', g1, g2, g3, g4, g5⟩ := ihm (d + 1) (by omega) (by omega) (fun e he1 he2 hpe => by
            rcases Nat.lt_or_ge e d with h | h
            · exact hno e he1 h hpe
            · obtain rfl : e = d := by omega
              exact hp hpe)
          refine ⟨t', r', hstep _ ?_, g2, g3, g4, g5⟩
          refine less_l1 t r h2 d hd1 (by omega) (fun b k => if b = true then (spec_l1Less.f k t (r.take d)).bind fun x => some (x.1, x.2) else spec_l1Less.l0 k (r.length : Int) ((d + 1 : Nat) : Int) t r) (fun k => if_pos rfl) (fun k => if_neg (by simp)) (t', r') m.succ d (decide (r.length % d = 0)) (by omega) (Nat.le_refl _) ?_ ?_
          · rw [decide_eq_true_eq]
            exact ⟨fun h => ⟨h, fun j a b => by omega⟩, fun h => h.1⟩
          · intro c hc
            have : ¬ c = true := fun h => hp ⟨(hc.1 h).1, (per_steps r d hd1).1 (hc.1 h).2⟩
            simp only [if_neg this]
            exact g1
    obtain ⟨t', r', g1, g2⟩ := loop (r.length - 1) 1 (by omega) (by omega) (fun e he1 he2 => by omega)
    exact ⟨t', r', Ev.step (fun k => by simp only [spec_l1Less.f]; rfl) g1, g2⟩

/-- The tidy form of a set, for both. -/
structure Tidied (t r t' r' : List Bool) : Prop where
  impl : Ev (fun k => impl_set_tidy.f k t r) (t', r')
  spec : Ev (fun k => spec_l1Less.f k t r) (t', r')
  canon : Canon t' r'
  same : ∀ n, hasB t' r' n = hasB t r n
  good : Good t' r'
  tle : t'.length ≤ t.length
  rle : r'.length ≤ r.length
theorem tidied {t r : List Bool} (h : Good t r) : ∃ t' r', Tidied t r t' r' := by
  have h1 := h.pos
  have h2 := h.tl
  have h3 := h.rl
  obtain ⟨t', r', g1, g2, g3, g4, g5⟩ := tidy_ev h
  obtain ⟨t2, r2, k1, k2, k3, k4, k5⟩ := less_ev (t.length + r.length) t r rfl (by omega) h1 (by omega)
  obtain ⟨rfl, rfl⟩ := canon_unique g2 k2 (fun n => by rw [g3, k3])
  exact ⟨t', r', g1, k1, g2, g3, ⟨g2.pos, by omega, by omega⟩, g4, g5⟩


structure IsSmall (s : ByteArray) (t r : List Bool) : Prop where
  orig : ∃ t0 r0, IsSet s t0 r0 ∧ Tidied t0 r0 t r
  good : Good t r
  tl : t.length ≤ 8
  rl : r.length ≤ 8
  impl : Ev (fun k => impl_small.f k s) (t, r, true)
  spec : Ev (fun k => spec_l4Small.f k s) (t, r, true)
structure NoSmall (s : ByteArray) : Prop where
  impl : ∃ a b, Ev (fun k => impl_small.f k s) (a, b, false)
  spec : ∃ a b, Ev (fun k => spec_l4Small.f k s) (a, b, false)
theorem small_cases (s : ByteArray) (hs : s.size ≤ 1073741824) : NoSmall s ∨ ∃ t r, IsSmall s t r := by
  rcases read_cases s hs with h | ⟨t0, r0, h⟩
  · left
    obtain ⟨⟨a, b, ha⟩, ⟨a', b', hb⟩⟩ := h
    refine ⟨⟨[], [], ?_⟩, ⟨a', b', ?_⟩⟩
    · unfold impl_small.f impl_tidied.f
      rw [ha]; simp only [Option.bind_some, Bool.false_eq_true, if_false]
      exact Ev.now _
    · unfold spec_l4Small.f
      refine Ev.bind hb ?_
      simp only [Bool.false_eq_true, if_false]
      exact Ev.now _
  · obtain ⟨t, r, hT⟩ := tidied h.good
    have hi : Ev (fun k => impl_small.f k s) (t, r, decide ((t.length : Int) ≤ 8) && decide ((r.length : Int) ≤ 8)) := by
      unfold impl_small.f impl_tidied.f
      rw [h.impl]; simp only [Option.bind_some, if_true]
      refine Ev.bind (a := (t, r, true)) (Ev.bind hT.impl (Ev.now _)) (Ev.const fun k => ?_)
      rw [if_pos rfl]
      by_cases c : (t.length : Int) ≤ 8
      · rw [if_pos c, decide_eq_true c]; rfl
      · rw [if_neg c, decide_eq_false c]; rfl
    have hs : Ev (fun k => spec_l4Small.f k s) (t, r, decide ((t.length : Int) ≤ 8) && decide ((r.length : Int) ≤ 8)) := by
      unfold spec_l4Small.f
      refine Ev.bind h.spec ?_
      simp only [if_true]
      refine Ev.bind hT.spec (Ev.const fun k => ?_)
      by_cases c : (t.length : Int) ≤ 8
      · rw [if_pos c, decide_eq_true c]; rfl
      · rw [if_neg c, decide_eq_false c]; rfl
    by_cases c : t.length ≤ 8 ∧ r.length ≤ 8
    · right
      rw [decide_eq_true (by omega), decide_eq_true (by omega)] at hi hs
      exact ⟨t, r, ⟨t0, r0, h, hT⟩, hT.good, c.1, c.2, hi, hs⟩
    · left
      have : (decide ((t.length : Int) ≤ 8) && decide ((r.length : Int) ≤ 8)) = false := by
        by_cases c1 : t.length ≤ 8
        · rw [decide_eq_false (show ¬ (r.length : Int) ≤ 8 by omega), Bool.and_false]
        · rw [decide_eq_false (show ¬ (t.length : Int) ≤ 8 by omega), Bool.false_and]
      rw [this] at hi hs
      exact ⟨⟨t, r, hi⟩, ⟨t, r, hs⟩⟩
theorem getD_set_ne (l : List Bool) {i j : Nat} (v : Bool) (h : i ≠ j) : (l.set i v).getD j false = l.getD j false := by simp [List.getD, h]
theorem in_eq' (a b c : Int) : impl_in.f a b c = some (decide (b ≤ a ∧ a ≤ c)) := by
  unfold impl_in.f
  by_cases h : b ≤ a
  · rw [if_pos h]; simp [h]
  · rw [if_neg (by omega), decide_eq_false (by omega)]
theorem l6In_eq' (a b c : Int) : spec_l6In.f a b c = some (decide (b ≤ a ∧ a ≤ c)) := by
  unfold spec_l6In.f
  by_cases h : b ≤ a
  · rw [if_pos h]; simp [h]
  · rw [if_neg (by omega), decide_eq_false (by omega)]


theorem wrs' {a b : Nat} (h : b ≤ a) (ha : a ≤ 4611686018427387904) : wrap64 ((a : Int) - (b : Int)) = ((a - b : Nat) : Int) := by rw [wr (by omega) (by omega)]; omega
theorem wra {a b : Nat} (h : a + b ≤ 4611686018427387904) : wrap64 ((a : Int) + (b : Int)) = ((a + b : Nat) : Int) := by rw [wr (by omega) (by omega)]; omega
theorem rd_nat (l : List Int) (n : Nat) : rd l (n : Int) = l.getD n 0 := by simp [rd]
theorem getI_set_self (l : List Int) (i : Nat) (v : Int) (h : i < l.length) : (l.set i v).getD i 0 = v := by simp [List.getD, h]
theorem getI_set_ne (l : List Int) {i j : Nat} (v : Int) (h : i ≠ j) : (l.set i v).getD j 0 = l.getD j 0 := by simp [List.getD, h]
theorem getI_rep (m j : Nat) : (List.replicate m (0 : Int)).getD j 0 = 0 := by
  simp only [List.getD, List.getElem?_replicate]; split <;> rfl
/-- A list of whole numbers that tells f up to its length. -/
structure TellsI (l : List Int) (f : Nat → Int) (m : Nat) : Prop where
  len : l.length = m
  get : ∀ j, j < m → l.getD j 0 = f j
/-- The numbers of f from 1 to n, in order. -/
def stp (f : Nat → Bool) : Nat → List Int
  | 0 => []
  | n + 1 => if f (n + 1) = true then stp f n ++ [((n + 1 : Nat) : Int)] else stp f n
theorem stp_yes {f : Nat → Bool} {n : Nat} (h : f (n + 1) = true) : stp f (n + 1) = stp f n ++ [((n + 1 : Nat) : Int)] := by simp only [stp]; rw [if_pos h]
theorem stp_no {f : Nat → Bool} {n : Nat} (h : ¬ f (n + 1) = true) : stp f (n + 1) = stp f n := by simp only [stp]; rw [if_neg h]
theorem stp_len_le (f : Nat → Bool) (n : Nat) : (stp f n).length ≤ n := by
  induction n with
  | zero => exact Nat.le_refl _
  | succ n ih =>
    by_cases c : f (n + 1) = true
    · rw [stp_yes c, List.length_append]; simp; omega
    · rw [stp_no c]; omega
theorem stp_pre (f : Nat → Bool) (q d : Nat) : ∃ m, stp f (q + d) = stp f q ++ m := by
  induction d with
  | zero => exact ⟨[], by simp⟩
  | succ d ih =>
    obtain ⟨m, hm⟩ := ih
    by_cases c : f (q + d + 1) = true
    · exact ⟨m ++ [((q + d + 1 : Nat) : Int)], by rw [← Nat.add_assoc, stp_yes c, hm, List.append_assoc]⟩
    · exact ⟨m, by rw [← Nat.add_assoc, stp_no c, hm]⟩
theorem stp_get {f : Nat → Bool} {q n : Nat} (h : f (q + 1) = true) (hq : q < n) : (stp f q).length < (stp f n).length ∧ (stp f n).getD (stp f q).length 0 = ((q + 1 : Nat) : Int) := by
  obtain ⟨m, hm⟩ := stp_pre f (q + 1) (n - (q + 1))
  rw [show q + 1 + (n - (q + 1)) = n from by omega, stp_yes h] at hm
  rw [hm]
  constructor
  · simp [List.length_append]
  · rw [List.append_assoc]; simp [List.getD]
theorem stp_len_yes {f : Nat → Bool} {q : Nat} (h : f (q + 1) = true) : (stp f (q + 1)).length = (stp f q).length + 1 := by rw [stp_yes h, List.length_append]; rfl
theorem stp_len_no {f : Nat → Bool} {q : Nat} (h : ¬ f (q + 1) = true) : (stp f (q + 1)).length = (stp f q).length := by rw [stp_no h]

theorem steps_l0 {t r : List Bool} (h : Good t r) (n : Nat) (hn : n ≤ 1000000) (d : Nat) : ∀ q, q + d = n → Ev (fun k => impl_steps.l0 k n (stp (hasB t r) q) ((q + 1 : Nat) : Int) t r) (stp (hasB t r) n, true) := by
  induction d with
  | zero =>
    intro q hq
    obtain rfl : q = n := by omega
    refine Ev.end fun k => ?_
    simp only [impl_steps.l0]
    rw [if_neg (by omega)]
  | succ d ih =>
    intro q hq
    have k1 := ih (q + 1) (by omega)
    have hl := stp_len_le (hasB t r) q
    refine Ev.step (fun k => ?_) k1
    simp only [impl_steps.l0]
    rw [if_pos (by omega), set_has h (q + 1) (by omega)]
    simp only [Option.bind_some]
    by_cases c : hasB t r (q + 1) = true
    · rw [if_pos c, if_pos (by omega), wr1 (by omega), stp_yes c]
    · rw [if_neg c, wr1 (by omega), stp_no c]
theorem steps_yes {s : ByteArray} {t r : List Bool} (h : IsSmall s t r) (n : Nat) (lim : Int) (hn : (n : Int) ≤ lim) (hl : lim ≤ 1000000) : Ev (fun k => impl_steps.f k s n lim) (stp (hasB t r) n, true) := by
  have hin : impl_in.f n 0 lim = some true := by rw [in_eq', decide_eq_true (by omega)]
  unfold impl_steps.f
  refine Ev.bind h.impl ?_
  simp only [if_true, hin, Option.bind_some]
  exact Ev.step (fun k => by simp only [impl_steps.j0, Bool.not_true, Bool.false_eq_true, if_false]; rfl) (steps_l0 h.good n (by omega) n 0 (by omega))
theorem steps_no {s : ByteArray} {n lim : Int} (hs : NoSmall s ∨ ∃ t r, IsSmall s t r) (h : NoSmall s ∨ ¬ (0 ≤ n ∧ n ≤ lim)) : Ev (fun k => impl_steps.f k s n lim) ([], false) := by
  have i0 : ∀ a b, Ev (fun k => impl_steps.j0 k n true a b) ([], false) := fun a b => Ev.end fun k => by simp only [impl_steps.j0, if_true]
  unfold impl_steps.f
  rcases hs with g | ⟨t, r, g⟩
  · obtain ⟨a, b, g1⟩ := g.impl
    refine Ev.bind g1 ?_
    simp only [Bool.false_eq_true, if_false]
    exact i0 _ _
  · rcases h with h | h
    · obtain ⟨a, b, g1⟩ := h.impl
      have := Ev.unique g1 g.impl
      simp at this
    · have hin : impl_in.f n 0 lim = some false := by rw [in_eq', decide_eq_false h]
      refine Ev.bind g.impl ?_
      simp only [if_true, hin, Option.bind_some, Bool.not_false]
      exact i0 _ _
theorem given_yes {s : ByteArray} {t r : List Bool} (h : IsSmall s t r) (n : Nat) (lim : Int) (hn : (n : Int) ≤ lim) : Ev (fun k => spec_l9Given.f k s n lim) (t, r, true) := by
  have hin : spec_l6In.f n 0 lim = some true := by rw [l6In_eq', decide_eq_true (by omega)]
  unfold spec_l9Given.f
  refine Ev.bind h.spec ?_
  simp only [if_true, hin, Option.bind_some]
  exact Ev.now _
theorem given_no {s : ByteArray} {n lim : Int} (hs : NoSmall s ∨ ∃ t r, IsSmall s t r) (h : NoSmall s ∨ ¬ (0 ≤ n ∧ n ≤ lim)) : ∃ a b, Ev (fun k => spec_l9Given.f k s n lim) (a, b, false) := by
  unfold spec_l9Given.f
  rcases hs with g | ⟨t, r, g⟩
  · obtain ⟨a, b, g1⟩ := g.spec
    refine ⟨a, b, Ev.bind g1 ?_⟩
    simp only [Bool.false_eq_true, if_false]
    exact Ev.now _
  · rcases h with h | h
    · obtain ⟨a, b, g1⟩ := h.spec
      have := Ev.unique g1 g.spec
      simp at this
    · have hin : spec_l6In.f n 0 lim = some false := by rw [l6In_eq', decide_eq_false h]
      refine ⟨t, r, Ev.bind g.spec ?_⟩
      simp only [if_true, hin, Option.bind_some]
      exact Ev.now _

theorem W_le_bound (f : Nat → Bool) {n : Nat} (h : n ≤ 60) : W f n ≤ 1152921504606846976 := Nat.le_trans (W_le f n) (Nat.pow_le_pow_right (by omega) h)
theorem S_le_more (g : Nat → Nat) (m d : Nat) : S g m ≤ S g (m + d) := by
  induction d with
  | zero => exact Nat.le_refl _
  | succ d ih => rw [← Nat.add_assoc]; simp only [S]; omega
theorem rep_one (n j : Nat) : ((List.replicate (n + 1) (0 : Int)).set 0 1).getD j 0 = if j = 0 then 1 else 0 := by
  by_cases c : j = 0
  · subst c; rw [getI_set_self _ _ _ (by simp), if_pos rfl]
  · rw [getI_set_ne _ _ (fun h => c h.symm), getI_rep, if_neg c]
theorem bit_eq (b : Bool) : spec_l1Bit.f b = some (if b = true then 1 else 0) := by cases b <;> rfl

theorem P_bound (f : Nat → Bool) (k : Nat) {n : Nat} (h : n ≤ 60) : P f k n ≤ 1152921504606846976 := Nat.le_trans (P_le f k n) (W_le_bound f h)
/-- The ways to n with 0, 1 .. m - 1 numbers. -/
def rows (f : Nat → Bool) (n m : Nat) : List Int := (List.range m).map fun k => ((P f k n : Nat) : Int)
theorem rows_len (f : Nat → Bool) (n m : Nat) : (rows f n m).length = m := by simp [rows]
theorem rows_succ (f : Nat → Bool) (n m : Nat) : rows f n (m + 1) = rows f n m ++ [((P f m n : Nat) : Int)] := by simp [rows, List.range_succ]
theorem rows_get (f : Nat → Bool) (n : Nat) {m k : Nat} (h : k < m) : (rows f n m).getD k 0 = ((P f k n : Nat) : Int) := by simp [rows, List.getD, h]
/-- The part of P f (k + 1) i that the numbers up to q make. -/
def pP (f : Nat → Bool) (k i q : Nat) : Nat := S (fun y => if f y = true ∧ y ≤ i then P f k (i - y) else 0) q
theorem pP_far (f : Nat → Bool) (k i q : Nat) (h : i ≤ q) : pP f k i q = P f (k + 1) i := by
  unfold pP
  rw [S_more (m := i) h (fun y a b => by rw [if_neg (by omega)])]
  simp only [P]
  exact S_congr fun y a b => by by_cases c : f y = true <;> simp [c, b]
theorem pP_le (f : Nat → Bool) (k i q : Nat) : pP f k i q ≤ P f (k + 1) i := by
  rw [← pP_far f k i (q + i) (by omega)]
  exact S_le_more _ q i
theorem pP_succ (f : Nat → Bool) (k i q : Nat) : pP f k i (q + 1) = pP f k i q + if f (q + 1) = true ∧ q + 1 ≤ i then P f k (i - (q + 1)) else 0 := by
  unfold pP; simp only [S]

theorem parts_l2 (f : Nat → Bool) (n : Nat) (hn : n ≤ 60) (k : Nat) (w T : List Int) (hw : TellsI w (fun j => ((P f k j : Nat) : Int)) (n + 1)) (m p : Nat) (i : Nat) (hi : i ≤ n) (res : List Int × Bool)
    (hend : ∀ l : List Int, l.length = n + 1 → (∀ j, j ≤ n → l.getD j 0 = if j < i + 1 then ((P f (k + 1) j : Nat) : Int) else 0) → Ev (fun k => impl_parts.l1 k n (stp f n) w T l m p ((n + 1 : Nat) : Int) ((i + 1 : Nat) : Int)) res) (d : Nat) :
    ∀ (q : Nat) (l : List Int), q + d = n → l.length = n + 1 → (∀ j, j ≤ n → l.getD j 0 = if j < i then ((P f (k + 1) j : Nat) : Int) else if j = i then ((pP f k i q : Nat) : Int) else 0) →
      Ev (fun k => impl_parts.l2 k n (stp f n) w T l (i : Nat) m p ((n + 1 : Nat) : Int) (i : Nat) (stp f n) (((stp f n).length : Nat) : Int) (((stp f q).length : Nat) : Int)) res := by
  have hwl := hw.len
  induction d with
  | zero =>
    intro q l hq hl ha
    obtain rfl : q = n := by omega
    refine Ev.step (fun k => ?_) (hend l hl fun j hj => by
      rw [ha j hj, pP_far f k i q hi]
      by_cases c : j < i
      · rw [if_pos c, if_pos (by omega)]
      · rw [if_neg c]
        by_cases c2 : j = i
        · subst c2; rw [if_pos rfl, if_pos (by omega)]
        · rw [if_neg c2, if_neg (by omega)])
    simp only [impl_parts.l2]
    rw [if_neg (by omega), wr1 (by omega)]
  | succ d ih =>
    intro q l hq hl ha
    by_cases c : f (q + 1) = true
    · obtain ⟨g1, g2⟩ := stp_get (n := n) c (by omega)
      have hsl := stp_len_le f n
      have hlen := stp_len_yes c
      by_cases c2 : q + 1 ≤ i
      · have hW := P_bound f k (n := i - (q + 1)) (by omega)
        have hW2 := P_bound f (k + 1) (n := i) (by omega)
        have hp := pP_le f k i q
        have e1 : w.getD (i - (q + 1)) 0 = ((P f k (i - (q + 1)) : Nat) : Int) := hw.get _ (by omega)
        have e2 : l.getD i 0 = ((pP f k i q : Nat) : Int) := by rw [ha i hi, if_neg (by omega), if_pos rfl]
        have k1 := ih (q + 1) (l.set i ((pP f k i (q + 1) : Nat) : Int)) (by omega) (by rw [List.length_set, hl]) (fun j hj => by
          by_cases cj : j = i
          · subst cj
            rw [getI_set_self _ _ _ (by omega), if_neg (by omega), if_pos rfl]
          · rw [getI_set_ne _ _ (fun h => cj h.symm), ha j hj, if_neg cj, if_neg cj])
        refine Ev.step (fun k => ?_) k1
        simp only [impl_parts.l2]
        rw [if_pos (by omega), if_pos (by omega), if_pos (by omega), rd_nat, g2, if_pos (by omega), if_pos (by omega), if_pos (by omega), wrs' (by omega) (by omega), if_pos (by omega), if_pos (by omega), rd_nat, rd_nat, e1, e2, wra (by omega), hlen, wr1 (by omega), Int.toNat_natCast, pP_succ, if_pos ⟨c, c2⟩]
      · have k1 := ih (q + 1) l (by omega) hl (fun j hj => by rw [ha j hj, pP_succ, if_neg (c := f (q + 1) = true ∧ q + 1 ≤ i) (fun h => c2 h.2)]; rfl)
        refine Ev.step (fun k => ?_) k1
        simp only [impl_parts.l2]
        rw [if_pos (by omega), if_pos (by omega), if_pos (by omega), rd_nat, g2, if_neg (by omega), hlen, wr1 (by omega)]
    · rw [← stp_len_no c]
      exact ih (q + 1) l (by omega) hl (fun j hj => by rw [ha j hj, pP_succ, if_neg (c := f (q + 1) = true ∧ q + 1 ≤ i) (fun h => c h.1)]; rfl)
theorem parts_l1 (f : Nat → Bool) (n : Nat) (hn : n ≤ 60) (k : Nat) (w T : List Int) (hT : T.length ≤ 1000) (hw : TellsI w (fun j => ((P f k j : Nat) : Int)) (n + 1)) (m p : Nat) (hp : p ≤ 1000) (res : List Int × Bool)
    (hend : ∀ l : List Int, TellsI l (fun j => ((P f (k + 1) j : Nat) : Int)) (n + 1) → Ev (fun q => impl_parts.l0 q n (stp f n) l (T ++ [((P f (k + 1) n : Nat) : Int)]) m ((p + 1 : Nat) : Int)) res) (d : Nat) :
    ∀ (i : Nat) (l : List Int), i + d = n + 1 → l.length = n + 1 → (∀ j, j ≤ n → l.getD j 0 = if j < i then ((P f (k + 1) j : Nat) : Int) else 0) →
      Ev (fun k => impl_parts.l1 k n (stp f n) w T l m p ((n + 1 : Nat) : Int) (i : Nat)) res := by
  induction d with
  | zero =>
    intro i l hi hl ha
    obtain rfl : i = n + 1 := by omega
    have e : l.getD n 0 = ((P f (k + 1) n : Nat) : Int) := by rw [ha n (by omega), if_pos (by omega)]
    refine Ev.step (fun k => ?_) (hend l ⟨hl, fun j hj => by rw [ha j (by omega), if_pos hj]⟩)
    simp only [impl_parts.l1]
    rw [if_neg (by omega), if_pos (by omega), if_pos (by omega), if_pos (by omega), rd_nat, e, wr1 (by omega)]
  | succ d ih =>
    intro i l hi hl ha
    refine Ev.step (fun k => ?_) (parts_l2 f n hn k w T hw m p i (by omega) res (fun l hl ha => ih (i + 1) l (by omega) hl ha) n 0 l (by omega) hl (fun j hj => by
      rw [ha j hj]
      by_cases c : j < i
      · rw [if_pos c, if_pos c]
      · rw [if_neg c, if_neg c]; split <;> rfl))
    simp only [impl_parts.l1]
    rw [if_pos (by omega)]
    rfl
theorem parts_l0 (f : Nat → Bool) (n : Nat) (hn : n ≤ 60) (m : Nat) (hm : m ≤ 60) (d : Nat) : ∀ (k : Nat) (w : List Int), k + d = m → TellsI w (fun j => ((P f k j : Nat) : Int)) (n + 1) →
    Ev (fun q => impl_parts.l0 q n (stp f n) w (rows f n (k + 1)) m (k : Nat)) (rows f n (m + 1), true) := by
  induction d with
  | zero =>
    intro k w hk hw
    obtain rfl : k = m := by omega
    refine Ev.end fun q => ?_
    simp only [impl_parts.l0]
    rw [if_neg (by omega)]
  | succ d ih =>
    intro k w hk hw
    have e : wrap64 ((n : Int) + 1) = ((n + 1 : Nat) : Int) := wr1 (by omega)
    refine Ev.step (fun q => ?_) (parts_l1 f n hn k w (rows f n (k + 1)) (by rw [rows_len]; omega) hw m k (by omega) _ (fun l hl => by rw [← rows_succ]; exact ih (k + 1) l (by omega) hl) (n + 1) 0 (List.replicate (n + 1) 0) (by omega) (by simp) (fun j hj => by rw [getI_rep, if_neg (by omega)]))
    simp only [impl_parts.l0, e, Int.toNat_natCast, Option.bind_some, List.length_replicate]
    rw [if_pos (by omega), if_pos (by omega), if_pos (by omega)]
    rfl
theorem ones_P (f : Nat → Bool) (n : Nat) : TellsI ((List.replicate (n + 1) (0 : Int)).set 0 1) (fun j => ((P f 0 j : Nat) : Int)) (n + 1) :=
  ⟨by simp, fun j hj => by rw [rep_one]; simp only [P]; split <;> rfl⟩
theorem parts_yes {s : ByteArray} {t r : List Bool} (h : IsSmall s t r) (n m : Nat) (hn : n ≤ 40) (hm : m ≤ 40) : Ev (fun k => impl_parts.f k s n m) (rows (hasB t r) n (m + 1), true) := by
  have e : wrap64 ((n : Int) + 1) = ((n + 1 : Nat) : Int) := wr1 (by omega)
  have o := (ones_P (hasB t r) n).get n (by omega)
  unfold impl_parts.f
  refine Ev.bind (steps_yes h n 40 (by omega) (by omega)) ?_
  simp only [if_true, e, if_pos (show (0 : Int) ≤ ((n + 1 : Nat) : Int) by omega), Int.toNat_natCast, if_pos (show n + 1 ≤ 35184372088832 by omega), Option.bind_some, List.length_replicate, if_pos (show (0 : Int) < ((n + 1 : Nat) : Int) by omega), if_pos (show (0 : Int) ≤ (n : Int) by omega), if_pos (show (n : Int) < ((n + 1 : Nat) : Int) by omega), rd_nat]
  have k1 := parts_l0 (hasB t r) n (by omega) m (by omega) m 0 _ (by omega) (ones_P _ n)
  rw [show rows (hasB t r) n (0 + 1) = [((List.replicate (n + 1) (0 : Int)).set 0 1).getD n 0] from by rw [o]; rfl] at k1
  exact k1
theorem parts_no {s : ByteArray} {n m : Int} (hs : NoSmall s ∨ ∃ t r, IsSmall s t r) (h : NoSmall s ∨ ¬ (0 ≤ n ∧ n ≤ 40)) : Ev (fun k => impl_parts.f k s n m) ([], false) := by
  unfold impl_parts.f
  refine Ev.bind (steps_no hs h) ?_
  simp only [Bool.false_eq_true, if_false]
  exact Ev.now _

def sP (f : Nat → Bool) (k i q j : Nat) : Nat := S (fun y => if f y = true ∧ y ≤ j ∧ (j - y < i ∨ (j - y = i ∧ y < q)) then P f k (j - y) else 0) j
theorem sP_le (f : Nat → Bool) (k i q j : Nat) : sP f k i q j ≤ P f (k + 1) j := by
  unfold sP; simp only [P]
  refine S_le fun y a b => ?_
  by_cases c : f y = true
  · rw [if_pos c]; split
    · exact Nat.le_refl _
    · exact Nat.zero_le _
  · rw [if_neg (fun h => c h.1), if_neg c]; exact Nat.le_refl _
theorem sP_start (f : Nat → Bool) (k j : Nat) : sP f k 0 1 j = 0 := S_zero fun y a b => by rw [if_neg (by omega)]
theorem sP_end (f : Nat → Bool) (k n j q : Nat) (h : j ≤ n) : sP f k (n + 1) q j = P f (k + 1) j := by
  unfold sP; simp only [P]
  refine S_congr fun y a b => ?_
  by_cases c : f y = true
  · rw [if_pos c, if_pos ⟨c, b, .inl (by omega)⟩]
  · rw [if_neg (fun h => c h.1), if_neg c]
theorem sP_next (f : Nat → Bool) (k n i q j : Nat) (h : j ≤ n) (hq : n < i + q) : sP f k i q j = sP f k (i + 1) 1 j := by
  unfold sP
  refine S_congr fun y a b => ?_
  by_cases c : f y = true ∧ y ≤ j ∧ (j - y < i ∨ (j - y = i ∧ y < q))
  · rw [if_pos c, if_pos ⟨c.1, c.2.1, .inl (by omega)⟩]
  · rw [if_neg c, if_neg (fun h => c ⟨h.1, h.2.1, by omega⟩)]
theorem sP_other (f : Nat → Bool) (k i q j : Nat) (h : j ≠ i + q) : sP f k i (q + 1) j = sP f k i q j := by
  unfold sP
  refine S_congr fun y a b => ?_
  by_cases c : f y = true ∧ y ≤ j ∧ (j - y < i ∨ (j - y = i ∧ y < q))
  · rw [if_pos c, if_pos ⟨c.1, c.2.1, by omega⟩]
  · rw [if_neg c, if_neg (fun h => c ⟨h.1, h.2.1, by omega⟩)]
theorem sP_step (f : Nat → Bool) (k i q : Nat) (hq : 1 ≤ q) : sP f k i (q + 1) (i + q) = sP f k i q (i + q) + if f q = true then P f k i else 0 := by
  have h1 := S_one q (if f q = true then P f k i else 0) (i + q) hq
  rw [if_pos (c := q ≤ i + q) (by omega)] at h1
  unfold sP
  rw [← h1, ← S_add]
  refine S_congr fun y a b => ?_
  by_cases cy : y = q
  · subst cy
    rw [if_pos rfl, if_neg (c := f y = true ∧ y ≤ i + y ∧ (i + y - y < i ∨ (i + y - y = i ∧ y < y))) (by omega)]
    by_cases c : f y = true
    · rw [if_pos ⟨c, b, .inr ⟨by omega, by omega⟩⟩, if_pos c, Nat.zero_add, show i + y - y = i from by omega]
    · rw [if_neg (fun h => c h.1), if_neg c]
  · rw [if_neg cy, Nat.add_zero]
    by_cases c : f y = true ∧ y ≤ i + q ∧ (i + q - y < i ∨ (i + q - y = i ∧ y < q))
    · rw [if_pos c, if_pos ⟨c.1, c.2.1, by omega⟩]; rfl
    · rw [if_neg c, if_neg (fun h => c ⟨h.1, h.2.1, by omega⟩)]
theorem sparts_l2 {t r : List Bool} (h : Good t r) (n : Nat) (hn : n ≤ 60) (k : Nat) (hk : k ≤ 1000) (w T : List Int) (hw : TellsI w (fun j => ((P (hasB t r) k j : Nat) : Int)) (n + 1)) (p : Nat) (i : Nat) (hi : i ≤ n) (res : List Int)
    (hend : ∀ l : List Int, l.length = n + 1 → (∀ j, j ≤ n → l.getD j 0 = ((sP (hasB t r) k (i + 1) 1 j : Nat) : Int)) → Ev (fun k => spec_l9Parts.l1 k n w T p l ((i + 1 : Nat) : Int) t r) res) (d : Nat) :
    ∀ (q : Nat) (l : List Int), q + d = n + 1 - i → 1 ≤ q → l.length = n + 1 → (∀ j, j ≤ n → l.getD j 0 = ((sP (hasB t r) k i q j : Nat) : Int)) →
      Ev (fun k => spec_l9Parts.l2 k n w T p l (i : Nat) (q : Nat) t r) res := by
  have hwl := hw.len
  induction d with
  | zero =>
    intro q l hq h1 hl ha
    refine Ev.step (fun _ => ?_) (hend l hl fun j hj => by rw [ha j hj, sP_next _ k n i q j hj (by omega)])
    simp only [spec_l9Parts.l2]
    rw [wra (by omega), if_neg (by omega), wr1 (by omega)]
  | succ d ih =>
    intro q l hq h1 hl ha
    have hW := P_bound (hasB t r) k (n := i) (by omega)
    have hW2 := P_bound (hasB t r) (k + 1) (n := i + q) (by omega)
    have hp := sP_le (hasB t r) k i q (i + q)
    have hp2 := sP_le (hasB t r) k i (q + 1) (i + q)
    have e := sP_step (hasB t r) k i q h1
    have e1 : w.getD i 0 = ((P (hasB t r) k i : Nat) : Int) := hw.get _ (by omega)
    have e2 : l.getD (i + q) 0 = ((sP (hasB t r) k i q (i + q) : Nat) : Int) := ha _ (by omega)
    have k1 := ih (q + 1) (l.set (i + q) ((sP (hasB t r) k i (q + 1) (i + q) : Nat) : Int)) (by omega) (by omega) (by rw [List.length_set, hl]) (fun j hj => by
      by_cases cj : j = i + q
      · subst cj; rw [getI_set_self _ _ _ (by omega)]
      · rw [getI_set_ne _ _ (fun h => cj h.symm), ha j hj, sP_other _ _ _ _ _ cj])
    refine Ev.step (fun _ => ?_) k1
    simp only [spec_l9Parts.l2]
    rw [wra (by omega), if_pos (by omega), if_pos (by omega), if_pos (by omega), l1_has h q (by omega)]
    simp only [Option.bind_some, bit_eq]
    rw [if_pos (by omega), if_pos (by omega), rd_nat, rd_nat, e1, e2, wr1 (by omega), Int.toNat_natCast, e]
    by_cases c : hasB t r q = true
    · rw [if_pos c, if_pos c, Int.one_mul, wr (x := ((P (hasB t r) k i : Nat) : Int)) (by omega) (by omega), wra (by omega)]
    · rw [if_neg c, if_neg c, Int.zero_mul, wr (x := (0 : Int)) (by omega) (by omega), Int.add_zero, wr (by omega) (by omega)]; rfl
theorem sparts_l1 {t r : List Bool} (h : Good t r) (n : Nat) (hn : n ≤ 60) (k : Nat) (hk : k ≤ 1000) (w T : List Int) (hw : TellsI w (fun j => ((P (hasB t r) k j : Nat) : Int)) (n + 1)) (p : Nat) (hp : p ≤ 1000) (res : List Int)
    (hend : ∀ l : List Int, TellsI l (fun j => ((P (hasB t r) (k + 1) j : Nat) : Int)) (n + 1) → Ev (fun k => spec_l9Parts.l0 k n l T ((p + 1 : Nat) : Int) t r) res) (d : Nat) :
    ∀ (i : Nat) (l : List Int), i + d = n + 1 → l.length = n + 1 → (∀ j, j ≤ n → l.getD j 0 = ((sP (hasB t r) k i 1 j : Nat) : Int)) →
      Ev (fun k => spec_l9Parts.l1 k n w T p l (i : Nat) t r) res := by
  induction d with
  | zero =>
    intro i l hi hl ha
    obtain rfl : i = n + 1 := by omega
    refine Ev.step (fun k => ?_) (hend l ⟨hl, fun j hj => by rw [ha j (by omega), sP_end _ k n j 1 (by omega)]⟩)
    simp only [spec_l9Parts.l1]
    rw [if_neg (by omega), wr1 (by omega)]
  | succ d ih =>
    intro i l hi hl ha
    refine Ev.step (fun k => ?_) (sparts_l2 h n hn k hk w T hw p i (by omega) res (fun l hl ha => ih (i + 1) l (by omega) hl ha) (n - i) 1 l (by omega) (by omega) hl ha)
    simp only [spec_l9Parts.l1]
    rw [if_pos (by omega)]
    rfl
theorem sparts_l0 {t r : List Bool} (h : Good t r) (n : Nat) (hn : n ≤ 60) (d : Nat) : ∀ (k : Nat) (w : List Int), k + d = 41 → TellsI w (fun j => ((P (hasB t r) k j : Nat) : Int)) (n + 1) →
    Ev (fun q => spec_l9Parts.l0 q n w (rows (hasB t r) n k) (k : Nat) t r) (rows (hasB t r) n 41) := by
  induction d with
  | zero =>
    intro k w hk hw
    obtain rfl : k = 41 := by omega
    refine Ev.end fun q => ?_
    simp only [spec_l9Parts.l0]
    rw [if_neg (by omega)]
  | succ d ih =>
    intro k w hk hw
    have hwl := hw.len
    have e : wrap64 ((n : Int) + 1) = ((n + 1 : Nat) : Int) := wr1 (by omega)
    have hr := rows_len (hasB t r) n k
    refine Ev.step (fun q => ?_) (sparts_l1 h n hn k (by omega) w (rows (hasB t r) n (k + 1)) hw k (by omega) _ (fun l hl => ih (k + 1) l (by omega) hl) (n + 1) 0 (List.replicate (n + 1) 0) (by omega) (by simp) (fun j hj => by rw [getI_rep, sP_start]; rfl))
    simp only [spec_l9Parts.l0, e, Int.toNat_natCast]
    rw [if_pos (by omega), if_pos (by omega), if_pos (by omega), if_pos (by omega), if_pos (by omega), if_pos (by omega), rd_nat, hw.get n (by omega), ← rows_succ]
    rfl
theorem sparts_ev {t r : List Bool} (h : Good t r) (n : Nat) (hn : n ≤ 60) : Ev (fun q => spec_l9Parts.f q t r n) (rows (hasB t r) n 41) := by
  have e : wrap64 ((n : Int) + 1) = ((n + 1 : Nat) : Int) := wr1 (by omega)
  unfold spec_l9Parts.f
  simp only [e, if_pos (show (0 : Int) ≤ ((n + 1 : Nat) : Int) by omega), Int.toNat_natCast, if_pos (show n + 1 ≤ 35184372088832 by omega), Option.bind_some, List.length_replicate, if_pos (show (0 : Int) < ((n + 1 : Nat) : Int) by omega)]
  exact sparts_l0 h n hn 41 0 _ (by omega) (ones_P _ n)

def odd (f : Nat → Bool) (n m : Nat) : Nat := Z (fun k => if k % 2 = 1 then P f k n else 0) m
theorem odd_succ (f : Nat → Bool) (n m : Nat) : odd f n (m + 1) = odd f n m + if m % 2 = 1 then P f m n else 0 := rfl
theorem Z_le_more (g : Nat → Nat) (m d : Nat) : Z g m ≤ Z g (m + d) := by
  induction d with
  | zero => exact Nat.le_refl _
  | succ d ih => rw [← Nat.add_assoc]; simp only [Z]; omega
theorem odd_le (f : Nat → Bool) (n m : Nat) : odd f n m ≤ W f n := by
  have h1 := P_sum f n (m + (n + 1)) (by omega)
  have h2 := Z_le_more (fun k => P f k n) m (n + 1)
  have h3 : odd f n m ≤ Z (fun k => P f k n) m := by
    clear h1 h2
    induction m with
    | zero => exact Nat.le_refl _
    | succ m ih => rw [odd_succ]; simp only [Z]; split <;> omega
  omega
theorem odd_l0 (f : Nat → Bool) (n m : Nat) (hn : n ≤ 60) (hm : m ≤ 1000) (b : Bool) (d : Nat) : ∀ k, k + d = m → Ev (fun q => impl_WaysOdd.l0 q b ((odd f n k : Nat) : Int) (rows f n m) (m : Nat) (k : Nat)) (((odd f n m : Nat) : Int), b) := by
  have hl := rows_len f n m
  induction d with
  | zero =>
    intro k hk
    obtain rfl : k = m := by omega
    refine Ev.end fun q => ?_
    simp only [impl_WaysOdd.l0]
    rw [if_neg (by omega)]
  | succ d ih =>
    intro k hk
    have hb := P_bound f k hn
    have ho := odd_le f n (k + 1)
    have hw := W_le_bound f hn
    have k1 := ih (k + 1) (by omega)
    rw [odd_succ] at k1 ho
    have et : Int.tmod (k : Int) 2 = ((k % 2 : Nat) : Int) := tmod_nat k 2
    refine Ev.step (fun q => ?_) k1
    simp only [impl_WaysOdd.l0]
    rw [if_pos (by omega), if_pos (by omega), if_pos (by omega), rd_nat, rows_get _ _ (by omega), et, wr1 (by omega)]
    rcases Nat.mod_two_eq_zero_or_one k with c | c
    · rw [c, if_neg (by omega), Int.natCast_zero, Int.zero_mul, wr (x := (0 : Int)) (by omega) (by omega), Int.add_zero, wr (by omega) (by omega)]; rfl
    · rw [if_pos c] at ho
      rw [c, if_pos rfl, show (((1 : Nat) : Int)) = 1 from rfl, Int.one_mul, wr (x := ((P f k n : Nat) : Int)) (by omega) (by omega), wra (by omega)]
theorem sodd_l0 (f : Nat → Bool) (n : Nat) (hn : n ≤ 60) (d : Nat) : ∀ k, k + 2 * d = 41 → Ev (fun q => spec_WaysOdd.l0 q (rows f n 41) ((odd f n k : Nat) : Int) (k : Nat)) (((odd f n 41 : Nat) : Int), true) := by
  have hl := rows_len f n 41
  induction d with
  | zero =>
    intro k hk
    obtain rfl : k = 41 := by omega
    refine Ev.end fun q => ?_
    simp only [spec_WaysOdd.l0]
    rw [if_neg (by omega)]
  | succ d ih =>
    intro k hk
    have hb := P_bound f k hn
    have ho := odd_le f n (k + 2)
    have hw := W_le_bound f hn
    have k1 := ih (k + 2) (by omega)
    rw [odd_succ, odd_succ, if_pos (show k % 2 = 1 by omega), if_neg (show ¬ (k + 1) % 2 = 1 by omega), Nat.add_zero] at k1 ho
    refine Ev.step (fun q => ?_) k1
    simp only [spec_WaysOdd.l0]
    rw [if_pos (by omega), if_pos (by omega), rd_nat, rows_get _ _ (by omega), wra (by omega), wr (x := (k : Int) + 2) (by omega) (by omega)]
    rfl
theorem waysOdd_impl {s : ByteArray} {t r : List Bool} (h : IsSmall s t r) (n : Nat) (hn : n ≤ 40) : Ev (fun k => impl_WaysOdd.f k s n) (((odd (hasB t r) n 41 : Nat) : Int), true) := by
  unfold impl_WaysOdd.f
  refine Ev.bind (parts_yes h n 40 hn (by omega)) ?_
  rw [rows_len]
  exact odd_l0 _ n 41 (by omega) (by omega) true 41 0 (by omega)
theorem waysOdd_spec {s : ByteArray} {t r : List Bool} (h : IsSmall s t r) (n : Nat) (hn : n ≤ 40) : Ev (fun k => spec_WaysOdd.f k s n) (((odd (hasB t r) n 41 : Nat) : Int), true) := by
  unfold spec_WaysOdd.f
  refine Ev.bind (given_yes h n 40 (by omega)) ?_
  simp only [if_true]
  refine Ev.bind (sparts_ev h.good n (by omega)) ?_
  exact sodd_l0 _ n (by omega) 20 1 (by omega)
theorem waysOdd_no {s : ByteArray} {n : Int} (hs : NoSmall s ∨ ∃ t r, IsSmall s t r) (h : NoSmall s ∨ ¬ (0 ≤ n ∧ n ≤ 40)) : Ev (fun k => impl_WaysOdd.f k s n) (0, false) ∧ Ev (fun k => spec_WaysOdd.f k s n) (0, false) := by
  constructor
  · unfold impl_WaysOdd.f
    refine Ev.bind (parts_no hs h) ?_
    exact Ev.end fun k => by simp only [impl_WaysOdd.l0]; rfl
  · obtain ⟨a, b, g⟩ := given_no hs h
    unfold spec_WaysOdd.f
    refine Ev.bind g ?_
    simp only [Bool.false_eq_true, if_false]
    exact Ev.now _

end Go.Proofs.Ytcbgflejdgcmeaa.Q

namespace Go.Proofs.Ytcbgflejdgcmeaa.Pure
open Go.RowKit Go.Proofs.Ytcbgflejdgcmeaa.Q Go.Proofs.YtcbgflejdgcmeaaW.PrintWords Go.Proofs.YtcbgflejdgcmeaaW.PrintLast
set_option linter.unusedSimpArgs false
theorem FnExactWaysOdd : laws_FnExactWaysOdd.Pure := by
  intro s n hs hn
  by_cases hz : (s.size : Int) > 1048576
  · exact ⟨0, by unfold laws_FnExactWaysOdd.f; rw [if_pos hz]⟩
  have fin : ∀ b, Ev (fun q => impl_WaysOdd.f q s n) b → Ev (fun q => spec_WaysOdd.f q s n) b → ∃ q, laws_FnExactWaysOdd.f q s n = some true := by
    intro x h1 h2
    refine Ev.rounds ?_
    unfold laws_FnExactWaysOdd.f
    simp only [if_neg hz]
    exact Ev.bind h2 (Ev.bind h1 (Ev.const fun q => by simp))
  have cs := small_cases s (by omega)
  by_cases hx : NoSmall s ∨ ¬ (0 ≤ n ∧ n ≤ 40)
  · obtain ⟨h1, h2⟩ := waysOdd_no cs hx
    exact fin _ h1 h2
  · rcases cs with h | ⟨t, r, h⟩
    · exact absurd (Or.inl h) hx
    · have hn2 : 0 ≤ n ∧ n ≤ 40 := Decidable.byContradiction fun k => hx (Or.inr k)
      obtain ⟨m, rfl⟩ : ∃ m : Nat, n = (m : Int) := ⟨n.toNat, by omega⟩
      exact fin _ (waysOdd_impl h m (by omega)) (waysOdd_spec h m (by omega))

end Go.Proofs.Ytcbgflejdgcmeaa.Pure
