/- Being less dense is an order, and the program's DenseLess returns what the reference's does; no condition beyond the statement's own. -/
import Derived.Laws.BitsLemmas
import Derived.Test.YtbgapjgfocdjoaaCFnDenseLess1
import Derived.Test.YtbgapjgfocdjoaaCFnDenseLess6
import Derived.Test.YtbgapjgfocdjoaaCFnDenseLess7
import Derived.Test.YtbgapjgfocdjoaaCFnDenseLess8
namespace Go.Proofs.Ytbgapjgfocdjoaa.Q
open Go.RowKit Go.Proofs.YtbgapjgfocdjoaaW.PrintWords Go.Proofs.YtbgapjgfocdjoaaW.PrintLast Go.Proofs.YtbgapjgfocdjoaaW.PrintMore
open Go.Proofs.Ytbgapjgfocdjoaa.Pl
set_option linter.unusedVariables false
set_option linter.unusedSimpArgs false

theorem wrm1 {n : Nat} (h0 : 1 ≤ n) (h : n ≤ 4611686018427387904) : wrap64 ((n : Int) - 1) = ((n - 1 : Nat) : Int) := by rw [wr (by omega) (by omega)]; omega

theorem turns_l0 (r : List Bool) (hr : r.length ≤ 1073741824) (d : Nat) (hd : 1 ≤ d) (hdl : d ≤ r.length) (m : Nat) : ∀ i, i + m = r.length → (∀ j, j < i → r.getD j false = r.getD (j % d) false) →
    ∃ b : Bool, Ev (fun k => impl_turns.l0 k r d (r.length : Int) (i : Nat)) b ∧ (b = true ↔ per r d) := by
  induction m with
  | zero =>
    intro i hi hall
    refine ⟨decide (r.length % d = 0), Ev.end fun k => ?_, ?_⟩
    · simp only [impl_turns.l0]
      rw [if_neg (by omega), if_neg (by omega), ← Int.natCast_emod]
      congr 1
      rw [Bool.eq_iff_iff]
      simp only [beq_iff_eq, decide_eq_true_eq]
      omega
    · rw [decide_eq_true_eq]
      exact ⟨fun h => ⟨h, fun j hj => hall j (by omega)⟩, fun h => h.1⟩
  | succ m ih =>
    intro i hi hall
    have hm := Nat.mod_lt i (show d > 0 by omega)
    by_cases c : r.getD i false = r.getD (i % d) false
    · obtain ⟨b, h1, h2⟩ := ih (i + 1) (by omega) (fun j hj => by
        rcases Nat.lt_or_ge j i with h | h
        · exact hall j h
        · obtain rfl : j = i := by omega
          exact c)
      refine ⟨b, Ev.step (fun k => ?_) h1, h2⟩
      simp only [impl_turns.l0]
      rw [if_pos (by omega), if_pos (by omega), if_pos (by omega), if_neg (by omega), tmod_nat, if_pos (by omega), if_pos (by omega), rdOf_nat, rdOf_nat, wr1 (by omega), if_neg (by rw [c]; simp)]
    · refine ⟨false, Ev.end fun k => ?_, ?_⟩
      · simp only [impl_turns.l0]
        rw [if_pos (by omega), if_pos (by omega), if_pos (by omega), if_neg (by omega), tmod_nat, if_pos (by omega), if_pos (by omega), rdOf_nat, rdOf_nat, if_pos (by simpa using c)]
      · exact ⟨fun h => absurd h (by simp), fun h => absurd (h.2 i (by omega)) c⟩
theorem turns_ev (r : List Bool) (hr : r.length ≤ 1073741824) (d : Nat) (hd : 1 ≤ d) (hdl : d ≤ r.length) : ∃ b : Bool, Ev (fun k => impl_turns.f k r d) b ∧ (b = true ↔ per r d) :=
  turns_l0 r hr d hd hdl r.length 0 (by omega) (fun j hj => absurd hj (Nat.not_lt_zero j))

theorem rot_append {r : List Bool} : ([r.getD (r.length - 1) false] : List Bool) ++ r.take (r.length - 1) = rot r := by
  simp [rot, List.dropLast_eq_take]

/-- The tail made short. -/
theorem tidy_l1 (n : Nat) : ∀ (t r : List Bool), t.length = n → t.length ≤ 1073741824 → 0 < r.length → r.length ≤ 1073741824 → (∀ d, 1 ≤ d → d < r.length → ¬ per r d) →
    ∃ t' r', Ev (fun k => impl_set_tidy.l1 k (r.length : Int) t r) (t', r') ∧ Canon t' r' ∧ (∀ m, hasB t' r' m = hasB t r m) ∧ t'.length ≤ t.length ∧ r'.length ≤ r.length := by
  induction n with
  | zero =>
    intro t r ht _ h1 h2 h3
    refine ⟨t, r, Ev.end fun k => ?_, ⟨h1, h3, fun m hm => by omega⟩, fun m => rfl, Nat.le_refl _, Nat.le_refl _⟩
    simp only [impl_set_tidy.l1]
    rw [if_neg (by omega)]
  | succ n ih =>
    intro t r ht htl h1 h2 h3
    have e1 : wrap64 ((t.length : Int) - 1) = (n : Nat) := by rw [wrm1 (by omega) (by omega)]; omega
    by_cases c : t.getD n false = r.getD (r.length - 1) false
    · have hl : (t.take n).length = n := by rw [List.length_take]; omega
      obtain ⟨t', r', g1, g2, g3, g4, g5⟩ := ih (t.take n) (rot r) hl (by omega) (by rw [rot_length h1]; exact h1) (by rw [rot_length h1]; exact h2) (fun d hd1 hd2 hp => by rw [rot_length h1] at hd2; exact h3 d hd1 hd2 (per_rot h1 hd1 hp))
      rw [rot_length h1] at g1 g5
      refine ⟨t', r', Ev.step (fun k => ?_) g1, g2, fun m => by rw [g3, has_rot ht h1 c], by omega, g5⟩
      simp only [impl_set_tidy.l1]
      rw [if_pos (by omega), e1, if_pos (by omega), if_pos (by omega), wrm1 h1 (by omega), if_pos (by omega), if_pos (by omega), rdOf_nat, rdOf_nat, if_pos (by rw [c]; simp), if_pos (by omega)]
      simp only [Option.bind_some]
      rw [if_pos (by omega)]
      rw [if_pos (by simp; omega), Int.toNat_natCast, Int.toNat_natCast, rot_append]
    · refine ⟨t, r, Ev.end fun k => ?_, ⟨h1, h3, fun m hm => (show n = m by omega) ▸ c⟩, fun m => rfl, Nat.le_refl _, Nat.le_refl _⟩
      simp only [impl_set_tidy.l1]
      rw [if_pos (by omega), e1, if_pos (by omega), if_pos (by omega), wrm1 h1 (by omega), if_pos (by omega), if_pos (by omega), rdOf_nat, rdOf_nat, if_neg (by simpa using c)]

theorem tidy_l0 (t r : List Bool) (ht : t.length ≤ 1073741824) (h1 : 0 < r.length) (h2 : r.length ≤ 1073741824) (m : Nat) : ∀ d, d + m = r.length → 1 ≤ d → (∀ e, 1 ≤ e → e < d → ¬ per r e) →
    ∃ t' r', Ev (fun k => impl_set_tidy.l0 k (d : Nat) t r) (t', r') ∧ Canon t' r' ∧ (∀ m, hasB t' r' m = hasB t r m) ∧ t'.length ≤ t.length ∧ r'.length ≤ r.length := by
  induction m with
  | zero =>
    intro d hd hd1 hno
    obtain ⟨b, hb, hb2⟩ := turns_ev r h2 d hd1 (by omega)
    have hp : per r d := ⟨by rw [show r.length = d from by omega]; exact Nat.mod_self d, fun i hi => by rw [Nat.mod_eq_of_lt (by omega)]⟩
    have hl : (r.take d).length = d := by rw [List.length_take]; omega
    obtain ⟨t', r', g1, g2, g3, g4, g5⟩ := tidy_l1 t.length t (r.take d) rfl ht (by omega) (by omega) (fun e he1 he2 hpe => hno e he1 (by omega) (per_take hd1 he1 (by omega) hp hpe))
    rw [hl] at g1 g5
    refine ⟨t', r', ?_, g2, fun m => by rw [g3, has_take hd1 h1 hp (by omega)], g4, by omega⟩
    refine Ev.step (f := fun k => (impl_turns.f k r d).bind fun x => if x = true then impl_set_tidy.l1 k d t (r.take d) else impl_set_tidy.l0 k (wrap64 (d + 1)) t r) (fun k => ?_) ?_
    · simp only [impl_set_tidy.l0, slices_Clone_bool_bool.f]
      rw [if_pos (by omega)]
      simp only [Option.bind_some]
      rw [if_pos (by omega), if_pos (by omega), Int.toNat_natCast, if_pos (by omega)]
      simp only [Option.bind_some]
    · exact Ev.bind hb (by simp only [if_pos (hb2.2 hp)]; exact g1)
  | succ m ih =>
    intro d hd hd1 hno
    obtain ⟨b, hb, hb2⟩ := turns_ev r h2 d hd1 (by omega)
    have hl : (r.take d).length = d := by rw [List.length_take]; omega
    have key : ∃ t' r', Ev (fun k => if b = true then impl_set_tidy.l1 k d t (r.take d) else impl_set_tidy.l0 k (wrap64 ((d : Nat) + 1)) t r) (t', r') ∧ Canon t' r' ∧ (∀ m, hasB t' r' m = hasB t r m) ∧ t'.length ≤ t.length ∧ r'.length ≤ r.length := by
      by_cases c : b = true
      · have hp := hb2.1 c
        obtain ⟨t', r', g1, g2, g3, g4, g5⟩ := tidy_l1 t.length t (r.take d) rfl ht (by omega) (by omega) (fun e he1 he2 hpe => hno e he1 (by omega) (per_take hd1 he1 (by omega) hp hpe))
        rw [hl] at g1 g5
        refine ⟨t', r', ?_, g2, fun m => by rw [g3, has_take hd1 h1 hp (by omega)], g4, by omega⟩
        simp only [if_pos c]
        exact g1
      · obtain ⟨t', r', g1, g2, g3, g4, g5⟩ := ih (d + 1) (by omega) (by omega) (fun e he1 he2 hpe => by
          rcases Nat.lt_or_ge e d with h | h
          · exact hno e he1 h hpe
          · obtain rfl : e = d := by omega
            exact c (hb2.2 hpe))
        refine ⟨t', r', ?_, g2, g3, g4, g5⟩
        simp only [if_neg c]
        rw [wr1 (by omega)]
        exact g1
    obtain ⟨t', r', g1, g2⟩ := key
    refine ⟨t', r', ?_, g2⟩
    refine Ev.step (f := fun k => (impl_turns.f k r d).bind fun x => if x = true then impl_set_tidy.l1 k d t (r.take d) else impl_set_tidy.l0 k (wrap64 (d + 1)) t r) (fun k => ?_) (Ev.bind hb g1)
    simp only [impl_set_tidy.l0, slices_Clone_bool_bool.f]
    rw [if_pos (by omega)]
    simp only [Option.bind_some]
    rw [if_pos (by omega), if_pos (by omega), Int.toNat_natCast, if_pos (by omega)]
    simp only [Option.bind_some]

theorem tidy_ev {t r : List Bool} (h : Good t r) : ∃ t' r', Ev (fun k => impl_set_tidy.f k t r) (t', r') ∧ Canon t' r' ∧ (∀ m, hasB t' r' m = hasB t r m) ∧ t'.length ≤ t.length ∧ r'.length ≤ r.length := by
  have h1 := h.pos
  have h2 := h.tl
  have h3 := h.rl
  exact tidy_l0 t r (by omega) h1 (by omega) (r.length - 1) 1 (by omega) (by omega) (fun e he1 he2 => by omega)

/-- 'comes again behind d' in the reference's words. -/
theorem per_steps (r : List Bool) (d : Nat) (hd : 1 ≤ d) : (∀ i, d ≤ i → i < r.length → r.getD i false = r.getD (i - d) false) ↔ ∀ i, i < r.length → r.getD i false = r.getD (i % d) false := by
  constructor
  · intro h i
    induction i using Nat.strongRecOn with
    | _ i ih =>
      intro hi
      rcases Nat.lt_or_ge i d with c | c
      · rw [Nat.mod_eq_of_lt c]
      · rw [h i c hi, ih (i - d) (by omega) (by omega), ← Nat.mod_eq_sub_mod c]
  · intro h i h1 h2
    rw [h i h2, h (i - d) (by omega), ← Nat.mod_eq_sub_mod h1]

/-- The reference's inner loop. -/
theorem less_l1 (t r : List Bool) (hr : r.length ≤ 1073741824) (d : Nat) (hd : 1 ≤ d) (hdl : d < r.length) (g : Bool → Nat → Option (List Bool × List Bool))
    (hgt : ∀ k, g true k = (spec_l1Less.f k t (r.take d)).bind fun x => some (x.1, x.2)) (hgf : ∀ k, g false k = spec_l1Less.l0 k (r.length : Int) ((d + 1 : Nat) : Int) t r) (res : List Bool × List Bool) (m : Nat) :
    ∀ i (b : Bool), i + m = r.length → d ≤ i → (b = true ↔ r.length % d = 0 ∧ ∀ j, d ≤ j → j < i → r.getD j false = r.getD (j - d) false) →
      (∀ c : Bool, (c = true ↔ r.length % d = 0 ∧ ∀ j, d ≤ j → j < r.length → r.getD j false = r.getD (j - d) false) → Ev (g c) res) → Ev (fun k => spec_l1Less.l1 k (r.length : Int) (d : Nat) b (i : Nat) t r) res := by
  induction m with
  | zero =>
    intro i b hi hdi hb hres
    obtain rfl : i = r.length := by omega
    refine Ev.step (fun k => ?_) (hres b hb)
    simp only [spec_l1Less.l1]
    rw [if_neg (by omega)]
    cases b with
    | true => rw [if_pos rfl, if_pos (by omega), if_pos (by omega), Int.toNat_natCast, hgt]
    | false => rw [if_neg (by simp), wr1 (by omega), hgf]
  | succ m ih =>
    intro i b hi hdi hb hres
    cases b with
    | true =>
      have h1 := hb.1 rfl
      have e : wrap64 ((i : Int) - (d : Int)) = ((i - d : Nat) : Int) := by rw [wr (by omega) (by omega)]; omega
      refine Ev.step (fun k => ?_) (ih (i + 1) (r.getD i false == r.getD (i - d) false) (by omega) (by omega) ?_ hres)
      · simp only [spec_l1Less.l1, if_true]
        rw [if_pos (by omega), if_pos (by omega), if_pos (by omega), e, if_pos (by omega), if_pos (by omega), rdOf_nat, rdOf_nat, wr1 (by omega)]
      · rw [beq_iff_eq]
        constructor
        · intro c
          refine ⟨h1.1, fun j hj1 hj2 => ?_⟩
          rcases Nat.lt_or_ge j i with h | h
          · exact h1.2 j hj1 h
          · obtain rfl : j = i := by omega
            exact c
        · intro c
          exact c.2 i hdi (by omega)
    | false =>
      refine Ev.step (fun k => ?_) (hres false ⟨fun h => (by cases h), fun h => (hb.2 ⟨h.1, fun j hj1 hj2 => h.2 j hj1 (by omega)⟩)⟩)
      simp only [spec_l1Less.l1]
      rw [if_pos (by omega), if_neg (by simp), wr1 (by omega), hgf]

theorem less_ev (n : Nat) : ∀ t r : List Bool, t.length + r.length = n → t.length ≤ 1073741824 → 0 < r.length → r.length ≤ 1073741824 →
    ∃ t' r', Ev (fun k => spec_l1Less.f k t r) (t', r') ∧ Canon t' r' ∧ (∀ m, hasB t' r' m = hasB t r m) ∧ t'.length ≤ t.length ∧ r'.length ≤ r.length := by
  induction n using Nat.strongRecOn with
  | _ n ih =>
    intro t r hn ht h1 h2
    have loop : ∀ m d, d + m = r.length → 1 ≤ d → (∀ e, 1 ≤ e → e < d → ¬ per r e) → ∃ t' r', Ev (fun k => spec_l1Less.l0 k (r.length : Int) (d : Nat) t r) (t', r') ∧ Canon t' r' ∧ (∀ m, hasB t' r' m = hasB t r m) ∧ t'.length ≤ t.length ∧ r'.length ≤ r.length := by
      intro m
      induction m with
      | zero =>
        intro d hd hd1 hno
        obtain rfl : d = r.length := by omega
        by_cases ct : t.length = 0
        · refine ⟨t, r, Ev.end fun k => ?_, ⟨h1, hno, fun m hm => by omega⟩, fun m => rfl, Nat.le_refl _, Nat.le_refl _⟩
          simp only [spec_l1Less.l0]
          rw [if_neg (by omega), if_neg (by omega)]
        · obtain ⟨q, hq⟩ : ∃ q, t.length = q + 1 := ⟨t.length - 1, by omega⟩
          have e1 : wrap64 ((t.length : Int) - 1) = (q : Nat) := by rw [wrm1 (by omega) (by omega)]; omega
          by_cases c : t.getD q false = r.getD (r.length - 1) false
          · have hl : (t.take q).length = q := by rw [List.length_take]; omega
            obtain ⟨t', r', g1, g2, g3, g4, g5⟩ := ih (q + r.length) (by omega) (t.take q) (rot r) (by rw [rot_length h1, hl]) (by omega) (by rw [rot_length h1]; exact h1) (by rw [rot_length h1]; exact h2)
            rw [rot_length h1] at g5
            refine ⟨t', r', Ev.step (f := fun k => (spec_l1Less.f k (t.take q) (rot r)).bind fun x => some (x.1, x.2)) (fun k => ?_) (Ev.bind g1 (Ev.now _)), g2, fun m => by rw [g3, has_rot hq h1 c], by omega, g5⟩
            simp only [spec_l1Less.l0]
            rw [if_neg (by omega), if_pos (by omega), e1, if_pos (by omega), if_pos (by omega), wrm1 h1 (by omega), if_pos (by omega), if_pos (by omega), rdOf_nat, rdOf_nat, if_pos (by rw [c]; simp)]
            simp only [Option.bind_some]
            rw [if_pos (by omega)]
            rw [if_pos (by simp; omega), if_pos (by omega), Int.toNat_natCast, Int.toNat_natCast, rot_append]
          · refine ⟨t, r, Ev.end fun k => ?_, ⟨h1, hno, fun m hm => (show q = m by omega) ▸ c⟩, fun m => rfl, Nat.le_refl _, Nat.le_refl _⟩
            simp only [spec_l1Less.l0]
            rw [if_neg (by omega), if_pos (by omega), e1, if_pos (by omega), if_pos (by omega), wrm1 h1 (by omega), if_pos (by omega), if_pos (by omega), rdOf_nat, rdOf_nat, if_neg (by simpa using c)]
      | succ m ihm =>
        intro d hd hd1 hno
        have hl : (r.take d).length = d := by rw [List.length_take]; omega
        have hstep : ∀ res, Ev (fun k => spec_l1Less.l1 k (r.length : Int) (d : Nat) (decide (r.length % d = 0)) (d : Nat) t r) res → Ev (fun k => spec_l1Less.l0 k (r.length : Int) (d : Nat) t r) res := by
          intro res hres
          refine Ev.step (fun k => ?_) hres
          simp only [spec_l1Less.l0]
          rw [if_pos (by omega), if_neg (by omega), tmod_nat]
          congr 1
          rw [Bool.eq_iff_iff]
          simp only [beq_iff_eq, decide_eq_true_eq]
          omega
        by_cases hp : per r d
        · obtain ⟨t', r', g1, g2, g3, g4, g5⟩ := ih (t.length + d) (by omega) t (r.take d) (by rw [hl]) ht (by omega) (by omega)
          refine ⟨t', r', hstep _ ?_, g2, fun m => by rw [g3, has_take hd1 h1 hp (by omega)], g4, by omega⟩
          refine less_l1 t r h2 d hd1 (by omega) (fun b k => if b = true then (spec_l1Less.f k t (r.take d)).bind fun x => some (x.1, x.2) else spec_l1Less.l0 k (r.length : Int) ((d + 1 : Nat) : Int) t r) (fun k => if_pos rfl) (fun k => if_neg (by simp)) (t', r') m.succ d (decide (r.length % d = 0)) (by omega) (Nat.le_refl _) ?_ ?_
          · rw [decide_eq_true_eq]
            exact ⟨fun h => ⟨h, fun j a b => by omega⟩, fun h => h.1⟩
          · intro c hc
            have : c = true := hc.2 ⟨hp.1, (per_steps r d hd1).2 hp.2⟩
            subst this
            simp only [if_true]
            exact Ev.bind g1 (Ev.now _)
        · obtain ⟨t', r', g1, g2, g3, g4, g5⟩ := ihm (d + 1) (by omega) (by omega) (fun e he1 he2 hpe => by
            rcases Nat.lt_or_ge e d with h | h
            · exact hno e he1 h hpe
            · obtain rfl : e = d := by omega
              exact hp hpe)
          refine ⟨t', r', hstep _ ?_, g2, g3, g4, g5⟩
          refine less_l1 t r h2 d hd1 (by omega) (fun b k => if b = true then (spec_l1Less.f k t (r.take d)).bind fun x => some (x.1, x.2) else spec_l1Less.l0 k (r.length : Int) ((d + 1 : Nat) : Int) t r) (fun k => if_pos rfl) (fun k => if_neg (by simp)) (t', r') m.succ d (decide (r.length % d = 0)) (by omega) (Nat.le_refl _) ?_ ?_
          · rw [decide_eq_true_eq]
            exact ⟨fun h => ⟨h, fun j a b => by omega⟩, fun h => h.1⟩
          · intro c hc
            have : ¬ c = true := fun h => hp ⟨(hc.1 h).1, (per_steps r d hd1).1 (hc.1 h).2⟩
            simp only [if_neg this]
            exact g1
    obtain ⟨t', r', g1, g2⟩ := loop (r.length - 1) 1 (by omega) (by omega) (fun e he1 he2 => by omega)
    exact ⟨t', r', Ev.step (fun k => by simp only [spec_l1Less.f]; rfl) g1, g2⟩

/-- The tidy form of a set, for both. -/
structure Tidied (t r t' r' : List Bool) : Prop where
  impl : Ev (fun k => impl_set_tidy.f k t r) (t', r')
  spec : Ev (fun k => spec_l1Less.f k t r) (t', r')
  canon : Canon t' r'
  same : ∀ n, hasB t' r' n = hasB t r n
  good : Good t' r'
  tle : t'.length ≤ t.length
  rle : r'.length ≤ r.length
theorem tidied {t r : List Bool} (h : Good t r) : ∃ t' r', Tidied t r t' r' := by
  have h1 := h.pos
  have h2 := h.tl
  have h3 := h.rl
  obtain ⟨t', r', g1, g2, g3, g4, g5⟩ := tidy_ev h
  obtain ⟨t2, r2, k1, k2, k3, k4, k5⟩ := less_ev (t.length + r.length) t r rfl (by omega) h1 (by omega)
  obtain ⟨rfl, rfl⟩ := canon_unique g2 k2 (fun n => by rw [g3, k3])
  exact ⟨t', r', g1, k1, g2, g3, ⟨g2.pos, by omega, by omega⟩, g4, g5⟩

end Go.Proofs.Ytbgapjgfocdjoaa.Q

namespace Go.Proofs.Ytbgapjgfocdjoaa.Q
open Go.RowKit Go.Proofs.YtbgapjgfocdjoaaW.PrintWords Go.Proofs.YtbgapjgfocdjoaaW.PrintLast Go.Proofs.YtbgapjgfocdjoaaW.PrintMore
open Go.Proofs.Ytbgapjgfocdjoaa.Pl
set_option linter.unusedVariables false
set_option linter.unusedSimpArgs false

theorem denseOf_ev {s : ByteArray} {t r t' r' : List Bool} (h : IsSet s t r) (hT : Tidied t r t' r') :
    Ev (fun k => impl_DenseOf.f k s) (((r'.count true / Nat.gcd (r'.count true) r'.length : Nat) : Int), ((r'.length / Nat.gcd (r'.count true) r'.length : Nat) : Int), true) := by
  have h1 := hT.good.pos
  have h3 := hT.good.rl
  have hg : 0 < Nat.gcd (r'.count true) r'.length := Nat.gcd_pos_of_pos_right _ h1
  have hc := count_le r'
  have hd1 := Nat.div_le_self (r'.count true) (Nat.gcd (r'.count true) r'.length)
  have hd2 := Nat.div_le_self r'.length (Nat.gcd (r'.count true) r'.length)
  unfold impl_DenseOf.f impl_tidied.f
  rw [h.impl]; simp only [Option.bind_some, if_true]
  refine Ev.bind (a := (t', r', true)) (Ev.bind hT.impl (Ev.now _)) ?_
  simp only [if_true]
  refine Ev.bind (ones_ev t' r' (by omega)) (Ev.bind (gcd_ev r'.length (r'.count true)) (Ev.bind (ones_ev t' r' (by omega)) (Ev.const fun k => ?_)))
  rw [if_neg (by omega), tdiv_nat, ← Int.natCast_ediv]
  generalize r'.count true / Nat.gcd (r'.count true) r'.length = x at *
  generalize r'.length / Nat.gcd (r'.count true) r'.length = y at *
  rw [wr (by omega) (by omega), wr (by omega) (by omega)]
theorem denseOf_no {s : ByteArray} (h : NoSet s) : Ev (fun k => impl_DenseOf.f k s) (0, 0, false) ∧ Ev (fun k => spec_DenseOf.f k s) (0, 0, false) := by
  obtain ⟨⟨a, b, ha⟩, ⟨a', b', hb⟩⟩ := h
  constructor
  · unfold impl_DenseOf.f impl_tidied.f
    rw [ha]; simp only [Option.bind_some, Bool.false_eq_true, if_false]
    exact Ev.now _
  · unfold spec_DenseOf.f
    refine Ev.bind hb ?_
    simp only [Bool.false_eq_true, if_false]
    exact Ev.now _

theorem small_mul {a b : Nat} (ha : a ≤ 60) (hb : b ≤ 60) : a * b ≤ 3600 := Nat.mul_le_mul ha hb
theorem wr_mul {a b : Nat} (ha : a ≤ 60) (hb : b ≤ 60) : wrap64 ((a : Int) * (b : Int)) = ((a * b : Nat) : Int) := by
  have := small_mul ha hb
  rw [Int.natCast_mul, wr (by rw [← Int.natCast_mul]; omega) (by rw [← Int.natCast_mul]; omega)]
theorem denseLess_spec {s u : ByteArray} {t r t2 r2 : List Bool} (h : IsSet s t r) (h2 : IsSet u t2 r2) : Ev (fun k => spec_DenseLess.f k s u) (decide (r.count true * r2.length < r2.count true * r.length)) := by
  have g1 := h.good.rl
  have g2 := h2.good.rl
  have c1 := count_le r
  have c2 := count_le r2
  unfold spec_DenseLess.f
  refine Ev.bind h.spec (Ev.bind h2.spec ?_)
  simp only [if_true]
  refine Ev.bind (l10Ones_ev t r (by omega)) (Ev.bind (l10Ones_ev t2 r2 (by omega)) (Ev.const fun k => ?_))
  rw [wr_mul (by omega) (by omega), wr_mul (by omega) (by omega)]
  congr 1
  rw [decide_eq_decide]
  omega
theorem denseLess_ev {s u : ByteArray} {t r t2 r2 : List Bool} (h : IsSet s t r) (h2 : IsSet u t2 r2) : Ev (fun k => impl_DenseLess.f k s u) (decide (r.count true * r2.length < r2.count true * r.length)) := by
  obtain ⟨t', r', hT⟩ := tidied h.good
  obtain ⟨t2', r2', hT2⟩ := tidied h2.good
  have g1 := hT.good.rl
  have g2 := hT2.good.rl
  have p1 := hT.good.pos
  have p2 := hT2.good.pos
  have c1 := count_le r'
  have c2 := count_le r2'
  have f1 := frac_of p1 (density_same hT.same)
  have f2 := frac_of p2 (density_same hT2.same)
  have q1 := Nat.div_le_self (r'.count true) (Nat.gcd (r'.count true) r'.length)
  have q2 := Nat.div_le_self r'.length (Nat.gcd (r'.count true) r'.length)
  have q3 := Nat.div_le_self (r2'.count true) (Nat.gcd (r2'.count true) r2'.length)
  have q4 := Nat.div_le_self r2'.length (Nat.gcd (r2'.count true) r2'.length)
  have b1 : 0 < r'.length / Nat.gcd (r'.count true) r'.length := Nat.div_pos (Nat.gcd_le_right _ p1) (Nat.gcd_pos_of_pos_right _ p1)
  have b2 : 0 < r2'.length / Nat.gcd (r2'.count true) r2'.length := Nat.div_pos (Nat.gcd_le_right _ p2) (Nat.gcd_pos_of_pos_right _ p2)
  unfold impl_DenseLess.f
  refine Ev.bind (denseOf_ev h hT) (Ev.bind (denseOf_ev h2 hT2) (Ev.const fun k => ?_))
  simp only [if_true]
  rw [wr_mul (by omega) (by omega), wr_mul (by omega) (by omega)]
  congr 1
  rw [decide_eq_decide, Int.ofNat_lt]
  exact frac_lt h.good.pos h2.good.pos b1 b2 f1 f2
theorem denseLess_both (s u : ByteArray) (hs : s.size ≤ 1073741824) (hu : u.size ≤ 1073741824) : ∃ b, Ev (fun k => impl_DenseLess.f k s u) b ∧ Ev (fun k => spec_DenseLess.f k s u) b := by
  rcases read_cases s hs with h | ⟨t, r, h⟩
  · refine ⟨false, ?_, ?_⟩
    · unfold impl_DenseLess.f
      refine Ev.bind (denseOf_no h).1 ?_
      rcases read_cases u hu with h2 | ⟨t2, r2, h2⟩
      · refine Ev.bind (denseOf_no h2).1 ?_
        simp only [Bool.false_eq_true, if_false]
        exact Ev.now _
      · obtain ⟨t2', r2', hT2⟩ := tidied h2.good
        refine Ev.bind (denseOf_ev h2 hT2) ?_
        simp only [Bool.false_eq_true, if_false]
        exact Ev.now _
    · obtain ⟨a, b, hb⟩ := h.spec
      unfold spec_DenseLess.f
      refine Ev.bind hb ?_
      rcases read_cases u hu with h2 | ⟨t2, r2, h2⟩
      · obtain ⟨a2, b2, hb2⟩ := h2.spec
        refine Ev.bind hb2 ?_
        simp only [Bool.false_eq_true, if_false]
        exact Ev.now _
      · refine Ev.bind h2.spec ?_
        simp only [Bool.false_eq_true, if_false]
        exact Ev.now _
  · rcases read_cases u hu with h2 | ⟨t2, r2, h2⟩
    · refine ⟨false, ?_, ?_⟩
      · unfold impl_DenseLess.f
        obtain ⟨t', r', hT⟩ := tidied h.good
        refine Ev.bind (denseOf_ev h hT) (Ev.bind (denseOf_no h2).1 ?_)
        simp only [Bool.false_eq_true, if_false, if_true]
        exact Ev.now _
      · obtain ⟨a2, b2, hb2⟩ := h2.spec
        unfold spec_DenseLess.f
        refine Ev.bind h.spec (Ev.bind hb2 ?_)
        simp only [Bool.false_eq_true, if_false, if_true]
        exact Ev.now _
    · exact ⟨_, denseLess_ev h h2, denseLess_spec h h2⟩

end Go.Proofs.Ytbgapjgfocdjoaa.Q

namespace Go.Proofs.Ytbgapjgfocdjoaa.Q
open Go.RowKit Go.Proofs.YtbgapjgfocdjoaaW.PrintWords Go.Proofs.YtbgapjgfocdjoaaW.PrintLast Go.Proofs.YtbgapjgfocdjoaaW.PrintMore
set_option linter.unusedVariables false
set_option linter.unusedSimpArgs false

structure Bs (bs : List Int) : Prop where
  len : bs.length ≤ 2000
  byte : ∀ x ∈ bs, 0 ≤ x ∧ x ≤ 255
theorem byte_wf {x : Int} (h : (Lit.int .u8 x).wf = true) : 0 ≤ x ∧ x ≤ 255 := by
  have h1 : IntKind.u8.min = 0 := rfl
  have h2 : IntKind.u8.max = 255 := rfl
  simp [Lit.wf] at h
  omega
theorem open_ev (l0 : List Int) (h : ∀ x ∈ l0, (Lit.int .u8 x).wf = true) : ∃ bs, Bs bs ∧ spec_l6Open.f l0 = some (bs, 0) := by
  unfold spec_l6Open.f
  by_cases c : (l0.length : Int) > 2000
  · refine ⟨l0.take 2000, ⟨List.length_take_le _ _, fun x hx => byte_wf (h x (List.mem_of_mem_take hx))⟩, ?_⟩
    rw [if_pos c, if_pos (by omega)]
  · exact ⟨l0, ⟨by omega, fun x hx => byte_wf (h x hx)⟩, by rw [if_neg c]⟩
theorem rd_byte {bs : List Int} (h : Bs bs) (i : Nat) : ∃ b : Nat, b ≤ 255 ∧ rd bs (i : Int) = b := by
  have hx : 0 ≤ rd bs (i : Int) ∧ rd bs (i : Int) ≤ 255 := by
    unfold rd
    rw [Int.toNat_natCast]
    by_cases c : i < bs.length
    · have : bs.getD i 0 = bs[i] := by simp [List.getD, c]
      rw [this]
      exact h.byte _ (List.getElem_mem c)
    · have : bs.getD i 0 = 0 := by simp [List.getD, List.getElem?_eq_none (show bs.length ≤ i by omega)]
      rw [this]; omega
  obtain ⟨b, hb⟩ := Int.eq_ofNat_of_zero_le hx.1
  exact ⟨b, by omega, hb⟩
theorem xor_nat (a b : Nat) (ha : a < 2 ^ 62) (hb : b < 2 ^ 62) : Go.bits .xor .i64 (a : Int) (b : Int) = ((a ^^^ b : Nat) : Int) := by
  have h64 : IntKind.i64.bits = 64 := rfl
  have ha' : a % 2 ^ 64 = a := Nat.mod_eq_of_lt (by omega)
  have hb' : b % 2 ^ 64 = b := Nat.mod_eq_of_lt (by omega)
  have hx : a ^^^ b < 2 ^ 62 := Nat.xor_lt_two_pow ha hb
  simp only [Go.bits, h64, BitVec.ofInt_natCast, BitVec.toNat_xor, BitVec.toNat_ofNat, ha', hb']
  rw [IntKind.wrap_i64]
  omega
theorem pick_ev {bs : List Int} (h : Bs bs) (p n : Nat) (hp : p ≤ 1000000) (hn : 1 ≤ n) (hn2 : n ≤ 1000000) : ∃ v : Nat, v < n ∧ Ev (fun k => spec_l6Rd_pick.f k bs p n) ((v : Int), ((p + 1 : Nat) : Int)) := by
  have hl := h.len
  have e1 : wrap64 (((p + 1 : Nat) : Int) - 1) = (p : Nat) := by rw [wr (by omega) (by omega)]; omega
  have pos : ∀ v : Nat, Ev (fun k => spec_l6Rd_pick.j0 k n ((bs.length : Int) == 0) bs ((p + 1 : Nat) : Int)) ((v : Int), ((p + 1 : Nat) : Int)) → Ev (fun k => spec_l6Rd_pick.f k bs p n) ((v : Int), ((p + 1 : Nat) : Int)) := by
    intro v hv
    refine Ev.congr (fun k => ?_) hv
    unfold spec_l6Rd_pick.f
    rw [if_neg (by omega), wr1 (by omega)]
  by_cases c0 : bs.length = 0
  · refine ⟨0, by omega, pos 0 (Ev.end fun k => ?_)⟩
    simp only [spec_l6Rd_pick.j0]
    rw [if_pos (by rw [c0]; rfl)]
    rfl
  · have hne : ¬ (((bs.length : Int) == 0) = true) := by simp; intro h; exact c0 (by simp [h])
    by_cases c : p < bs.length
    · obtain ⟨b, hb, eb⟩ := rd_byte h p
      refine ⟨b % n, Nat.mod_lt _ (by omega), pos _ (Ev.end fun k => ?_)⟩
      simp only [spec_l6Rd_pick.j0]
      rw [if_neg hne, e1, if_pos (by omega), if_pos (by omega), if_neg (by omega), eb, wr (by omega) (by omega), tmod_nat]
    · have hm1 := Nat.mod_lt p (show bs.length > 0 by omega)
      have hm2 := Nat.mod_lt (p * 7 + 3) (show bs.length > 0 by omega)
      obtain ⟨b1, hb1, eb1⟩ := rd_byte h (p % bs.length)
      obtain ⟨b2, hb2, eb2⟩ := rd_byte h ((p * 7 + 3) % bs.length)
      have hd := Nat.div_le_self p bs.length
      have hx : b1 * 131 + b2 * 1117 + p * 29 + p / bs.length * 53 ≤ 100000000 := by omega
      refine ⟨((b1 * 131 + b2 * 1117 + p * 29 + p / bs.length * 53) ^^^ ((b1 * 131 + b2 * 1117 + p * 29 + p / bs.length * 53) / 64)) % n, Nat.mod_lt _ (by omega), pos _ (Ev.end fun k => ?_)⟩
      simp only [spec_l6Rd_pick.j0]
      have e7 : wrap64 (wrap64 (((p : Nat) : Int) * 7) + 3) = ((p * 7 + 3 : Nat) : Int) := by rw [wr (x := (p : Int) * 7) (by omega) (by omega), wr (by omega) (by omega)]; omega
      rw [if_neg hne, e1, if_neg (by omega), if_neg (by omega), e7, tmod_nat, tmod_nat, if_pos (by omega), if_pos (by omega), if_pos (by omega), if_pos (by omega), if_neg (by omega), eb1, eb2, tdiv_nat]
      have hX : wrap64 (wrap64 (wrap64 (wrap64 (wrap64 (b1 : Int) * 131) + wrap64 (wrap64 (b2 : Int) * 1117)) + wrap64 ((p : Int) * 29)) + wrap64 (wrap64 ((p / bs.length : Nat) : Int) * 53)) = ((b1 * 131 + b2 * 1117 + p * 29 + p / bs.length * 53 : Nat) : Int) := by
        generalize p / bs.length = q at *
        rw [wr (x := (b1 : Int)) (by omega) (by omega), wr (x := (b2 : Int)) (by omega) (by omega), wr (x := (b1 : Int) * 131) (by omega) (by omega), wr (x := (b2 : Int) * 1117) (by omega) (by omega), wr (x := (p : Int) * 29) (by omega) (by omega), wr (x := (q : Int)) (by omega) (by omega), wr (x := (q : Int) * 53) (by omega) (by omega), wr (x := (b1 : Int) * 131 + (b2 : Int) * 1117) (by omega) (by omega), wr (x := (b1 : Int) * 131 + (b2 : Int) * 1117 + (p : Int) * 29) (by omega) (by omega), wr (by omega) (by omega)]
        omega
      rw [hX]
      generalize b1 * 131 + b2 * 1117 + p * 29 + p / bs.length * 53 = X at hx
      have hq : wrap64 (Int.tdiv (X : Int) 64) = ((X / 64 : Nat) : Int) := by
        rw [show (64 : Int) = ((64 : Nat) : Int) from rfl, tdiv_nat, wr (by omega) (by omega)]
      rw [hq, xor_nat _ _ (by omega) (by omega), tmod_nat]

theorem signs_draw_l0 {bs : List Int} (h : Bs bs) (c : Nat) : ∀ (acc : List Int) (p : Nat), p + c ≤ 1000000 → acc.length + c ≤ 1000000 →
    ∃ s : ByteArray, s.size = acc.length + c ∧ Ev (fun k => spec_l91Signs.l0 k acc c bs p) (s, ((p + c : Nat) : Int)) := by
  induction c with
  | zero =>
    intro acc p hp ha
    refine ⟨strOfNums acc, strOfNums_size acc, Ev.end fun k => ?_⟩
    simp only [spec_l91Signs.l0]
    rw [if_neg (by omega)]; rfl
  | succ c ih =>
    intro acc p hp ha
    obtain ⟨v, hv, e⟩ := pick_ev h p 2 (by omega) (by omega) (by omega)
    obtain ⟨s, hs, es⟩ := ih (acc ++ [(wrap64 (48 + (v : Int))) % 256]) (p + 1) (by omega) (by rw [List.length_append, List.length_singleton]; omega)
    rw [List.length_append, List.length_singleton] at hs
    refine ⟨s, by omega, Ev.step (f := fun k => (spec_l6Rd_pick.f k bs p 2).bind fun x => if acc.length < 140737488355328 then spec_l91Signs.l0 k (acc ++ [(wrap64 (48 + x.1)) % 256]) (c : Nat) bs x.2 else none) (fun k => ?_) (Ev.bind e ?_)⟩
    · simp only [spec_l91Signs.l0]
      rw [if_pos (by omega), wr (x := ((c + 1 : Nat) : Int) - 1) (by omega) (by omega), show ((c + 1 : Nat) : Int) - 1 = (c : Int) from by omega]
    · simp only [if_pos (show acc.length < 140737488355328 from by omega)]
      rw [show p + (c + 1) = p + 1 + c from by omega]
      exact es
theorem signs_draw {bs : List Int} (h : Bs bs) (p low many : Nat) (hp : p ≤ 100000) (hl : low ≤ 1000) (hm : 1 ≤ many) (hm2 : many ≤ 1000) :
    ∃ (s : ByteArray) (q : Nat), s.size ≤ low + many ∧ q ≤ p + 1 + low + many ∧ Ev (fun k => spec_l91Signs.f k bs p low many) (s, (q : Int)) := by
  obtain ⟨v, hv, e⟩ := pick_ev h p many (by omega) hm (by omega)
  obtain ⟨s, hs, es⟩ := signs_draw_l0 h (low + v) [] (p + 1) (by omega) (by simp; omega)
  simp only [List.length_nil] at hs
  refine ⟨s, p + 1 + (low + v), by omega, by omega, ?_⟩
  unfold spec_l91Signs.f
  refine Ev.bind e ?_
  simp only [show wrap64 ((low : Int) + (v : Int)) = ((low + v : Nat) : Int) from by rw [wr (by omega) (by omega)]; omega]
  exact es

theorem set_draw {bs : List Int} (h : Bs bs) (p : Nat) (hp : p ≤ 50000) : ∃ (s : ByteArray) (q : Nat), s.size ≤ 100 ∧ q ≤ p + 100 ∧ Ev (fun k => spec_l91Set.f k bs p) (s, (q : Int)) := by
  obtain ⟨s1, p1, hs1, hp1, e1⟩ := signs_draw h p 0 6 (by omega) (by omega) (by omega) (by omega)
  obtain ⟨s2, p2, hs2, hp2, e2⟩ := signs_draw h p1 1 5 (by omega) (by omega) (by omega) (by omega)
  obtain ⟨v, hv, e3⟩ := pick_ev h p2 24 (by omega) (by omega) (by omega)
  have z1 : (⟨#[40]⟩ : ByteArray).size = 1 := rfl
  have z2 : (⟨#[41]⟩ : ByteArray).size = 1 := rfl
  have z3 : (⟨#[40, 48, 41]⟩ : ByteArray).size = 3 := rfl
  have key : ∃ (s : ByteArray) (q : Nat), s.size ≤ 100 ∧ q ≤ p + 100 ∧ Ev (fun k => if (v : Int) = 0 then ((some (([(⟨#[]⟩ : ByteArray), (⟨#[48]⟩ : ByteArray), (⟨#[40, 41]⟩ : ByteArray), (⟨#[49, 40]⟩ : ByteArray), (⟨#[40, 48, 41, 41]⟩ : ByteArray), (⟨#[97, 40, 49, 41]⟩ : ByteArray), (⟨#[40, 49, 41, 48]⟩ : ByteArray), (⟨#[48, 49, 40, 48, 50, 41]⟩ : ByteArray), (⟨#[48, 40, 40, 49, 41]⟩ : ByteArray)] : List ByteArray) : List ByteArray)).bind fun y => ((spec_l6Rd_pick.f k bs ((p2 + 1 : Nat) : Int) 9).bind fun x => (if 0 ≤ x.1 then (if x.1 < (y.length : Int) then (some (rdOf ByteArray.empty y x.1, x.2)) else (none)) else (none)))) else (if (v : Int) = 1 then ((spec_l91Signs.f k bs ((p2 + 1 : Nat) : Int) 0 6).bind fun x => (if x.1.size + 3 ≤ 9223372036854775807 then (some (x.1 ++ (⟨#[40, 48, 41]⟩ : ByteArray), x.2)) else (none))) else (if (v : Int) = 2 then (if 1 ≤ ((((s1 ++ (⟨#[40]⟩ : ByteArray)) ++ s2) ++ (⟨#[41]⟩ : ByteArray)).size : Int) then (if 1 + ((((s1 ++ (⟨#[40]⟩ : ByteArray)) ++ s2) ++ (⟨#[41]⟩ : ByteArray)).extract 1 (((s1 ++ (⟨#[40]⟩ : ByteArray)) ++ s2) ++ (⟨#[41]⟩ : ByteArray)).size).size ≤ 9223372036854775807 then (some ((⟨#[40]⟩ : ByteArray) ++ ((((s1 ++ (⟨#[40]⟩ : ByteArray)) ++ s2) ++ (⟨#[41]⟩ : ByteArray)).extract 1 (((s1 ++ (⟨#[40]⟩ : ByteArray)) ++ s2) ++ (⟨#[41]⟩ : ByteArray)).size), ((p2 + 1 : Nat) : Int))) else (none)) else (none)) else (some (((s1 ++ (⟨#[40]⟩ : ByteArray)) ++ s2) ++ (⟨#[41]⟩ : ByteArray), ((p2 + 1 : Nat) : Int)))))) (s, (q : Int)) := by
    by_cases c0 : v = 0
    · obtain ⟨u, hu, e4⟩ := pick_ev h (p2 + 1) 9 (by omega) (by omega) (by omega)
      refine ⟨rdOf ByteArray.empty [(⟨#[]⟩ : ByteArray), (⟨#[48]⟩ : ByteArray), (⟨#[40, 41]⟩ : ByteArray), (⟨#[49, 40]⟩ : ByteArray), (⟨#[40, 48, 41, 41]⟩ : ByteArray), (⟨#[97, 40, 49, 41]⟩ : ByteArray), (⟨#[40, 49, 41, 48]⟩ : ByteArray), (⟨#[48, 49, 40, 48, 50, 41]⟩ : ByteArray), (⟨#[48, 40, 40, 49, 41]⟩ : ByteArray)] (u : Int), p2 + 1 + 1, ?_, by omega, ?_⟩
      · have : u = 0 ∨ u = 1 ∨ u = 2 ∨ u = 3 ∨ u = 4 ∨ u = 5 ∨ u = 6 ∨ u = 7 ∨ u = 8 := by omega
        rcases this with rfl | rfl | rfl | rfl | rfl | rfl | rfl | rfl | rfl <;> decide
      · simp only [if_pos (show (v : Int) = 0 from by omega), Option.bind_some]
        refine Ev.bind e4 (Ev.const fun k => ?_)
        rw [if_pos (by omega), if_pos (by simp; omega)]
    · simp only [if_neg (show ¬ (v : Int) = 0 from by omega)]
      by_cases c1 : v = 1
      · obtain ⟨s4, p4, hs4, hp4, e4⟩ := signs_draw h (p2 + 1) 0 6 (by omega) (by omega) (by omega) (by omega)
        refine ⟨s4 ++ ⟨#[40, 48, 41]⟩, p4, by rw [ByteArray.size_append, z3]; omega, by omega, ?_⟩
        simp only [if_pos (show (v : Int) = 1 from by omega)]
        refine Ev.bind e4 (Ev.const fun k => ?_)
        rw [if_pos (by show s4.size + 3 ≤ 9223372036854775807; omega)]
      · simp only [if_neg (show ¬ (v : Int) = 1 from by omega)]
        have hsz : (((s1 ++ (⟨#[40]⟩ : ByteArray)) ++ s2) ++ (⟨#[41]⟩ : ByteArray)).size = s1.size + 1 + s2.size + 1 := by
          rw [ByteArray.size_append, ByteArray.size_append, ByteArray.size_append, z1, z2]
        by_cases c2 : v = 2
        · simp only [if_pos (show (v : Int) = 2 from by omega)]
          have hx : ((((s1 ++ (⟨#[40]⟩ : ByteArray)) ++ s2) ++ (⟨#[41]⟩ : ByteArray)).extract 1 (((s1 ++ (⟨#[40]⟩ : ByteArray)) ++ s2) ++ (⟨#[41]⟩ : ByteArray)).size).size = s1.size + 1 + s2.size := by
            rw [ext_size _ _ _ (Nat.le_refl _), hsz]; omega
          refine ⟨(⟨#[40]⟩ : ByteArray) ++ ((((s1 ++ (⟨#[40]⟩ : ByteArray)) ++ s2) ++ (⟨#[41]⟩ : ByteArray)).extract 1 (((s1 ++ (⟨#[40]⟩ : ByteArray)) ++ s2) ++ (⟨#[41]⟩ : ByteArray)).size), p2 + 1, ?_, by omega, Ev.const fun k => ?_⟩
          · rw [ByteArray.size_append, z1, hx]; omega
          · rw [if_pos (by omega), if_pos (by omega)]
        · simp only [if_neg (show ¬ (v : Int) = 2 from by omega)]
          exact ⟨_, p2 + 1, by rw [hsz]; omega, by omega, Ev.now _⟩
  obtain ⟨s, q, g1, g2, g3⟩ := key
  refine ⟨s, q, g1, g2, ?_⟩
  unfold spec_l91Set.f
  refine Ev.bind e1 ?_
  simp only [if_pos (show s1.size + 1 ≤ 9223372036854775807 from by omega)]
  refine Ev.bind e2 ?_
  have w1 : s1.size + 1 + s2.size ≤ 9223372036854775807 := by omega
  have w2 : s1.size + 1 + s2.size + 1 ≤ 9223372036854775807 := by omega
  simp only [if_pos w1, if_pos w2]
  exact Ev.bind e3 g3

end Go.Proofs.Ytbgapjgfocdjoaa.Q

namespace Go.Proofs.Ytbgapjgfocdjoaa.Q
open Go.RowKit Go.Proofs.YtbgapjgfocdjoaaW.PrintWords Go.Proofs.YtbgapjgfocdjoaaW.PrintLast Go.Proofs.YtbgapjgfocdjoaaW.PrintMore
open Go.Proofs.Ytbgapjgfocdjoaa.Pl
set_option linter.unusedVariables false
set_option linter.unusedSimpArgs false

theorem draw_two {g : Nat → List Int → Option (ByteArray × ByteArray)} (hg : ∀ k l, g k l = (spec_l6Open.f l).bind fun x => (spec_l91Set.f k x.1 x.2).bind fun y => (spec_l91Set.f k x.1 y.2).bind fun z => some (y.1, z.1)) (l0 : List Int) (h : ∀ x ∈ l0, (Lit.int .u8 x).wf = true) : ∃ s u : ByteArray, s.size ≤ 1000 ∧ u.size ≤ 1000 ∧ Ev (fun k => g k l0) (s, u) := by
  obtain ⟨bs, hb, eo⟩ := open_ev l0 h
  obtain ⟨s, q, g1, g2, g3⟩ := set_draw hb 0 (by omega)
  obtain ⟨s2, q2, k1, k2, k3⟩ := set_draw hb q (by omega)
  refine ⟨s, s2, by omega, by omega, Ev.congr (fun k => hg k l0) ?_⟩
  rw [eo]; simp only [Option.bind_some]
  exact Ev.bind g3 (Ev.bind k3 (Ev.now _))
theorem setIn_eq {s : ByteArray} {t r : List Bool} (h : IsSet s t r) : impl_SetIn.f s = some true := by
  unfold impl_SetIn.f
  rw [h.impl]; rfl
theorem setIn_no {s : ByteArray} (h : NoSet s) : impl_SetIn.f s = some false := by
  obtain ⟨a, b, h⟩ := h.impl
  unfold impl_SetIn.f
  rw [h]; rfl
end Go.Proofs.Ytbgapjgfocdjoaa.Q

namespace Go.Proofs.Ytbgapjgfocdjoaa.Pure
open Go.RowKit Go.Proofs.Ytbgapjgfocdjoaa.Q Go.Proofs.YtbgapjgfocdjoaaW.PrintWords Go.Proofs.YtbgapjgfocdjoaaW.PrintLast Go.Proofs.YtbgapjgfocdjoaaW.PrintMore
open Go.Proofs.Ytbgapjgfocdjoaa.Pl
set_option linter.unusedSimpArgs false
set_option linter.unusedVariables false

theorem FnDenseLess : laws_FnDenseLess.Pure := by
  intro l0 hl hl2 hw
  by_cases hz : (l0.length : Int) > 1048576
  · exact ⟨0, by unfold laws_FnDenseLess.f; rw [if_pos hz]⟩
  obtain ⟨s, u, hs, hu, hd⟩ := draw_two (g := spec_DrawDenseLess.f) (fun _ _ => rfl) l0 hw
  refine Ev.rounds ?_
  unfold laws_FnDenseLess.f
  simp only [if_neg hz]
  refine Ev.bind hd ?_
  obtain ⟨b, h1, h2⟩ := denseLess_both s u (by omega) (by omega)
  refine Ev.bind h1 (Ev.bind h2 ?_)
  simp only [BEq.rfl, if_true]
  rcases read_cases s (by omega) with h | ⟨t, r, h⟩
  · rw [setIn_no h]
    simp only [Option.bind_some, Bool.false_eq_true, if_false]
    exact Ev.end fun k => by simp only [laws_FnDenseLess.j0, Bool.not_false, if_true]
  · rw [setIn_eq h]
    simp only [Option.bind_some, if_true]
    rcases read_cases u (by omega) with h' | ⟨t2, r2, h'⟩
    · rw [setIn_no h']
      simp only [Option.bind_some]
      exact Ev.end fun k => by simp only [laws_FnDenseLess.j0, Bool.not_false, if_true]
    · rw [setIn_eq h']
      simp only [Option.bind_some]
      have hb : b = decide (r.count true * r2.length < r2.count true * r.length) := Ev.unique h1 (denseLess_ev h h')
      obtain ⟨t', r', hT⟩ := tidied h.good
      obtain ⟨t2', r2', hT2⟩ := tidied h'.good
      have hlt : b = decide (wrap64 (((r'.count true / Nat.gcd (r'.count true) r'.length : Nat) : Int) * ((r2'.length / Nat.gcd (r2'.count true) r2'.length : Nat) : Int)) < wrap64 (((r2'.count true / Nat.gcd (r2'.count true) r2'.length : Nat) : Int) * ((r'.length / Nat.gcd (r'.count true) r'.length : Nat) : Int))) := by
        refine Ev.unique h1 ?_
        unfold impl_DenseLess.f
        refine Ev.bind (denseOf_ev h hT) (Ev.bind (denseOf_ev h' hT2) (Ev.const fun k => ?_))
        simp only [if_true]
      refine Ev.step (f := fun k => (impl_DenseOf.f k s).bind fun x => (impl_DenseOf.f k u).bind fun y => if x.2.2 = true then (if y.2.2 = true then (if (b == (decide ((wrap64 (x.1 * y.2.1)) < (wrap64 (y.1 * x.2.1))))) = true then (if b = true then ((impl_DenseLess.f k u s).bind fun z => (some (!z))) else (some true)) else (some false)) else (some false)) else (some false)) (fun k => by simp only [laws_FnDenseLess.j0, Bool.not_true, Bool.false_eq_true, if_false]) ?_
      refine Ev.bind (denseOf_ev h hT) (Ev.bind (denseOf_ev h' hT2) ?_)
      simp only [if_true]
      rw [← hlt]
      simp only [BEq.rfl, if_true]
      by_cases c : b = true
      · rw [hb, decide_eq_true_eq] at c
        simp only [if_pos (show b = true from by rw [hb, decide_eq_true_eq]; exact c)]
        refine Ev.bind (denseLess_ev h' h) (Ev.const fun k => ?_)
        rw [decide_eq_false (by omega)]; rfl
      · simp only [if_neg c]
        exact Ev.now _

end Go.Proofs.Ytbgapjgfocdjoaa.Pure
