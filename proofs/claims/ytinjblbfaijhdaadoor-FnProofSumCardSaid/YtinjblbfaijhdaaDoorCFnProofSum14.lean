/- The law FnProofSum holds for all that it draws. -/
import Derived.Laws.BitsLemmas
import Derived.Test.YtinjblbfaijhdaaDoorCFnProofSum1
import Derived.Test.YtinjblbfaijhdaaDoorCFnProofSum9
import Derived.Test.YtinjblbfaijhdaaDoorCFnProofSum10
import Derived.Test.YtinjblbfaijhdaaDoorCFnProofSum11
import Derived.Test.YtinjblbfaijhdaaDoorCFnProofSum12
import Derived.Test.YtinjblbfaijhdaaDoorCFnProofSum13
namespace Go.Proofs.YtinjblbfaijhdaaDoor.Q
open Go.RowKit Go.Proofs.YtinjblbfaijhdaaDoorW.PrintWords Go.Proofs.YtinjblbfaijhdaaDoorW.PrintLast Go.Proofs.YtinjblbfaijhdaaDoorW.PrintMore
open Go.Proofs.YtinjblbfaijhdaaDoor.Pl
set_option linter.unusedVariables false
set_option linter.unusedSimpArgs false
theorem wrm1 {n : Nat} (h0 : 1 ≤ n) (h : n ≤ 4611686018427387904) : wrap64 ((n : Int) - 1) = ((n - 1 : Nat) : Int) := by rw [wr (by omega) (by omega)]; omega

theorem turns_l0 (r : List Bool) (hr : r.length ≤ 1073741824) (d : Nat) (hd : 1 ≤ d) (hdl : d ≤ r.length) (m : Nat) : ∀ i, i + m = r.length → (∀ j, j < i → r.getD j false = r.getD (j % d) false) →
    ∃ b : Bool, Ev (fun k => impl_turns.l0 k r d (r.length : Int) (i : Nat)) b ∧ (b = true ↔ per r d) := by
  induction m with
  | zero =>
    intro i hi hall
    refine ⟨decide (r.length % d = 0), Ev.end fun k => ?_, ?_⟩
    · simp only [impl_turns.l0]
      rw [if_neg (by omega), if_neg (by omega), ← Int.natCast_emod]
      congr 1
      rw [Bool.eq_iff_iff]
      simp only [beq_iff_eq, decide_eq_true_eq]
      omega
    · rw [decide_eq_true_eq]
      exact ⟨fun h => ⟨h, fun j hj => hall j (by omega)⟩, fun h => h.1⟩
  | succ m ih =>
    intro i hi hall
    have hm := Nat.mod_lt i (show d > 0 by omega)
    by_cases c : r.getD i false = r.getD (i % d) false
    · obtain ⟨b, h1, h2⟩ := ih (i + 1) (by omega) (fun j hj => by
        rcases Nat.lt_or_ge j i with h | h
        · exact hall j h
        · obtain rfl : j = i := by omega
          exact c)
      refine ⟨b, Ev.step (fun k => ?_) h1, h2⟩
      simp only [impl_turns.l0]
      rw [if_pos (by omega), if_pos (by omega), if_pos (by omega), if_neg (by omega), tmod_nat, if_pos (by omega), if_pos (by omega), rdOf_nat, rdOf_nat, wr1 (by omega), if_neg (by rw [c]; simp)]
    · refine ⟨false, Ev.end fun k => ?_, ?_⟩
      · simp only [impl_turns.l0]
        rw [if_pos (by omega), if_pos (by omega), if_pos (by omega), if_neg (by omega), tmod_nat, if_pos (by omega), if_pos (by omega), rdOf_nat, rdOf_nat, if_pos (by simpa using c)]
      · exact ⟨fun h => absurd h (by simp), fun h => absurd (h.2 i (by omega)) c⟩
theorem turns_ev (r : List Bool) (hr : r.length ≤ 1073741824) (d : Nat) (hd : 1 ≤ d) (hdl : d ≤ r.length) : ∃ b : Bool, Ev (fun k => impl_turns.f k r d) b ∧ (b = true ↔ per r d) :=
  turns_l0 r hr d hd hdl r.length 0 (by omega) (fun j hj => absurd hj (Nat.not_lt_zero j))

theorem rot_append {r : List Bool} : ([r.getD (r.length - 1) false] : List Bool) ++ r.take (r.length - 1) = rot r := by
  simp [rot, List.dropLast_eq_take]

/-- The tail made short. -/
theorem tidy_l1 (n : Nat) : ∀ (t r : List Bool), t.length = n → t.length ≤ 1073741824 → 0 < r.length → r.length ≤ 1073741824 → (∀ d, 1 ≤ d → d < r.length → ¬ per r d) →
    ∃ t' r', Ev (fun k => impl_set_tidy.l1 k (r.length : Int) t r) (t', r') ∧ Canon t' r' ∧ (∀ m, hasB t' r' m = hasB t r m) ∧ t'.length ≤ t.length ∧ r'.length ≤ r.length := by
  induction n with
  | zero =>
    intro t r ht _ h1 h2 h3
    refine ⟨t, r, Ev.end fun k => ?_, ⟨h1, h3, fun m hm => by omega⟩, fun m => rfl, Nat.le_refl _, Nat.le_refl _⟩
    simp only [impl_set_tidy.l1]
    rw [if_neg (by omega)]
  | succ n ih =>
    intro t r ht htl h1 h2 h3
    have e1 : wrap64 ((t.length : Int) - 1) = (n : Nat) := by rw [wrm1 (by omega) (by omega)]; omega
    by_cases c : t.getD n false = r.getD (r.length - 1) false
    · have hl : (t.take n).length = n := by rw [List.length_take]; omega
      obtain ⟨t', r', g1, g2, g3, g4, g5⟩ := ih (t.take n) (rot r) hl (by omega) (by rw [rot_length h1]; exact h1) (by rw [rot_length h1]; exact h2) (fun d hd1 hd2 hp => by rw [rot_length h1] at hd2; exact h3 d hd1 hd2 (per_rot h1 hd1 hp))
      rw [rot_length h1] at g1 g5
      refine ⟨t', r', Ev.step (fun k => ?_) g1, g2, fun m => by rw [g3, has_rot ht h1 c], by omega, g5⟩
      simp only [impl_set_tidy.l1]
      rw [if_pos (by omega), e1, if_pos (by omega), if_pos (by omega), wrm1 h1 (by omega), if_pos (by omega), if_pos (by omega), rdOf_nat, rdOf_nat, if_pos (by rw [c]; simp), if_pos (by omega)]
      simp only [Option.bind_some]
      rw [if_pos (by omega)]
      rw [if_pos (by simp; omega), Int.toNat_natCast, Int.toNat_natCast, rot_append]
    · refine ⟨t, r, Ev.end fun k => ?_, ⟨h1, h3, fun m hm => (show n = m by omega) ▸ c⟩, fun m => rfl, Nat.le_refl _, Nat.le_refl _⟩
      simp only [impl_set_tidy.l1]
      rw [if_pos (by omega), e1, if_pos (by omega), if_pos (by omega), wrm1 h1 (by omega), if_pos (by omega), if_pos (by omega), rdOf_nat, rdOf_nat, if_neg (by simpa using c)]

theorem tidy_l0 (t r : List Bool) (ht : t.length ≤ 1073741824) (h1 : 0 < r.length) (h2 : r.length ≤ 1073741824) (m : Nat) : ∀ d, d + m = r.length → 1 ≤ d → (∀ e, 1 ≤ e → e < d → ¬ per r e) →
    ∃ t' r', Ev (fun k => impl_set_tidy.l0 k (d : Nat) t r) (t', r') ∧ Canon t' r' ∧ (∀ m, hasB t' r' m = hasB t r m) ∧ t'.length ≤ t.length ∧ r'.length ≤ r.length := by
  induction m with
  | zero =>
    intro d hd hd1 hno
    obtain ⟨b, hb, hb2⟩ := turns_ev r h2 d hd1 (by omega)
    have hp : per r d := ⟨by rw [show r.length = d from by omega]; exact Nat.mod_self d, fun i hi => by rw [Nat.mod_eq_of_lt (by omega)]⟩
    have hl : (r.take d).length = d := by rw [List.length_take]; omega
    obtain ⟨t', r', g1, g2, g3, g4, g5⟩ := tidy_l1 t.length t (r.take d) rfl ht (by omega) (by omega) (fun e he1 he2 hpe => hno e he1 (by omega) (per_take hd1 he1 (by omega) hp hpe))
    rw [hl] at g1 g5
    refine ⟨t', r', ?_, g2, fun m => by rw [g3, has_take hd1 h1 hp (by omega)], g4, by omega⟩
    refine Ev.step (f := fun k => (impl_turns.f k r d).bind fun x => if x = true then impl_set_tidy.l1 k d t (r.take d) else impl_set_tidy.l0 k (wrap64 (d + 1)) t r) (fun k => ?_) ?_
    · simp only [impl_set_tidy.l0, slices_Clone_bool_bool.f]
      rw [if_pos (by omega)]
      simp only [Option.bind_some]
      rw [if_pos (by omega), if_pos (by omega), Int.toNat_natCast, if_pos (by omega)]
      simp only [Option.bind_some]
    · exact Ev.bind hb (by simp only [if_pos (hb2.2 hp)]; exact g1)
  | succ m ih =>
    intro d hd hd1 hno
    obtain ⟨b, hb, hb2⟩ := turns_ev r h2 d hd1 (by omega)
    have hl : (r.take d).length = d := by rw [List.length_take]; omega
    have key : ∃ t' r', Ev (fun k => if b = true then impl_set_tidy.l1 k d t (r.take d) else impl_set_tidy.l0 k (wrap64 ((d : Nat) + 1)) t r) (t', r') ∧ Canon t' r' ∧ (∀ m, hasB t' r' m = hasB t r m) ∧ t'.length ≤ t.length ∧ r'.length ≤ r.length := by
      by_cases c : b = true
      · have hp := hb2.1 c
        obtain ⟨t', r', g1, g2, g3, g4, g5⟩ := tidy_l1 t.length t (r.take d) rfl ht (by omega) (by omega) (fun e he1 he2 hpe => hno e he1 (by omega) (per_take hd1 he1 (by omega) hp hpe))
        rw [hl] at g1 g5
        refine ⟨t', r', ?_, g2, fun m => by rw [g3, has_take hd1 h1 hp (by omega)], g4, by omega⟩
        simp only [if_pos c]
        exact g1
      · obtain ⟨t', r', g1, g2, g3, g4, g5⟩ := ih (d + 1) (by omega) (by omega) (fun e he1 he2 hpe => by
          rcases Nat.lt_or_ge e d with h | h
          · exact hno e he1 h hpe
          · obtain rfl : e = d := by omega
            exact c (hb2.2 hpe))
        refine ⟨t', r', ?_, g2, g3, g4, g5⟩
        simp only [if_neg c]
        rw [wr1 (by omega)]
        exact g1
    obtain ⟨t', r', g1, g2⟩ := key
    refine ⟨t', r', ?_, g2⟩
    refine Ev.step (f := fun k => (impl_turns.f k r d).bind fun x => if x = true then impl_set_tidy.l1 k d t (r.take d) else impl_set_tidy.l0 k (wrap64 (d + 1)) t r) (fun k => ?_) (Ev.bind hb g1)
    simp only [impl_set_tidy.l0, slices_Clone_bool_bool.f]
    rw [if_pos (by omega)]
    simp only [Option.bind_some]
    rw [if_pos (by omega), if_pos (by omega), Int.toNat_natCast, if_pos (by omega)]
    simp only [Option.bind_some]

theorem tidy_ev {t r : List Bool} (h : Good t r) : ∃ t' r', Ev (fun k => impl_set_tidy.f k t r) (t', r') ∧ Canon t' r' ∧ (∀ m, hasB t' r' m = hasB t r m) ∧ t'.length ≤ t.length ∧ r'.length ≤ r.length := by
  have h1 := h.pos
  have h2 := h.tl
  have h3 := h.rl
  exact tidy_l0 t r (by omega) h1 (by omega) (r.length - 1) 1 (by omega) (by omega) (fun e he1 he2 => by omega)

/-- 'comes again behind d' in the reference's words. -/
theorem per_steps (r : List Bool) (d : Nat) (hd : 1 ≤ d) : (∀ i, d ≤ i → i < r.length → r.getD i false = r.getD (i - d) false) ↔ ∀ i, i < r.length → r.getD i false = r.getD (i % d) false := by
  constructor
  · intro h i
    induction i using Nat.strongRecOn with
    | _ i ih =>
      intro hi
      rcases Nat.lt_or_ge i d with c | c
      · rw [Nat.mod_eq_of_lt c]
      · rw [h i c hi, ih (i - d) (by omega) (by omega), ← Nat.mod_eq_sub_mod c]
  · intro h i h1 h2
    rw [h i h2, h (i - d) (by omega), ← Nat.mod_eq_sub_mod h1]

/-- The reference's inner loop. -/
theorem less_l1 (t r : List Bool) (hr : r.length ≤ 1073741824) (d : Nat) (hd : 1 ≤ d) (hdl : d < r.length) (g : Bool → Nat → Option (List Bool × List Bool))
    (hgt : ∀ k, g true k = (spec_l1Less.f k t (r.take d)).bind fun x => some (x.1, x.2)) (hgf : ∀ k, g false k = spec_l1Less.l0 k (r.length : Int) ((d + 1 : Nat) : Int) t r) (res : List Bool × List Bool) (m : Nat) :
    ∀ i (b : Bool), i + m = r.length → d ≤ i → (b = true ↔ r.length % d = 0 ∧ ∀ j, d ≤ j → j < i → r.getD j false = r.getD (j - d) false) →
      (∀ c : Bool, (c = true ↔ r.length % d = 0 ∧ ∀ j, d ≤ j → j < r.length → r.getD j false = r.getD (j - d) false) → Ev (g c) res) → Ev (fun k => spec_l1Less.l1 k (r.length : Int) (d : Nat) b (i : Nat) t r) res := by
  induction m with
  | zero =>
    intro i b hi hdi hb hres
    obtain rfl : i = r.length := by omega
    refine Ev.step (fun k => ?_) (hres b hb)
    simp only [spec_l1Less.l1]
    rw [if_neg (by omega)]
    cases b with
    | true => rw [if_pos rfl, if_pos (by omega), if_pos (by omega), Int.toNat_natCast, hgt]
    | false => rw [if_neg (by simp), wr1 (by omega), hgf]
  | succ m ih =>
    intro i b hi hdi hb hres
    cases b with
    | true =>
      have h1 := hb.1 rfl
      have e : wrap64 ((i : Int) - (d : Int)) = ((i - d : Nat) : Int) := by rw [wr (by omega) (by omega)]; omega
      refine Ev.step (fun k => ?_) (ih (i + 1) (r.getD i false == r.getD (i - d) false) (by omega) (by omega) ?_ hres)
      · simp only [spec_l1Less.l1, if_true]
        rw [if_pos (by omega), if_pos (by omega), if_pos (by omega), e, if_pos (by omega), if_pos (by omega), rdOf_nat, rdOf_nat, wr1 (by omega)]
      · rw [beq_iff_eq]
        constructor
        · intro c
          refine ⟨h1.1, fun j hj1 hj2 => ?_⟩
          rcases Nat.lt_or_ge j i with h | h
          · exact h1.2 j hj1 h
          · obtain rfl : j = i := by omega
            exact c
        · intro c
          exact c.2 i hdi (by omega)
    | false =>
      refine Ev.step (fun k => ?_) (hres false ⟨fun h => (by cases h), fun h => (hb.2 ⟨h.1, fun j hj1 hj2 => h.2 j hj1 (by omega)⟩)⟩)
      simp only [spec_l1Less.l1]
      rw [if_pos (by omega), if_neg (by simp), wr1 (by omega), hgf]

theorem less_ev (n : Nat) : ∀ t r : List Bool, t.length + r.length = n → t.length ≤ 1073741824 → 0 < r.length → r.length ≤ 1073741824 →
    ∃ t' r', Ev (fun k => spec_l1Less.f k t r) (t', r') ∧ Canon t' r' ∧ (∀ m, hasB t' r' m = hasB t r m) ∧ t'.length ≤ t.length ∧ r'.length ≤ r.length := by
  induction n using Nat.strongRecOn with
  | _ n ih =>
    intro t r hn ht h1 h2
    have loop : ∀ m d, d + m = r.length → 1 ≤ d → (∀ e, 1 ≤ e → e < d → ¬ per r e) → ∃ t' r', Ev (fun k => spec_l1Less.l0 k (r.length : Int) (d : Nat) t r) (t', r') ∧ Canon t' r' ∧ (∀ m, hasB t' r' m = hasB t r m) ∧ t'.length ≤ t.length ∧ r'.length ≤ r.length := by
      intro m
      induction m with
      | zero =>
        intro d hd hd1 hno
        obtain rfl : d = r.length := by omega
        by_cases ct : t.length = 0
        · refine ⟨t, r, Ev.end fun k => ?_, ⟨h1, hno, fun m hm => by omega⟩, fun m => rfl, Nat.le_refl _, Nat.le_refl _⟩
          simp only [spec_l1Less.l0]
          rw [if_neg (by omega), if_neg (by omega)]
        · obtain ⟨q, hq⟩ : ∃ q, t.length = q + 1 := ⟨t.length - 1, by omega⟩
          have e1 : wrap64 ((t.length : Int) - 1) = (q : Nat) := by rw [wrm1 (by omega) (by omega)]; omega
          by_cases c : t.getD q false = r.getD (r.length - 1) false
          · have hl : (t.take q).length = q := by rw [List.length_take]; omega
            obtain ⟨t', r', g1, g2, g3, g4, g5⟩ := ih (q + r.length) (by omega) (t.take q) (rot r) (by rw [rot_length h1, hl]) (by omega) (by rw [rot_length h1]; exact h1) (by rw [rot_length h1]; exact h2)
            rw [rot_length h1] at g5
            refine ⟨t', r', Ev.step (f := fun k => (spec_l1Less.f k (t.take q) (rot r)).bind fun x => some (x.1, x.2)) (fun k => ?_) (Ev.bind g1 (Ev.now _)), g2, fun m => by rw [g3, has_rot hq h1 c], by omega, g5⟩
            simp only [spec_l1Less.l0]
            rw [if_neg (by omega), if_pos (by omega), e1, if_pos (by omega), if_pos (by omega), wrm1 h1 (by omega), if_pos (by omega), if_pos (by omega), rdOf_nat, rdOf_nat, if_pos (by rw [c]; simp)]
            simp only [Option.bind_some]
            rw [if_pos (by omega)]
            rw [if_pos (by simp; omega), if_pos (by omega), Int.toNat_natCast, Int.toNat_natCast, rot_append]
          · refine ⟨t, r, Ev.end fun k => ?_, ⟨h1, hno, fun m hm => (show q = m by omega) ▸ c⟩, fun m => rfl, Nat.le_refl _, Nat.le_refl _⟩
            simp only [spec_l1Less.l0]
            rw [if_neg (by omega), if_pos (by omega), e1, if_pos (by omega), if_pos (by omega), wrm1 h1 (by omega), if_pos (by omega), if_pos (by omega), rdOf_nat, rdOf_nat, if_neg (by simpa using c)]
      | succ m ihm =>
        intro d hd hd1 hno
        have hl : (r.take d).length = d := by rw [List.length_take]; omega
        have hstep : ∀ res, Ev (fun k => spec_l1Less.l1 k (r.length : Int) (d : Nat) (decide (r.length % d = 0)) (d : Nat) t r) res → Ev (fun k => spec_l1Less.l0 k (r.length : Int) (d : Nat) t r) res := by
          intro res hres
          refine Ev.step (fun k => ?_) hres
          simp only [spec_l1Less.l0]
          rw [if_pos (by omega), if_neg (by omega), tmod_nat]
          congr 1
          rw [Bool.eq_iff_iff]
          simp only [beq_iff_eq, decide_eq_true_eq]
          omega
        by_cases hp : per r d
        · obtain ⟨t', r', g1, g2, g3, g4, g5⟩ := ih (t.length + d) (by omega) t (r.take d) (by rw [hl]) ht (by omega) (by omega)
          refine ⟨t', r', hstep _ ?_, g2, fun m => by rw [g3, has_take hd1 h1 hp (by omega)], g4, by omega⟩
          refine less_l1 t r h2 d hd1 (by omega) (fun b k => if b = true then (spec_l1Less.f k t (r.take d)).bind fun x => some (x.1, x.2) else spec_l1Less.l0 k (r.length : Int) ((d + 1 : Nat) : Int) t r) (fun k => if_pos rfl) (fun k => if_neg (by simp)) (t', r') m.succ d (decide (r.length % d = 0)) (by omega) (Nat.le_refl _) ?_ ?_
          · rw [decide_eq_true_eq]
            exact ⟨fun h => ⟨h, fun j a b => by omega⟩, fun h => h.1⟩
          · intro c hc
            have : c = true := hc.2 ⟨hp.1, (per_steps r d hd1).2 hp.2⟩
            subst this
            simp only [if_true]
            exact Ev.bind g1 (Ev.now _)
        · obtain ⟨t', r', g1, g2, g3, g4, g5⟩ := ihm (d + 1) (by omega) (by omega) (fun e he1 he2 hpe => by
            rcases Nat.lt_or_ge e d with h | h
            · exact hno e he1 h hpe
            · obtain rfl : e = d := by omega
              exact hp hpe)
          refine ⟨t', r', hstep _ ?_, g2, g3, g4, g5⟩
          refine less_l1 t r h2 d hd1 (by omega) (fun b k => if b = true then (spec_l1Less.f k t (r.take d)).bind fun x => some (x.1, x.2) else spec_l1Less.l0 k (r.length : Int) ((d + 1 : Nat) : Int) t r) (fun k => if_pos rfl) (fun k => if_neg (by simp)) (t', r') m.succ d (decide (r.length % d = 0)) (by omega) (Nat.le_refl _) ?_ ?_
          · rw [decide_eq_true_eq]
            exact ⟨fun h => ⟨h, fun j a b => by omega⟩, fun h => h.1⟩
          · intro c hc
            have : ¬ c = true := fun h => hp ⟨(hc.1 h).1, (per_steps r d hd1).1 (hc.1 h).2⟩
            simp only [if_neg this]
            exact g1
    obtain ⟨t', r', g1, g2⟩ := loop (r.length - 1) 1 (by omega) (by omega) (fun e he1 he2 => by omega)
    exact ⟨t', r', Ev.step (fun k => by simp only [spec_l1Less.f]; rfl) g1, g2⟩

/-- The tidy form of a set, for both. -/
structure Tidied (t r t' r' : List Bool) : Prop where
  impl : Ev (fun k => impl_set_tidy.f k t r) (t', r')
  spec : Ev (fun k => spec_l1Less.f k t r) (t', r')
  canon : Canon t' r'
  same : ∀ n, hasB t' r' n = hasB t r n
  good : Good t' r'
  tle : t'.length ≤ t.length
  rle : r'.length ≤ r.length
theorem tidied {t r : List Bool} (h : Good t r) : ∃ t' r', Tidied t r t' r' := by
  have h1 := h.pos
  have h2 := h.tl
  have h3 := h.rl
  obtain ⟨t', r', g1, g2, g3, g4, g5⟩ := tidy_ev h
  obtain ⟨t2, r2, k1, k2, k3, k4, k5⟩ := less_ev (t.length + r.length) t r rfl (by omega) h1 (by omega)
  obtain ⟨rfl, rfl⟩ := canon_unique g2 k2 (fun n => by rw [g3, k3])
  exact ⟨t', r', g1, k1, g2, g3, ⟨g2.pos, by omega, by omega⟩, g4, g5⟩


structure IsSmall (s : ByteArray) (t r : List Bool) : Prop where
  orig : ∃ t0 r0, IsSet s t0 r0 ∧ Tidied t0 r0 t r
  good : Good t r
  tl : t.length ≤ 8
  rl : r.length ≤ 8
  impl : Ev (fun k => impl_small.f k s) (t, r, true)
  spec : Ev (fun k => spec_l4Small.f k s) (t, r, true)
structure NoSmall (s : ByteArray) : Prop where
  impl : ∃ a b, Ev (fun k => impl_small.f k s) (a, b, false)
  spec : ∃ a b, Ev (fun k => spec_l4Small.f k s) (a, b, false)
theorem small_cases (s : ByteArray) (hs : s.size ≤ 1073741824) : NoSmall s ∨ ∃ t r, IsSmall s t r := by
  rcases read_cases s hs with h | ⟨t0, r0, h⟩
  · left
    obtain ⟨⟨a, b, ha⟩, ⟨a', b', hb⟩⟩ := h
    refine ⟨⟨[], [], ?_⟩, ⟨a', b', ?_⟩⟩
    · unfold impl_small.f impl_tidied.f
      rw [ha]; simp only [Option.bind_some, Bool.false_eq_true, if_false]
      exact Ev.now _
    · unfold spec_l4Small.f
      refine Ev.bind hb ?_
      simp only [Bool.false_eq_true, if_false]
      exact Ev.now _
  · obtain ⟨t, r, hT⟩ := tidied h.good
    have hi : Ev (fun k => impl_small.f k s) (t, r, decide ((t.length : Int) ≤ 8) && decide ((r.length : Int) ≤ 8)) := by
      unfold impl_small.f impl_tidied.f
      rw [h.impl]; simp only [Option.bind_some, if_true]
      refine Ev.bind (a := (t, r, true)) (Ev.bind hT.impl (Ev.now _)) (Ev.const fun k => ?_)
      rw [if_pos rfl]
      by_cases c : (t.length : Int) ≤ 8
      · rw [if_pos c, decide_eq_true c]; rfl
      · rw [if_neg c, decide_eq_false c]; rfl
    have hs : Ev (fun k => spec_l4Small.f k s) (t, r, decide ((t.length : Int) ≤ 8) && decide ((r.length : Int) ≤ 8)) := by
      unfold spec_l4Small.f
      refine Ev.bind h.spec ?_
      simp only [if_true]
      refine Ev.bind hT.spec (Ev.const fun k => ?_)
      by_cases c : (t.length : Int) ≤ 8
      · rw [if_pos c, decide_eq_true c]; rfl
      · rw [if_neg c, decide_eq_false c]; rfl
    by_cases c : t.length ≤ 8 ∧ r.length ≤ 8
    · right
      rw [decide_eq_true (by omega), decide_eq_true (by omega)] at hi hs
      exact ⟨t, r, ⟨t0, r0, h, hT⟩, hT.good, c.1, c.2, hi, hs⟩
    · left
      have : (decide ((t.length : Int) ≤ 8) && decide ((r.length : Int) ≤ 8)) = false := by
        by_cases c1 : t.length ≤ 8
        · rw [decide_eq_false (show ¬ (r.length : Int) ≤ 8 by omega), Bool.and_false]
        · rw [decide_eq_false (show ¬ (t.length : Int) ≤ 8 by omega), Bool.false_and]
      rw [this] at hi hs
      exact ⟨⟨t, r, hi⟩, ⟨t, r, hs⟩⟩
theorem getD_set_ne (l : List Bool) {i j : Nat} (v : Bool) (h : i ≠ j) : (l.set i v).getD j false = l.getD j false := by simp [List.getD, h]
theorem in_eq' (a b c : Int) : impl_in.f a b c = some (decide (b ≤ a ∧ a ≤ c)) := by
  unfold impl_in.f
  by_cases h : b ≤ a
  · rw [if_pos h]; simp [h]
  · rw [if_neg (by omega), decide_eq_false (by omega)]
theorem l6In_eq' (a b c : Int) : spec_l6In.f a b c = some (decide (b ≤ a ∧ a ≤ c)) := by
  unfold spec_l6In.f
  by_cases h : b ≤ a
  · rw [if_pos h]; simp [h]
  · rw [if_neg (by omega), decide_eq_false (by omega)]


theorem wrs' {a b : Nat} (h : b ≤ a) (ha : a ≤ 4611686018427387904) : wrap64 ((a : Int) - (b : Int)) = ((a - b : Nat) : Int) := by rw [wr (by omega) (by omega)]; omega
theorem wra {a b : Nat} (h : a + b ≤ 4611686018427387904) : wrap64 ((a : Int) + (b : Int)) = ((a + b : Nat) : Int) := by rw [wr (by omega) (by omega)]; omega
theorem rd_nat (l : List Int) (n : Nat) : rd l (n : Int) = l.getD n 0 := by simp [rd]
theorem getI_set_self (l : List Int) (i : Nat) (v : Int) (h : i < l.length) : (l.set i v).getD i 0 = v := by simp [List.getD, h]
theorem getI_set_ne (l : List Int) {i j : Nat} (v : Int) (h : i ≠ j) : (l.set i v).getD j 0 = l.getD j 0 := by simp [List.getD, h]
theorem getI_app_lt (l : List Int) {i : Nat} (v : Int) (h : i < l.length) : (l ++ [v]).getD i 0 = l.getD i 0 := by simp only [List.getD, List.getElem?_append_left h]
theorem getI_app_eq (l : List Int) (v : Int) : (l ++ [v]).getD l.length 0 = v := by simp [List.getD]
theorem getI_rep (m j : Nat) : (List.replicate m (0 : Int)).getD j 0 = 0 := by
  simp only [List.getD, List.getElem?_replicate]; split <;> rfl
/-- A list of whole numbers that tells f up to its length. -/
structure TellsI (l : List Int) (f : Nat → Int) (m : Nat) : Prop where
  len : l.length = m
  get : ∀ j, j < m → l.getD j 0 = f j
/-- The numbers of f from 1 to n, in order. -/
def stp (f : Nat → Bool) : Nat → List Int
  | 0 => []
  | n + 1 => if f (n + 1) = true then stp f n ++ [((n + 1 : Nat) : Int)] else stp f n
theorem stp_yes {f : Nat → Bool} {n : Nat} (h : f (n + 1) = true) : stp f (n + 1) = stp f n ++ [((n + 1 : Nat) : Int)] := by simp only [stp]; rw [if_pos h]
theorem stp_no {f : Nat → Bool} {n : Nat} (h : ¬ f (n + 1) = true) : stp f (n + 1) = stp f n := by simp only [stp]; rw [if_neg h]
theorem stp_len_le (f : Nat → Bool) (n : Nat) : (stp f n).length ≤ n := by
  induction n with
  | zero => exact Nat.le_refl _
  | succ n ih =>
    by_cases c : f (n + 1) = true
    · rw [stp_yes c, List.length_append]; simp; omega
    · rw [stp_no c]; omega
theorem stp_pre (f : Nat → Bool) (q d : Nat) : ∃ m, stp f (q + d) = stp f q ++ m := by
  induction d with
  | zero => exact ⟨[], by simp⟩
  | succ d ih =>
    obtain ⟨m, hm⟩ := ih
    by_cases c : f (q + d + 1) = true
    · exact ⟨m ++ [((q + d + 1 : Nat) : Int)], by rw [← Nat.add_assoc, stp_yes c, hm, List.append_assoc]⟩
    · exact ⟨m, by rw [← Nat.add_assoc, stp_no c, hm]⟩
theorem stp_get {f : Nat → Bool} {q n : Nat} (h : f (q + 1) = true) (hq : q < n) : (stp f q).length < (stp f n).length ∧ (stp f n).getD (stp f q).length 0 = ((q + 1 : Nat) : Int) := by
  obtain ⟨m, hm⟩ := stp_pre f (q + 1) (n - (q + 1))
  rw [show q + 1 + (n - (q + 1)) = n from by omega, stp_yes h] at hm
  rw [hm]
  constructor
  · simp [List.length_append]
  · rw [List.append_assoc]; simp [List.getD]
theorem stp_len_yes {f : Nat → Bool} {q : Nat} (h : f (q + 1) = true) : (stp f (q + 1)).length = (stp f q).length + 1 := by rw [stp_yes h, List.length_append]; rfl
theorem stp_len_no {f : Nat → Bool} {q : Nat} (h : ¬ f (q + 1) = true) : (stp f (q + 1)).length = (stp f q).length := by rw [stp_no h]

theorem steps_l0 {t r : List Bool} (h : Good t r) (n : Nat) (hn : n ≤ 1000000) (d : Nat) : ∀ q, q + d = n → Ev (fun k => impl_steps.l0 k n (stp (hasB t r) q) ((q + 1 : Nat) : Int) t r) (stp (hasB t r) n, true) := by
  induction d with
  | zero =>
    intro q hq
    obtain rfl : q = n := by omega
    refine Ev.end fun k => ?_
    simp only [impl_steps.l0]
    rw [if_neg (by omega)]
  | succ d ih =>
    intro q hq
    have k1 := ih (q + 1) (by omega)
    have hl := stp_len_le (hasB t r) q
    refine Ev.step (fun k => ?_) k1
    simp only [impl_steps.l0]
    rw [if_pos (by omega), set_has h (q + 1) (by omega)]
    simp only [Option.bind_some]
    by_cases c : hasB t r (q + 1) = true
    · rw [if_pos c, if_pos (by omega), wr1 (by omega), stp_yes c]
    · rw [if_neg c, wr1 (by omega), stp_no c]
theorem steps_yes {s : ByteArray} {t r : List Bool} (h : IsSmall s t r) (n : Nat) (lim : Int) (hn : (n : Int) ≤ lim) (hl : lim ≤ 1000000) : Ev (fun k => impl_steps.f k s n lim) (stp (hasB t r) n, true) := by
  have hin : impl_in.f n 0 lim = some true := by rw [in_eq', decide_eq_true (by omega)]
  unfold impl_steps.f
  refine Ev.bind h.impl ?_
  simp only [if_true, hin, Option.bind_some]
  exact Ev.step (fun k => by simp only [impl_steps.j0, Bool.not_true, Bool.false_eq_true, if_false]; rfl) (steps_l0 h.good n (by omega) n 0 (by omega))
theorem steps_no {s : ByteArray} {n lim : Int} (hs : NoSmall s ∨ ∃ t r, IsSmall s t r) (h : NoSmall s ∨ ¬ (0 ≤ n ∧ n ≤ lim)) : Ev (fun k => impl_steps.f k s n lim) ([], false) := by
  have i0 : ∀ a b, Ev (fun k => impl_steps.j0 k n true a b) ([], false) := fun a b => Ev.end fun k => by simp only [impl_steps.j0, if_true]
  unfold impl_steps.f
  rcases hs with g | ⟨t, r, g⟩
  · obtain ⟨a, b, g1⟩ := g.impl
    refine Ev.bind g1 ?_
    simp only [Bool.false_eq_true, if_false]
    exact i0 _ _
  · rcases h with h | h
    · obtain ⟨a, b, g1⟩ := h.impl
      have := Ev.unique g1 g.impl
      simp at this
    · have hin : impl_in.f n 0 lim = some false := by rw [in_eq', decide_eq_false h]
      refine Ev.bind g.impl ?_
      simp only [if_true, hin, Option.bind_some, Bool.not_false]
      exact i0 _ _
theorem given_yes {s : ByteArray} {t r : List Bool} (h : IsSmall s t r) (n : Nat) (lim : Int) (hn : (n : Int) ≤ lim) : Ev (fun k => spec_l9Given.f k s n lim) (t, r, true) := by
  have hin : spec_l6In.f n 0 lim = some true := by rw [l6In_eq', decide_eq_true (by omega)]
  unfold spec_l9Given.f
  refine Ev.bind h.spec ?_
  simp only [if_true, hin, Option.bind_some]
  exact Ev.now _
theorem given_no {s : ByteArray} {n lim : Int} (hs : NoSmall s ∨ ∃ t r, IsSmall s t r) (h : NoSmall s ∨ ¬ (0 ≤ n ∧ n ≤ lim)) : ∃ a b, Ev (fun k => spec_l9Given.f k s n lim) (a, b, false) := by
  unfold spec_l9Given.f
  rcases hs with g | ⟨t, r, g⟩
  · obtain ⟨a, b, g1⟩ := g.spec
    refine ⟨a, b, Ev.bind g1 ?_⟩
    simp only [Bool.false_eq_true, if_false]
    exact Ev.now _
  · rcases h with h | h
    · obtain ⟨a, b, g1⟩ := h.spec
      have := Ev.unique g1 g.spec
      simp at this
    · have hin : spec_l6In.f n 0 lim = some false := by rw [l6In_eq', decide_eq_false h]
      refine ⟨t, r, Ev.bind g.spec ?_⟩
      simp only [if_true, hin, Option.bind_some]
      exact Ev.now _

theorem W_le_bound (f : Nat → Bool) {n : Nat} (h : n ≤ 60) : W f n ≤ 1152921504606846976 := Nat.le_trans (W_le f n) (Nat.pow_le_pow_right (by omega) h)
theorem S_le_more (g : Nat → Nat) (m d : Nat) : S g m ≤ S g (m + d) := by
  induction d with
  | zero => exact Nat.le_refl _
  | succ d ih => rw [← Nat.add_assoc]; simp only [S]; omega
/-- The part of W f i that the numbers up to q make. -/
def pW (f : Nat → Bool) (i q : Nat) : Nat := (if i = 0 then 1 else 0) + S (fun y => if f y = true ∧ y ≤ i then W f (i - y) else 0) q
theorem pW_far (f : Nat → Bool) (i q : Nat) (h : i ≤ q) : pW f i q = W f i := by
  unfold pW
  rw [S_more (m := i) h (fun y a b => by rw [if_neg (by omega)])]
  rcases Nat.eq_zero_or_pos i with h0 | h0
  · subst h0; rfl
  · rw [if_neg (by omega), W_pos_eq f h0, Nat.zero_add]
    exact S_congr fun y a b => by by_cases c : f y = true <;> simp [c, b]
theorem pW_le (f : Nat → Bool) (i q : Nat) : pW f i q ≤ W f i := by
  rw [← pW_far f i (q + i) (by omega)]
  unfold pW
  exact Nat.add_le_add_left (S_le_more _ q i) _
theorem pW_zero (f : Nat → Bool) (i : Nat) : pW f i 0 = if i = 0 then 1 else 0 := rfl
theorem pW_succ (f : Nat → Bool) (i q : Nat) : pW f i (q + 1) = pW f i q + if f (q + 1) = true ∧ q + 1 ≤ i then W f (i - (q + 1)) else 0 := by
  unfold pW; simp only [S]; omega
theorem counts_l1 (f : Nat → Bool) (n : Nat) (hn : n ≤ 60) (i : Nat) (hi : i ≤ n) (P : List Int → Prop)
    (hend : ∀ l : List Int, l.length = n + 1 → (∀ j, j ≤ n → l.getD j 0 = if j < i + 1 then ((W f j : Nat) : Int) else 0) → ∃ l', Ev (fun k => impl_counts.l0 k (stp f n) l ((n + 1 : Nat) : Int) ((i + 1 : Nat) : Int)) l' ∧ P l') (d : Nat) :
    ∀ (q : Nat) (l : List Int), q + d = n → l.length = n + 1 → (∀ j, j ≤ n → l.getD j 0 = if j < i then ((W f j : Nat) : Int) else if j = i then ((pW f i q : Nat) : Int) else 0) →
      ∃ l', Ev (fun k => impl_counts.l1 k (stp f n) l (i : Nat) ((n + 1 : Nat) : Int) (i : Nat) (stp f n) ((stp f n).length : Int) (((stp f q).length : Nat) : Int)) l' ∧ P l' := by
  induction d with
  | zero =>
    intro q l hq hl ha
    obtain rfl : q = n := by omega
    obtain ⟨l', k1, k2⟩ := hend l hl fun j hj => by
      rw [ha j hj, pW_far f i q hi]
      by_cases c : j < i
      · rw [if_pos c, if_pos (by omega)]
      · rw [if_neg c]
        by_cases c2 : j = i
        · subst c2; rw [if_pos rfl, if_pos (by omega)]
        · rw [if_neg c2, if_neg (by omega)]
    refine ⟨l', Ev.step (fun k => ?_) k1, k2⟩
    simp only [impl_counts.l1]
    rw [if_neg (by omega), wr1 (by omega)]
  | succ d ih =>
    intro q l hq hl ha
    by_cases c : f (q + 1) = true
    · obtain ⟨g1, g2⟩ := stp_get (n := n) c (by omega)
      have hsl := stp_len_le f n
      have hlen := stp_len_yes c
      by_cases c2 : q + 1 ≤ i
      · have hW := W_le_bound f (n := i - (q + 1)) (by omega)
        have hW2 := W_le_bound f (n := i) (by omega)
        have hp := pW_le f i q
        have e1 : l.getD (i - (q + 1)) 0 = ((W f (i - (q + 1)) : Nat) : Int) := by rw [ha _ (by omega), if_pos (by omega)]
        have e2 : l.getD i 0 = ((pW f i q : Nat) : Int) := by rw [ha i hi, if_neg (by omega), if_pos rfl]
        obtain ⟨l', k1, k2⟩ := ih (q + 1) (l.set i ((pW f i (q + 1) : Nat) : Int)) (by omega) (by rw [List.length_set, hl]) (fun j hj => by
          by_cases cj : j = i
          · subst cj
            rw [getI_set_self _ _ _ (by omega), if_neg (by omega), if_pos rfl]
          · rw [getI_set_ne _ _ (fun h => cj h.symm), ha j hj, if_neg cj, if_neg cj])
        refine ⟨l', Ev.step (fun k => ?_) k1, k2⟩
        simp only [impl_counts.l1]
        rw [if_pos (by omega), if_pos (by omega), if_pos (by omega), rd_nat, g2, if_pos (by omega), if_pos (by omega), if_pos (by omega), wrs' (by omega) (by omega), if_pos (by omega), if_pos (by omega), rd_nat, rd_nat, e1, e2, wra (by omega), hlen, wr1 (by omega), Int.toNat_natCast, pW_succ, if_pos ⟨c, c2⟩]
      · obtain ⟨l', k1, k2⟩ := ih (q + 1) l (by omega) hl (fun j hj => by rw [ha j hj, pW_succ, if_neg (c := f (q + 1) = true ∧ q + 1 ≤ i) (fun h => c2 h.2), Nat.add_zero])
        refine ⟨l', Ev.step (fun k => ?_) k1, k2⟩
        simp only [impl_counts.l1]
        rw [if_pos (by omega), if_pos (by omega), if_pos (by omega), rd_nat, g2, if_neg (by omega), hlen, wr1 (by omega)]
    · rw [← stp_len_no c]
      exact ih (q + 1) l (by omega) hl (fun j hj => by rw [ha j hj, pW_succ, if_neg (c := f (q + 1) = true ∧ q + 1 ≤ i) (fun h => c h.1), Nat.add_zero])
theorem counts_l0 (f : Nat → Bool) (n : Nat) (hn : n ≤ 60) (d : Nat) : ∀ (i : Nat) (l : List Int), i + d = n + 1 → l.length = n + 1 → (∀ j, j ≤ n → l.getD j 0 = if j < i then ((W f j : Nat) : Int) else if j = 0 then 1 else 0) → ∃ l', Ev (fun k => impl_counts.l0 k (stp f n) l ((n + 1 : Nat) : Int) (i : Nat)) l' ∧ TellsI l' (fun j => ((W f j : Nat) : Int)) (n + 1) := by
  induction d with
  | zero =>
    intro i l hi hl ha
    obtain rfl : i = n + 1 := by omega
    refine ⟨l, Ev.end fun k => ?_, hl, fun j hj => by rw [ha j (by omega), if_pos hj]⟩
    simp only [impl_counts.l0]
    rw [if_neg (by omega)]
  | succ d ih =>
    intro i l hi hl ha
    obtain ⟨l', k1, k2⟩ := counts_l1 f n hn i (by omega) (fun l' => TellsI l' (fun j => ((W f j : Nat) : Int)) (n + 1)) (fun l hl ha => ih (i + 1) l (by omega) hl (fun j hj => (ha j hj).trans (by split; rfl; rw [if_neg (by omega)]))) n 0 l (by omega) hl (fun j hj => by
        rw [ha j hj, pW_zero]
        by_cases c : j < i
        · rw [if_pos c, if_pos c]
        · rw [if_neg c, if_neg c]
          by_cases c2 : j = i
          · subst c2; rw [if_pos rfl]; split <;> rfl
          · rw [if_neg c2, if_neg (by omega)])
    refine ⟨l', Ev.step (fun k => ?_) k1, k2⟩
    simp only [impl_counts.l0]
    rw [if_pos (by omega)]
    rfl
theorem rep_one (n j : Nat) : ((List.replicate (n + 1) (0 : Int)).set 0 1).getD j 0 = if j = 0 then 1 else 0 := by
  by_cases c : j = 0
  · subst c; rw [getI_set_self _ _ _ (by simp), if_pos rfl]
  · rw [getI_set_ne _ _ (fun h => c h.symm), getI_rep, if_neg c]
theorem counts_ev (f : Nat → Bool) (n : Nat) (hn : n ≤ 60) : ∃ l, Ev (fun k => impl_counts.f k (stp f n) n) l ∧ TellsI l (fun j => ((W f j : Nat) : Int)) (n + 1) := by
  obtain ⟨l, k1, k2⟩ := counts_l0 f n hn (n + 1) 0 ((List.replicate (n + 1) (0 : Int)).set 0 1) (by omega) (by simp) (fun j hj => by rw [rep_one, if_neg (c := j < 0) (by omega)])
  refine ⟨l, ?_, k2⟩
  have e : wrap64 ((n : Int) + 1) = ((n + 1 : Nat) : Int) := wr1 (by omega)
  unfold impl_counts.f
  simp only [e, if_pos (show (0 : Int) ≤ ((n + 1 : Nat) : Int) by omega), Int.toNat_natCast, if_pos (show n + 1 ≤ 35184372088832 by omega), Option.bind_some, List.length_replicate, List.length_set, if_pos (show (0 : Int) < ((n + 1 : Nat) : Int) by omega)]
  exact k1

theorem bit_eq (b : Bool) : spec_l1Bit.f b = some (if b = true then 1 else 0) := by cases b <;> rfl
theorem ways_l1 {t r : List Bool} (h : Good t r) (n : Nat) (hn : n ≤ 60) (i : Nat) (h1 : 1 ≤ i) (hi : i ≤ n) (P : List Int → Prop) (l : List Int) (hl : l.length = i) (ha : ∀ j, j < i → l.getD j 0 = ((W (hasB t r) j : Nat) : Int))
    (hend : ∃ l', Ev (fun k => spec_l9Ways.l0 k n (l ++ [((W (hasB t r) i : Nat) : Int)]) ((i + 1 : Nat) : Int) t r) l' ∧ P l') (d : Nat) :
    ∀ (q : Nat), q + d = i → ∃ l', Ev (fun k => spec_l9Ways.l1 k n l (i : Nat) ((pW (hasB t r) i q : Nat) : Int) ((q + 1 : Nat) : Int) t r) l' ∧ P l' := by
  induction d with
  | zero =>
    intro q hq
    obtain rfl : q = i := by omega
    obtain ⟨l', k1, k2⟩ := hend
    refine ⟨l', Ev.step (fun k => ?_) k1, k2⟩
    simp only [spec_l9Ways.l1]
    rw [if_neg (by omega), if_pos (by omega), wr1 (by omega), pW_far _ _ _ (Nat.le_refl _)]
  | succ d ih =>
    intro q hq
    obtain ⟨l', k1, k2⟩ := ih (q + 1) (by omega)
    have hW := W_le_bound (hasB t r) (n := i - (q + 1)) (by omega)
    have hW2 := W_le_bound (hasB t r) (n := i) (by omega)
    have hp := pW_le (hasB t r) i q
    have e1 : l.getD (i - (q + 1)) 0 = ((W (hasB t r) (i - (q + 1)) : Nat) : Int) := ha _ (by omega)
    refine ⟨l', Ev.step (fun k => ?_) k1, k2⟩
    simp only [spec_l9Ways.l1]
    rw [if_pos (by omega), l1_has h (q + 1) (by omega)]
    simp only [Option.bind_some, bit_eq]
    rw [wrs' (by omega) (by omega), if_pos (by omega), if_pos (by omega), rd_nat, e1, wr1 (by omega), pW_succ]
    by_cases c : hasB t r (q + 1) = true
    · rw [if_pos c, if_pos ⟨c, by omega⟩, Int.one_mul, wr (x := ((W (hasB t r) (i - (q + 1)) : Nat) : Int)) (by omega) (by omega), wra (by omega)]
    · rw [if_neg c, if_neg (fun h => c h.1), Int.zero_mul, wr (x := (0 : Int)) (by omega) (by omega), Int.add_zero, wr (by omega) (by omega)]; rfl
theorem ways_l0 {t r : List Bool} (h : Good t r) (n : Nat) (hn : n ≤ 60) (d : Nat) : ∀ (i : Nat) (l : List Int), i + d = n + 1 → 1 ≤ i → l.length = i → (∀ j, j < i → l.getD j 0 = ((W (hasB t r) j : Nat) : Int)) → ∃ l', Ev (fun k => spec_l9Ways.l0 k n l (i : Nat) t r) l' ∧ TellsI l' (fun j => ((W (hasB t r) j : Nat) : Int)) (n + 1) := by
  induction d with
  | zero =>
    intro i l hi h1 hl ha
    obtain rfl : i = n + 1 := by omega
    refine ⟨l, Ev.end fun k => ?_, hl, ha⟩
    simp only [spec_l9Ways.l0]
    rw [if_neg (by omega)]
  | succ d ih =>
    intro i l hi h1 hl ha
    have hz : pW (hasB t r) i 0 = 0 := by rw [pW_zero, if_neg (by omega)]
    obtain ⟨l', k1, k2⟩ := ways_l1 h n hn i h1 (by omega) (fun l' => TellsI l' (fun j => ((W (hasB t r) j : Nat) : Int)) (n + 1)) l hl ha (ih (i + 1) _ (by omega) (by omega) (by simp [hl]) (fun j hj => by
        by_cases c : j < i
        · rw [getI_app_lt _ _ (by omega), ha j c]
        · obtain rfl : j = i := by omega
          subst hl
          exact getI_app_eq _ _)) i 0 (by omega)
    rw [hz] at k1
    refine ⟨l', Ev.step (fun k => ?_) k1, k2⟩
    simp only [spec_l9Ways.l0]
    rw [if_pos (by omega)]
    rfl
theorem ways_ev {t r : List Bool} (h : Good t r) (n : Nat) (hn : n ≤ 60) : ∃ l, Ev (fun k => spec_l9Ways.f k t r n) l ∧ TellsI l (fun j => ((W (hasB t r) j : Nat) : Int)) (n + 1) :=
  ways_l0 h n hn n 1 [1] (by omega) (by omega) rfl (fun j hj => by obtain rfl : j = 0 := by omega
                                                                   rfl)


/-- l is the first way to n. -/
def IsWay (f : Nat → Bool) : Nat → List Int → Prop
  | n, [] => n = 0
  | n, y :: l => ∃ z : Nat, y = (z : Int) ∧ 1 ≤ n ∧ Fst f n z ∧ IsWay f (n - z) l
theorem fst_le {f : Nat → Bool} {n z : Nat} (h : Fst f n z) : 1 ≤ z ∧ z ≤ n ∧ f z = true ∧ star f (n - z) = true := by
  have := h.ok
  simp only [stepOk, Bool.and_eq_true, decide_eq_true_eq] at this
  exact ⟨this.1.1.1, this.1.2, this.1.1.2, this.2⟩
theorem fst_less {f : Nat → Bool} {n z y : Nat} (h : Fst f n z) (hy : y < z) (h1 : 1 ≤ y) (h2 : f y = true) : W f (n - y) = 0 := by
  have := h.least y hy
  have hz := fst_le h
  have hn : y ≤ n := by omega
  simp only [stepOk, h1, h2, hn, decide_true, Bool.true_and, star, decide_eq_false_iff_not] at this
  omega
theorem way_exists (f : Nat → Bool) (n : Nat) : star f n = true → ∃ l, IsWay f n l := by
  induction n using Nat.strongRecOn with
  | _ n ih =>
    intro h
    rcases Nat.eq_zero_or_pos n with h0 | h0
    · exact ⟨[], h0⟩
    · obtain ⟨z, hz⟩ := fst_exists f h0 h
      have := fst_le hz
      obtain ⟨l, hl⟩ := ih (n - z) (by omega) this.2.2.2
      exact ⟨(z : Int) :: l, z, rfl, h0, hz, hl⟩
theorem way_len (f : Nat → Bool) : ∀ (l : List Int) (n : Nat), IsWay f n l → l.length ≤ n := by
  intro l
  induction l with
  | nil => intro n _; simp
  | cons y l ih =>
    intro n h
    obtain ⟨z, _, h0, hz, h⟩ := h
    have := fst_le hz
    have := ih _ h
    simp only [List.length_cons]; omega
/-- What WaysFirst answers. -/
def FirstR (f : Nat → Bool) (n : Nat) (x : List Int × Bool) : Prop := (∃ l, IsWay f n l ∧ x = (l, true)) ∨ (star f n = false ∧ x = ([], false))
theorem firstR_exists (f : Nat → Bool) (n : Nat) : ∃ x, FirstR f n x := by
  cases h : star f n with
  | true =>
    obtain ⟨m, hm⟩ := way_exists f n h
    exact ⟨_, .inl ⟨m, hm, rfl⟩⟩
  | false => exact ⟨_, .inr ⟨h, rfl⟩⟩
theorem way_star (f : Nat → Bool) : ∀ (l : List Int) (n : Nat), IsWay f n l → star f n = true := by
  intro l n h
  cases l with
  | nil => obtain rfl : n = 0 := h; rfl
  | cons y l =>
    obtain ⟨z, _, h0, hz, h⟩ := h
    have := fst_le hz
    exact (star_iff f h0).2 ⟨z, this.1, this.2.1, this.2.2.1, this.2.2.2⟩
theorem star_W {f : Nat → Bool} {n : Nat} (h : star f n = true) : 0 < W f n := by simpa [star] using h
theorem nostar_W {f : Nat → Bool} {n : Nat} (h : star f n = false) : W f n = 0 := by
  simp only [star, decide_eq_false_iff_not] at h; omega

theorem first_l1 (f : Nat → Bool) (N n : Nat) (hN : N ≤ 60) (hn : n ≤ N) (x : List Int) (hx : TellsI x (fun j => ((W f j : Nat) : Int)) (N + 1)) (acc : List Int) (ha : acc.length ≤ 1000) (z : Nat) (hz : Fst f n z) (res : List Int × Bool)
    (hend : Ev (fun k => impl_WaysFirst.l0 k ((n - z : Nat) : Int) (stp f N) x (acc ++ [(z : Int)])) res) (d : Nat) :
    ∀ q, q + d + 1 = z → Ev (fun k => impl_WaysFirst.l1 k n (stp f N) x acc (stp f N) (((stp f N).length : Nat) : Int) (((stp f q).length : Nat) : Int)) res := by
  have hxl := hx.len
  have hsl := stp_len_le f N
  have hzz := fst_le hz
  induction d with
  | zero =>
    intro q hq
    have c : f (q + 1) = true := by rw [show q + 1 = z from by omega]; exact hzz.2.2.1
    obtain ⟨g1, g2⟩ := stp_get (n := N) c (by omega)
    have hp := star_W hzz.2.2.2
    have e1 : x.getD (n - z) 0 = ((W f (n - z) : Nat) : Int) := hx.get _ (by omega)
    rw [show q + 1 = z from by omega] at g2
    refine Ev.step (fun k => ?_) hend
    simp only [impl_WaysFirst.l1]
    rw [if_pos (by omega), if_pos (by omega), if_pos (by omega), rd_nat, g2, if_pos (by omega), wrs' (by omega) (by omega), if_pos (by omega), if_pos (by omega), rd_nat, e1, if_pos (by omega), if_pos (by omega)]
  | succ d ih =>
    intro q hq
    by_cases c : f (q + 1) = true
    · obtain ⟨g1, g2⟩ := stp_get (n := N) c (by omega)
      have hlen := stp_len_yes c
      have hw := fst_less hz (y := q + 1) (by omega) (by omega) c
      have e1 : x.getD (n - (q + 1)) 0 = ((W f (n - (q + 1)) : Nat) : Int) := hx.get _ (by omega)
      have k1 := ih (q + 1) (by omega)
      rw [hlen] at k1
      refine Ev.step (fun k => ?_) k1
      simp only [impl_WaysFirst.l1]
      rw [if_pos (by omega), if_pos (by omega), if_pos (by omega), rd_nat, g2, if_pos (by omega), wrs' (by omega) (by omega), if_pos (by omega), if_pos (by omega), rd_nat, e1, hw, if_neg (by omega), wr1 (by omega)]
    · rw [← stp_len_no c]
      exact ih (q + 1) (by omega)
theorem first_l0 (f : Nat → Bool) (N : Nat) (hN : N ≤ 60) (x : List Int) (hx : TellsI x (fun j => ((W f j : Nat) : Int)) (N + 1)) : ∀ (l : List Int) (n : Nat) (acc : List Int), n ≤ N → acc.length + n ≤ 1000 → IsWay f n l →
    Ev (fun k => impl_WaysFirst.l0 k n (stp f N) x acc) (acc ++ l, true) := by
  intro l
  induction l with
  | nil =>
    intro n acc hn ha h
    obtain rfl : n = 0 := h
    refine Ev.end fun k => ?_
    simp only [impl_WaysFirst.l0]
    rw [if_neg (by omega), List.append_nil]
  | cons y l ih =>
    intro n acc hn ha h
    obtain ⟨z, rfl, h0, hz, h⟩ := h
    have hzz := fst_le hz
    have k1 := ih (n - z) (acc ++ [(z : Int)]) (by omega) (by simp; omega) h
    rw [List.append_assoc] at k1
    refine Ev.step (fun k => ?_) (first_l1 f N n hN hn x hx acc (by omega) z hz _ k1 (z - 1) 0 (by omega))
    simp only [impl_WaysFirst.l0]
    rw [if_pos (by omega)]
    rfl
theorem waysFirst_impl {s : ByteArray} {t r : List Bool} (h : IsSmall s t r) (n : Nat) (hn : n ≤ 40) (res : List Int × Bool) (hres : FirstR (hasB t r) n res) : Ev (fun k => impl_WaysFirst.f k s n) res := by
  obtain ⟨x, k1, k2⟩ := counts_ev (hasB t r) n (by omega)
  have hxl := k2.len
  have e1 : x.getD n 0 = ((W (hasB t r) n : Nat) : Int) := k2.get _ (by omega)
  unfold impl_WaysFirst.f
  refine Ev.bind (steps_yes h n 40 (by omega) (by omega)) (Ev.eq (funext fun k => if_pos rfl) (Ev.bind k1 ?_))
  rcases hres with ⟨l, hl, rfl⟩ | ⟨hs, rfl⟩
  · have hp := star_W (way_star _ _ _ hl)
    refine Ev.eq (funext fun k => ?_) (first_l0 (hasB t r) n (by omega) x k2 l n [] (by omega) (by simp; omega) hl)
    rw [if_pos (by omega), if_pos (by omega), rd_nat, e1, if_neg (by omega)]
  · have hp := nostar_W hs
    refine Ev.const fun k => ?_
    rw [if_pos (by omega), if_pos (by omega), rd_nat, e1, if_pos (by omega)]
theorem sfirst_l1 {t r : List Bool} (h : Good t r) (N n : Nat) (hN : N ≤ 60) (hn : n ≤ N) (x : List Int) (hx : TellsI x (fun j => ((W (hasB t r) j : Nat) : Int)) (N + 1)) (acc : List Int) (ha : acc.length ≤ 1000) (z : Nat) (hz : Fst (hasB t r) n z) (res : List Int × Bool)
    (hend : Ev (fun k => spec_WaysFirst.l0 k ((n - z : Nat) : Int) (acc ++ [(z : Int)]) x t r) res) (d : Nat) :
    ∀ q, q + d = z → 1 ≤ q → Ev (fun k => spec_WaysFirst.l1 k n acc x (q : Nat) t r) res := by
  have hxl := hx.len
  have hzz := fst_le hz
  induction d with
  | zero =>
    intro q hq h1
    obtain rfl : q = z := by omega
    have hp := star_W hzz.2.2.2
    have e1 : x.getD (n - q) 0 = ((W (hasB t r) (n - q) : Nat) : Int) := hx.get _ (by omega)
    refine Ev.step (fun k => ?_) hend
    simp only [spec_WaysFirst.l1]
    rw [l1_has h q (by omega)]
    simp only [Option.bind_some]
    rw [if_pos hzz.2.2.1, wrs' (by omega) (by omega), if_pos (by omega), if_pos (by omega), rd_nat, e1, if_neg (by omega), if_pos (by omega)]
  | succ d ih =>
    intro q hq h1
    have k1 := ih (q + 1) (by omega) (by omega)
    refine Ev.step (fun k => ?_) k1
    simp only [spec_WaysFirst.l1]
    rw [l1_has h q (by omega)]
    simp only [Option.bind_some]
    by_cases c : hasB t r q = true
    · have hw := fst_less hz (y := q) (by omega) h1 c
      have e1 : x.getD (n - q) 0 = ((W (hasB t r) (n - q) : Nat) : Int) := hx.get _ (by omega)
      rw [if_pos c, wrs' (by omega) (by omega), if_pos (by omega), if_pos (by omega), rd_nat, e1, hw, if_pos (by omega), wr1 (by omega)]
    · rw [if_neg c, wr1 (by omega)]
theorem sfirst_l0 {t r : List Bool} (hg : Good t r) (N : Nat) (hN : N ≤ 60) (x : List Int) (hx : TellsI x (fun j => ((W (hasB t r) j : Nat) : Int)) (N + 1)) : ∀ (l : List Int) (n : Nat) (acc : List Int), n ≤ N → acc.length + n ≤ 1000 → IsWay (hasB t r) n l →
    Ev (fun k => spec_WaysFirst.l0 k n acc x t r) (acc ++ l, true) := by
  intro l
  induction l with
  | nil =>
    intro n acc hn ha h
    obtain rfl : n = 0 := h
    refine Ev.end fun k => ?_
    simp only [spec_WaysFirst.l0]
    rw [if_neg (by omega), List.append_nil]
  | cons y l ih =>
    intro n acc hn ha h
    obtain ⟨z, rfl, h0, hz, h⟩ := h
    have hzz := fst_le hz
    have k1 := ih (n - z) (acc ++ [(z : Int)]) (by omega) (by simp; omega) h
    rw [List.append_assoc] at k1
    refine Ev.step (fun k => ?_) (sfirst_l1 hg N n hN hn x hx acc (by omega) z hz _ k1 (z - 1) 1 (by omega) (by omega))
    simp only [spec_WaysFirst.l0]
    rw [if_pos (by omega)]
    rfl
theorem waysFirst_spec {s : ByteArray} {t r : List Bool} (h : IsSmall s t r) (n : Nat) (hn : n ≤ 40) (res : List Int × Bool) (hres : FirstR (hasB t r) n res) : Ev (fun k => spec_WaysFirst.f k s n) res := by
  obtain ⟨x, k1, k2⟩ := ways_ev h.good n (by omega)
  have hxl := k2.len
  have e1 : x.getD n 0 = ((W (hasB t r) n : Nat) : Int) := k2.get _ (by omega)
  unfold spec_WaysFirst.f
  refine Ev.eq (funext fun k => Option.bind_some ..) (Ev.bind (given_yes h n 40 (by omega)) (Ev.eq (funext fun k => if_pos rfl) (Ev.bind k1 ?_)))
  rcases hres with ⟨l, hl, rfl⟩ | ⟨hs, rfl⟩
  · have hp := star_W (way_star _ _ _ hl)
    have eb : (((W (hasB t r) n : Nat) : Int) == 0) = false := by rw [beq_eq_false_iff_ne]; omega
    have k3 : Ev (fun k => (spec_l9Ways.f k t r n).bind fun x => spec_WaysFirst.l0 k n [] x t r) (l, true) := Ev.bind k1 (sfirst_l0 h.good n (by omega) x k2 l n [] (by omega) (by simp; omega) hl)
    refine Ev.step (f := fun k => (spec_l9Ways.f k t r n).bind fun x => spec_WaysFirst.l0 k n [] x t r) (g := fun k => spec_WaysFirst.j0 k n [] false t r) (fun k => by simp only [spec_WaysFirst.j0, Bool.false_eq_true, if_false]) k3 |> Ev.eq (funext fun k => ?_)
    rw [if_pos (by omega), if_pos (by omega), rd_nat, e1, eb]
  · have hp := nostar_W hs
    have eb : (((W (hasB t r) n : Nat) : Int) == 0) = true := by rw [beq_iff_eq]; omega
    refine Ev.eq (funext fun k => ?_) (Ev.end (g := fun k => spec_WaysFirst.j0 k n [] true t r) (fun k => by simp only [spec_WaysFirst.j0, if_true]))
    rw [if_pos (by omega), if_pos (by omega), rd_nat, e1, eb]
theorem waysFirst_no {s : ByteArray} {n : Int} (hs : NoSmall s ∨ ∃ t r, IsSmall s t r) (h : NoSmall s ∨ ¬ (0 ≤ n ∧ n ≤ 40)) : Ev (fun k => impl_WaysFirst.f k s n) ([], false) ∧ Ev (fun k => spec_WaysFirst.f k s n) ([], false) := by
  constructor
  · unfold impl_WaysFirst.f
    refine Ev.bind (steps_no hs h) ?_
    simp only [Bool.false_eq_true, if_false]
    exact Ev.now _
  · obtain ⟨a, b, g⟩ := given_no hs h
    unfold spec_WaysFirst.f
    refine Ev.eq (funext fun k => Option.bind_some ..) (Ev.bind g ?_)
    simp only [Bool.false_eq_true, if_false]
    exact Ev.end fun k => by simp only [spec_WaysFirst.j0, if_true]

end Go.Proofs.YtinjblbfaijhdaaDoor.Q

namespace Go.Proofs.YtinjblbfaijhdaaDoor.Q
open Go.RowKit Go.Proofs.YtinjblbfaijhdaaDoorW.PrintWords Go.Proofs.YtinjblbfaijhdaaDoorW.PrintLast Go.Proofs.YtinjblbfaijhdaaDoorW.PrintMore
set_option linter.unusedVariables false
set_option linter.unusedSimpArgs false
structure Bs (bs : List Int) : Prop where
  len : bs.length ≤ 2000
  byte : ∀ x ∈ bs, 0 ≤ x ∧ x ≤ 255
theorem byte_wf {x : Int} (h : (Lit.int .u8 x).wf = true) : 0 ≤ x ∧ x ≤ 255 := by
  have h1 : IntKind.u8.min = 0 := rfl
  have h2 : IntKind.u8.max = 255 := rfl
  simp [Lit.wf] at h
  omega
theorem open_ev (l0 : List Int) (h : ∀ x ∈ l0, (Lit.int .u8 x).wf = true) : ∃ bs, Bs bs ∧ spec_l6Open.f l0 = some (bs, 0) := by
  unfold spec_l6Open.f
  by_cases c : (l0.length : Int) > 2000
  · refine ⟨l0.take 2000, ⟨List.length_take_le _ _, fun x hx => byte_wf (h x (List.mem_of_mem_take hx))⟩, ?_⟩
    rw [if_pos c, if_pos (by omega)]
  · exact ⟨l0, ⟨by omega, fun x hx => byte_wf (h x hx)⟩, by rw [if_neg c]⟩
theorem rd_byte {bs : List Int} (h : Bs bs) (i : Nat) : ∃ b : Nat, b ≤ 255 ∧ rd bs (i : Int) = b := by
  have hx : 0 ≤ rd bs (i : Int) ∧ rd bs (i : Int) ≤ 255 := by
    unfold rd
    rw [Int.toNat_natCast]
    by_cases c : i < bs.length
    · have : bs.getD i 0 = bs[i] := by simp [List.getD, c]
      rw [this]
      exact h.byte _ (List.getElem_mem c)
    · have : bs.getD i 0 = 0 := by simp [List.getD, List.getElem?_eq_none (show bs.length ≤ i by omega)]
      rw [this]; omega
  obtain ⟨b, hb⟩ := Int.eq_ofNat_of_zero_le hx.1
  exact ⟨b, by omega, hb⟩
theorem xor_nat (a b : Nat) (ha : a < 2 ^ 62) (hb : b < 2 ^ 62) : Go.bits .xor .i64 (a : Int) (b : Int) = ((a ^^^ b : Nat) : Int) := by
  have h64 : IntKind.i64.bits = 64 := rfl
  have ha' : a % 2 ^ 64 = a := Nat.mod_eq_of_lt (by omega)
  have hb' : b % 2 ^ 64 = b := Nat.mod_eq_of_lt (by omega)
  have hx : a ^^^ b < 2 ^ 62 := Nat.xor_lt_two_pow ha hb
  simp only [Go.bits, h64, BitVec.ofInt_natCast, BitVec.toNat_xor, BitVec.toNat_ofNat, ha', hb']
  rw [IntKind.wrap_i64]
  omega
theorem pick_ev {bs : List Int} (h : Bs bs) (p n : Nat) (hp : p ≤ 1000000) (hn : 1 ≤ n) (hn2 : n ≤ 1000000) : ∃ v : Nat, v < n ∧ Ev (fun k => spec_l6Rd_pick.f k bs p n) ((v : Int), ((p + 1 : Nat) : Int)) := by
  have hl := h.len
  have e1 : wrap64 (((p + 1 : Nat) : Int) - 1) = (p : Nat) := by rw [wr (by omega) (by omega)]; omega
  have pos : ∀ v : Nat, Ev (fun k => spec_l6Rd_pick.j0 k n ((bs.length : Int) == 0) bs ((p + 1 : Nat) : Int)) ((v : Int), ((p + 1 : Nat) : Int)) → Ev (fun k => spec_l6Rd_pick.f k bs p n) ((v : Int), ((p + 1 : Nat) : Int)) := by
    intro v hv
    refine Ev.congr (fun k => ?_) hv
    unfold spec_l6Rd_pick.f
    rw [if_neg (by omega), wr1 (by omega)]
  by_cases c0 : bs.length = 0
  · refine ⟨0, by omega, pos 0 (Ev.end fun k => ?_)⟩
    simp only [spec_l6Rd_pick.j0]
    rw [if_pos (by rw [c0]; rfl)]
    rfl
  · have hne : ¬ (((bs.length : Int) == 0) = true) := by simp; intro h; exact c0 (by simp [h])
    by_cases c : p < bs.length
    · obtain ⟨b, hb, eb⟩ := rd_byte h p
      refine ⟨b % n, Nat.mod_lt _ (by omega), pos _ (Ev.end fun k => ?_)⟩
      simp only [spec_l6Rd_pick.j0]
      rw [if_neg hne, e1, if_pos (by omega), if_pos (by omega), if_neg (by omega), eb, wr (by omega) (by omega), tmod_nat]
    · have hm1 := Nat.mod_lt p (show bs.length > 0 by omega)
      have hm2 := Nat.mod_lt (p * 7 + 3) (show bs.length > 0 by omega)
      obtain ⟨b1, hb1, eb1⟩ := rd_byte h (p % bs.length)
      obtain ⟨b2, hb2, eb2⟩ := rd_byte h ((p * 7 + 3) % bs.length)
      have hd := Nat.div_le_self p bs.length
      have hx : b1 * 131 + b2 * 1117 + p * 29 + p / bs.length * 53 ≤ 100000000 := by omega
      refine ⟨((b1 * 131 + b2 * 1117 + p * 29 + p / bs.length * 53) ^^^ ((b1 * 131 + b2 * 1117 + p * 29 + p / bs.length * 53) / 64)) % n, Nat.mod_lt _ (by omega), pos _ (Ev.end fun k => ?_)⟩
      simp only [spec_l6Rd_pick.j0]
      have e7 : wrap64 (wrap64 (((p : Nat) : Int) * 7) + 3) = ((p * 7 + 3 : Nat) : Int) := by rw [wr (x := (p : Int) * 7) (by omega) (by omega), wr (by omega) (by omega)]; omega
      rw [if_neg hne, e1, if_neg (by omega), if_neg (by omega), e7, tmod_nat, tmod_nat, if_pos (by omega), if_pos (by omega), if_pos (by omega), if_pos (by omega), if_neg (by omega), eb1, eb2, tdiv_nat]
      have hX : wrap64 (wrap64 (wrap64 (wrap64 (wrap64 (b1 : Int) * 131) + wrap64 (wrap64 (b2 : Int) * 1117)) + wrap64 ((p : Int) * 29)) + wrap64 (wrap64 ((p / bs.length : Nat) : Int) * 53)) = ((b1 * 131 + b2 * 1117 + p * 29 + p / bs.length * 53 : Nat) : Int) := by
        generalize p / bs.length = q at *
        rw [wr (x := (b1 : Int)) (by omega) (by omega), wr (x := (b2 : Int)) (by omega) (by omega), wr (x := (b1 : Int) * 131) (by omega) (by omega), wr (x := (b2 : Int) * 1117) (by omega) (by omega), wr (x := (p : Int) * 29) (by omega) (by omega), wr (x := (q : Int)) (by omega) (by omega), wr (x := (q : Int) * 53) (by omega) (by omega), wr (x := (b1 : Int) * 131 + (b2 : Int) * 1117) (by omega) (by omega), wr (x := (b1 : Int) * 131 + (b2 : Int) * 1117 + (p : Int) * 29) (by omega) (by omega), wr (by omega) (by omega)]
        omega
      rw [hX]
      generalize b1 * 131 + b2 * 1117 + p * 29 + p / bs.length * 53 = X at hx
      have hq : wrap64 (Int.tdiv (X : Int) 64) = ((X / 64 : Nat) : Int) := by
        rw [show (64 : Int) = ((64 : Nat) : Int) from rfl, tdiv_nat, wr (by omega) (by omega)]
      rw [hq, xor_nat _ _ (by omega) (by omega), tmod_nat]

theorem signs_draw_l0 {bs : List Int} (h : Bs bs) (c : Nat) : ∀ (acc : List Int) (p : Nat), p + c ≤ 1000000 → acc.length + c ≤ 1000000 →
    ∃ s : ByteArray, s.size = acc.length + c ∧ Ev (fun k => spec_l91Signs.l0 k acc c bs p) (s, ((p + c : Nat) : Int)) := by
  induction c with
  | zero =>
    intro acc p hp ha
    refine ⟨strOfNums acc, strOfNums_size acc, Ev.end fun k => ?_⟩
    simp only [spec_l91Signs.l0]
    rw [if_neg (by omega)]; rfl
  | succ c ih =>
    intro acc p hp ha
    obtain ⟨v, hv, e⟩ := pick_ev h p 2 (by omega) (by omega) (by omega)
    obtain ⟨s, hs, es⟩ := ih (acc ++ [(wrap64 (48 + (v : Int))) % 256]) (p + 1) (by omega) (by rw [List.length_append, List.length_singleton]; omega)
    rw [List.length_append, List.length_singleton] at hs
    refine ⟨s, by omega, Ev.step (f := fun k => (spec_l6Rd_pick.f k bs p 2).bind fun x => if acc.length < 140737488355328 then spec_l91Signs.l0 k (acc ++ [(wrap64 (48 + x.1)) % 256]) (c : Nat) bs x.2 else none) (fun k => ?_) (Ev.bind e ?_)⟩
    · simp only [spec_l91Signs.l0]
      rw [if_pos (by omega), wr (x := ((c + 1 : Nat) : Int) - 1) (by omega) (by omega), show ((c + 1 : Nat) : Int) - 1 = (c : Int) from by omega]
    · simp only [if_pos (show acc.length < 140737488355328 from by omega)]
      rw [show p + (c + 1) = p + 1 + c from by omega]
      exact es
theorem signs_draw {bs : List Int} (h : Bs bs) (p low many : Nat) (hp : p ≤ 100000) (hl : low ≤ 1000) (hm : 1 ≤ many) (hm2 : many ≤ 1000) :
    ∃ (s : ByteArray) (q : Nat), s.size ≤ low + many ∧ q ≤ p + 1 + low + many ∧ Ev (fun k => spec_l91Signs.f k bs p low many) (s, (q : Int)) := by
  obtain ⟨v, hv, e⟩ := pick_ev h p many (by omega) hm (by omega)
  obtain ⟨s, hs, es⟩ := signs_draw_l0 h (low + v) [] (p + 1) (by omega) (by simp; omega)
  simp only [List.length_nil] at hs
  refine ⟨s, p + 1 + (low + v), by omega, by omega, ?_⟩
  unfold spec_l91Signs.f
  refine Ev.bind e ?_
  simp only [show wrap64 ((low : Int) + (v : Int)) = ((low + v : Nat) : Int) from by rw [wr (by omega) (by omega)]; omega]
  exact es

theorem set_draw {bs : List Int} (h : Bs bs) (p : Nat) (hp : p ≤ 50000) : ∃ (s : ByteArray) (q : Nat), s.size ≤ 100 ∧ q ≤ p + 100 ∧ Ev (fun k => spec_l91Set.f k bs p) (s, (q : Int)) := by
  obtain ⟨s1, p1, hs1, hp1, e1⟩ := signs_draw h p 0 6 (by omega) (by omega) (by omega) (by omega)
  obtain ⟨s2, p2, hs2, hp2, e2⟩ := signs_draw h p1 1 5 (by omega) (by omega) (by omega) (by omega)
  obtain ⟨v, hv, e3⟩ := pick_ev h p2 24 (by omega) (by omega) (by omega)
  have z1 : (⟨#[40]⟩ : ByteArray).size = 1 := rfl
  have z2 : (⟨#[41]⟩ : ByteArray).size = 1 := rfl
  have z3 : (⟨#[40, 48, 41]⟩ : ByteArray).size = 3 := rfl
  have key : ∃ (s : ByteArray) (q : Nat), s.size ≤ 100 ∧ q ≤ p + 100 ∧ Ev (fun k => if (v : Int) = 0 then ((some (([(⟨#[]⟩ : ByteArray), (⟨#[48]⟩ : ByteArray), (⟨#[40, 41]⟩ : ByteArray), (⟨#[49, 40]⟩ : ByteArray), (⟨#[40, 48, 41, 41]⟩ : ByteArray), (⟨#[97, 40, 49, 41]⟩ : ByteArray), (⟨#[40, 49, 41, 48]⟩ : ByteArray), (⟨#[48, 49, 40, 48, 50, 41]⟩ : ByteArray), (⟨#[48, 40, 40, 49, 41]⟩ : ByteArray)] : List ByteArray) : List ByteArray)).bind fun y => ((spec_l6Rd_pick.f k bs ((p2 + 1 : Nat) : Int) 9).bind fun x => (if 0 ≤ x.1 then (if x.1 < (y.length : Int) then (some (rdOf ByteArray.empty y x.1, x.2)) else (none)) else (none)))) else (if (v : Int) = 1 then ((spec_l91Signs.f k bs ((p2 + 1 : Nat) : Int) 0 6).bind fun x => (if x.1.size + 3 ≤ 9223372036854775807 then (some (x.1 ++ (⟨#[40, 48, 41]⟩ : ByteArray), x.2)) else (none))) else (if (v : Int) = 2 then (if 1 ≤ ((((s1 ++ (⟨#[40]⟩ : ByteArray)) ++ s2) ++ (⟨#[41]⟩ : ByteArray)).size : Int) then (if 1 + ((((s1 ++ (⟨#[40]⟩ : ByteArray)) ++ s2) ++ (⟨#[41]⟩ : ByteArray)).extract 1 (((s1 ++ (⟨#[40]⟩ : ByteArray)) ++ s2) ++ (⟨#[41]⟩ : ByteArray)).size).size ≤ 9223372036854775807 then (some ((⟨#[40]⟩ : ByteArray) ++ ((((s1 ++ (⟨#[40]⟩ : ByteArray)) ++ s2) ++ (⟨#[41]⟩ : ByteArray)).extract 1 (((s1 ++ (⟨#[40]⟩ : ByteArray)) ++ s2) ++ (⟨#[41]⟩ : ByteArray)).size), ((p2 + 1 : Nat) : Int))) else (none)) else (none)) else (some (((s1 ++ (⟨#[40]⟩ : ByteArray)) ++ s2) ++ (⟨#[41]⟩ : ByteArray), ((p2 + 1 : Nat) : Int)))))) (s, (q : Int)) := by
    by_cases c0 : v = 0
    · obtain ⟨u, hu, e4⟩ := pick_ev h (p2 + 1) 9 (by omega) (by omega) (by omega)
      refine ⟨rdOf ByteArray.empty [(⟨#[]⟩ : ByteArray), (⟨#[48]⟩ : ByteArray), (⟨#[40, 41]⟩ : ByteArray), (⟨#[49, 40]⟩ : ByteArray), (⟨#[40, 48, 41, 41]⟩ : ByteArray), (⟨#[97, 40, 49, 41]⟩ : ByteArray), (⟨#[40, 49, 41, 48]⟩ : ByteArray), (⟨#[48, 49, 40, 48, 50, 41]⟩ : ByteArray), (⟨#[48, 40, 40, 49, 41]⟩ : ByteArray)] (u : Int), p2 + 1 + 1, ?_, by omega, ?_⟩
      · have : u = 0 ∨ u = 1 ∨ u = 2 ∨ u = 3 ∨ u = 4 ∨ u = 5 ∨ u = 6 ∨ u = 7 ∨ u = 8 := by omega
        rcases this with rfl | rfl | rfl | rfl | rfl | rfl | rfl | rfl | rfl <;> decide
      · simp only [if_pos (show (v : Int) = 0 from by omega), Option.bind_some]
        refine Ev.bind e4 (Ev.const fun k => ?_)
        rw [if_pos (by omega), if_pos (by simp; omega)]
    · simp only [if_neg (show ¬ (v : Int) = 0 from by omega)]
      by_cases c1 : v = 1
      · obtain ⟨s4, p4, hs4, hp4, e4⟩ := signs_draw h (p2 + 1) 0 6 (by omega) (by omega) (by omega) (by omega)
        refine ⟨s4 ++ ⟨#[40, 48, 41]⟩, p4, by rw [ByteArray.size_append, z3]; omega, by omega, ?_⟩
        simp only [if_pos (show (v : Int) = 1 from by omega)]
        refine Ev.bind e4 (Ev.const fun k => ?_)
        rw [if_pos (by show s4.size + 3 ≤ 9223372036854775807; omega)]
      · simp only [if_neg (show ¬ (v : Int) = 1 from by omega)]
        have hsz : (((s1 ++ (⟨#[40]⟩ : ByteArray)) ++ s2) ++ (⟨#[41]⟩ : ByteArray)).size = s1.size + 1 + s2.size + 1 := by
          rw [ByteArray.size_append, ByteArray.size_append, ByteArray.size_append, z1, z2]
        by_cases c2 : v = 2
        · simp only [if_pos (show (v : Int) = 2 from by omega)]
          have hx : ((((s1 ++ (⟨#[40]⟩ : ByteArray)) ++ s2) ++ (⟨#[41]⟩ : ByteArray)).extract 1 (((s1 ++ (⟨#[40]⟩ : ByteArray)) ++ s2) ++ (⟨#[41]⟩ : ByteArray)).size).size = s1.size + 1 + s2.size := by
            rw [ext_size _ _ _ (Nat.le_refl _), hsz]; omega
          refine ⟨(⟨#[40]⟩ : ByteArray) ++ ((((s1 ++ (⟨#[40]⟩ : ByteArray)) ++ s2) ++ (⟨#[41]⟩ : ByteArray)).extract 1 (((s1 ++ (⟨#[40]⟩ : ByteArray)) ++ s2) ++ (⟨#[41]⟩ : ByteArray)).size), p2 + 1, ?_, by omega, Ev.const fun k => ?_⟩
          · rw [ByteArray.size_append, z1, hx]; omega
          · rw [if_pos (by omega), if_pos (by omega)]
        · simp only [if_neg (show ¬ (v : Int) = 2 from by omega)]
          exact ⟨_, p2 + 1, by rw [hsz]; omega, by omega, Ev.now _⟩
  obtain ⟨s, q, g1, g2, g3⟩ := key
  refine ⟨s, q, g1, g2, ?_⟩
  unfold spec_l91Set.f
  refine Ev.bind e1 ?_
  simp only [if_pos (show s1.size + 1 ≤ 9223372036854775807 from by omega)]
  refine Ev.bind e2 ?_
  have w1 : s1.size + 1 + s2.size ≤ 9223372036854775807 := by omega
  have w2 : s1.size + 1 + s2.size + 1 ≤ 9223372036854775807 := by omega
  simp only [if_pos w1, if_pos w2]
  exact Ev.bind e3 g3

end Go.Proofs.YtinjblbfaijhdaaDoor.Q
