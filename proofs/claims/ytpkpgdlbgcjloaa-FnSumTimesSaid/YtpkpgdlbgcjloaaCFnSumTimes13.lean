/- The law FnSumTimes holds for all that it draws. -/
import Derived.Test.YtpkpgdlbgcjloaaCFnSumTimes9
import Derived.Test.YtpkpgdlbgcjloaaCFnSumTimes11
import Derived.Test.YtpkpgdlbgcjloaaCFnSumTimes12
namespace Go.Proofs.Ytpkpgdlbgcjloaa.Q
open Go.RowKit Go.Proofs.YtpkpgdlbgcjloaaW.PrintWords Go.Proofs.YtpkpgdlbgcjloaaW.PrintLast Go.Proofs.YtpkpgdlbgcjloaaW.PrintMore
open Go.Proofs.Ytpkpgdlbgcjloaa.Pl
set_option linter.unusedVariables false
set_option linter.unusedSimpArgs false
theorem number_draw {bs : List Int} (h : Bs bs) (p n : Nat) (hp : p ≤ 50000) (hn : n ≤ 100000) : ∃ (v : Int) (q : Nat), -1 ≤ v ∧ v ≤ n + 1 ∧ q ≤ p + 2 ∧ Ev (fun k => spec_l91Number.f k bs p n) (v, (q : Int)) := by
  obtain ⟨v, hv, e1⟩ := pick_ev h p 16 (by omega) (by omega) (by omega)
  by_cases c : v = 0
  · obtain ⟨u, hu, e2⟩ := pick_ev h (p + 1) 3 (by omega) (by omega) (by omega)
    have hw : wrap64 ((n : Int) + 1) = n + 1 := wr (by omega) (by omega)
    refine ⟨rd [(-1), (n : Int), wrap64 ((n : Int) + 1)] (u : Int), p + 1 + 1, ?_, ?_, by omega, ?_⟩
    · have : u = 0 ∨ u = 1 ∨ u = 2 := by omega
      rw [hw]
      rcases this with rfl | rfl | rfl <;> simp [rd] <;> omega
    · have : u = 0 ∨ u = 1 ∨ u = 2 := by omega
      rw [hw]
      rcases this with rfl | rfl | rfl <;> simp [rd] <;> omega
    · unfold spec_l91Number.f
      refine Ev.bind e1 ?_
      simp only [if_pos (show (v : Int) = 0 from by omega), Option.bind_some]
      refine Ev.bind e2 (Ev.const fun k => ?_)
      rw [if_pos (by omega), if_pos (by simp; omega)]
  · have hm : wrap64 (mn (n : Int) 30 + 1) = ((min n 30 + 1 : Nat) : Int) := by
      have : mn (n : Int) 30 = ((min n 30 : Nat) : Int) := by unfold mn; split <;> omega
      rw [this, wr1 (by omega)]
    obtain ⟨u, hu, e2⟩ := pick_ev h (p + 1) (min n 30 + 1) (by omega) (by omega) (by omega)
    refine ⟨u, p + 1 + 1, by omega, by omega, by omega, ?_⟩
    unfold spec_l91Number.f
    refine Ev.bind e1 ?_
    simp only [if_neg (show ¬ (v : Int) = 0 from by omega), hm]
    exact Ev.bind e2 (Ev.now _)
theorem drawSumTimes_ev (l0 : List Int) (h : ∀ x ∈ l0, (Lit.int .u8 x).wf = true) : ∃ (s : ByteArray) (n : Int), s.size ≤ 1000 ∧ -1 ≤ n ∧ n ≤ 7 ∧ Ev (fun k => spec_DrawSumTimes.f k l0) (s, n) := by
  obtain ⟨bs, hb, eo⟩ := open_ev l0 h
  obtain ⟨s, q, g1, g2, g3⟩ := set_draw hb 0 (by omega)
  obtain ⟨n, q2, k1, k2, k3, k4⟩ := number_draw hb q 6 (by omega) (by omega)
  refine ⟨s, n, by omega, by omega, by omega, ?_⟩
  unfold spec_DrawSumTimes.f
  rw [eo]; simp only [Option.bind_some]
  exact Ev.bind g3 (Ev.bind k4 (Ev.now _))
/-- Two sets that are not both small. -/
def NoTwo (s u : ByteArray) : Prop := (NoSmall s ∨ ∃ t r, IsSmall s t r) ∧ (NoSmall u ∨ ∃ t r, IsSmall u t r) ∧ (NoSmall s ∨ NoSmall u)
theorem two_cases (s u : ByteArray) (hs : s.size ≤ 1073741824) (hu : u.size ≤ 1073741824) : NoTwo s u ∨ ∃ ta ra tb rb, IsSmall s ta ra ∧ IsSmall u tb rb := by
  have cs := small_cases s hs
  have cu := small_cases u hu
  rcases cs with h | ⟨t, r, h⟩
  · exact .inl ⟨.inl h, cu, .inl h⟩
  · rcases cu with g | ⟨t', r', g⟩
    · exact .inl ⟨.inr ⟨t, r, h⟩, .inl g, .inr g⟩
    · exact .inr ⟨t, r, t', r', h, g⟩
/-- The states of the loop: each is empty or the text of a set. -/
def Text (x : ByteArray × Bool) : Prop := x = empt ∨ ∃ t r, Canon t r ∧ Good t r ∧ x = (text t r, true)
theorem Text.of {f : Nat → Bool} {x : ByteArray × Bool} (h : Told f x) : Text x := by
  cases c : x.2 with
  | false => exact .inl (h.no c)
  | true =>
    obtain ⟨t, r, h1, h2, h3, h4⟩ := h.yes c
    exact .inr ⟨t, r, h1, h2, h4⟩
theorem sumOf_any (s u : ByteArray) (hs : s.size ≤ 1073741824) (hu : u.size ≤ 1073741824) : ∃ x, Ev (fun k => impl_SumOf.f k s u) x ∧ Ev (fun k => spec_SumOf.f k s u) x ∧ Text x := by
  rcases two_cases s u hs hu with ⟨h1, h2, h3⟩ | ⟨ta, ra, tb, rb, h, h2⟩
  · obtain ⟨e1, e2⟩ := sumOf_no h1 h2 h3
    exact ⟨_, e1, e2, .inl rfl⟩
  · obtain ⟨x, x1, x2, x3⟩ := sumOf_both h h2
    exact ⟨x, x1, x2, Text.of x3⟩
theorem Text.small {x : ByteArray × Bool} (h : Text x) : x.1.size ≤ 1073741824 := by
  rcases h with rfl | ⟨t, r, h1, h2, rfl⟩
  · show (0 : Nat) ≤ _; omega
  · have := text_size t r
    have a := h2.tl
    have b := h2.rl
    show (text t r).size ≤ _; omega
/-- What d more sums make of a state. -/
def Made (s : ByteArray) : Nat → ByteArray × Bool → ByteArray × Bool → Prop
  | 0, x, y => y = x
  | d + 1, x, y => if x.2 = true then ∃ z, Ev (fun k => impl_SumOf.f k x.1 s) z ∧ Ev (fun k => spec_SumOf.f k x.1 s) z ∧ Made s d z y else y = empt
theorem made_some (s : ByteArray) (hs : s.size ≤ 1073741824) (d : Nat) : ∀ x, Text x → ∃ y, Made s d x y ∧ Text y := by
  induction d with
  | zero => exact fun x hx => ⟨x, rfl, hx⟩
  | succ d ih =>
    intro x hx
    by_cases c : x.2 = true
    · obtain ⟨z, z1, z2, z3⟩ := sumOf_any x.1 s hx.small hs
      obtain ⟨y, y1, y2⟩ := ih z z3
      exact ⟨y, by unfold Made; rw [if_pos c]; exact ⟨z, z1, z2, y1⟩, y2⟩
    · exact ⟨empt, by unfold Made; rw [if_neg c], .inl rfl⟩
theorem made_add (s : ByteArray) (d : Nat) : ∀ x y, Made s d x y → ∀ z, (if y.2 = true then Ev (fun k => impl_SumOf.f k y.1 s) z ∧ Ev (fun k => spec_SumOf.f k y.1 s) z else z = empt) → Made s (d + 1) x z := by
  induction d with
  | zero =>
    intro x y h z hz
    unfold Made at h ⊢
    subst h
    split
    · rename_i c
      rw [if_pos c] at hz
      exact ⟨z, hz.1, hz.2, rfl⟩
    · rename_i c
      rw [if_neg c] at hz
      exact hz
  | succ d ih =>
    intro x y h z hz
    unfold Made at h ⊢
    split
    · rename_i c
      rw [if_pos c] at h
      obtain ⟨w, w1, w2, w3⟩ := h
      exact ⟨w, w1, w2, ih w y w3 z hz⟩
    · rename_i c
      rw [if_neg c] at h
      subst h
      rw [if_neg (by simp)] at hz
      exact hz
theorem made_l0_impl (s : ByteArray) (n : Nat) (hn : n ≤ 100) (d : Nat) : ∀ (i : Nat) (x : ByteArray) (y : ByteArray × Bool), i + d = n → Made s d (x, true) y → (y.2 = false → y = empt) → Ev (fun k => impl_SumTimes.l0 k s x n (i : Nat)) y := by
  induction d with
  | zero =>
    intro i x y hi h _
    unfold Made at h
    subst h
    refine Ev.end fun k => ?_
    simp only [impl_SumTimes.l0]
    rw [if_neg (by omega)]
  | succ d ih =>
    intro i x y hi h hy
    unfold Made at h
    rw [if_pos rfl] at h
    obtain ⟨⟨z, o⟩, z1, z2, z3⟩ := h
    refine Ev.step (f := fun k => (impl_SumOf.f k x s).bind fun a => if a.2 = true then impl_SumTimes.l0 k s a.1 n (wrap64 ((i : Int) + 1)) else some empt) (fun k => by simp only [impl_SumTimes.l0]; rw [if_pos (by omega)]) ?_
    refine Ev.bind z1 ?_
    rw [wr1 (by omega)]
    cases o with
    | true => simp only [if_true]; exact ih (i + 1) z y (by omega) z3 hy
    | false =>
      have : y = empt := by
        cases d with
        | zero => unfold Made at z3; subst z3; exact hy rfl
        | succ d => unfold Made at z3; rw [if_neg (by simp)] at z3; exact z3
      subst this
      simp only [Bool.false_eq_true, if_false]
      exact Ev.now _
theorem made_l0_spec (s : ByteArray) (n : Nat) (hn : n ≤ 100) (d : Nat) : ∀ (i : Nat) (x : ByteArray) (y : ByteArray × Bool), i + d = n → Made s d (x, true) y → (y.2 = false → y = empt) → Ev (fun k => spec_SumTimes.l0 k s n x (i : Nat)) y := by
  induction d with
  | zero =>
    intro i x y hi h _
    unfold Made at h
    subst h
    refine Ev.end fun k => ?_
    simp only [spec_SumTimes.l0]
    rw [if_neg (by omega)]
  | succ d ih =>
    intro i x y hi h hy
    unfold Made at h
    rw [if_pos rfl] at h
    obtain ⟨⟨z, o⟩, z1, z2, z3⟩ := h
    refine Ev.step (f := fun k => (spec_SumOf.f k x s).bind fun a => if a.2 = true then spec_SumTimes.l0 k s n a.1 (wrap64 ((i : Int) + 1)) else some empt) (fun k => by simp only [spec_SumTimes.l0]; rw [if_pos (by omega)]) ?_
    refine Ev.bind z2 ?_
    rw [wr1 (by omega)]
    cases o with
    | true => simp only [if_true]; exact ih (i + 1) z y (by omega) z3 hy
    | false =>
      have : y = empt := by
        cases d with
        | zero => unfold Made at z3; subst z3; exact hy rfl
        | succ d => unfold Made at z3; rw [if_neg (by simp)] at z3; exact z3
      subst this
      simp only [Bool.false_eq_true, if_false]
      exact Ev.now _
abbrev one : ByteArray × Bool := ((⟨#[49, 40, 48, 41]⟩ : ByteArray), true)
theorem text_of_no {y : ByteArray × Bool} (h : Text y) (e : y.2 = false) : y = empt := by
  rcases h with h | ⟨t, r, _, _, rfl⟩
  · exact h
  · cases e
theorem sumTimes_yes {s : ByteArray} {t r : List Bool} (h : IsSmall s t r) (n : Nat) (hn : n ≤ 6) {y : ByteArray × Bool} (hy : Made s n one y) (ht : Text y) : Ev (fun k => impl_SumTimes.f k s n) y ∧ Ev (fun k => spec_SumTimes.f k s n) y := by
  have k1 := made_l0_impl s n (by omega) n 0 one.1 y (by omega) hy (text_of_no ht)
  have k2 := made_l0_spec s n (by omega) n 0 one.1 y (by omega) hy (text_of_no ht)
  have i1 : impl_in.f (n : Int) 0 6 = some true := by rw [in_eq', decide_eq_true (by omega)]
  have i2 : spec_l6In.f (n : Int) 0 6 = some true := by rw [l6In_eq', decide_eq_true (by omega)]
  constructor
  · unfold impl_SumTimes.f
    refine Ev.bind h.impl ?_
    simp only [if_true, i1, Option.bind_some]
    exact Ev.step (fun k => by simp only [impl_SumTimes.j0, Bool.not_true, Bool.false_eq_true, if_false]; rfl) k1
  · unfold spec_SumTimes.f
    refine Ev.bind h.spec ?_
    simp only [if_true, i2, Option.bind_some]
    exact Ev.step (fun k => by simp only [spec_SumTimes.j0, Bool.not_true, Bool.false_eq_true, if_false]; rfl) k2
theorem sumTimes_no {s : ByteArray} {n : Int} (hs : NoSmall s ∨ ∃ t r, IsSmall s t r) (h : NoSmall s ∨ ¬ (0 ≤ n ∧ n ≤ 6)) : Ev (fun k => impl_SumTimes.f k s n) empt ∧ Ev (fun k => spec_SumTimes.f k s n) empt := by
  have f1 : ∀ x : Bool, x = true → Ev (fun k => impl_SumTimes.j0 k s n x) empt := fun x hx => Ev.end fun k => by simp only [impl_SumTimes.j0]; rw [if_pos hx]
  have f2 : ∀ x : Bool, x = true → Ev (fun k => spec_SumTimes.j0 k s n x) empt := fun x hx => Ev.end fun k => by simp only [spec_SumTimes.j0]; rw [if_pos hx]
  rcases hs with g | ⟨t, r, g⟩
  · obtain ⟨⟨a, b, e1⟩, ⟨c, d, e2⟩⟩ := g
    constructor
    · unfold impl_SumTimes.f
      refine Ev.bind e1 ?_
      simp only [Bool.false_eq_true, if_false]
      exact f1 _ rfl
    · unfold spec_SumTimes.f
      refine Ev.bind e2 ?_
      simp only [Bool.false_eq_true, if_false]
      exact f2 _ rfl
  · have hn : ¬ (0 ≤ n ∧ n ≤ 6) := by
      rcases h with h | h
      · obtain ⟨⟨a, b, e1⟩, _⟩ := h
        have := Ev.unique e1 g.impl
        simp at this
      · exact h
    have i1 : impl_in.f n 0 6 = some false := by rw [in_eq', decide_eq_false hn]
    have i2 : spec_l6In.f n 0 6 = some false := by rw [l6In_eq', decide_eq_false hn]
    constructor
    · unfold impl_SumTimes.f
      refine Ev.bind g.impl ?_
      simp only [if_true, i1, Option.bind_some]
      exact f1 _ rfl
    · unfold spec_SumTimes.f
      refine Ev.bind g.spec ?_
      simp only [if_true, i2, Option.bind_some]
      exact f2 _ rfl

end Go.Proofs.Ytpkpgdlbgcjloaa.Q

namespace Go.Proofs.Ytpkpgdlbgcjloaa.Pure
open Go.RowKit Go.Proofs.Ytpkpgdlbgcjloaa.Q Go.Proofs.YtpkpgdlbgcjloaaW.PrintWords Go.Proofs.YtpkpgdlbgcjloaaW.PrintLast
open Go.Proofs.Ytpkpgdlbgcjloaa.Pl
set_option linter.unusedSimpArgs false
set_option linter.unusedVariables false
theorem FnSumTimes : laws_FnSumTimes.Pure := by
  intro l0 h1 h2 h
  by_cases hz : (l0.length : Int) > 1048576
  · exact ⟨0, by unfold laws_FnSumTimes.f; rw [if_pos hz]⟩
  obtain ⟨s, n, hs, n1, n2, hd⟩ := drawSumTimes_ev l0 h
  refine Ev.rounds ?_
  unfold laws_FnSumTimes.f
  refine Ev.eq (funext fun k => if_neg hz) (Ev.bind hd ?_)
  have cs := small_cases s (by omega)
  by_cases hx : NoSmall s ∨ ¬ (0 ≤ n ∧ n ≤ 6)
  · obtain ⟨e1, e2⟩ := sumTimes_no cs hx
    refine Ev.bind e1 (Ev.bind e2 (Ev.eq (funext fun k => if_pos rfl) ?_))
    exact Ev.step (f := fun k => laws_FnSumTimes.j1 k s n empt.1 true true) (fun k => by simp only [laws_FnSumTimes.j0, beq_self_eq_true, if_true, Bool.not_false]) (Ev.end fun k => by simp only [laws_FnSumTimes.j1, if_true])
  · rcases cs with g | ⟨t, r, g⟩
    · exact absurd (.inl g) hx
    have hn : 0 ≤ n ∧ n ≤ 6 := Decidable.byContradiction fun k => hx (.inr k)
    obtain ⟨m, rfl⟩ : ∃ m : Nat, n = (m : Int) := ⟨n.toNat, by omega⟩
    have tone : Text one := .inr ⟨[true], [false], canon_one, ⟨by decide, by decide, by decide⟩, by rw [text_one]⟩
    -- what is made one step before, and the step
    have key : ∃ y z w : ByteArray × Bool, (Ev (fun k => impl_SumTimes.f k s m) y ∧ Ev (fun k => spec_SumTimes.f k s m) y) ∧ Ev (fun k => impl_SumTimes.f k s (wrap64 ((m : Int) - 1))) z ∧ Ev (fun k => impl_SumOf.f k z.1 s) w ∧ (z.2 = true → w = y) ∧ (m = 0 → y = one) ∧ (m = 1 → y.2 = true → Ev (fun k => impl_SetSame.f k y.1 s) true) := by
      cases m with
      | zero =>
        have hy : Made s 0 one one := rfl
        obtain ⟨e1, _⟩ := sumTimes_no (n := wrap64 (((0 : Nat) : Int) - 1)) (.inr ⟨t, r, g⟩) (.inr (by rw [wr (by omega) (by omega)]; omega))
        obtain ⟨w, w1, _⟩ := sumOf_any empt.1 s (Text.small (x := empt) (.inl rfl)) (by omega)
        exact ⟨one, empt, w, sumTimes_yes g 0 (by omega) hy tone, e1, w1, (fun h => by cases h), (fun _ => rfl), (fun h => by cases h)⟩
      | succ m =>
        obtain ⟨z, z1, z2⟩ := made_some s (by omega) m one tone
        obtain ⟨w, w1, w2, w3⟩ := sumOf_any z.1 s z2.small (by omega)
        have e : wrap64 (((m + 1 : Nat) : Int) - 1) = (m : Int) := by rw [wr (by omega) (by omega)]; omega
        by_cases c : z.2 = true
        · have hy : Made s (m + 1) one w := made_add s m one z z1 w (by rw [if_pos c]; exact ⟨w1, w2⟩)
          refine ⟨w, z, w, sumTimes_yes g (m + 1) (by omega) hy w3, by rw [e]; exact (sumTimes_yes g m (by omega) z1 z2).1, w1, (fun _ => rfl), (fun h => by omega), fun h => ?_⟩
          obtain rfl : m = 0 := by omega
          intro hw
          have z0 : z = one := z1
          subst z0
          have s1 : IsSmall one.1 [true] [false] := by
            have a := text_isSet (t := [true]) (r := [false]) ⟨by decide, by decide, by decide⟩
            exact small_len a (tidied_self canon_one ⟨by decide, by decide, by decide⟩) (by decide) (by decide)
          obtain ⟨v, v1, _, v3⟩ := sumOf_both s1 g
          obtain rfl := Ev.unique w1 v1
          obtain ⟨t', r', a1, a2, a3, a4⟩ := v3.yes hw
          obtain ⟨t0, r0, q, q'⟩ := g.has
          rw [a4]
          refine setSame_ev (text_isSet a2) q (fun n => ?_)
          rw [a3, q', Bool.eq_iff_iff, sumB_iff]
          constructor
          · rintro ⟨k, k1, k2, k3⟩
            rw [has_one, decide_eq_true_iff] at k2
            subst k2
            exact k3
          · intro hk
            exact ⟨0, Nat.zero_le _, by rw [has_one]; rfl, hk⟩
        · have hy : Made s (m + 1) one empt := made_add s m one z z1 empt (by rw [if_neg c])
          exact ⟨empt, z, w, sumTimes_yes g (m + 1) (by omega) hy (.inl rfl), by rw [e]; exact (sumTimes_yes g m (by omega) z1 z2).1, w1, (fun h => absurd h c), (fun h => by omega), (fun _ h => by cases h)⟩
    obtain ⟨y, z, w, ⟨y1, y2⟩, z1, w1, k1, k2, k3⟩ := key
    refine Ev.bind y1 (Ev.bind y2 (Ev.eq (funext fun k => if_pos rfl) ?_))
    refine Ev.step (f := fun k => laws_FnSumTimes.j1 k s m y.1 true (!y.2)) (fun k => by simp only [laws_FnSumTimes.j0, beq_self_eq_true, if_true]) ?_
    by_cases c : y.2 = true
    · have tail : Ev (fun k => if (m : Int) = 0 then (if y.1.toList = one.1.toList then (if (m : Int) = 1 then ((impl_SetSame.f k y.1 s).bind fun o => (some o)) else (some true)) else (some false)) else (if (m : Int) = 1 then ((impl_SetSame.f k y.1 s).bind fun o => (some o)) else (some true))) true := by
        by_cases c0 : m = 0
        · rw [k2 c0]
          refine Ev.const fun k => ?_
          rw [if_pos (by omega), if_pos rfl, if_neg (by omega)]
        · by_cases c1 : m = 1
          · refine Ev.eq (funext fun k => by rw [if_neg (by omega), if_pos (by omega)]) (Ev.bind (k3 c1 c) (Ev.now _))
          · exact Ev.const fun k => by rw [if_neg (by omega), if_neg (by omega)]
      refine Ev.step (f := fun k => (impl_SumTimes.f k s (wrap64 ((m : Int) - 1))).bind fun a => ((impl_SumOf.f k a.1 s).bind fun b => ((impl_SetOf.f k (([0] : List Int))).bind fun o => (if a.2 = true then (if b.2 = true then (if b.1.toList = y.1.toList then (if (m : Int) = 0 then (if y.1.toList = o.1.toList then (if (m : Int) = 1 then ((impl_SetSame.f k y.1 s).bind fun o => (some o)) else (some true)) else (some false)) else (if (m : Int) = 1 then ((impl_SetSame.f k y.1 s).bind fun o => (some o)) else (some true))) else (some false)) else (if (m : Int) = 0 then (if y.1.toList = o.1.toList then (if (m : Int) = 1 then ((impl_SetSame.f k y.1 s).bind fun o => (some o)) else (some true)) else (some false)) else (if (m : Int) = 1 then ((impl_SetSame.f k y.1 s).bind fun o => (some o)) else (some true)))) else (if (m : Int) = 0 then (if y.1.toList = o.1.toList then (if (m : Int) = 1 then ((impl_SetSame.f k y.1 s).bind fun o => (some o)) else (some true)) else (some false)) else (if (m : Int) = 1 then ((impl_SetSame.f k y.1 s).bind fun o => (some o)) else (some true))))))) (fun k => by simp only [laws_FnSumTimes.j1, c, Bool.not_true, Bool.false_eq_true, if_false]) ?_
      refine Ev.bind z1 (Ev.bind w1 (Ev.bind setOf_zero ?_))
      by_cases cz : z.2 = true
      · simp only [if_pos cz]
        by_cases cw : w.2 = true
        · simp only [if_pos cw]
          rw [k1 cz]
          simp only [if_true]
          exact tail
        · simp only [if_neg cw]; exact tail
      · simp only [if_neg cz]; exact tail
    · exact Ev.end fun k => by
        simp only [laws_FnSumTimes.j1]
        rw [if_pos (by cases k2 : y.2 with | false => rfl | true => exact absurd k2 c)]

end Go.Proofs.Ytpkpgdlbgcjloaa.Pure
