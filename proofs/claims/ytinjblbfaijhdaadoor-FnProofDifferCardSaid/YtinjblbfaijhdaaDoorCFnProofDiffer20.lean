/- The law FnProofDiffer holds for all that it draws. -/
import Derived.Test.YtinjblbfaijhdaaDoorCFnProofDiffer11
import Derived.Test.YtinjblbfaijhdaaDoorCFnProofDiffer12
import Derived.Test.YtinjblbfaijhdaaDoorCFnProofDiffer13
import Derived.Test.YtinjblbfaijhdaaDoorCFnProofDiffer14
import Derived.Test.YtinjblbfaijhdaaDoorCFnProofDiffer15
import Derived.Test.YtinjblbfaijhdaaDoorCFnProofDiffer17
import Derived.Test.YtinjblbfaijhdaaDoorCFnProofDiffer18
import Derived.Test.YtinjblbfaijhdaaDoorCFnProofDiffer19
namespace Go.Proofs.YtinjblbfaijhdaaDoor.Q
open Go.RowKit Go.Proofs.YtinjblbfaijhdaaDoorW.PrintWords Go.Proofs.YtinjblbfaijhdaaDoorW.PrintLast Go.Proofs.YtinjblbfaijhdaaDoorW.PrintMore
open Go.Proofs.YtinjblbfaijhdaaDoor.Pl
set_option linter.unusedVariables false
set_option linter.unusedSimpArgs false
theorem firstW_nospace : ∀ c ∈ first_.data.toList, c ≠ 32 := by decide
theorem secondW_nospace : ∀ c ∈ second_.data.toList, c ≠ 32 := by decide
theorem says_word {s w w' : List UInt8} {ns ns' : List Nat} (hw : ∀ c ∈ w, c ≠ 32) (hw' : ∀ c ∈ w', c ≠ 32) (h : Says s w ns) (h' : Says s w' ns') : w = w' := by
  have dn : ∀ ms : List Nat, ∀ d ∈ ms.map Lib.decDigits, ∀ c ∈ d, c ≠ 32 := fun ms d hd c hc => by
    obtain ⟨n, _, rfl⟩ := List.mem_map.1 hd
    exact dec_nospace n c hc
  have e1 := cut_text w (ns.map Lib.decDigits) hw (dn ns)
  have e2 := cut_text w' (ns'.map Lib.decDigits) hw' (dn ns')
  rw [← h.2] at e1
  rw [← h'.2, e1] at e2
  simp only [List.cons.injEq] at e2
  exact e2.1
theorem first_second {s : List UInt8} {ns ns' : List Nat} (h : Says s first_.data.toList ns) (h' : Says s second_.data.toList ns') : False :=
  absurd (says_word firstW_nospace secondW_nospace h h') (by decide)
/-- What both answer of one number. -/
theorem two_has {ta ra tb rb : List Bool} (g : Good ta ra) (g2 : Good tb rb) (c : Nat) (hc : c ≤ 99999) : ((impl_set_has.f ta ra (c : Int)).bind fun t => (if t = true then ((impl_set_has.f tb rb (c : Int)).bind fun t2 => (some (!t2))) else (some false))) = some (hasB ta ra c && !hasB tb rb c) := by
  rw [set_has g c (by omega), set_has g2 c (by omega)]
  cases hasB ta ra c <;> cases hasB tb rb c <;> rfl
theorem two_has1 {ta ra tb rb : List Bool} (g : Good ta ra) (g2 : Good tb rb) (c : Nat) (hc : c ≤ 99999) : ((spec_l1Has.f ta ra (c : Int)).bind fun t => (if t = true then ((spec_l1Has.f tb rb (c : Int)).bind fun t2 => (some (!t2))) else (some false))) = some (hasB ta ra c && !hasB tb rb c) := by
  rw [l1_has g c (by omega), l1_has g2 c (by omega)]
  cases hasB ta ra c <;> cases hasB tb rb c <;> rfl
theorem proofDifferIs_both (s u : ByteArray) (x : ByteArray) (hs : s.size ≤ 1073741824) (hu : u.size ≤ 1073741824) (hx : x.size ≤ 1073741824) : ∃ b : Bool, impl_ProofDifferIs.f s u x = some b ∧ Ev (fun k => spec_ProofDifferIs.f k s u x) b ∧
    (b = true → ∃ ta ra tb rb c, IsSet s ta ra ∧ IsSet u tb rb ∧ hasB ta ra c ≠ hasB tb rb c) ∧
    (∀ ta ra tb rb c, IsSet s ta ra → IsSet u tb rb → Says x.data.toList first_.data.toList [c] → hasB ta ra c = true → hasB tb rb c = false → b = true) ∧
    (∀ ta ra tb rb c, IsSet s ta ra → IsSet u tb rb → Says x.data.toList second_.data.toList [c] → hasB ta ra c = false → hasB tb rb c = true → b = true) := by
  obtain ⟨l1, b1, e1, i1, i1'⟩ := numbersOf_is x first_ hx firstW_nospace
  obtain ⟨l2, b2, e2, i2, i2'⟩ := numbersOf_is x second_ hx secondW_nospace
  obtain ⟨m1, c1, f1, j1, j1'⟩ := l11Read_is x first_ hx (by decide)
  obtain ⟨m2, c2, f2, j2, j2'⟩ := l11Read_is x second_ hx (by decide)
  have e1' : impl_numbersOf.f x (⟨#[102, 105, 114, 115, 116]⟩ : ByteArray) = some (l1, b1) := e1
  have e2' : impl_numbersOf.f x (⟨#[115, 101, 99, 111, 110, 100]⟩ : ByteArray) = some (l2, b2) := e2
  have uni : ∀ {v : ByteArray} {t r t' r' : List Bool}, IsSet v t r → IsSet v t' r' → t = t' ∧ r = r' := by
    intro v t r t' r' g g'
    have := g.impl.symm.trans g'.impl
    simp only [Option.some.injEq, Prod.mk.injEq] at this
    exact ⟨this.1, this.2.1⟩
  by_cases hno : NoSet s ∨ NoSet u
  · have hn : ∀ ta ra tb rb, IsSet s ta ra → IsSet u tb rb → False := by
      intro ta ra tb rb g g2
      rcases hno with ⟨⟨a, b, e⟩, _⟩ | ⟨⟨a, b, e⟩, _⟩
      · rw [g.impl] at e; simp at e
      · rw [g2.impl] at e; simp at e
    refine ⟨false, ?_, ?_, (fun h => by cases h), (fun _ _ _ _ _ g g2 => (hn _ _ _ _ g g2).elim), (fun _ _ _ _ _ g g2 => (hn _ _ _ _ g g2).elim)⟩
    · have i : ∀ w : ByteArray, (NoSet w ∨ ∃ t r, IsSet w t r) → ∃ a b o, impl_setOf.f w = some (a, b, o) ∧ (NoSet w → o = false) := by
        rintro w (k | ⟨t, r, k⟩)
        · obtain ⟨⟨a, b, e⟩, _⟩ := k
          exact ⟨a, b, false, e, fun _ => rfl⟩
        · refine ⟨t, r, true, k.impl, fun n => ?_⟩
          obtain ⟨⟨a, b, e⟩, _⟩ := n
          rw [k.impl] at e
          simp at e
      obtain ⟨a, b, o, h1, n1⟩ := i s (read_cases s hs)
      obtain ⟨a', b', o', h2, n2⟩ := i u (read_cases u hu)
      unfold impl_ProofDifferIs.f
      rw [h1, h2, e1', e2']
      simp only [Option.bind_some]
      rcases hno with h | h
      · rw [n1 h]; cases b1 <;> simp
      · rw [n2 h]; cases b1 <;> cases o <;> simp
    · have j : ∀ w : ByteArray, (NoSet w ∨ ∃ t r, IsSet w t r) → ∃ a b o, Ev (fun k => spec_l1Read.f k w) (a, b, o) ∧ (NoSet w → o = false) := by
        rintro w (k | ⟨t, r, k⟩)
        · obtain ⟨_, ⟨a, b, e⟩⟩ := k
          exact ⟨a, b, false, e, fun _ => rfl⟩
        · refine ⟨t, r, true, k.spec, fun n => ?_⟩
          obtain ⟨_, ⟨a, b, e⟩⟩ := n
          have := Ev.unique k.spec e
          simp at this
      have g2 : ∀ (y : Bool) a b c d, y = true → Ev (fun k => spec_ProofDifferIs.j0 k x y a b c d) false := fun y a b c d hy => Ev.end fun k => by simp only [spec_ProofDifferIs.j0]; rw [if_pos hy]
      obtain ⟨a, b, o, h1, n1⟩ := j s (read_cases s hs)
      obtain ⟨a', b', o', h2, n2⟩ := j u (read_cases u hu)
      unfold spec_ProofDifferIs.f
      refine Ev.bind h1 (Ev.bind h2 ?_)
      rcases hno with h | h
      · rw [n1 h]; simp only [Bool.false_eq_true, if_false]; exact g2 _ _ _ _ _ rfl
      · rw [n2 h]
        cases o with
        | true => simp only [if_true]; exact g2 _ _ _ _ _ rfl
        | false => simp only [Bool.false_eq_true, if_false]; exact g2 _ _ _ _ _ rfl
  · obtain ⟨ta, ra, g⟩ : ∃ t r, IsSet s t r := (read_cases s hs).resolve_left fun h => hno (.inl h)
    obtain ⟨tb, rb, g2⟩ : ∃ t r, IsSet u t r := (read_cases u hu).resolve_left fun h => hno (.inr h)
    have st2 : ∀ z, Ev (fun k => if c1 = true then spec_ProofDifferIs.j1 k m1 m2 c2 ((m1.length : Int) == 1) ta ra tb rb else spec_ProofDifferIs.j1 k m1 m2 c2 false ta ra tb rb) z → Ev (fun k => spec_ProofDifferIs.f k s u x) z := by
      intro z h
      unfold spec_ProofDifferIs.f
      refine Ev.bind g.spec (Ev.bind g2.spec ?_)
      simp only [if_true, Bool.not_true]
      refine Ev.step (f := fun k => (spec_l11Read.f k x first_).bind fun p => ((spec_l11Read.f k x second_).bind fun q => (if p.2 = true then (spec_ProofDifferIs.j1 k p.1 q.1 q.2 ((p.1.length : Int) == 1) ta ra tb rb) else (spec_ProofDifferIs.j1 k p.1 q.1 q.2 false ta ra tb rb)))) (fun k => by simp only [spec_ProofDifferIs.j0, Bool.false_eq_true, if_false]; rfl) ?_
      exact Ev.bind f1 (Ev.bind f2 h)
    have st1 : impl_ProofDifferIs.f s u x = (if b1 = true then (if (l1.length : Int) = 1 then (if 0 < (l1.length : Int) then ((impl_set_has.f ta ra (rd l1 0)).bind fun t => (if t = true then ((impl_set_has.f tb rb (rd l1 0)).bind fun t2 => (some (!t2))) else (some false))) else none) else some false)
        else (if b2 = true then (if (l2.length : Int) = 1 then (if 0 < (l2.length : Int) then ((impl_set_has.f tb rb (rd l2 0)).bind fun t => (if t = true then ((impl_set_has.f ta ra (rd l2 0)).bind fun t2 => (some (!t2))) else (some false))) else none) else some false) else some false)) := by
      unfold impl_ProofDifferIs.f
      rw [g.impl, g2.impl, e1', e2']
      simp only [Option.bind_some, if_true]
    have off : ∀ y : List Int, (((y.length : Int) == 1) = true → False) → Ev (fun k => spec_ProofDifferIs.j2 k y ((y.length : Int) == 1) ta ra tb rb) false := fun y hy => Ev.end fun k => by simp only [spec_ProofDifferIs.j2]; rw [if_neg hy]
    by_cases hb1 : b1 = true
    · obtain ⟨ns, n1, rfl⟩ := i1 hb1
      have hc1 := j1' ns n1
      obtain ⟨ns', n2, rfl⟩ := j1 hc1
      obtain rfl := says_inj firstW_nospace n1 n2
      have hb2 : b2 = false := by
        cases h : b2 with
        | false => rfl
        | true => obtain ⟨ms, k, _⟩ := i2 h; exact (first_second n1 k).elim
      have hc2 : c2 = false := by
        cases h : c2 with
        | false => rfl
        | true => obtain ⟨ms, k, _⟩ := j2 h; exact (first_second n1 k).elim
      subst hb1 hc1 hb2 hc2
      by_cases hl : ns.length = 1
      · obtain ⟨c, rfl⟩ : ∃ c, ns = [c] := by
          match ns, hl with
          | [c], _ => exact ⟨c, rfl⟩
        have hc := n1.1 c (by simp)
        have hr : rd ([c].map fun y : Nat => (y : Int)) 0 = (c : Int) := rfl
        refine ⟨hasB ta ra c && !hasB tb rb c, ?_, st2 _ ?_, fun h => ?_, fun ta' ra' tb' rb' c' k k2 hsay h1 h2 => ?_, fun _ _ _ _ c' k k2 hsay _ _ => (first_second n1 hsay).elim⟩
        · rw [st1]; simp only [if_true, hr, List.length_map]
          rw [if_pos (by simp), if_pos (by simp), two_has g.good g2.good c hc]
        · simp only [if_true]
          refine Ev.end fun k => ?_
          simp only [spec_ProofDifferIs.j1, List.length_map, hr]
          rw [if_pos (by simp), if_pos (by simp), two_has1 g.good g2.good c hc]
        · refine ⟨ta, ra, tb, rb, c, g, g2, fun e => ?_⟩
          rw [e] at h
          cases hasB tb rb c <;> simp at h
        · obtain ⟨rfl, rfl⟩ := uni g k
          obtain ⟨rfl, rfl⟩ := uni g2 k2
          have := says_inj firstW_nospace n1 hsay
          simp only [List.cons.injEq, and_true] at this
          subst this
          rw [h1, h2]; rfl
      · refine ⟨false, ?_, st2 _ ?_, (fun h => by cases h), fun _ _ _ _ c' _ _ hsay _ _ => ?_, fun _ _ _ _ c' k k2 hsay _ _ => (first_second n1 hsay).elim⟩
        · rw [st1]; simp only [if_true, List.length_map]
          rw [if_neg (by omega)]
        · simp only [if_true, List.length_map]
          refine Ev.step (f := fun k => spec_ProofDifferIs.j2 k m2 false ta ra tb rb) (fun k => by simp only [spec_ProofDifferIs.j1]; rw [if_neg (by simp; omega)]; simp only [Bool.false_eq_true, if_false]) ?_
          exact Ev.end fun k => by simp only [spec_ProofDifferIs.j2, Bool.false_eq_true, if_false]
        · have := says_inj firstW_nospace n1 hsay
          rw [this] at hl
          exact absurd rfl hl
    · have hb1f : b1 = false := by cases h : b1 with | false => rfl | true => exact absurd h hb1
      have hc1 : c1 = false := by
        cases h : c1 with
        | false => rfl
        | true => obtain ⟨ms, k, _⟩ := j1 h; exact absurd (i1' ms k) hb1
      subst hb1f hc1
      have nofirst : ∀ ns, ¬ Says x.data.toList first_.data.toList ns := fun ns k => by have := i1' ns k; cases this
      by_cases hb2 : b2 = true
      · obtain ⟨ns, n1, rfl⟩ := i2 hb2
        have hc2 := j2' ns n1
        obtain ⟨ns', n2, rfl⟩ := j2 hc2
        obtain rfl := says_inj secondW_nospace n1 n2
        subst hb2 hc2
        by_cases hl : ns.length = 1
        · obtain ⟨c, rfl⟩ : ∃ c, ns = [c] := by
            match ns, hl with
            | [c], _ => exact ⟨c, rfl⟩
          have hc := n1.1 c (by simp)
          have hr : rd ([c].map fun y : Nat => (y : Int)) 0 = (c : Int) := rfl
          refine ⟨hasB tb rb c && !hasB ta ra c, ?_, st2 _ ?_, fun h => ?_, fun _ _ _ _ c' _ _ hsay _ _ => (nofirst _ hsay).elim, fun ta' ra' tb' rb' c' k k2 hsay h1 h2 => ?_⟩
          · rw [st1]; simp only [if_true, hr, List.length_map, Bool.false_eq_true, if_false]
            rw [if_pos (by simp), if_pos (by simp), two_has g2.good g.good c hc]
          · simp only [Bool.false_eq_true, if_false]
            refine Ev.step (f := fun k => spec_ProofDifferIs.j2 k ([c].map fun y : Nat => (y : Int)) true ta ra tb rb) (fun k => by simp only [spec_ProofDifferIs.j1, Bool.false_eq_true, if_false, if_true]; rfl) ?_
            refine Ev.end fun k => ?_
            simp only [spec_ProofDifferIs.j2, List.length_map, hr, if_true]
            rw [if_pos (by simp), two_has1 g2.good g.good c hc]
          · refine ⟨ta, ra, tb, rb, c, g, g2, fun e => ?_⟩
            rw [e] at h
            cases hasB tb rb c <;> simp at h
          · obtain ⟨rfl, rfl⟩ := uni g k
            obtain ⟨rfl, rfl⟩ := uni g2 k2
            have := says_inj secondW_nospace n1 hsay
            simp only [List.cons.injEq, and_true] at this
            subst this
            rw [h1, h2]; rfl
        · refine ⟨false, ?_, st2 _ ?_, (fun h => by cases h), fun _ _ _ _ c' _ _ hsay _ _ => (nofirst _ hsay).elim, fun _ _ _ _ c' _ _ hsay _ _ => ?_⟩
          · rw [st1]; simp only [if_true, List.length_map, Bool.false_eq_true, if_false]
            rw [if_neg (by omega)]
          · simp only [Bool.false_eq_true, if_false]
            refine Ev.step (f := fun k => spec_ProofDifferIs.j2 k (ns.map fun y : Nat => (y : Int)) (((ns.map fun y : Nat => (y : Int)).length : Int) == 1) ta ra tb rb) (fun k => by simp only [spec_ProofDifferIs.j1, Bool.false_eq_true, if_false, if_true]) ?_
            exact off _ (fun h => by simp at h; omega)
          · have := says_inj secondW_nospace n1 hsay
            rw [this] at hl
            exact absurd rfl hl
      · have hb2f : b2 = false := by cases h : b2 with | false => rfl | true => exact absurd h hb2
        have hc2 : c2 = false := by
          cases h : c2 with
          | false => rfl
          | true => obtain ⟨ms, k, _⟩ := j2 h; exact absurd (i2' ms k) hb2
        subst hb2f hc2
        refine ⟨false, ?_, st2 _ ?_, (fun h => by cases h), fun _ _ _ _ c' _ _ hsay _ _ => (nofirst _ hsay).elim, fun _ _ _ _ c' _ _ hsay _ _ => ?_⟩
        · rw [st1]; simp only [Bool.false_eq_true, if_false]
        · simp only [Bool.false_eq_true, if_false]
          refine Ev.step (f := fun k => spec_ProofDifferIs.j2 k m2 false ta ra tb rb) (fun k => by simp only [spec_ProofDifferIs.j1, Bool.false_eq_true, if_false]) ?_
          exact Ev.end fun k => by simp only [spec_ProofDifferIs.j2, Bool.false_eq_true, if_false]
        · have := i2' _ hsay; cases this

theorem setTidy_ev5 {s : ByteArray} {t0 r0 t r : List Bool} (h : IsSet s t0 r0) (hT : Tidied t0 r0 t r) : Ev (fun k => impl_SetTidy.f k s) (text t r, true) := by
  unfold impl_SetTidy.f impl_tidied.f
  rw [h.impl]; simp only [Option.bind_some, if_true]
  refine Ev.bind (a := (t, r, true)) (Ev.bind hT.impl (Ev.now _)) ?_
  simp only [if_true]
  exact Ev.bind (text_ev hT.good.tl hT.good.rl) (Ev.now _)
theorem setSame_yes {s u : ByteArray} {t r t2 r2 : List Bool} (h : IsSet s t r) (h2 : IsSet u t2 r2) : ∃ b : Bool, Ev (fun k => impl_SetSame.f k s u) b ∧ (b = true ↔ ∀ n, hasB t r n = hasB t2 r2 n) := by
  obtain ⟨a, b, hT⟩ := tidied h.good
  obtain ⟨a2, b2, hT2⟩ := tidied h2.good
  refine ⟨(text a b).toList == (text a2 b2).toList, ?_, ?_⟩
  · unfold impl_SetSame.f
    exact Ev.bind (setTidy_ev5 h hT) (Ev.bind (setTidy_ev5 h2 hT2) (Ev.const fun k => by simp))
  · rw [beq_iff_eq]
    constructor
    · intro e n
      rw [toList_eq, toList_eq] at e
      obtain ⟨rfl, rfl⟩ := text_inj (ba_ext e)
      rw [← hT.same, ← hT2.same]
    · intro e
      obtain ⟨rfl, rfl⟩ := canon_unique hT.canon hT2.canon (fun n => by rw [hT.same, hT2.same, e])
      rfl
theorem setIn_yes {s : ByteArray} {t r : List Bool} (h : IsSet s t r) : impl_SetIn.f s = some true := by
  unfold impl_SetIn.f; rw [h.impl]; rfl
theorem setIn_no {s : ByteArray} (h : NoSet s) : impl_SetIn.f s = some false := by
  obtain ⟨⟨a, b, e⟩, _⟩ := h
  unfold impl_SetIn.f; rw [e]; rfl

theorem differ_cases (f g : Nat → Bool) (N : Nat) (d : Nat) : d ≤ N → (∃ i, i < N ∧ f i = true ∧ g i = false ∧ differ f g N d = (wordsB first_ [i], true)) ∨ (∃ i, i < N ∧ f i = false ∧ g i = true ∧ differ f g N d = (wordsB second_ [i], true)) ∨
    (differ f g N d = ((⟨#[]⟩ : ByteArray), false) ∧ ∀ i, N - d ≤ i → i < N → f i = g i) := by
  induction d with
  | zero => intro _; exact .inr (.inr ⟨rfl, fun i h1 h2 => by omega⟩)
  | succ d ih =>
    intro hd
    simp only [differ]
    by_cases c : f (N - (d + 1)) = true ∧ g (N - (d + 1)) = false
    · rw [if_pos c]; exact .inl ⟨_, by omega, c.1, c.2, rfl⟩
    · rw [if_neg c]
      by_cases c2 : g (N - (d + 1)) = true ∧ f (N - (d + 1)) = false
      · rw [if_pos c2]; exact .inr (.inl ⟨_, by omega, c2.2, c2.1, rfl⟩)
      · rw [if_neg c2]
        rcases ih (by omega) with h | h | ⟨h, k⟩
        · exact .inl h
        · exact .inr (.inl h)
        · refine .inr (.inr ⟨h, fun i h1 h2 => ?_⟩)
          rcases Nat.eq_or_lt_of_le h1 with e | e
          · subst e
            cases hf : f (N - (d + 1)) <;> cases hg : g (N - (d + 1)) <;> simp_all
          · exact k i (by omega) h2
theorem eq_all {ta ra tb rb : List Bool} (g : Good ta ra) (g2 : Good tb rb) (e : ∀ i, i < max ta.length tb.length + Nat.lcm ra.length rb.length → hasB ta ra i = hasB tb rb i) (n : Nat) : hasB ta ra n = hasB tb rb n := by
  have hL : 0 < Nat.lcm ra.length rb.length := Nat.lcm_pos g.pos g2.pos
  obtain ⟨a, ha⟩ := Nat.dvd_lcm_left ra.length rb.length
  obtain ⟨b, hb⟩ := Nat.dvd_lcm_right ra.length rb.length
  generalize Nat.lcm ra.length rb.length = L at *
  induction n using Nat.strongRecOn with
  | ind n ih =>
    by_cases c : n < max ta.length tb.length + L
    · exact e n c
    · have h1 := hasB_periods (t := ta) (r := ra) (n := n - L) (by omega) a
      have h2 := hasB_periods (t := tb) (r := rb) (n := n - L) (by omega) b
      rw [Nat.mul_comm a, ← ha, show n - L + L = n by omega] at h1
      rw [Nat.mul_comm b, ← hb, show n - L + L = n by omega] at h2
      rw [h1, h2]
      exact ih (n - L) (by omega)
theorem word_size (w : ByteArray) (hw : w.size ≤ 100) (i : Nat) (hi : i ≤ 10000) : (wordsB w [i]).size ≤ 1073741824 := by
  rw [← size_data, words_says, List.length_append]
  have := dec_len i
  rw [size_data]
  show w.size + (32 :: (Lib.decDigits i ++ [])).length ≤ _
  simp only [List.length_cons, List.append_nil]
  omega

theorem drawProofDiffer_ev (l0 : List Int) (h : ∀ x ∈ l0, (Lit.int .u8 x).wf = true) : ∃ s u : ByteArray, s.size ≤ 1000 ∧ u.size ≤ 1000 ∧ Ev (fun k => spec_DrawProofDiffer.f k l0) (s, u) := by
  obtain ⟨bs, hb, eo⟩ := open_ev l0 h
  obtain ⟨s, q, g1, g2, g3⟩ := set_draw hb 0 (by omega)
  obtain ⟨u, q2, k1, k2, k3⟩ := set_draw hb q (by omega)
  refine ⟨s, u, by omega, by omega, ?_⟩
  unfold spec_DrawProofDiffer.f
  rw [eo]; simp only [Option.bind_some]
  exact Ev.bind g3 (Ev.bind k3 (Ev.now _))
end Go.Proofs.YtinjblbfaijhdaaDoor.Q

namespace Go.Proofs.YtinjblbfaijhdaaDoor.Pure
open Go.RowKit Go.Proofs.YtinjblbfaijhdaaDoor.Q Go.Proofs.YtinjblbfaijhdaaDoorW.PrintWords Go.Proofs.YtinjblbfaijhdaaDoorW.PrintLast
open Go.Proofs.YtinjblbfaijhdaaDoor.Pl
set_option linter.unusedSimpArgs false
set_option linter.unusedVariables false
theorem FnProofDiffer : laws_FnProofDiffer.Pure := by
  intro l0 h1 h2 h
  by_cases hz : (l0.length : Int) > 1048576
  · exact ⟨0, by unfold laws_FnProofDiffer.f; rw [if_pos hz]⟩
  obtain ⟨s, u, hs, hu, hd⟩ := drawProofDiffer_ev l0 h
  refine Ev.rounds ?_
  unfold laws_FnProofDiffer.f
  refine Ev.eq (funext fun k => if_neg hz) (Ev.bind hd ?_)
  have cs := read_cases s (by omega)
  have cu := read_cases u (by omega)
  have fin : ∀ y : ByteArray × Bool, Ev (fun k => impl_ProofDiffer.f k s u) y → Ev (fun k => spec_ProofDiffer.f k s u) y → Ev (fun k => laws_FnProofDiffer.j0 k s u y.1 y.2 true) true →
      Ev (fun k => (impl_ProofDiffer.f k s u).bind fun bt915 => ((spec_ProofDiffer.f k s u).bind fun bt917 => (if bt915.1.toList = bt917.1.toList then (laws_FnProofDiffer.j0 k s u bt915.1 bt915.2 (bt915.2 == bt917.2)) else (laws_FnProofDiffer.j0 k s u bt915.1 bt915.2 false)))) true := by
    intro y y1 y2 y3
    refine Ev.bind y1 (Ev.bind y2 (Ev.eq (funext fun k => if_pos rfl) ?_))
    simp only [beq_self_eq_true]
    exact y3
  by_cases hx : NoSet s ∨ NoSet u
  · obtain ⟨e1, e2⟩ := proofDiffer_no cs cu hx
    refine fin _ e1 e2 (Ev.end fun k => ?_)
    simp only [laws_FnProofDiffer.j0, if_true]
    rcases cs with g | ⟨t, r, g⟩
    · rw [setIn_no g]; simp
    · rw [setIn_yes g]
      rcases hx with x | x
      · obtain ⟨⟨a, b, e⟩, _⟩ := x
        rw [g.impl] at e; simp at e
      · rw [setIn_no x]; simp
  · obtain ⟨ta, ra, g⟩ : ∃ t r, IsSet s t r := cs.resolve_left fun h => hx (.inl h)
    obtain ⟨tb, rb, g2⟩ : ∃ t r, IsSet u t r := cu.resolve_left fun h => hx (.inr h)
    obtain ⟨y, y1, y2, y3⟩ := proofDiffer_yes g g2
    obtain ⟨b, b1, b2⟩ := setSame_yes g g2
    have hN := lcm_le3 g.good.rl g2.good.rl
    have hT1 := g.good.tl
    have hT2 := g2.good.tl
    refine fin y y1 y2 ?_
    refine Ev.step (f := fun k => (impl_SetSame.f k s u).bind fun t => (if (y.2 == (!t)) = true then (if y.2 = true then ((impl_ProofDifferIs.f s u y.1).bind fun z => (some z)) else (some true)) else (some false))) (fun k => by simp only [laws_FnProofDiffer.j0, if_true, setIn_yes g, setIn_yes g2, Option.bind_some]) ?_
    refine Ev.bind b1 ?_
    have key : (y.2 = true ∧ b = false ∧ impl_ProofDifferIs.f s u y.1 = some true) ∨ (y.2 = false ∧ b = true) := by
      have ne : ∀ i, hasB ta ra i ≠ hasB tb rb i → b = false := by
        intro i hi
        cases b with
        | false => rfl
        | true => exact absurd (b2.1 rfl i) hi
      rcases differ_cases (hasB ta ra) (hasB tb rb) _ _ (Nat.le_refl (max ta.length tb.length + Nat.lcm ra.length rb.length)) with ⟨i, i1, i2, i3, i4⟩ | ⟨i, i1, i2, i3, i4⟩ | ⟨i1, i2⟩
      · rw [i4] at y3
        subst y3
        refine .inl ⟨rfl, ne i (by rw [i2, i3]; simp), ?_⟩
        obtain ⟨c, c1, _, _, c2, _⟩ := proofDifferIs_both s u (wordsB first_ [i]) (by omega) (by omega) (word_size _ (by decide) i (by omega))
        have := c2 ta ra tb rb i g g2 ⟨fun x hx => by simp at hx; omega, words_says _ first_⟩ i2 i3
        rw [c1, this]
      · rw [i4] at y3
        subst y3
        refine .inl ⟨rfl, ne i (by rw [i2, i3]; simp), ?_⟩
        obtain ⟨c, c1, _, _, _, c2⟩ := proofDifferIs_both s u (wordsB second_ [i]) (by omega) (by omega) (word_size _ (by decide) i (by omega))
        have := c2 ta ra tb rb i g g2 ⟨fun x hx => by simp at hx; omega, words_says _ second_⟩ i2 i3
        rw [c1, this]
      · rw [i1] at y3
        subst y3
        exact .inr ⟨rfl, b2.2 (eq_all g.good g2.good fun i hi => i2 i (by omega) hi)⟩
    rcases key with ⟨k1, k2, k3⟩ | ⟨k1, k2⟩
    · exact Ev.const fun k => by rw [k1, k2, k3]; rfl
    · exact Ev.const fun k => by rw [k1, k2]; rfl

end Go.Proofs.YtinjblbfaijhdaaDoor.Pure
