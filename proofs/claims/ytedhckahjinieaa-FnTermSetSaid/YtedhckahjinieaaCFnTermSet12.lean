/- A term tells its set; no condition beyond the statement's own. -/
import Derived.Test.YtedhckahjinieaaCFnTermSet8
import Derived.Test.YtedhckahjinieaaCFnTermSet9
import Derived.Test.YtedhckahjinieaaCFnTermSet10
import Derived.Test.YtedhckahjinieaaCFnTermSet11
namespace Go.Proofs.Ytedhckahjinieaa.Q
open Go.RowKit Go.Proofs.YtedhckahjinieaaW.PrintWords Go.Proofs.YtedhckahjinieaaW.PrintLast Go.Proofs.YtedhckahjinieaaW.PrintMore
attribute [local go_sem] max2_int max_two
set_option linter.unusedVariables false
set_option linter.unusedSimpArgs false
mutual
def spec_l7Set.j0 : Nat → ByteArray → Int → List (S49) → Option (ByteArray × Bool)
 | 0, _, _, _ => none
 | k + 1, x4, x629000, x629001 => if 1 < (x629001.length : Int) then ((spec_l7Set.f k ((rd_T49 x629001 1).f0) ((rd_T49 x629001 1).f1)).bind fun bt637 => (if bt637.2 = true then (if x629000 = 43 then ((spec_MakeEither.f k x4 bt637.1).bind fun bt639 => (some (bt639.1, bt639.2))) else (if x629000 = 46 then ((spec_SumOf.f k x4 bt637.1).bind fun bt641 => (some (bt641.1, bt641.2))) else ((spec_MakeBoth.f k x4 bt637.1).bind fun bt643 => (some (bt643.1, bt643.2))))) else (some ((⟨#[]⟩ : ByteArray), false)))) else (none)
def spec_l7Set.f : Nat → Int → List (S49) → Option (ByteArray × Bool)
 | 0, _, _ => none
 | k + 1, a0_0, l0_1 => if a0_0 = 48 then (some ((⟨#[40, 48, 41]⟩ : ByteArray), true)) else (if a0_0 = 49 then (some ((⟨#[49, 40, 48, 41]⟩ : ByteArray), true)) else (if a0_0 = 97 then (some ((⟨#[48, 49, 40, 48, 41]⟩ : ByteArray), true)) else (if 0 < (l0_1.length : Int) then ((spec_l7Set.f k ((rd_T49 l0_1 0).f0) ((rd_T49 l0_1 0).f1)).bind fun bt630 => (if bt630.2 = true then (if a0_0 = 42 then ((spec_StarOf.f k bt630.1).bind fun bt632 => (some (bt632.1, bt632.2))) else (if a0_0 ≥ 50 then (if a0_0 ≤ 53 then ((spec_SumTimes.f k bt630.1 ((a0_0 - 48) % 256)).bind fun bt634 => (some (bt634.1, bt634.2))) else (spec_l7Set.j0 k bt630.1 a0_0 l0_1)) else (spec_l7Set.j0 k bt630.1 a0_0 l0_1))) else (some ((⟨#[]⟩ : ByteArray), false)))) else (none))))
end
set_option maxHeartbeats 8000000 in
set_option maxRecDepth 100000 in
theorem spec_l7Set.calls (k : Nat) : ∀ (a0_0 : Int) (A0_1 : Option Addr) (c0_1 : Nat) (l0_1 : List (S49)) (r1 : ByteArray) (r2 : Bool) (w : World) (hr0_1 : Kd.C k49 w A0_1 l0_1.length l0_1) (hc0_1 : l0_1.length ≤ c0_1) (h : spec_l7Set.f k a0_0 l0_1 = some (r1, r2)),
  Calls Try.prog 34 #[.agg #[.int .u8 a0_0, .slice A0_1 l0_1.length c0_1]] w fun e w' => e = .returned (.tuple #[.string r1, .bool r2]) ∧ Below w.heap.size w w' := by
 induction k using Nat.strongRecOn with
 | _ k ih =>
 intro a0_0 A0_1 c0_1 l0_1 r1 r2 w hr0_1 hc0_1 h
 cases k with
 | zero => exact absurd h (by simp [spec_l7Set.f])
 | succ k =>
 simp only [spec_l7Set.f] at h
 have HR0_1 := aM hr0_1
 clear hr0_1 hc0_1
 have HB := aM (cE w.heap.size w)
 have H : (if a0_0 = 48 then (some ((⟨#[40, 48, 41]⟩ : ByteArray), true)) else (if a0_0 = 49 then (some ((⟨#[49, 40, 48, 41]⟩ : ByteArray), true)) else (if a0_0 = 97 then (some ((⟨#[48, 49, 40, 48, 41]⟩ : ByteArray), true)) else (if 0 < (l0_1.length : Int) then ((spec_l7Set.f k ((rd_T49 l0_1 0).f0) ((rd_T49 l0_1 0).f1)).bind fun bt630 => (if bt630.2 = true then (if a0_0 = 42 then ((spec_StarOf.f k bt630.1).bind fun bt632 => (some (bt632.1, bt632.2))) else (if a0_0 ≥ 50 then (if a0_0 ≤ 53 then ((spec_SumTimes.f k bt630.1 ((a0_0 - 48) % 256)).bind fun bt634 => (some (bt634.1, bt634.2))) else (spec_l7Set.j0 k bt630.1 a0_0 l0_1)) else (spec_l7Set.j0 k bt630.1 a0_0 l0_1))) else (some ((⟨#[]⟩ : ByteArray), false)))) else (none))))) = some (r1, r2) := h
 clear h
 by_cases c2 : a0_0 = 48
 ·rw [if_pos c2] at H
  have c2b0 : (a0_0 == 48) = true := beq_iff_eq.mpr c2
  clear c2
  simp only [aV, aW] at H
  obtain ⟨rfl, rfl⟩ := H
  go_enter Try.func34, Try.ntmps34
  go_wp2_with (first | ((with_reducible refine aZ (N := 1) rfl ?_); refine bB ?hg (N := 1) ?hd (cs := #[.int .u8 a0_0, .slice A0_1 l0_1.length c0_1]) (t := 49) ?hr ?_; (case hd => rfl); (case hg => rfl); (case hr => first | (go_simp; done)); intro gb628 hg w3 hbox hb; have BK628 := aM hbox; replace HB := aM (aE HB.out hb); clear hb hbox hg; have hcz4_0 : w3.cell? ⟨gb628, 0, none⟩ = some (.int .u8 a0_0) := (aA BK628.out 0).trans rfl))
  go_ret2
  exact ⟨by first | rfl | (simp [*, errW_none, errW_some] <;> rfl), HB.out⟩
 ·rw [if_neg c2] at H
  have c2b0 : (a0_0 == 48) = false := beq_eq_false_iff_ne.mpr c2
  have c2b1 : (a0_0 != 48) = true := bne_iff_ne.mpr c2
  by_cases c5 : a0_0 = 49
  ·rw [if_pos c5] at H
   have c5b0 : (a0_0 == 49) = true := beq_iff_eq.mpr c5
   clear c5
   simp only [aV, aW] at H
   obtain ⟨rfl, rfl⟩ := H
   go_enter Try.func34, Try.ntmps34
   go_wp2_with (first | ((with_reducible refine aZ (N := 1) rfl ?_); refine bB ?hg (N := 1) ?hd (cs := #[.int .u8 a0_0, .slice A0_1 l0_1.length c0_1]) (t := 49) ?hr ?_; (case hd => rfl); (case hg => rfl); (case hr => first | (go_simp; done)); intro gb628 hg w6 hbox hb; have BK628 := aM hbox; replace HB := aM (aE HB.out hb); clear hb hbox hg; have hcz7_0 : w6.cell? ⟨gb628, 0, none⟩ = some (.int .u8 a0_0) := (aA BK628.out 0).trans rfl))
   go_ret2
   exact ⟨by first | rfl | (simp [*, errW_none, errW_some] <;> rfl), HB.out⟩
  ·rw [if_neg c5] at H
   have c5b0 : (a0_0 == 49) = false := beq_eq_false_iff_ne.mpr c5
   have c5b1 : (a0_0 != 49) = true := bne_iff_ne.mpr c5
   by_cases c8 : a0_0 = 97
   ·rw [if_pos c8] at H
    have c8b0 : (a0_0 == 97) = true := beq_iff_eq.mpr c8
    clear c8
    simp only [aV, aW] at H
    obtain ⟨rfl, rfl⟩ := H
    go_enter Try.func34, Try.ntmps34
    go_wp2_with (first | ((with_reducible refine aZ (N := 1) rfl ?_); refine bB ?hg (N := 1) ?hd (cs := #[.int .u8 a0_0, .slice A0_1 l0_1.length c0_1]) (t := 49) ?hr ?_; (case hd => rfl); (case hg => rfl); (case hr => first | (go_simp; done)); intro gb628 hg w9 hbox hb; have BK628 := aM hbox; replace HB := aM (aE HB.out hb); clear hb hbox hg; have hcz10_0 : w9.cell? ⟨gb628, 0, none⟩ = some (.int .u8 a0_0) := (aA BK628.out 0).trans rfl))
    go_ret2
    exact ⟨by first | rfl | (simp [*, errW_none, errW_some] <;> rfl), HB.out⟩
   ·rw [if_neg c8] at H
    have c8b0 : (a0_0 == 97) = false := beq_eq_false_iff_ne.mpr c8
    have c8b1 : (a0_0 != 97) = true := bne_iff_ne.mpr c8
    by_cases c11 : 0 < (l0_1.length : Int)
    ·rw [if_pos c11] at H
     have c11b0 : decide (0 < (l0_1.length : Int)) = true := aH c11
     have c11b1 : decide (0 < l0_1.length) = true := aH (by omega)
     clear c11
     replace H := Option.bind_eq_some_iff.mp H
     obtain ⟨⟨t630, t631⟩, A120, H⟩ := H
     replace H : (if t631 = true then (if a0_0 = 42 then ((spec_StarOf.f k t630).bind fun bt632 => (some (bt632.1, bt632.2))) else (if a0_0 ≥ 50 then (if a0_0 ≤ 53 then ((spec_SumTimes.f k t630 ((a0_0 - 48) % 256)).bind fun bt634 => (some (bt634.1, bt634.2))) else (spec_l7Set.j0 k t630 a0_0 l0_1)) else (spec_l7Set.j0 k t630 a0_0 l0_1))) else (some ((⟨#[]⟩ : ByteArray), false))) = some (r1, r2) := H
     have A12 := aM A120
     clear A120
     have HC13 := aM H
     clear H
     go_enter Try.func34, Try.ntmps34
     go_upto_block 1 with (first | ((with_reducible refine aZ (N := 1) rfl ?_); refine bB ?hg (N := 1) ?hd (cs := #[.int .u8 a0_0, .slice A0_1 l0_1.length c0_1]) (t := 49) ?hr ?_; (case hd => rfl); (case hg => rfl); (case hr => first | (go_simp; done)); intro gb628 hg w14 hbox hb; have BK628 := aM hbox; replace HB := aM (aE HB.out hb); clear hb hbox hg; have hcz15_0 : w14.cell? ⟨gb628, 0, none⟩ = some (.int .u8 a0_0) := (aA BK628.out 0).trans rfl; have hcz15_1 : w14.cell? ⟨gb628, 1, none⟩ = some (.slice A0_1 l0_1.length c0_1) := (aA BK628.out 1).trans rfl; have hfz15_0 := aC BK628.out 0; have hfz15_1 := aC BK628.out 1; have p629 : 0 ≤ (0 : Int) := (by omega); have q629 : 0 < (l0_1.length : Int) := aJ (by (with_reducible assumption)); obtain ⟨ad629, A629_1, c629_1, e629, hx629_0, hx629_1, hl629_1, hi629_1⟩ := at_T49 HR0_1.out 0 p629 q629; cases e629; have qi629 : (0 < l0_1.length) = True := eq_true (by omega); (try rw [show ((0 : Int)).toNat = 0 from rfl] at hx629_0); (try rw [show 0 * 2 = 0 from rfl] at hx629_0); (try rw [Addr.add_zero'] at hx629_0); (try rw [show ((0 : Int)).toNat = 0 from rfl] at hx629_1); (try rw [show 0 * 2 = 0 from rfl] at hx629_1); (try rw [Addr.add_zero'] at hx629_1); replace hx629_0 := (HB.out.cell (World.block_lt_of_cell? w _ hx629_0)).trans hx629_0; replace hx629_1 := (HB.out.cell (World.block_lt_of_cell? w _ hx629_1)).trans hx629_1; have HR629_1 := aM hi629_1; have HC629_1 := aM hl629_1; clear hi629_1 hl629_1; replace p629 := eq_true p629; replace q629 := eq_true q629) | ((with_reducible refine aY (f := 34) rfl ?_); refine gL 21 Try.func34 #[.agg #[.int .u8 ((rd_T49 l0_1 0).f0), .slice A629_1 ((rd_T49 l0_1 0).f1).length c629_1]] ?_; (with_reducible refine (ih k (by omega) ((rd_T49 l0_1 0).f0) _ _ ((rd_T49 l0_1 0).f1) t630 t631 _ ?side1 ?side2 A12.out).mono ?_); (case side1 => repeat (exact (bF HR629_1.out HB.out))); (case side2 => exact HC629_1.out); rintro e w16 ⟨rfl, hb⟩; refine ⟨_, rfl, ?_⟩; replace BK628 := aM (aD (g := gb628) (o := .cells #[.int .u8 a0_0, .slice (some ad629) l0_1.length c0_1] 49 (0, 0)) BK628.out hb); replace HB := aM (aE HB.out hb); (try clear hb)))
     go_cut [] (fun wc => ∃ (kq : Nat), Aside0 (spec_l7Set.j0 kq t630 a0_0 l0_1 = some (r1, r2)) ∧ Aside0 (kq ≤ k) ∧ Aside0 (wc.heap[gb628]? = some (.cells #[.int .u8 a0_0, (.slice (some ad629) l0_1.length c0_1)] 49 (0, 0))) ∧ Aside0 (Below w.heap.size w wc))
     case first =>
      have H := HC13.out
      clear HC13
      by_cases c17 : t631 = true
      ·subst c17
       replace H : (if a0_0 = 42 then ((spec_StarOf.f k t630).bind fun bt632 => (some (bt632.1, bt632.2))) else (if a0_0 ≥ 50 then (if a0_0 ≤ 53 then ((spec_SumTimes.f k t630 ((a0_0 - 48) % 256)).bind fun bt634 => (some (bt634.1, bt634.2))) else (spec_l7Set.j0 k t630 a0_0 l0_1)) else (spec_l7Set.j0 k t630 a0_0 l0_1))) = some (r1, r2) := by rw [if_pos rfl] at H; exact H
       by_cases c18 : a0_0 = 42
       ·rw [if_pos c18] at H
        have c18b0 : (a0_0 == 42) = true := beq_iff_eq.mpr c18
        clear c18
        replace H := Option.bind_eq_some_iff.mp H
        obtain ⟨⟨t632, t633⟩, A190, H⟩ := H
        replace H : (some (t632, t633)) = some (r1, r2) := H
        have A19 := aM A190
        clear A190
        simp only [aV, aW] at H
        obtain ⟨rfl, rfl⟩ := H
        have hcz20_0 : w16.cell? ⟨gb628, 0, none⟩ = some (.int .u8 a0_0) := (aA BK628.out 0).trans rfl
        go_wp2_with (first | ((with_reducible refine aY (f := 54) rfl ?_); refine gL 32 Try.func54 #[.string t630] ?_; (with_reducible refine (spec_StarOf.calls k t630 t632 t633 _ A19.out).mono ?_); rintro e w21 ⟨rfl, hb⟩; refine ⟨_, rfl, ?_⟩; replace HB := aM (aE HB.out hb); (try clear hb)))
        go_ret2
        exact ⟨by first | rfl | (simp [*, errW_none, errW_some] <;> rfl), HB.out⟩
       ·rw [if_neg c18] at H
        have c18b0 : (a0_0 == 42) = false := beq_eq_false_iff_ne.mpr c18
        have c18b1 : (a0_0 != 42) = true := bne_iff_ne.mpr c18
        by_cases c22 : a0_0 ≥ 50
        ·rw [if_pos c22] at H
         have c22b0 : decide (50 ≤ a0_0) = true := aH c22
         clear c22
         by_cases c23 : a0_0 ≤ 53
         ·rw [if_pos c23] at H
          have c23b0 : decide (a0_0 ≤ 53) = true := aH c23
          clear c23
          replace H := Option.bind_eq_some_iff.mp H
          obtain ⟨⟨t634, t635⟩, A240, H⟩ := H
          replace H : (some (t634, t635)) = some (r1, r2) := H
          have A24 := aM A240
          clear A240
          simp only [aV, aW] at H
          obtain ⟨rfl, rfl⟩ := H
          have hcz25_0 : w16.cell? ⟨gb628, 0, none⟩ = some (.int .u8 a0_0) := (aA BK628.out 0).trans rfl
          go_wp2_with (first | ((with_reducible refine aY (f := 55) rfl ?_); refine gL 49 Try.func55 #[.string t630, .int .i64 ((a0_0 - 48) % 256)] ?_; (with_reducible refine (spec_SumTimes.calls k t630 ((a0_0 - 48) % 256) t634 t635 _ A24.out).mono ?_); rintro e w26 ⟨rfl, hb⟩; refine ⟨_, rfl, ?_⟩; replace HB := aM (aE HB.out hb); (try clear hb)))
          go_ret2
          exact ⟨by first | rfl | (simp [*, errW_none, errW_some] <;> rfl), HB.out⟩
         ·rw [if_neg c23] at H
          have c23b0 : decide (a0_0 ≤ 53) = false := aK c23
          clear c23
          have H' := aM H
          clear H
          have hcz27_0 : w16.cell? ⟨gb628, 0, none⟩ = some (.int .u8 a0_0) := (aA BK628.out 0).trans rfl
          go_wp2
          go_meet
          case rel => exact ⟨_, H', ⟨by omega⟩, ⟨by exact BK628.out⟩, ⟨HB.out⟩⟩
        ·rw [if_neg c22] at H
         have c22b0 : decide (50 ≤ a0_0) = false := aK c22
         clear c22
         have H' := aM H
         clear H
         have hcz28_0 : w16.cell? ⟨gb628, 0, none⟩ = some (.int .u8 a0_0) := (aA BK628.out 0).trans rfl
         go_wp2
         go_meet
         case rel => exact ⟨_, H', ⟨by omega⟩, ⟨by exact BK628.out⟩, ⟨HB.out⟩⟩
      ·replace c17 := Bool.eq_false_iff.mpr c17
       subst c17
       replace H : (some ((⟨#[]⟩ : ByteArray), false)) = some (r1, r2) := by rw [if_neg (show ¬ (false = true) by decide)] at H; exact H
       simp only [aV, aW] at H
       obtain ⟨rfl, rfl⟩ := H
       go_wp2
       go_ret2
       exact ⟨by first | rfl | (simp [*, errW_none, errW_some] <;> rfl), HB.out⟩
     case rest =>
      clear HC13
      try clear c2
      try clear c2b0
      try clear c2b1
      try clear c5
      try clear c5b0
      try clear c5b1
      try clear c8
      try clear c8b0
      try clear c8b1
      try clear c11b0
      try clear c11b1
      try clear hcz15_0
      try clear hcz15_1
      try clear hfz15_0
      try clear hfz15_1
      try clear hx629_0
      try clear hx629_1
      try clear p629
      try clear q629
      obtain ⟨kq, HA, HJ12, BK628, HB⟩ := hcut
      cases kq with
      | zero => exact absurd HA.out (by simp [spec_l7Set.j0])
      | succ kj12 =>
       have H := HA.out
       clear HA
       simp only [spec_l7Set.j0] at H
       by_cases c29 : 1 < (l0_1.length : Int)
       ·rw [if_pos c29] at H
        have c29b0 : decide (1 < (l0_1.length : Int)) = true := aH c29
        clear c29
        replace H := Option.bind_eq_some_iff.mp H
        obtain ⟨⟨t637, t638⟩, A300, H⟩ := H
        replace H : (if t638 = true then (if a0_0 = 43 then ((spec_MakeEither.f kj12 t630 t637).bind fun bt639 => (some (bt639.1, bt639.2))) else (if a0_0 = 46 then ((spec_SumOf.f kj12 t630 t637).bind fun bt641 => (some (bt641.1, bt641.2))) else ((spec_MakeBoth.f kj12 t630 t637).bind fun bt643 => (some (bt643.1, bt643.2))))) else (some ((⟨#[]⟩ : ByteArray), false))) = some (r1, r2) := H
        have A30 := aM A300
        clear A300
        by_cases c31 : t638 = true
        ·subst c31
         replace H : (if a0_0 = 43 then ((spec_MakeEither.f kj12 t630 t637).bind fun bt639 => (some (bt639.1, bt639.2))) else (if a0_0 = 46 then ((spec_SumOf.f kj12 t630 t637).bind fun bt641 => (some (bt641.1, bt641.2))) else ((spec_MakeBoth.f kj12 t630 t637).bind fun bt643 => (some (bt643.1, bt643.2))))) = some (r1, r2) := by rw [if_pos rfl] at H; exact H
         by_cases c32 : a0_0 = 43
         ·rw [if_pos c32] at H
          have c32b0 : (a0_0 == 43) = true := beq_iff_eq.mpr c32
          clear c32
          replace H := Option.bind_eq_some_iff.mp H
          obtain ⟨⟨t639, t640⟩, A330, H⟩ := H
          replace H : (some (t639, t640)) = some (r1, r2) := H
          have A33 := aM A330
          clear A330
          simp only [aV, aW] at H
          obtain ⟨rfl, rfl⟩ := H
          have hcz34_1 : wc.cell? ⟨gb628, 1, none⟩ = some (.slice (some ad629) l0_1.length c0_1) := (aA BK628.out 1).trans rfl
          have p636 : 0 ≤ (1 : Int) := (by omega)
          have q636 : 1 < (l0_1.length : Int) := aJ (by (with_reducible assumption))
          obtain ⟨ad636, A636_1, c636_1, e636, hx636_0, hx636_1, hl636_1, hi636_1⟩ := at_T49 HR0_1.out 1 p636 q636
          obtain rfl : ad629 = ad636 := (by injection e636)
          (try simp only [show (1 : Int).toNat = 1 from rfl, Nat.reduceMul, Nat.reduceEqDiff, Go.Addr.add, ↓reduceIte] at hx636_0)
          (try simp only [show (1 : Int).toNat = 1 from rfl, Nat.reduceMul, Nat.reduceEqDiff, Go.Addr.add, ↓reduceIte] at hx636_1)
          replace hx636_0 := (HB.out.cell (World.block_lt_of_cell? w _ hx636_0)).trans hx636_0
          replace hx636_1 := (HB.out.cell (World.block_lt_of_cell? w _ hx636_1)).trans hx636_1
          have HR636_1 := aM hi636_1
          have HC636_1 := aM hl636_1
          clear hi636_1 hl636_1
          replace p636 := eq_true p636
          replace q636 := eq_true q636
          go_wp2_with (first | ((with_reducible refine aY (f := 34) rfl ?_); refine gL 57 Try.func34 #[.agg #[.int .u8 ((rd_T49 l0_1 1).f0), .slice A636_1 ((rd_T49 l0_1 1).f1).length c636_1]] ?_; (with_reducible refine (ih kj12 (by have := HJ12.out; omega) ((rd_T49 l0_1 1).f0) _ _ ((rd_T49 l0_1 1).f1) t637 true _ ?side1 ?side2 A30.out).mono ?_); (case side1 => repeat (exact (bF HR636_1.out HB.out))); (case side2 => exact HC636_1.out); rintro e w35 ⟨rfl, hb⟩; refine ⟨_, rfl, ?_⟩; replace BK628 := aM (aD (g := gb628) (o := .cells #[.int .u8 a0_0, .slice (some ad629) l0_1.length c0_1] 49 (0, 0)) BK628.out hb); replace HB := aM (aE HB.out hb); (try clear hb); have hcz36_0 : w35.cell? ⟨gb628, 0, none⟩ = some (.int .u8 a0_0) := (aA BK628.out 0).trans rfl) | ((with_reducible refine aY (f := 56) rfl ?_); refine gL 69 Try.func56 #[.string t630, .string t637] ?_; (with_reducible refine (spec_MakeEither.calls kj12 t630 t637 t639 t640 _ A33.out).mono ?_); rintro e w37 ⟨rfl, hb⟩; refine ⟨_, rfl, ?_⟩; replace HB := aM (aE HB.out hb); (try clear hb)))
          go_ret2
          exact ⟨by first | rfl | (simp [*, errW_none, errW_some] <;> rfl), HB.out⟩
         ·rw [if_neg c32] at H
          have c32b0 : (a0_0 == 43) = false := beq_eq_false_iff_ne.mpr c32
          have c32b1 : (a0_0 != 43) = true := bne_iff_ne.mpr c32
          by_cases c38 : a0_0 = 46
          ·rw [if_pos c38] at H
           have c38b0 : (a0_0 == 46) = true := beq_iff_eq.mpr c38
           clear c38
           replace H := Option.bind_eq_some_iff.mp H
           obtain ⟨⟨t641, t642⟩, A390, H⟩ := H
           replace H : (some (t641, t642)) = some (r1, r2) := H
           have A39 := aM A390
           clear A390
           simp only [aV, aW] at H
           obtain ⟨rfl, rfl⟩ := H
           have hcz40_1 : wc.cell? ⟨gb628, 1, none⟩ = some (.slice (some ad629) l0_1.length c0_1) := (aA BK628.out 1).trans rfl
           have p636 : 0 ≤ (1 : Int) := (by omega)
           have q636 : 1 < (l0_1.length : Int) := aJ (by (with_reducible assumption))
           obtain ⟨ad636, A636_1, c636_1, e636, hx636_0, hx636_1, hl636_1, hi636_1⟩ := at_T49 HR0_1.out 1 p636 q636
           obtain rfl : ad629 = ad636 := (by injection e636)
           (try simp only [show (1 : Int).toNat = 1 from rfl, Nat.reduceMul, Nat.reduceEqDiff, Go.Addr.add, ↓reduceIte] at hx636_0)
           (try simp only [show (1 : Int).toNat = 1 from rfl, Nat.reduceMul, Nat.reduceEqDiff, Go.Addr.add, ↓reduceIte] at hx636_1)
           replace hx636_0 := (HB.out.cell (World.block_lt_of_cell? w _ hx636_0)).trans hx636_0
           replace hx636_1 := (HB.out.cell (World.block_lt_of_cell? w _ hx636_1)).trans hx636_1
           have HR636_1 := aM hi636_1
           have HC636_1 := aM hl636_1
           clear hi636_1 hl636_1
           replace p636 := eq_true p636
           replace q636 := eq_true q636
           go_wp2_with (first | ((with_reducible refine aY (f := 34) rfl ?_); refine gL 57 Try.func34 #[.agg #[.int .u8 ((rd_T49 l0_1 1).f0), .slice A636_1 ((rd_T49 l0_1 1).f1).length c636_1]] ?_; (with_reducible refine (ih kj12 (by have := HJ12.out; omega) ((rd_T49 l0_1 1).f0) _ _ ((rd_T49 l0_1 1).f1) t637 true _ ?side1 ?side2 A30.out).mono ?_); (case side1 => repeat (exact (bF HR636_1.out HB.out))); (case side2 => exact HC636_1.out); rintro e w41 ⟨rfl, hb⟩; refine ⟨_, rfl, ?_⟩; replace BK628 := aM (aD (g := gb628) (o := .cells #[.int .u8 a0_0, .slice (some ad629) l0_1.length c0_1] 49 (0, 0)) BK628.out hb); replace HB := aM (aE HB.out hb); (try clear hb); have hcz42_0 : w41.cell? ⟨gb628, 0, none⟩ = some (.int .u8 a0_0) := (aA BK628.out 0).trans rfl) | ((with_reducible refine aY (f := 57) rfl ?_); refine gL 78 Try.func57 #[.string t630, .string t637] ?_; (with_reducible refine (spec_SumOf.calls kj12 t630 t637 t641 t642 _ A39.out).mono ?_); rintro e w43 ⟨rfl, hb⟩; refine ⟨_, rfl, ?_⟩; replace HB := aM (aE HB.out hb); (try clear hb)))
           go_ret2
           exact ⟨by first | rfl | (simp [*, errW_none, errW_some] <;> rfl), HB.out⟩
          ·rw [if_neg c38] at H
           have c38b0 : (a0_0 == 46) = false := beq_eq_false_iff_ne.mpr c38
           replace H := Option.bind_eq_some_iff.mp H
           obtain ⟨⟨t643, t644⟩, A440, H⟩ := H
           replace H : (some (t643, t644)) = some (r1, r2) := H
           have A44 := aM A440
           clear A440
           simp only [aV, aW] at H
           obtain ⟨rfl, rfl⟩ := H
           have hcz45_1 : wc.cell? ⟨gb628, 1, none⟩ = some (.slice (some ad629) l0_1.length c0_1) := (aA BK628.out 1).trans rfl
           have p636 : 0 ≤ (1 : Int) := (by omega)
           have q636 : 1 < (l0_1.length : Int) := aJ (by (with_reducible assumption))
           obtain ⟨ad636, A636_1, c636_1, e636, hx636_0, hx636_1, hl636_1, hi636_1⟩ := at_T49 HR0_1.out 1 p636 q636
           obtain rfl : ad629 = ad636 := (by injection e636)
           (try simp only [show (1 : Int).toNat = 1 from rfl, Nat.reduceMul, Nat.reduceEqDiff, Go.Addr.add, ↓reduceIte] at hx636_0)
           (try simp only [show (1 : Int).toNat = 1 from rfl, Nat.reduceMul, Nat.reduceEqDiff, Go.Addr.add, ↓reduceIte] at hx636_1)
           replace hx636_0 := (HB.out.cell (World.block_lt_of_cell? w _ hx636_0)).trans hx636_0
           replace hx636_1 := (HB.out.cell (World.block_lt_of_cell? w _ hx636_1)).trans hx636_1
           have HR636_1 := aM hi636_1
           have HC636_1 := aM hl636_1
           clear hi636_1 hl636_1
           replace p636 := eq_true p636
           replace q636 := eq_true q636
           go_wp2_with (first | ((with_reducible refine aY (f := 34) rfl ?_); refine gL 57 Try.func34 #[.agg #[.int .u8 ((rd_T49 l0_1 1).f0), .slice A636_1 ((rd_T49 l0_1 1).f1).length c636_1]] ?_; (with_reducible refine (ih kj12 (by have := HJ12.out; omega) ((rd_T49 l0_1 1).f0) _ _ ((rd_T49 l0_1 1).f1) t637 true _ ?side1 ?side2 A30.out).mono ?_); (case side1 => repeat (exact (bF HR636_1.out HB.out))); (case side2 => exact HC636_1.out); rintro e w46 ⟨rfl, hb⟩; refine ⟨_, rfl, ?_⟩; replace BK628 := aM (aD (g := gb628) (o := .cells #[.int .u8 a0_0, .slice (some ad629) l0_1.length c0_1] 49 (0, 0)) BK628.out hb); replace HB := aM (aE HB.out hb); (try clear hb); have hcz47_0 : w46.cell? ⟨gb628, 0, none⟩ = some (.int .u8 a0_0) := (aA BK628.out 0).trans rfl) | ((with_reducible refine aY (f := 58) rfl ?_); refine gL 83 Try.func58 #[.string t630, .string t637] ?_; (with_reducible refine (spec_MakeBoth.calls kj12 t630 t637 t643 t644 _ A44.out).mono ?_); rintro e w48 ⟨rfl, hb⟩; refine ⟨_, rfl, ?_⟩; replace HB := aM (aE HB.out hb); (try clear hb)))
           go_ret2
           exact ⟨by first | rfl | (simp [*, errW_none, errW_some] <;> rfl), HB.out⟩
        ·replace c31 := Bool.eq_false_iff.mpr c31
         subst c31
         replace H : (some ((⟨#[]⟩ : ByteArray), false)) = some (r1, r2) := by rw [if_neg (show ¬ (false = true) by decide)] at H; exact H
         simp only [aV, aW] at H
         obtain ⟨rfl, rfl⟩ := H
         have hcz49_1 : wc.cell? ⟨gb628, 1, none⟩ = some (.slice (some ad629) l0_1.length c0_1) := (aA BK628.out 1).trans rfl
         have p636 : 0 ≤ (1 : Int) := (by omega)
         have q636 : 1 < (l0_1.length : Int) := aJ (by (with_reducible assumption))
         obtain ⟨ad636, A636_1, c636_1, e636, hx636_0, hx636_1, hl636_1, hi636_1⟩ := at_T49 HR0_1.out 1 p636 q636
         obtain rfl : ad629 = ad636 := (by injection e636)
         (try simp only [show (1 : Int).toNat = 1 from rfl, Nat.reduceMul, Nat.reduceEqDiff, Go.Addr.add, ↓reduceIte] at hx636_0)
         (try simp only [show (1 : Int).toNat = 1 from rfl, Nat.reduceMul, Nat.reduceEqDiff, Go.Addr.add, ↓reduceIte] at hx636_1)
         replace hx636_0 := (HB.out.cell (World.block_lt_of_cell? w _ hx636_0)).trans hx636_0
         replace hx636_1 := (HB.out.cell (World.block_lt_of_cell? w _ hx636_1)).trans hx636_1
         have HR636_1 := aM hi636_1
         have HC636_1 := aM hl636_1
         clear hi636_1 hl636_1
         replace p636 := eq_true p636
         replace q636 := eq_true q636
         go_wp2_with (first | ((with_reducible refine aY (f := 34) rfl ?_); refine gL 57 Try.func34 #[.agg #[.int .u8 ((rd_T49 l0_1 1).f0), .slice A636_1 ((rd_T49 l0_1 1).f1).length c636_1]] ?_; (with_reducible refine (ih kj12 (by have := HJ12.out; omega) ((rd_T49 l0_1 1).f0) _ _ ((rd_T49 l0_1 1).f1) t637 false _ ?side1 ?side2 A30.out).mono ?_); (case side1 => repeat (exact (bF HR636_1.out HB.out))); (case side2 => exact HC636_1.out); rintro e w50 ⟨rfl, hb⟩; refine ⟨_, rfl, ?_⟩; replace HB := aM (aE HB.out hb); (try clear hb)))
         go_ret2
         exact ⟨by first | rfl | (simp [*, errW_none, errW_some] <;> rfl), HB.out⟩
       ·rw [if_neg c29] at H
        exact absurd H (by simp)
    ·rw [if_neg c11] at H
     exact absurd H (by simp)


def spec_TermSet.f (k : Nat) (a0 : ByteArray) : Option (ByteArray × Bool) := match Tm.of a0 with | some t => spec_l7Set.f k t.toS.f0 t.toS.f1 | none => some (⟨#[]⟩, false)
set_option maxHeartbeats 2000000 in
set_option maxRecDepth 100000 in
theorem spec_TermSet.calls (k : Nat) (a0 : ByteArray) (r1 : ByteArray) (r2 : Bool) (w : World) (h : spec_TermSet.f k a0 = some (r1, r2)) :
  Calls Try.prog 13 #[.string a0] w fun e w' => e = .returned (.tuple #[.string r1, .bool r2]) ∧ Below w.heap.size w w' := by
 have C := spec_l7Of.calls a0
 unfold spec_TermSet.f at h
 cases hp : Tm.of a0 with
 | none =>
  rw [hp] at C h
  simp only [aV, aW] at h
  obtain ⟨rfl, rfl⟩ := h
  have C0 : ∀ W, Calls Try.prog 28 #[.string a0] W fun e w' => ∃ f A n m, e = .returned (.tuple #[.agg #[.int .u8 f, .slice A n m], .bool false]) ∧ Below W.heap.size W w' := C
  clear C hp
  go_enter Try.func13, Try.ntmps13
  go_wp2_with (go_at_call 28; refine (C0 _).mono ?_; rintro e w1 ⟨f, A, n, m, rfl, hb⟩; have HB := aM hb; clear hb)
  go_ret2
  exact ⟨rfl, by repeat (first | with_reducible exact HB.out | with_reducible apply bA)⟩
 | some t =>
  rw [hp] at C h
  simp only at h
  have C0 : ∀ W, Calls Try.prog 28 #[.string a0] W fun e w' => ∃ A m, e = .returned (.tuple #[.agg #[.int .u8 t.toS.f0, .slice A t.toS.f1.length m], .bool true]) ∧ t.toS.f1.length ≤ m ∧ k49.C w' A t.toS.f1.length t.toS.f1 ∧ Below W.heap.size W w' := C
  have H := aM h
  clear C hp h
  go_enter Try.func13, Try.ntmps13
  go_wp2_with (first | (go_at_call 28; refine (C0 _).mono ?_; rintro e w1 ⟨A, m, rfl, hm, hc, hb⟩; have HB := aM hb; have HC := aM hc; have HM := aM hm; clear hb hc hm) | (go_at_call 34; refine (spec_l7Set.calls k _ _ _ _ r1 r2 _ (Kd.C_alloc HC.out _) HM.out H.out).mono ?_; rintro e w2 ⟨rfl, hb⟩; have HB2 := aM (aE (bA HB.out _) hb); clear hb))
  go_ret2
  exact ⟨rfl, HB2.out⟩

/-- The cells of an array of truths. -/
def Arr (l : List Bool) : Array Value := (l.map Value.bool).toArray
/-- The array of a set: the numbers from 0 to 200. -/
def ArrF (f : Nat → Bool) : Array Value := Arr ((List.range 201).map f)
theorem Arr.at_ {w : World} {g : Nat} {l : List Bool} (hb : w.heap[g]? = some (.cells (Arr l) 69 (0, 0))) (i : Nat) (h : i < l.length) : w.cell? ⟨g, i, none⟩ = some (.bool (l.getD i false)) := by
 rw [aA hb]
 simp [Arr, h]
theorem Arr.set_ {w : World} {g : Nat} {l : List Bool} (hb : w.heap[g]? = some (.cells (Arr l) 69 (0, 0))) (i : Nat) (b : Bool) : (w.setCell ⟨g, i, none⟩ (.bool b)).heap[g]? = some (.cells (Arr (l.set i b)) 69 (0, 0)) := by
 rw [cM hb]
 congr 2
 unfold Arr
 rw [sA, List.map_set]
theorem Arr.ext_ {l : List Bool} {f : Nat → Bool} (hl : l.length = 201) (h : ∀ n, n < 201 → l.getD n false = f n) : Arr l = ArrF f := by
 unfold ArrF
 congr 1
 refine List.ext_getElem (by simp [hl]) fun n h1 h2 => ?_
 have := h n (by omega)
 simp only [List.getD, List.getElem?_eq_getElem h1, Option.getD_some] at this
 simp [this]
theorem ArrF.at_ {w : World} {g : Nat} {f : Nat → Bool} (hb : w.heap[g]? = some (.cells (ArrF f) 69 (0, 0))) (i : Nat) (h : i < 201) : w.cell? ⟨g, i, none⟩ = some (.bool (f i)) := by
 rw [Arr.at_ hb i (by simpa using h)]
 simp [h]
theorem zeros_eq : Try.zeroCells69 = Arr (List.replicate 201 false) := by kernel_rfl
theorem getD_set_ (l : List Bool) (i : Nat) (b : Bool) (n : Nat) (h : i < l.length) : (l.set i b).getD n false = if n = i then b else l.getD n false := by
 simp only [List.getD, List.getElem?_set]
 by_cases e : i = n
 ·subst e; simp [h]
 ·rw [if_neg e, if_neg (fun h => e h.symm)]
theorem getD_zeros (n : Nat) : (List.replicate 201 false).getD n false = false := by
 simp only [List.getD, List.getElem?_replicate]
 split <;> rfl
set_option maxHeartbeats 1000000 in
set_option maxRecDepth 100000 in
theorem impl_zero.calls (w : World) : Calls Try.prog 40 #[] w fun e w' => ∃ g, w.heap.size ≤ g ∧ e = .returned (.pointer (some ⟨g, 0, none⟩)) ∧ w'.heap[g]? = some (.cells (ArrF fun n => decide (n = 0)) 69 (0, 0)) ∧ Below w.heap.size w w' := by
 have e0 : Try.zeroCells69.setIfInBounds 0 (.bool true) = ArrF fun n => decide (n = 0) := by kernel_rfl
 go_enter Try.func40, Try.ntmps40
 go_wp2
 go_ret
 refine ⟨_, cD _, rfl, ?_, bA (cE _ _) _⟩
 rw [← e0]
 exact blk_new _ _
/-- The sums of two. -/
def sumN (f g : Nat → Bool) (n : Nat) : Bool := (List.range (n + 1)).any fun x => f x && g (n - x)
theorem sumN_iff (f g : Nat → Bool) (n : Nat) : sumN f g n = true ↔ ∃ x, x ≤ n ∧ f x = true ∧ g (n - x) = true := by
 unfold sumN
 rw [List.any_eq_true]
 constructor
 ·rintro ⟨x, h1, h2⟩
  rw [Bool.and_eq_true] at h2
  exact ⟨x, by have := List.mem_range.1 h1; omega, h2.1, h2.2⟩
 ·rintro ⟨x, h1, h2, h3⟩
  exact ⟨x, List.mem_range.2 (by omega), by rw [h2, h3]; rfl⟩
/-- The array behind i rounds and k rounds more of the round i. -/
def PlusI (f g : Nat → Bool) (i k : Nat) (l : List Bool) : Prop := l.length = 201 ∧ ∀ n, n < 201 → (l.getD n false = true ↔ (∃ x, x < i ∧ x ≤ n ∧ f x = true ∧ g (n - x) = true) ∨ (f i = true ∧ i ≤ n ∧ n < i + k ∧ g (n - i) = true))
theorem PlusI.start (f g : Nat → Bool) : PlusI f g 0 0 (List.replicate 201 false) := ⟨List.length_replicate, fun n _ => by
 rw [getD_zeros]
 refine ⟨(fun h => by cases h), fun h => ?_⟩
 rcases h with ⟨x, h, _⟩ | ⟨_, _, h, _⟩ <;> omega⟩
theorem PlusI.step {f g : Nat → Bool} {i k : Nat} {l : List Bool} (h : PlusI f g i k l) (hf : f i = true) (hk : i + k < 201) : PlusI f g i (k + 1) (l.set (i + k) (l.getD (i + k) false || g k)) := by
 obtain ⟨h1, h2⟩ := h
 refine ⟨by simpa using h1, fun n hn => ?_⟩
 rw [getD_set_ _ _ _ _ (by omega)]
 by_cases e : n = i + k
 ·subst e
  rw [if_pos rfl, Bool.or_eq_true, h2 _ hn, show i + k - i = k by omega]
  constructor
  ·rintro ((h | ⟨_, _, h, _⟩) | h)
   ·exact .inl h
   ·omega
   ·exact .inr ⟨hf, by omega, by omega, h⟩
  ·rintro (h | ⟨_, _, _, h⟩)
   ·exact .inl (.inl h)
   ·exact .inr h
 ·rw [if_neg e, h2 n hn]
  constructor
  ·rintro (h | ⟨a, b, c, d⟩)
   ·exact .inl h
   ·exact .inr ⟨a, b, by omega, d⟩
  ·rintro (h | ⟨a, b, c, d⟩)
   ·exact .inl h
   ·exact .inr ⟨a, b, by omega, d⟩
theorem PlusI.next {f g : Nat → Bool} {i k : Nat} {l : List Bool} (h : PlusI f g i k l) (hk : f i = false ∨ 201 ≤ i + k) : PlusI f g (i + 1) 0 l := by
 obtain ⟨h1, h2⟩ := h
 refine ⟨h1, fun n hn => ?_⟩
 rw [h2 n hn]
 constructor
 ·rintro (⟨x, a, b⟩ | ⟨a, b, c, d⟩)
  ·exact .inl ⟨x, by omega, b⟩
  ·exact .inl ⟨i, by omega, b, a, d⟩
 ·rintro (⟨x, a, b, c, d⟩ | ⟨a, b, c, d⟩)
  ·rcases Nat.lt_or_ge x i with e | e
   ·exact .inl ⟨x, e, b, c, d⟩
   ·obtain rfl : x = i := by omega
    rcases hk with hk | hk
    ·rw [hk] at c; cases c
    ·exact .inr ⟨c, b, by omega, d⟩
  ·omega
theorem PlusI.fin {f g : Nat → Bool} {l : List Bool} (h : PlusI f g 201 0 l) : Arr l = ArrF (sumN f g) := by
 refine Arr.ext_ h.1 fun n hn => ?_
 rw [Bool.eq_iff_iff, h.2 n hn, sumN_iff]
 constructor
 ·rintro (⟨x, a, b, c, d⟩ | ⟨_, h, _⟩)
  ·exact ⟨x, b, c, d⟩
  ·omega
 ·rintro ⟨x, b, c, d⟩
  exact .inl ⟨x, by omega, b, c, d⟩
set_option maxHeartbeats 4000000 in
set_option maxRecDepth 100000 in
theorem impl_numbers_plus.calls (g1 g2 : Nat) (f g : Nat → Bool) (w : World) (h1 : w.heap[g1]? = some (.cells (ArrF f) 69 (0, 0))) (h2 : w.heap[g2]? = some (.cells (ArrF g) 69 (0, 0))) :
  Calls Try.prog 42 #[.pointer (some ⟨g1, 0, none⟩), .pointer (some ⟨g2, 0, none⟩)] w fun e w' => ∃ q, w.heap.size ≤ q ∧ e = .returned (.pointer (some ⟨q, 0, none⟩)) ∧ w'.heap[q]? = some (.cells (ArrF (sumN f g)) 69 (0, 0)) ∧ Below w.heap.size w w' := by
 have H1 := aM h1
 have H2 := aM h2
 have B0 : Aside0 ((w.alloc (.cells Try.zeroCells69 69)).heap[w.heap.size]? = some (.cells (Arr (List.replicate 201 false)) 69 (0, 0))) := ⟨by rw [← zeros_eq]; exact blk_new _ _⟩
 clear h1 h2
 go_enter Try.func42, Try.ntmps42
 go_wp2
 go_loopw [12] (fun v12 wr => ∃ (i : Nat) (l : List Bool), i ≤ 201 ∧ v12 = .int .i64 i ∧ Aside0 (PlusI f g i 0 l) ∧ Aside0 (wr.heap[w.heap.size]? = some (.cells (Arr l) 69 (0, 0))) ∧ Aside0 (Below w.heap.size w wr)) (fun v12 _ => 201 - (intOf v12).toNat)
 case atStart => exact ⟨0, _, Nat.zero_le _, rfl, ⟨PlusI.start f g⟩, B0, ⟨bA (cE _ _) _⟩⟩
 case round =>
  obtain ⟨i, l, hi, rfl, HI, HA, HB⟩ := hrel
  by_cases hlt : i < 201
  ·have hcell := ArrF.at_ (aD H1.out HB.out) i hlt
   go_wp2
   go_region
   try go_wp2
   have HB1 := aM (b1 HB.out)
   have HA1 := aM (kD HA.out)
   go_loopw [8] (fun v8 w2 => ∃ (k : Nat) (l2 : List Bool), k ≤ 201 ∧ v8 = .int .i64 k ∧ Aside0 (PlusI f g i k l2) ∧ Aside0 (w2.heap[w.heap.size]? = some (.cells (Arr l2) 69 (0, 0))) ∧ Aside0 (Below w.heap.size w w2)) (fun v8 _ => 201 - (intOf v8).toNat)
   case atStart => exact ⟨0, l, Nat.zero_le _, rfl, HI, HA1, HB1⟩
   case round =>
    obtain ⟨k, l2, hk, rfl, HI2, HA2, HB2⟩ := hrel
    cases hf : f i with
    | false =>
     go_wp2
     exact ⟨⟨i + 1, l2, by omega, by go_num, ⟨HI2.out.next (.inl hf)⟩, HA2, HB2⟩, by simp [intOf]; omega⟩
    | true =>
     by_cases hik : i + k < 201
     ·have hc1 := Arr.at_ HA2.out (i + k) (by rw [HI2.out.1]; exact hik)
      have hc2 := ArrF.at_ (aD H2.out HB2.out) k (by omega)
      have hfr := aC HA2.out (i + k)
      have hwa : wrap64 ((i : Int) + (k : Int)) = ((i + k : Nat) : Int) := by unfold wrap64; omega
      have hST := HI2.out.step hf hik
      generalize l2.getD (i + k) false = x at hc1 hST
      generalize g k = y at hc2 hST
      cases x with
      | true =>
       go_wp2
       go_region
       try go_wp2
       exact ⟨⟨k + 1, _, by omega, by go_num, ⟨hST⟩, ⟨kD (Arr.set_ HA2.out (i + k) true)⟩, ⟨b1 (HB2.out.setCell (p := ⟨w.heap.size, i + k, none⟩) (cD _) _)⟩⟩, by simp [intOf]; omega⟩
      | false =>
       cases y with
       | true =>
        go_wp2
        go_region
        try go_wp2
        exact ⟨⟨k + 1, _, by omega, by go_num, ⟨hST⟩, ⟨kD (Arr.set_ HA2.out (i + k) true)⟩, ⟨b1 (HB2.out.setCell (p := ⟨w.heap.size, i + k, none⟩) (cD _) _)⟩⟩, by simp [intOf]; omega⟩
       | false =>
        go_wp2
        go_region
        try go_wp2
        exact ⟨⟨k + 1, _, by omega, by go_num, ⟨hST⟩, ⟨kD (Arr.set_ HA2.out (i + k) false)⟩, ⟨b1 (HB2.out.setCell (p := ⟨w.heap.size, i + k, none⟩) (cD _) _)⟩⟩, by simp [intOf]; omega⟩
     ·have hge : ¬ (i : Int) + (k : Int) ≤ 200 := by omega
      have hge2 : decide ((i : Int) + (k : Int) ≤ 200) = false := aK hge
      go_wp2
      exact ⟨⟨i + 1, l2, by omega, by go_num, ⟨HI2.out.next (.inr (by omega))⟩, HA2, HB2⟩, by simp [intOf]; omega⟩
  ·obtain rfl : i = 201 := by omega
   have HF := HI.out.fin
   go_wp2
   go_ret
   refine ⟨w.heap.size, cD _, rfl, ?_, HB.out⟩
   rw [← HF]; exact HA.out
/-- The star. -/
def starN (f : Nat → Bool) : Nat → Bool
 | 0 => true
 | n + 1 => (List.range (n + 1)).any fun y => f (y + 1) && starN f (n - y)
termination_by n => n
decreasing_by omega
theorem starN_zero (f : Nat → Bool) : starN f 0 = true := by rw [starN]
theorem starN_iff (f : Nat → Bool) (n : Nat) (h : 1 ≤ n) : starN f n = true ↔ ∃ y, 1 ≤ y ∧ y ≤ n ∧ f y = true ∧ starN f (n - y) = true := by
 obtain ⟨m, rfl⟩ : ∃ m, n = m + 1 := ⟨n - 1, by omega⟩
 rw [starN, List.any_eq_true]
 constructor
 ·rintro ⟨x, h1, h2⟩
  rw [Bool.and_eq_true] at h2
  have := List.mem_range.1 h1
  exact ⟨x + 1, by omega, by omega, h2.1, by rw [show m + 1 - (x + 1) = m - x by omega]; exact h2.2⟩
 ·rintro ⟨y, h1, h2, h3, h4⟩
  refine ⟨y - 1, List.mem_range.2 (by omega), ?_⟩
  rw [show y - 1 + 1 = y by omega, show m - (y - 1) = m + 1 - y by omega, h3, h4]; rfl
/-- The array in the round n, behind the numbers below k. -/
def StarI (f : Nat → Bool) (n k : Nat) (l : List Bool) : Prop := l.length = 201 ∧ ∀ m, m < 201 → (m < n → l.getD m false = starN f m) ∧ (n < m → l.getD m false = false) ∧ (m = n → (l.getD m false = true ↔ ∃ y, 1 ≤ y ∧ y < k ∧ f y = true ∧ starN f (n - y) = true))
theorem StarI.start (f : Nat → Bool) : StarI f 1 1 ((List.range 201).map fun n => decide (n = 0)) := by
 refine ⟨by rw [List.length_map, List.length_range], fun m hm => ?_⟩
 have e : ((List.range 201).map fun n => decide (n = 0)).getD m false = decide (m = 0) := by simp only [List.getD, List.getElem?_map, List.getElem?_range hm]; rfl
 rw [e]
 refine ⟨fun h => ?_, fun h => aK (by omega), fun h => ?_⟩
 ·obtain rfl : m = 0 := by omega
  rw [starN_zero]; rfl
 ·rw [decide_eq_true_iff]
  exact ⟨fun h => by omega, fun ⟨y, h1, h2, _⟩ => by omega⟩
theorem StarI.step {f : Nat → Bool} {n k : Nat} {l : List Bool} (h : StarI f n k l) (hn : n < 201) (h1 : 1 ≤ k) (h2 : k ≤ n) : StarI f n (k + 1) (l.set n (l.getD n false || (f k && l.getD (n - k) false))) := by
 obtain ⟨hl, h⟩ := h
 refine ⟨by simpa using hl, fun m hm => ?_⟩
 rw [getD_set_ _ _ _ _ (by omega)]
 have hk := (h (n - k) (by omega)).1 (by omega)
 refine ⟨fun e => ?_, fun e => ?_, fun e => ?_⟩
 ·rw [if_neg (by omega)]; exact (h m hm).1 e
 ·rw [if_neg (by omega)]; exact (h m hm).2.1 e
 ·subst e
  rw [if_pos rfl, Bool.or_eq_true, Bool.and_eq_true, (h m hm).2.2 rfl, hk]
  constructor
  ·rintro (⟨y, a, b, c⟩ | ⟨a, b⟩)
   ·exact ⟨y, a, by omega, c⟩
   ·exact ⟨k, h1, by omega, a, b⟩
  ·rintro ⟨y, a, b, c, d⟩
   rcases Nat.lt_or_ge y k with e | e
   ·exact .inl ⟨y, a, e, c, d⟩
   ·obtain rfl : y = k := by omega
    exact .inr ⟨c, d⟩
theorem StarI.next {f : Nat → Bool} {n : Nat} {l : List Bool} (h : StarI f n (n + 1) l) (hn : 1 ≤ n) (hn2 : n < 201) : StarI f (n + 1) 1 l := by
 obtain ⟨hl, h⟩ := h
 refine ⟨hl, fun m hm => ⟨fun e => ?_, fun e => (h m hm).2.1 (by omega), fun e => ?_⟩⟩
 ·rcases Nat.lt_or_ge m n with g | g
  ·exact (h m hm).1 g
  ·obtain rfl : m = n := by omega
   rw [Bool.eq_iff_iff, (h m hm).2.2 rfl, starN_iff f m hn]
   exact ⟨fun ⟨y, a, b, c⟩ => ⟨y, a, by omega, c⟩, fun ⟨y, a, b, c⟩ => ⟨y, a, by omega, c⟩⟩
 ·rw [(h m hm).2.1 (by omega)]
  exact ⟨(fun h => by cases h), fun ⟨y, a, b, _⟩ => by omega⟩
theorem StarI.fin {f : Nat → Bool} {l : List Bool} (h : StarI f 201 1 l) : Arr l = ArrF (starN f) := Arr.ext_ h.1 fun n hn => (h.2 n hn).1 hn
set_option maxHeartbeats 4000000 in
set_option maxRecDepth 100000 in
theorem impl_numbers_star.calls (g1 : Nat) (f : Nat → Bool) (w : World) (h1 : w.heap[g1]? = some (.cells (ArrF f) 69 (0, 0))) :
  Calls Try.prog 41 #[.pointer (some ⟨g1, 0, none⟩)] w fun e w' => ∃ q, w.heap.size ≤ q ∧ e = .returned (.pointer (some ⟨q, 0, none⟩)) ∧ w'.heap[q]? = some (.cells (ArrF (starN f)) 69 (0, 0)) ∧ Below w.heap.size w w' := by
 have H1 := aM h1
 clear h1
 go_enter Try.func41, Try.ntmps41
 go_wp2_with (go_at_call 40; refine (impl_zero.calls _).mono ?_; rintro e w0 ⟨q, hq, rfl, hz, hb⟩; have HZ := aM hz; have HB0 := aM hb; have HQ := aM hq; clear hz hb hq)
 go_loopw [4] (fun v4 wr => ∃ (n : Nat) (l : List Bool), 1 ≤ n ∧ n ≤ 201 ∧ v4 = .int .i64 n ∧ Aside0 (StarI f n 1 l) ∧ Aside0 (wr.heap[q]? = some (.cells (Arr l) 69 (0, 0))) ∧ Aside0 (Below w.heap.size w wr)) (fun v4 _ => 201 - (intOf v4).toNat)
 case atStart => exact ⟨1, _, cD _, by omega, rfl, ⟨StarI.start f⟩, HZ, HB0⟩
 case round =>
  obtain ⟨n, l, hn1, hn, rfl, HI, HA, HB⟩ := hrel
  by_cases hlt : n < 201
  ·go_wp2
   go_loopw [5] (fun v5 w2 => ∃ (k : Nat) (l2 : List Bool), 1 ≤ k ∧ k ≤ n + 1 ∧ v5 = .int .i64 k ∧ Aside0 (StarI f n k l2) ∧ Aside0 (w2.heap[q]? = some (.cells (Arr l2) 69 (0, 0))) ∧ Aside0 (Below w.heap.size w w2)) (fun v5 _ => 201 - (intOf v5).toNat)
   case atStart => exact ⟨1, l, cD _, by omega, rfl, HI, HA, HB⟩
   case round =>
    obtain ⟨k, l2, hk1, hk, rfl, HI2, HA2, HB2⟩ := hrel
    by_cases hkn : k ≤ n
    ·obtain ⟨d, hd⟩ : ∃ d : Nat, d = n - k := ⟨_, rfl⟩
     have hd2 : (n : Int) - (k : Int) = (d : Int) := by omega
     have hw2 : wrap64 ((n : Int) - (k : Int)) = (d : Int) := by rw [hd2]; unfold wrap64; omega
     have hd201 : d < 201 := by omega
     have hST := HI2.out.step hlt hk1 hkn
     rw [← hd] at hST
     have hc1 := Arr.at_ HA2.out n (by rw [HI2.out.1]; exact hlt)
     have hc2 := ArrF.at_ (aD H1.out HB2.out) k (by omega)
     have hc3 := Arr.at_ HA2.out d (by rw [HI2.out.1]; exact hd201)
     have hfr := aC HA2.out n
     have hkn2 : decide ((k : Int) ≤ (n : Int)) = true := aH (by omega)
     have hkn3 : (k : Int) ≤ (n : Int) := by omega
     generalize l2.getD n false = x at hc1 hST
     generalize l2.getD d false = z at hc3 hST
     generalize f k = y at hc2 hST
     clear hd
     cases x with
     | true =>
      go_wp2
      go_region
      try go_wp2
      exact ⟨⟨k + 1, _, by omega, by omega, by go_num, ⟨hST⟩, ⟨kD (Arr.set_ HA2.out n true)⟩, ⟨b1 (HB2.out.setCell (p := ⟨q, n, none⟩) HQ.out _)⟩⟩, by simp [intOf]; omega⟩
     | false =>
      cases y with
      | true =>
       cases z with
       | true =>
        go_wp2
        go_region
        try go_wp2
        exact ⟨⟨k + 1, _, by omega, by omega, by go_num, ⟨hST⟩, ⟨kD (Arr.set_ HA2.out n true)⟩, ⟨b1 (HB2.out.setCell (p := ⟨q, n, none⟩) HQ.out _)⟩⟩, by simp [intOf]; omega⟩
       | false =>
        go_wp2
        go_region
        try go_wp2
        exact ⟨⟨k + 1, _, by omega, by omega, by go_num, ⟨hST⟩, ⟨kD (Arr.set_ HA2.out n false)⟩, ⟨b1 (HB2.out.setCell (p := ⟨q, n, none⟩) HQ.out _)⟩⟩, by simp [intOf]; omega⟩
      | false =>
       go_wp2
       go_region
       try go_wp2
       exact ⟨⟨k + 1, _, by omega, by omega, by go_num, ⟨hST⟩, ⟨kD (Arr.set_ HA2.out n false)⟩, ⟨b1 (HB2.out.setCell (p := ⟨q, n, none⟩) HQ.out _)⟩⟩, by simp [intOf]; omega⟩
    ·obtain rfl : k = n + 1 := by omega
     have hkn2 : decide (((n + 1 : Nat) : Int) ≤ (n : Int)) = false := aK (by omega)
     have hkn3 : ¬ ((n + 1 : Nat) : Int) ≤ (n : Int) := by omega
     have hNX := HI2.out.next hn1 hlt
     go_wp2
     exact ⟨⟨n + 1, l2, by omega, by omega, by go_num, ⟨hNX⟩, HA2, HB2⟩, by simp [intOf]; omega⟩
  ·obtain rfl : n = 201 := by omega
   have HF := HI.out.fin
   go_wp2
   go_ret
   refine ⟨q, HQ.out, rfl, ?_, HB.out⟩
   rw [← HF]; exact HA.out
/-- Times. -/
def powN (F : Nat → Bool) : Nat → Nat → Bool
 | 0 => fun n => decide (n = 0)
 | d + 1 => sumN (powN F d) F
/-- The numbers of a term. -/
def impl_term_numbers.f : Tm → Option (Nat → Bool)
 | .leaf c => if c = 48 then some (fun _ => false) else if c = 49 then some (fun n => decide (n = 0)) else if c = 97 then some (fun n => decide (n = 1)) else none
 | .un c a => (impl_term_numbers.f a).bind fun F => if c = 42 then some (starN F) else if 50 ≤ c ∧ c ≤ 53 then some (powN F (c - 48).toNat) else none
 | .bin c a b => (impl_term_numbers.f a).bind fun F => (impl_term_numbers.f b).bind fun G => if c = 43 then some (fun n => F n || G n) else if c = 46 then some (sumN F G) else if c = 38 then some (fun n => F n && G n) else none
def impl_term_numbers.Post (w : World) (F : Nat → Bool) (e : Ending) (w' : World) : Prop := ∃ q, w.heap.size ≤ q ∧ e = .returned (.pointer (some ⟨q, 0, none⟩)) ∧ w'.heap[q]? = some (.cells (ArrF F) 69 (0, 0)) ∧ Below w.heap.size w w'
theorem impl_term_numbers.zerosF : Arr (List.replicate 201 false) = ArrF fun _ => false := Arr.ext_ List.length_replicate fun n _ => getD_zeros n
/-- The array behind i rounds. -/
def PutI (H : Nat → Bool) (i : Nat) (l : List Bool) : Prop := l.length = 201 ∧ ∀ n, n < 201 → l.getD n false = (decide (n < i) && H n)
theorem PutI.start (H : Nat → Bool) : PutI H 0 (List.replicate 201 false) := ⟨List.length_replicate, fun n _ => by rw [getD_zeros]; simp⟩
theorem PutI.step {H : Nat → Bool} {i : Nat} {l : List Bool} (h : PutI H i l) (hi : i < 201) (b : Bool) (hb : b = H i) : PutI H (i + 1) (l.set i b) := by
 subst hb
 refine ⟨by simpa using h.1, fun n hn => ?_⟩
 rw [getD_set_ _ _ _ _ (by rw [h.1]; exact hi), h.2 n hn]
 by_cases e : n = i
 ·subst e; simp
 ·rw [if_neg e, decide_eq_decide.2 (show n < i ↔ n < i + 1 by omega)]
theorem PutI.fin {H : Nat → Bool} {l : List Bool} (h : PutI H 201 l) : Arr l = ArrF H := Arr.ext_ h.1 fun n hn => by rw [h.2 n hn, aH hn]; rfl
set_option maxHeartbeats 4000000 in
set_option maxRecDepth 100000 in
theorem impl_term_numbers.leaf_zero (g : Nat) (w : World) (hb : w.heap[g]? = some (.cells #[.int .u8 48, .slice none 0 0] 72 (0, 0))) :
  Calls Try.prog 27 #[.pointer (some ⟨g, 0, none⟩)] w (impl_term_numbers.Post w (fun _ => false)) := by
 have BT := aM hb
 clear hb
 have B0 : Aside0 ((w.alloc (.cells Try.zeroCells69 69)).heap[w.heap.size]? = some (.cells (Arr (List.replicate 201 false)) 69 (0, 0))) := ⟨by rw [← zeros_eq]; exact blk_new _ _⟩
 have BA : Aside0 (Below w.heap.size w (w.alloc (.cells Try.zeroCells69 69))) := ⟨bA (cE _ _) _⟩
 have g10 : (w.alloc (.cells Try.zeroCells69 69)).cell? ⟨g, 0, none⟩ = some (.int .u8 48) := aA (aD BT.out BA.out) 0
 go_enter Try.func27, Try.ntmps27
 go_wp2
 go_ret
 exact ⟨_, cD _, rfl, by rw [← impl_term_numbers.zerosF]; exact B0.out, BA.out⟩
set_option maxHeartbeats 4000000 in
set_option maxRecDepth 100000 in
theorem impl_term_numbers.leaf_one (g : Nat) (w : World) (hb : w.heap[g]? = some (.cells #[.int .u8 49, .slice none 0 0] 72 (0, 0))) :
  Calls Try.prog 27 #[.pointer (some ⟨g, 0, none⟩)] w (impl_term_numbers.Post w (fun n => decide (n = 0))) := by
 have BT := aM hb
 clear hb
 have B0 : Aside0 ((w.alloc (.cells Try.zeroCells69 69)).heap[w.heap.size]? = some (.cells (Arr (List.replicate 201 false)) 69 (0, 0))) := ⟨by rw [← zeros_eq]; exact blk_new _ _⟩
 have BA : Aside0 (Below w.heap.size w (w.alloc (.cells Try.zeroCells69 69))) := ⟨bA (cE _ _) _⟩
 have g10 : (w.alloc (.cells Try.zeroCells69 69)).cell? ⟨g, 0, none⟩ = some (.int .u8 49) := aA (aD BT.out BA.out) 0
 go_enter Try.func27, Try.ntmps27
 go_wp2_with (go_at_call 40; refine (impl_zero.calls _).mono ?_; rintro e w1 ⟨q, hq, rfl, hz, hd⟩; have HZ := aM hz; have HB := aM (aE BA.out hd); have HQ : Aside0 (w.heap.size ≤ q) := ⟨Nat.le_trans BA.out.size hq⟩; clear hz hd hq)
 go_ret
 exact ⟨_, HQ.out, rfl, HZ.out, HB.out⟩
set_option maxHeartbeats 4000000 in
set_option maxRecDepth 100000 in
theorem impl_term_numbers.leaf_a (g : Nat) (w : World) (hb : w.heap[g]? = some (.cells #[.int .u8 97, .slice none 0 0] 72 (0, 0))) :
  Calls Try.prog 27 #[.pointer (some ⟨g, 0, none⟩)] w (impl_term_numbers.Post w (fun n => decide (n = 1))) := by
 have BT := aM hb
 clear hb
 have B0 : Aside0 ((w.alloc (.cells Try.zeroCells69 69)).heap[w.heap.size]? = some (.cells (Arr (List.replicate 201 false)) 69 (0, 0))) := ⟨by rw [← zeros_eq]; exact blk_new _ _⟩
 have BA : Aside0 (Below w.heap.size w (w.alloc (.cells Try.zeroCells69 69))) := ⟨bA (cE _ _) _⟩
 have g10 : (w.alloc (.cells Try.zeroCells69 69)).cell? ⟨g, 0, none⟩ = some (.int .u8 97) := aA (aD BT.out BA.out) 0
 go_enter Try.func27, Try.ntmps27
 have eA : Try.zeroCells69.setIfInBounds 1 (.bool true) = ArrF fun n => decide (n = 1) := by kernel_rfl
 go_wp2
 go_ret
 exact ⟨_, cD _, rfl, by rw [← eA]; exact blk_new _ _, bA (cE _ _) _⟩
set_option maxHeartbeats 4000000 in
set_option maxRecDepth 100000 in
theorem impl_term_numbers.un_star (g h n : Nat) (c : Int) (cs : Array Value) (x : Value) (w : World) (hb : w.heap[g]? = some (.cells #[.int .u8 c, .slice (some ⟨h, 0, none⟩) 1 n] 72 (0, 0))) (hr : w.heap[h]? = some (.cells cs 42 (0, 0))) (hx : cs[0]? = some x) (F : Nat → Bool) (ih : ∀ W, Below w.heap.size w W → Calls Try.prog 27 #[x] W (impl_term_numbers.Post W F)) (hc : c = 42) :
  Calls Try.prog 27 #[.pointer (some ⟨g, 0, none⟩)] w (impl_term_numbers.Post w (starN F)) := by
 subst hc
 have BT := aM hb
 have HR := aM hr
 have HX := aM hx
 have IH := aM ih
 clear ih hb hr hx
 have B0 : Aside0 ((w.alloc (.cells Try.zeroCells69 69)).heap[w.heap.size]? = some (.cells (Arr (List.replicate 201 false)) 69 (0, 0))) := ⟨by rw [← zeros_eq]; exact blk_new _ _⟩
 have BA : Aside0 (Below w.heap.size w (w.alloc (.cells Try.zeroCells69 69))) := ⟨bA (cE _ _) _⟩
 have g10 : (w.alloc (.cells Try.zeroCells69 69)).cell? ⟨g, 0, none⟩ = some (.int .u8 42) := aA (aD BT.out BA.out) 0
 have g11 := aA (aD BT.out BA.out) 1
 have x10 : (w.alloc (.cells Try.zeroCells69 69)).cell? ⟨h, 0, none⟩ = some x := (aA (aD HR.out BA.out) 0).trans HX.out
 go_enter Try.func27, Try.ntmps27
 go_wp2_with (first | (go_at_call_of 27 x; refine (IH.out _ BA.out).mono ?_; rintro e w1 ⟨q1, hq, rfl, hz, hd⟩; have Z1 := aM hz; have HB1 := aM (aE BA.out hd); have HQ1 : Aside0 (w.heap.size ≤ q1) := ⟨Nat.le_trans BA.out.size hq⟩; clear hz hd hq) | (go_at_call 41; refine (impl_numbers_star.calls _ _ _ Z1.out).mono ?_; rintro e w2 ⟨q2, hq, rfl, hz, hd⟩; have Z2 := aM hz; have HB2 := aM (aE HB1.out hd); have HQ2 : Aside0 (w.heap.size ≤ q2) := ⟨Nat.le_trans HB1.out.size hq⟩; clear hz hd hq))
 go_ret
 exact ⟨_, HQ2.out, rfl, Z2.out, HB2.out⟩
set_option maxHeartbeats 4000000 in
set_option maxRecDepth 100000 in
theorem impl_term_numbers.un_times (g h n : Nat) (c : Int) (cs : Array Value) (x : Value) (w : World) (hb : w.heap[g]? = some (.cells #[.int .u8 c, .slice (some ⟨h, 0, none⟩) 1 n] 72 (0, 0))) (hr : w.heap[h]? = some (.cells cs 42 (0, 0))) (hx : cs[0]? = some x) (F : Nat → Bool) (ih : ∀ W, Below w.heap.size w W → Calls Try.prog 27 #[x] W (impl_term_numbers.Post W F)) (d : Nat) (hd2 : 2 ≤ d) (hd5 : d ≤ 5) (hc : c - 48 = (d : Int)) :
  Calls Try.prog 27 #[.pointer (some ⟨g, 0, none⟩)] w (impl_term_numbers.Post w (powN F d)) := by
 have n0 : (c == 48) = false := beq_eq_false_iff_ne.mpr (by omega)
 have n1 : (c == 49) = false := beq_eq_false_iff_ne.mpr (by omega)
 have n2 : (c == 97) = false := beq_eq_false_iff_ne.mpr (by omega)
 have n3 : (c == 42) = false := beq_eq_false_iff_ne.mpr (by omega)
 have n4 : (c == 43) = false := beq_eq_false_iff_ne.mpr (by omega)
 have n5 : (c == 46) = false := beq_eq_false_iff_ne.mpr (by omega)
 have n6 : (c == 38) = false := beq_eq_false_iff_ne.mpr (by omega)
 have hm : (d : Int) % 256 = (d : Int) := by omega
 have hw8 : IntKind.u8.wrap (d : Int) = (d : Int) := by rw [show IntKind.u8.wrap (d : Int) = (d : Int) % 256 from rfl]; exact hm
 have BT := aM hb
 have HR := aM hr
 have HX := aM hx
 have IH := aM ih
 clear ih hb hr hx
 have B0 : Aside0 ((w.alloc (.cells Try.zeroCells69 69)).heap[w.heap.size]? = some (.cells (Arr (List.replicate 201 false)) 69 (0, 0))) := ⟨by rw [← zeros_eq]; exact blk_new _ _⟩
 have BA : Aside0 (Below w.heap.size w (w.alloc (.cells Try.zeroCells69 69))) := ⟨bA (cE _ _) _⟩
 have g10 : (w.alloc (.cells Try.zeroCells69 69)).cell? ⟨g, 0, none⟩ = some (.int .u8 c) := aA (aD BT.out BA.out) 0
 have g11 := aA (aD BT.out BA.out) 1
 have x10 : (w.alloc (.cells Try.zeroCells69 69)).cell? ⟨h, 0, none⟩ = some x := (aA (aD HR.out BA.out) 0).trans HX.out
 go_enter Try.func27, Try.ntmps27
 go_wp2_with (first | (go_at_call_of 27 x; refine (IH.out _ BA.out).mono ?_; rintro e w1 ⟨q1, hq, rfl, hz, hd⟩; have Z1 := aM hz; have HB1 := aM (aE BA.out hd); have HQ1 : Aside0 (w.heap.size ≤ q1) := ⟨Nat.le_trans BA.out.size hq⟩; clear hz hd hq) | (go_at_call 40; refine (impl_zero.calls _).mono ?_; rintro e w2 ⟨q2, hq, rfl, hz, hd⟩; have Z2 := aM hz; have HB2 := aM (aE HB1.out hd); have HQ2 : Aside0 (w.heap.size ≤ q2) := ⟨Nat.le_trans HB1.out.size hq⟩; have Z1' := aM (aD Z1.out ‹_›); have g20 : w2.cell? ⟨g, 0, none⟩ = some (.int .u8 c) := aA (aD BT.out HB2.out) 0; clear hz hd hq))
 go_loopw [3, 27] (fun v3 v27 wr => ∃ (i q : Nat), i ≤ d ∧ v3 = .pointer (some ⟨q, 0, none⟩) ∧ v27 = .int .u8 i ∧ Aside0 (w.heap.size ≤ q) ∧ Aside0 (wr.heap[q]? = some (.cells (ArrF (powN F i)) 69 (0, 0))) ∧ Aside0 (wr.heap[q1]? = some (.cells (ArrF F) 69 (0, 0))) ∧ Aside0 (Below w.heap.size w wr)) (fun _ v27 _ => d - (intOf v27).toNat)
 case atStart => exact ⟨0, q2, Nat.zero_le _, rfl, rfl, HQ2, Z2, Z1', HB2⟩
 case round =>
  obtain ⟨i, q, hi, rfl, rfl, HQ, HP, HF, HB⟩ := hrel
  by_cases hlt : i < d
  ·have e1 : decide ((i : Int) < (d : Int)) = true := aH (by omega)
   have e1' : (i : Int) < (d : Int) := by omega
   have e2 : IntKind.u8.wrap ((i : Int) + 1) = ((i + 1 : Nat) : Int) := by rw [show IntKind.u8.wrap ((i : Int) + 1) = ((i : Int) + 1) % 256 from rfl]; omega
   have e3 : ((i : Int) + 1) % 256 = ((i + 1 : Nat) : Int) := by omega
   go_wp2_with (go_at_call 42; refine (impl_numbers_plus.calls _ _ _ _ _ HP.out HF.out).mono ?_; rintro e w3 ⟨q3, hq, rfl, hz, hd⟩; have Z3 := aM hz; have HB3 := aM (aE HB.out hd); have HQ3 : Aside0 (w.heap.size ≤ q3) := ⟨Nat.le_trans HB.out.size hq⟩; have F3 := aM (aD HF.out hd); clear hz hd hq)
   exact ⟨⟨i + 1, q3, by omega, rfl, by go_num, HQ3, Z3, F3, HB3⟩, by simp [intOf]; omega⟩
  ·obtain rfl : i = d := by omega
   have e1 : decide ((i : Int) < (i : Int)) = false := aK (by omega)
   go_wp2
   go_ret
   exact ⟨q, HQ.out, rfl, HP.out, HB.out⟩
set_option maxHeartbeats 4000000 in
set_option maxRecDepth 100000 in
theorem impl_term_numbers.bin_sum (g h n : Nat) (c : Int) (cs : Array Value) (x y : Value) (w : World) (hb : w.heap[g]? = some (.cells #[.int .u8 c, .slice (some ⟨h, 0, none⟩) 2 n] 72 (0, 0))) (hr : w.heap[h]? = some (.cells cs 42 (0, 0))) (hx : cs[0]? = some x) (hy : cs[1]? = some y) (F G : Nat → Bool) (ih : ∀ W, Below w.heap.size w W → Calls Try.prog 27 #[x] W (impl_term_numbers.Post W F)) (ih2 : ∀ W, Below w.heap.size w W → Calls Try.prog 27 #[y] W (impl_term_numbers.Post W G)) (hc : c = 46) :
  Calls Try.prog 27 #[.pointer (some ⟨g, 0, none⟩)] w (impl_term_numbers.Post w (sumN F G)) := by
 subst hc
 have BT := aM hb
 have HR := aM hr
 have HX := aM hx
 have HY := aM hy
 have IH := aM ih
 have IH2 := aM ih2
 clear ih ih2 hb hr hx hy
 have B0 : Aside0 ((w.alloc (.cells Try.zeroCells69 69)).heap[w.heap.size]? = some (.cells (Arr (List.replicate 201 false)) 69 (0, 0))) := ⟨by rw [← zeros_eq]; exact blk_new _ _⟩
 have BA : Aside0 (Below w.heap.size w (w.alloc (.cells Try.zeroCells69 69))) := ⟨bA (cE _ _) _⟩
 have g10 : (w.alloc (.cells Try.zeroCells69 69)).cell? ⟨g, 0, none⟩ = some (.int .u8 46) := aA (aD BT.out BA.out) 0
 have g11 := aA (aD BT.out BA.out) 1
 have x10 : (w.alloc (.cells Try.zeroCells69 69)).cell? ⟨h, 0, none⟩ = some x := (aA (aD HR.out BA.out) 0).trans HX.out
 have x11 : (w.alloc (.cells Try.zeroCells69 69)).cell? ⟨h, 1, none⟩ = some y := (aA (aD HR.out BA.out) 1).trans HY.out
 go_enter Try.func27, Try.ntmps27
 go_wp2
 have HB0 := aM (b1 BA.out)
 have O0 := aM (kD B0.out)
 have C0 := aM (show (w.alloc (.cells Try.zeroCells69 69)).drew.cell? ⟨g, 1, none⟩ = some (.slice (some ⟨h, 0, none⟩) 2 n) from g11)
 have C1 := aM (show (w.alloc (.cells Try.zeroCells69 69)).drew.cell? ⟨h, 0, none⟩ = some x from x10)
 have C2 := aM (show (w.alloc (.cells Try.zeroCells69 69)).drew.cell? ⟨h, 1, none⟩ = some y from x11)
 go_region_held3 (fun w' => w'.cell? ⟨g, 1, none⟩ = some (.slice (some ⟨h, 0, none⟩) 2 n) ∧ w'.cell? ⟨h, 0, none⟩ = some x ∧ w'.cell? ⟨h, 1, none⟩ = some y) (exact ⟨C0.out, C1.out, C2.out⟩) (first | (go_at_call_of 27 x; refine (IH.out _ HB0.out).mono ?_; rintro e w1 ⟨q1, hq, rfl, hz, hd⟩; have Z1 := aM hz; have HB1 := aM (aE HB0.out hd); have HQ1 : Aside0 (w.heap.size ≤ q1) := ⟨Nat.le_trans HB0.out.size hq⟩; have N1 : Aside0 (w.heap.size < q1) := ⟨Nat.lt_of_lt_of_le (blk_lt O0.out) hq⟩; have O1 := aM (aD O0.out hd); replace C0 := aM (cN hd C0.out); replace C1 := aM (cN hd C1.out); replace C2 := aM (cN hd C2.out); clear hz hd hq) | (go_at_call_of 27 y; refine (IH2.out _ HB1.out).mono ?_; rintro e w2 ⟨q2, hq, rfl, hz, hd⟩; have Z2 := aM hz; have HB2 := aM (aE HB1.out hd); have HQ2 : Aside0 (w.heap.size ≤ q2) := ⟨Nat.le_trans HB1.out.size hq⟩; have N2 : Aside0 (w.heap.size < q2) := ⟨Nat.lt_of_lt_of_le (blk_lt O1.out) hq⟩; have O2 := aM (aD O1.out hd); have Y1 := aM (aD Z1.out hd); replace C0 := aM (cN hd C0.out); replace C1 := aM (cN hd C1.out); replace C2 := aM (cN hd C2.out); clear hz hd hq) | (go_at_call 42; refine (impl_numbers_plus.calls _ _ _ _ _ Y1.out Z2.out).mono ?_; rintro e w3 ⟨q3, hq, rfl, hz, hd⟩; have Z3 := aM hz; have HB3 := aM (aE HB2.out hd); have HQ3 : Aside0 (w.heap.size ≤ q3) := ⟨Nat.le_trans HB2.out.size hq⟩; have N3 : Aside0 (w.heap.size < q3) := ⟨Nat.lt_of_lt_of_le (blk_lt O2.out) hq⟩; have O3 := aM (aD O2.out hd); replace C0 := aM (cN hd C0.out); replace C1 := aM (cN hd C1.out); replace C2 := aM (cN hd C2.out); clear hz hd hq))
 go_wp2
 go_ret
 exact ⟨q3, HQ3.out, rfl, Z3.out, HB3.out⟩
set_option maxHeartbeats 4000000 in
set_option maxRecDepth 100000 in
theorem impl_term_numbers.bin_either (g h n : Nat) (c : Int) (cs : Array Value) (x y : Value) (w : World) (hb : w.heap[g]? = some (.cells #[.int .u8 c, .slice (some ⟨h, 0, none⟩) 2 n] 72 (0, 0))) (hr : w.heap[h]? = some (.cells cs 42 (0, 0))) (hx : cs[0]? = some x) (hy : cs[1]? = some y) (F G : Nat → Bool) (ih : ∀ W, Below w.heap.size w W → Calls Try.prog 27 #[x] W (impl_term_numbers.Post W F)) (ih2 : ∀ W, Below w.heap.size w W → Calls Try.prog 27 #[y] W (impl_term_numbers.Post W G)) (hc : c = 43) :
  Calls Try.prog 27 #[.pointer (some ⟨g, 0, none⟩)] w (impl_term_numbers.Post w (fun n => F n || G n)) := by
 subst hc
 have BT := aM hb
 have HR := aM hr
 have HX := aM hx
 have HY := aM hy
 have IH := aM ih
 have IH2 := aM ih2
 clear ih ih2 hb hr hx hy
 have B0 : Aside0 ((w.alloc (.cells Try.zeroCells69 69)).heap[w.heap.size]? = some (.cells (Arr (List.replicate 201 false)) 69 (0, 0))) := ⟨by rw [← zeros_eq]; exact blk_new _ _⟩
 have BA : Aside0 (Below w.heap.size w (w.alloc (.cells Try.zeroCells69 69))) := ⟨bA (cE _ _) _⟩
 have g10 : (w.alloc (.cells Try.zeroCells69 69)).cell? ⟨g, 0, none⟩ = some (.int .u8 43) := aA (aD BT.out BA.out) 0
 have g11 := aA (aD BT.out BA.out) 1
 have x10 : (w.alloc (.cells Try.zeroCells69 69)).cell? ⟨h, 0, none⟩ = some x := (aA (aD HR.out BA.out) 0).trans HX.out
 have x11 : (w.alloc (.cells Try.zeroCells69 69)).cell? ⟨h, 1, none⟩ = some y := (aA (aD HR.out BA.out) 1).trans HY.out
 go_enter Try.func27, Try.ntmps27
 go_wp2
 have HB0 := aM (b1 BA.out)
 have O0 := aM (kD B0.out)
 have C0 := aM (show (w.alloc (.cells Try.zeroCells69 69)).drew.cell? ⟨g, 1, none⟩ = some (.slice (some ⟨h, 0, none⟩) 2 n) from g11)
 have C1 := aM (show (w.alloc (.cells Try.zeroCells69 69)).drew.cell? ⟨h, 0, none⟩ = some x from x10)
 have C2 := aM (show (w.alloc (.cells Try.zeroCells69 69)).drew.cell? ⟨h, 1, none⟩ = some y from x11)
 go_region_held3 (fun w' => w'.cell? ⟨g, 1, none⟩ = some (.slice (some ⟨h, 0, none⟩) 2 n) ∧ w'.cell? ⟨h, 0, none⟩ = some x ∧ w'.cell? ⟨h, 1, none⟩ = some y) (exact ⟨C0.out, C1.out, C2.out⟩) (first | (go_at_call_of 27 x; refine (IH.out _ HB0.out).mono ?_; rintro e w1 ⟨q1, hq, rfl, hz, hd⟩; have Z1 := aM hz; have HB1 := aM (aE HB0.out hd); have HQ1 : Aside0 (w.heap.size ≤ q1) := ⟨Nat.le_trans HB0.out.size hq⟩; have N1 : Aside0 (w.heap.size < q1) := ⟨Nat.lt_of_lt_of_le (blk_lt O0.out) hq⟩; have O1 := aM (aD O0.out hd); replace C0 := aM (cN hd C0.out); replace C1 := aM (cN hd C1.out); replace C2 := aM (cN hd C2.out); clear hz hd hq) | (go_at_call_of 27 y; refine (IH2.out _ HB1.out).mono ?_; rintro e w2 ⟨q2, hq, rfl, hz, hd⟩; have Z2 := aM hz; have HB2 := aM (aE HB1.out hd); have HQ2 : Aside0 (w.heap.size ≤ q2) := ⟨Nat.le_trans HB1.out.size hq⟩; have N2 : Aside0 (w.heap.size < q2) := ⟨Nat.lt_of_lt_of_le (blk_lt O1.out) hq⟩; have O2 := aM (aD O1.out hd); have Y1 := aM (aD Z1.out hd); replace C0 := aM (cN hd C0.out); replace C1 := aM (cN hd C1.out); replace C2 := aM (cN hd C2.out); clear hz hd hq))
 have BT2 := aM (aD BT.out HB2.out)
 clear C0 C1 C2
 go_wp2
 go_loopw [70] (fun v70 wr => ∃ (i : Nat) (l : List Bool), i ≤ 201 ∧ v70 = .int .i64 i ∧ Aside0 (PutI (fun n => F n || G n) i l) ∧ Aside0 (wr.heap[w.heap.size]? = some (.cells (Arr l) 69 (0, 0))) ∧ Aside0 (wr.heap[q1]? = some (.cells (ArrF F) 69 (0, 0))) ∧ Aside0 (wr.heap[q2]? = some (.cells (ArrF G) 69 (0, 0))) ∧ Aside0 (Below w.heap.size w wr)) (fun v70 _ => 201 - (intOf v70).toNat)
 case atStart => exact ⟨0, _, Nat.zero_le _, rfl, ⟨PutI.start _⟩, O2, Y1, Z2, HB2⟩
 case round =>
  obtain ⟨i, l, hi, rfl, HI, HA, H1, H2, HB⟩ := hrel
  by_cases hlt : i < 201
  ·have hc1 := ArrF.at_ H1.out i hlt
   have hc2 := ArrF.at_ H2.out i hlt
   have hfr := aC HA.out i
   have hc0 := Arr.at_ HA.out i (by rw [HI.out.1]; exact hlt)
   have g30 : wr.cell? ⟨g, 0, none⟩ = some (.int .u8 43) := aA (aD BT.out HB.out) 0
   have hST := fun b hb => HI.out.step hlt b hb
   have ne1 : q1 ≠ w.heap.size := by have := N1.out; omega
   have ne2 : q2 ≠ w.heap.size := by have := N2.out; omega
   generalize F i = a at hc1 hST
   generalize G i = b at hc2 hST
   rcases a with _ | _ <;> rcases b with _ | _
   ·go_wp2
    go_region
    try go_wp2
    have HS := hST false rfl
    have K1 := aM (kD (cL (p := ⟨w.heap.size, i, none⟩) H1.out ne1 (.bool false)))
    have K2 := aM (kD (cL (p := ⟨w.heap.size, i, none⟩) H2.out ne2 (.bool false)))
    exact ⟨⟨i + 1, _, by omega, by go_num, ⟨HS⟩, ⟨kD (Arr.set_ HA.out i false)⟩, K1, K2, ⟨b1 (HB.out.setCell (p := ⟨w.heap.size, i, none⟩) (cD _) _)⟩⟩, by simp [intOf]; omega⟩
   
   ·go_wp2
    go_region
    try go_wp2
    have HS := hST true rfl
    have K1 := aM (kD (cL (p := ⟨w.heap.size, i, none⟩) H1.out ne1 (.bool true)))
    have K2 := aM (kD (cL (p := ⟨w.heap.size, i, none⟩) H2.out ne2 (.bool true)))
    exact ⟨⟨i + 1, _, by omega, by go_num, ⟨HS⟩, ⟨kD (Arr.set_ HA.out i true)⟩, K1, K2, ⟨b1 (HB.out.setCell (p := ⟨w.heap.size, i, none⟩) (cD _) _)⟩⟩, by simp [intOf]; omega⟩
   
   ·go_wp2
    go_region
    try go_wp2
    have HS := hST true rfl
    have K1 := aM (kD (cL (p := ⟨w.heap.size, i, none⟩) H1.out ne1 (.bool true)))
    have K2 := aM (kD (cL (p := ⟨w.heap.size, i, none⟩) H2.out ne2 (.bool true)))
    exact ⟨⟨i + 1, _, by omega, by go_num, ⟨HS⟩, ⟨kD (Arr.set_ HA.out i true)⟩, K1, K2, ⟨b1 (HB.out.setCell (p := ⟨w.heap.size, i, none⟩) (cD _) _)⟩⟩, by simp [intOf]; omega⟩
   
   ·go_wp2
    go_region
    try go_wp2
    have HS := hST true rfl
    have K1 := aM (kD (cL (p := ⟨w.heap.size, i, none⟩) H1.out ne1 (.bool true)))
    have K2 := aM (kD (cL (p := ⟨w.heap.size, i, none⟩) H2.out ne2 (.bool true)))
    exact ⟨⟨i + 1, _, by omega, by go_num, ⟨HS⟩, ⟨kD (Arr.set_ HA.out i true)⟩, K1, K2, ⟨b1 (HB.out.setCell (p := ⟨w.heap.size, i, none⟩) (cD _) _)⟩⟩, by simp [intOf]; omega⟩
  ·obtain rfl : i = 201 := by omega
   have HF := HI.out.fin
   go_wp2
   go_ret
   exact ⟨w.heap.size, cD _, rfl, by rw [← HF]; exact HA.out, HB.out⟩
set_option maxHeartbeats 4000000 in
set_option maxRecDepth 100000 in
theorem impl_term_numbers.bin_both (g h n : Nat) (c : Int) (cs : Array Value) (x y : Value) (w : World) (hb : w.heap[g]? = some (.cells #[.int .u8 c, .slice (some ⟨h, 0, none⟩) 2 n] 72 (0, 0))) (hr : w.heap[h]? = some (.cells cs 42 (0, 0))) (hx : cs[0]? = some x) (hy : cs[1]? = some y) (F G : Nat → Bool) (ih : ∀ W, Below w.heap.size w W → Calls Try.prog 27 #[x] W (impl_term_numbers.Post W F)) (ih2 : ∀ W, Below w.heap.size w W → Calls Try.prog 27 #[y] W (impl_term_numbers.Post W G)) (hc : c = 38) :
  Calls Try.prog 27 #[.pointer (some ⟨g, 0, none⟩)] w (impl_term_numbers.Post w (fun n => F n && G n)) := by
 subst hc
 have BT := aM hb
 have HR := aM hr
 have HX := aM hx
 have HY := aM hy
 have IH := aM ih
 have IH2 := aM ih2
 clear ih ih2 hb hr hx hy
 have B0 : Aside0 ((w.alloc (.cells Try.zeroCells69 69)).heap[w.heap.size]? = some (.cells (Arr (List.replicate 201 false)) 69 (0, 0))) := ⟨by rw [← zeros_eq]; exact blk_new _ _⟩
 have BA : Aside0 (Below w.heap.size w (w.alloc (.cells Try.zeroCells69 69))) := ⟨bA (cE _ _) _⟩
 have g10 : (w.alloc (.cells Try.zeroCells69 69)).cell? ⟨g, 0, none⟩ = some (.int .u8 38) := aA (aD BT.out BA.out) 0
 have g11 := aA (aD BT.out BA.out) 1
 have x10 : (w.alloc (.cells Try.zeroCells69 69)).cell? ⟨h, 0, none⟩ = some x := (aA (aD HR.out BA.out) 0).trans HX.out
 have x11 : (w.alloc (.cells Try.zeroCells69 69)).cell? ⟨h, 1, none⟩ = some y := (aA (aD HR.out BA.out) 1).trans HY.out
 go_enter Try.func27, Try.ntmps27
 go_wp2
 have HB0 := aM (b1 BA.out)
 have O0 := aM (kD B0.out)
 have C0 := aM (show (w.alloc (.cells Try.zeroCells69 69)).drew.cell? ⟨g, 1, none⟩ = some (.slice (some ⟨h, 0, none⟩) 2 n) from g11)
 have C1 := aM (show (w.alloc (.cells Try.zeroCells69 69)).drew.cell? ⟨h, 0, none⟩ = some x from x10)
 have C2 := aM (show (w.alloc (.cells Try.zeroCells69 69)).drew.cell? ⟨h, 1, none⟩ = some y from x11)
 go_region_held3 (fun w' => w'.cell? ⟨g, 1, none⟩ = some (.slice (some ⟨h, 0, none⟩) 2 n) ∧ w'.cell? ⟨h, 0, none⟩ = some x ∧ w'.cell? ⟨h, 1, none⟩ = some y) (exact ⟨C0.out, C1.out, C2.out⟩) (first | (go_at_call_of 27 x; refine (IH.out _ HB0.out).mono ?_; rintro e w1 ⟨q1, hq, rfl, hz, hd⟩; have Z1 := aM hz; have HB1 := aM (aE HB0.out hd); have HQ1 : Aside0 (w.heap.size ≤ q1) := ⟨Nat.le_trans HB0.out.size hq⟩; have N1 : Aside0 (w.heap.size < q1) := ⟨Nat.lt_of_lt_of_le (blk_lt O0.out) hq⟩; have O1 := aM (aD O0.out hd); replace C0 := aM (cN hd C0.out); replace C1 := aM (cN hd C1.out); replace C2 := aM (cN hd C2.out); clear hz hd hq) | (go_at_call_of 27 y; refine (IH2.out _ HB1.out).mono ?_; rintro e w2 ⟨q2, hq, rfl, hz, hd⟩; have Z2 := aM hz; have HB2 := aM (aE HB1.out hd); have HQ2 : Aside0 (w.heap.size ≤ q2) := ⟨Nat.le_trans HB1.out.size hq⟩; have N2 : Aside0 (w.heap.size < q2) := ⟨Nat.lt_of_lt_of_le (blk_lt O1.out) hq⟩; have O2 := aM (aD O1.out hd); have Y1 := aM (aD Z1.out hd); replace C0 := aM (cN hd C0.out); replace C1 := aM (cN hd C1.out); replace C2 := aM (cN hd C2.out); clear hz hd hq))
 have BT2 := aM (aD BT.out HB2.out)
 clear C0 C1 C2
 go_wp2
 go_loopw [70] (fun v70 wr => ∃ (i : Nat) (l : List Bool), i ≤ 201 ∧ v70 = .int .i64 i ∧ Aside0 (PutI (fun n => F n && G n) i l) ∧ Aside0 (wr.heap[w.heap.size]? = some (.cells (Arr l) 69 (0, 0))) ∧ Aside0 (wr.heap[q1]? = some (.cells (ArrF F) 69 (0, 0))) ∧ Aside0 (wr.heap[q2]? = some (.cells (ArrF G) 69 (0, 0))) ∧ Aside0 (Below w.heap.size w wr)) (fun v70 _ => 201 - (intOf v70).toNat)
 case atStart => exact ⟨0, _, Nat.zero_le _, rfl, ⟨PutI.start _⟩, O2, Y1, Z2, HB2⟩
 case round =>
  obtain ⟨i, l, hi, rfl, HI, HA, H1, H2, HB⟩ := hrel
  by_cases hlt : i < 201
  ·have hc1 := ArrF.at_ H1.out i hlt
   have hc2 := ArrF.at_ H2.out i hlt
   have hfr := aC HA.out i
   have hc0 := Arr.at_ HA.out i (by rw [HI.out.1]; exact hlt)
   have g30 : wr.cell? ⟨g, 0, none⟩ = some (.int .u8 38) := aA (aD BT.out HB.out) 0
   have hST := fun b hb => HI.out.step hlt b hb
   have ne1 : q1 ≠ w.heap.size := by have := N1.out; omega
   have ne2 : q2 ≠ w.heap.size := by have := N2.out; omega
   generalize F i = a at hc1 hST
   generalize G i = b at hc2 hST
   rcases a with _ | _ <;> rcases b with _ | _
   ·go_wp2
    go_region
    try go_wp2
    have HS := hST false rfl
    have K1 := aM (kD (cL (p := ⟨w.heap.size, i, none⟩) H1.out ne1 (.bool false)))
    have K2 := aM (kD (cL (p := ⟨w.heap.size, i, none⟩) H2.out ne2 (.bool false)))
    exact ⟨⟨i + 1, _, by omega, by go_num, ⟨HS⟩, ⟨kD (Arr.set_ HA.out i false)⟩, K1, K2, ⟨b1 (HB.out.setCell (p := ⟨w.heap.size, i, none⟩) (cD _) _)⟩⟩, by simp [intOf]; omega⟩
   
   ·go_wp2
    go_region
    try go_wp2
    have HS := hST false rfl
    have K1 := aM (kD (cL (p := ⟨w.heap.size, i, none⟩) H1.out ne1 (.bool false)))
    have K2 := aM (kD (cL (p := ⟨w.heap.size, i, none⟩) H2.out ne2 (.bool false)))
    exact ⟨⟨i + 1, _, by omega, by go_num, ⟨HS⟩, ⟨kD (Arr.set_ HA.out i false)⟩, K1, K2, ⟨b1 (HB.out.setCell (p := ⟨w.heap.size, i, none⟩) (cD _) _)⟩⟩, by simp [intOf]; omega⟩
   
   ·go_wp2
    go_region
    try go_wp2
    have HS := hST false rfl
    have K1 := aM (kD (cL (p := ⟨w.heap.size, i, none⟩) H1.out ne1 (.bool false)))
    have K2 := aM (kD (cL (p := ⟨w.heap.size, i, none⟩) H2.out ne2 (.bool false)))
    exact ⟨⟨i + 1, _, by omega, by go_num, ⟨HS⟩, ⟨kD (Arr.set_ HA.out i false)⟩, K1, K2, ⟨b1 (HB.out.setCell (p := ⟨w.heap.size, i, none⟩) (cD _) _)⟩⟩, by simp [intOf]; omega⟩
   
   ·go_wp2
    go_region
    try go_wp2
    have HS := hST true rfl
    have K1 := aM (kD (cL (p := ⟨w.heap.size, i, none⟩) H1.out ne1 (.bool true)))
    have K2 := aM (kD (cL (p := ⟨w.heap.size, i, none⟩) H2.out ne2 (.bool true)))
    exact ⟨⟨i + 1, _, by omega, by go_num, ⟨HS⟩, ⟨kD (Arr.set_ HA.out i true)⟩, K1, K2, ⟨b1 (HB.out.setCell (p := ⟨w.heap.size, i, none⟩) (cD _) _)⟩⟩, by simp [intOf]; omega⟩
  ·obtain rfl : i = 201 := by omega
   have HF := HI.out.fin
   go_wp2
   go_ret
   exact ⟨w.heap.size, cD _, rfl, by rw [← HF]; exact HA.out, HB.out⟩
theorem impl_term_numbers.calls (t : Tm) : ∀ (v : Value) (w : World) (lo hi : Nat) (F : Nat → Bool), t.At w lo hi v → impl_term_numbers.f t = some F → Calls Try.prog 27 #[v] w (impl_term_numbers.Post w F) := by
 induction t with
 | leaf c =>
  rintro v w lo hi F ⟨g, h1, h2, rfl, hb⟩ h
  unfold impl_term_numbers.f at h
  split at h
  ·rename_i hc
   subst hc; cases h; exact impl_term_numbers.leaf_zero g w hb
  split at h
  ·rename_i hc
   subst hc; cases h; exact impl_term_numbers.leaf_one g w hb
  split at h
  ·rename_i hc
   subst hc; cases h; exact impl_term_numbers.leaf_a g w hb
  ·cases h
 | un c a ih =>
  rintro v w lo hi F ⟨g, h, n, cs, x, h1, h2, h3, h4, rfl, hb, hr, hx, hat⟩ hf
  unfold impl_term_numbers.f at hf
  obtain ⟨F1, ha, hf⟩ := Option.bind_eq_some_iff.mp hf
  have i1 : ∀ W, Below w.heap.size w W → Calls Try.prog 27 #[x] W (impl_term_numbers.Post W F1) := fun W hW => ih x W lo hi F1 (hat.below hW) ha
  split at hf
  ·rename_i hc
   cases hf; exact impl_term_numbers.un_star g h n c cs x w hb hr hx F1 i1 hc
  split at hf
  ·rename_i hc
   cases hf; exact impl_term_numbers.un_times g h n c cs x w hb hr hx F1 i1 (c - 48).toNat (by omega) (by omega) (by omega)
  ·cases hf
 | bin c a b ih1 ih2 =>
  rintro v w lo hi F ⟨g, h, n, cs, x, y, h1, h2, h3, h4, rfl, hb, hr, hx, hy, hat1, hat2⟩ hf
  unfold impl_term_numbers.f at hf
  obtain ⟨F1, ha, hf⟩ := Option.bind_eq_some_iff.mp hf
  obtain ⟨F2, ha2, hf⟩ := Option.bind_eq_some_iff.mp hf
  have i1 : ∀ W, Below w.heap.size w W → Calls Try.prog 27 #[x] W (impl_term_numbers.Post W F1) := fun W hW => ih1 x W lo hi F1 (hat1.below hW) ha
  have i2 : ∀ W, Below w.heap.size w W → Calls Try.prog 27 #[y] W (impl_term_numbers.Post W F2) := fun W hW => ih2 y W lo hi F2 (hat2.below hW) ha2
  split at hf
  ·rename_i hc
   cases hf; exact impl_term_numbers.bin_either g h n c cs x y w hb hr hx hy F1 F2 i1 i2 hc
  split at hf
  ·rename_i hc
   cases hf; exact impl_term_numbers.bin_sum g h n c cs x y w hb hr hx hy F1 F2 i1 i2 hc
  split at hf
  ·rename_i hc
   cases hf; exact impl_term_numbers.bin_both g h n c cs x y w hb hr hx hy F1 F2 i1 i2 hc
  ·cases hf

def impl_TermList.row (F : Nat → Bool) (m : Nat) : List Int := ((List.range m).filter F).map Int.ofNat
def impl_TermList.f (k : Nat) (a0 : ByteArray) (a1 : Int) : Option (List Int × Bool) := match Tm.of a0 with | some t => (if 0 ≤ a1 ∧ a1 ≤ 200 then (impl_term_numbers.f t).bind fun F => some (impl_TermList.row F a1.toNat, true) else some ([], false)) | none => some ([], false)
theorem impl_TermList.row_yes {F : Nat → Bool} {m : Nat} (h : F m = true) : impl_TermList.row F m ++ [(m : Int)] = impl_TermList.row F (m + 1) := by
 unfold impl_TermList.row
 rw [List.range_succ, List.filter_append, List.map_append]
 simp [h]
theorem impl_TermList.row_no {F : Nat → Bool} {m : Nat} (h : F m = false) : impl_TermList.row F m = impl_TermList.row F (m + 1) := by
 unfold impl_TermList.row
 rw [List.range_succ, List.filter_append, List.map_append]
 simp [h]
theorem impl_TermList.row_len (F : Nat → Bool) (m : Nat) : (impl_TermList.row F m).length ≤ m := by
 unfold impl_TermList.row
 rw [List.length_map]
 exact Nat.le_trans (List.length_filter_le _ _) (by simp)
theorem impl_TermList.in_eq (v : Int) : impl_in.f v 0 200 = some (decide (0 ≤ v ∧ v ≤ 200)) := by
 unfold impl_in.f
 by_cases c1 : 0 ≤ v
 ·by_cases c2 : v ≤ 200 <;> simp [c1, c2]
 ·simp [c1]
theorem impl_TermList.cut (q m : Nat) (hm : m < 201) (W : World) : (Instr.sliceAt 69 (.pointer (some ⟨q, 0, none⟩)) none (some (.int .i64 (m : Int))) none).run Try.prog W = .ok (.slice (some ⟨q, 0, none⟩) m 201) W := by
 have hl : Try.prog.arrayLen 69 = 201 := by kernel_rfl
 have hs : Try.prog.elem 69 = 4 := by kernel_rfl
 rw [run_sliceAt_array_h W 69 ⟨q, 0, none⟩ (by kernel_rfl) .i64 m (by omega) (by rw [hl]; omega), hl, hs]
 go_simp
set_option maxHeartbeats 2000000 in
set_option maxRecDepth 100000 in
theorem impl_TermList.calls (k : Nat) (a0 : ByteArray) (a1 : Int) (r1 : List Int) (r2 : Bool) (w : World) (h : impl_TermList.f k a0 a1 = some (r1, r2)) :
  Calls Try.prog 17 #[.string a0, .int .i64 a1] w fun e w' => ∃ v0_ : Value, e = .returned (.tuple #[v0_, .bool r2]) ∧ Kd.R (Kd.int .i64) 3 w' w.heap.size (fun _ => True) v0_ r1 ∧ Below w.heap.size w w' := by
 have C := impl_termOf.calls a0 w
 have CI := fun W => impl_in.calls a1 0 200 _ W (impl_TermList.in_eq a1)
 unfold impl_TermList.f at h
 cases hp : Tm.of a0 with
 | none =>
  rw [hp] at C h
  obtain ⟨rfl, rfl⟩ := Prod.mk.inj (bU h)
  have C0 : Calls Try.prog 25 #[.string a0] w fun e w' => e = .returned (.pointer none) ∧ Below w.heap.size w w' := C
  clear C hp CI h
  go_enter Try.func17, Try.ntmps17
  go_wp2_with (go_at_call 25; refine C0.mono ?_; rintro e w1 ⟨rfl, hb⟩; have HB := aM hb; clear hb)
  go_ret2
  exact ⟨_, rfl, Kd.R_nil _ _ _ _ _, HB.out⟩
 | some t =>
  rw [hp] at C h
  simp only at h
  have C0 : Calls Try.prog 25 #[.string a0] w fun e w' => ∃ g, e = .returned (.pointer (some ⟨g, 0, none⟩)) ∧ t.At w' w.heap.size w'.heap.size (.pointer (some ⟨g, 0, none⟩)) ∧ Below w.heap.size w w' := C
  by_cases hi : 0 ≤ a1 ∧ a1 ≤ 200
  ·rw [if_pos hi] at h
   obtain ⟨F, hF, h⟩ := Option.bind_eq_some_iff.mp h
   obtain ⟨rfl, rfl⟩ := Prod.mk.inj (bU h)
   rw [aH hi] at CI
   obtain ⟨m, rfl⟩ : ∃ m : Nat, a1 = (m : Int) := ⟨a1.toNat, by omega⟩
   have hm : m < 201 := by omega
   have HF := aM hF
   clear C hp h hF hi
   go_enter Try.func17, Try.ntmps17
   go_wp2_with (first | (go_at_call 25; refine C0.mono ?_; rintro e w1 ⟨g, rfl, hat, hb⟩; have HB := aM hb; have HAT := aM hat; clear hb hat) | (go_at_call 26; refine (CI _).mono ?_; rintro e w2 ⟨rfl, hd⟩; have HB2 := aM (aE HB.out (Drawn0.below hd)); have HAT2 := aM (HAT.out.below (Drawn0.below hd)); clear hd) | (go_at_call 27; refine (impl_term_numbers.calls t _ _ _ _ F HAT2.out HF.out).mono ?_; rintro e w3 ⟨q, hq, rfl, hz, hd⟩; have HB3 := aM (aE HB2.out hd); have HZ := aM hz; have hsl := impl_TermList.cut q m hm; clear hd hz hq))
   go_loopw [7, 25] (fun v7 v25 wr => ∃ (i : Nat) (acc : List Int), i ≤ m ∧ v25 = .int .i64 i ∧ acc = impl_TermList.row F i ∧ Aside0 (Kd.R (Kd.int .i64) 3 wr w3.heap.size (fun _ => True) v7 acc) ∧ Aside0 (Below w3.heap.size w3 wr)) (fun _ v25 _ => m - (intOf v25).toNat)
   case atStart => exact ⟨0, [], Nat.zero_le _, rfl, rfl, ⟨Kd.R_nil _ _ _ _ _⟩, ⟨cE _ _⟩⟩
   case round =>
    obtain ⟨i, acc, hi, rfl, hacc, HR, HW⟩ := hrel
    have hlen : acc.length ≤ i := by rw [hacc]; exact impl_TermList.row_len F i
    by_cases hlt : i < m
    ·skip
     have e1' : (i : Int) < (m : Int) := by omega
     have hc := ArrF.at_ (aD HZ.out HW.out) i (by omega)
     cases hF : F i with
     | true =>
      rw [hF] at hc
      have HN := aM (impl_TermList.row_yes hF)
      rw [← hacc] at HN
      clear hF hacc
      go_wp2_with ((with_reducible refine gate_builtin (b := .append) (xs := #[.tmp 31, .tmp 33]) rfl ?_); at_builtin; refine Kd.R_append (Kd.int .i64) (w0 := w3) w3.heap.size rfl (.tmp 31) (.tmp 33) 33 3 (.int .i64 0) 8 rfl Try.underlying33 info3 rfl (by decide) (by omega) _ acc (i : Int) [.int .i64 i] (fun _ => True) (fun _ => False) rfl rfl ?aP (fun _ hk => hk.elim) ?aF ?aO ?aB ?aS ?aL ?_; (case aP => exact rfl); (case aB => exact HW.out); (case aF => exact (fun _ _ => trivial)); (case aO => exact HR.out); (case aS => exact HW.out.size); (case aL => omega); intro v105 w10 ho hb hg hat; have HW5 := aM hb; have HR5 := aM ho; clear ho hb hg hat)
      exact ⟨⟨i + 1, _, by omega, by go_num, HN.out, HR5, HW5⟩, by simp [intOf]; omega⟩
     | false =>
      rw [hF] at hc
      have HN := aM (impl_TermList.row_no hF)
      rw [← hacc] at HN
      clear hF
      go_wp2
      exact ⟨⟨i + 1, acc, by omega, by go_num, HN.out, HR, HW⟩, by simp [intOf]; omega⟩
    ·obtain rfl : i = m := by omega
     go_wp2
     go_ret2
     refine ⟨_, rfl, ?_, aE HB3.out HW.out⟩
     rw [show ((i : Int)).toNat = i by omega, ← hacc]
     exact bP HR.out HB3.out.size
  ·rw [if_neg hi] at h
   obtain ⟨rfl, rfl⟩ := Prod.mk.inj (bU h)
   rw [aK hi] at CI
   clear C hp h hi
   go_enter Try.func17, Try.ntmps17
   go_wp2_with (first | (go_at_call 25; refine C0.mono ?_; rintro e w1 ⟨g, rfl, hat, hb⟩; have HB := aM hb; clear hb hat) | (go_at_call 26; refine (CI _).mono ?_; rintro e w2 ⟨rfl, hd⟩; have HB2 := aM (aE HB.out (Drawn0.below hd)); clear hd))
   go_ret2
   exact ⟨_, rfl, Kd.R_nil _ _ _ _ _, HB2.out⟩

def laws_sameInts.l0 : Nat → List Int → List Int → Int → Option (Bool)
 | 0, _, _, _ => none
 | k + 1, x0, x1, x5 => if x5 < (x0.length : Int) then (if 0 ≤ x5 then (if x5 < (x1.length : Int) then (if (rd x0 x5) = (rd x1 x5) then (laws_sameInts.l0 k x0 x1 (wrap64 (x5 + 1))) else (some false)) else (none)) else (none)) else (some true)
def laws_sameInts.f (k : Nat) (l0 : List Int) (l1 : List Int) : Option (Bool) := if (l0.length : Int) = (l1.length : Int) then (laws_sameInts.l0 k l0 l1 0) else (some false)
set_option maxHeartbeats 8000000 in
set_option maxRecDepth 100000 in
theorem laws_sameInts.calls (k : Nat) (A0 : Option Addr) (c0 : Nat) (l0 : List Int) (A1 : Option Addr) (c1 : Nat) (l1 : List Int) (r : Bool) (w : World) (hr0 : Kd.C (Kd.int .i64) w A0 l0.length l0) (hc0 : l0.length ≤ c0) (hr1 : Kd.C (Kd.int .i64) w A1 l1.length l1) (hc1 : l1.length ≤ c1) (h : laws_sameInts.f k l0 l1 = some r) :
  Calls Try.prog 18 #[.slice A0 l0.length c0, .slice A1 l1.length c1] w fun e w' => e = .returned (.bool r) ∧ Drawn0 w w' := by
 have HR0 := aM hr0
 clear hr0 hc0
 have HR1 := aM hr1
 clear hr1 hc1
 have H : (if (l0.length : Int) = (l1.length : Int) then (laws_sameInts.l0 k l0 l1 0) else (some false)) = some r := h
 clear h
 by_cases c3 : (l0.length : Int) = (l1.length : Int)
 ·rw [if_pos c3] at H
  have c3b0 : ((l0.length : Int) == (l1.length : Int)) = true := beq_iff_eq.mpr c3
  have c3b1 : ((l0.length : Int) != (l1.length : Int)) = false := bne_eq_false_iff_eq.mpr c3
  have c3b2 : (l0.length == l1.length) = true := by first | (simp at c3 ⊢; omega)
  clear c3
  have H' := aM H
  clear H
  go_enter Try.func18, Try.ntmps18
  go_wp2
  repeat (go_quiet (fail); try go_wp2)
  go_loopg [5] k (fun kq v5 w' => ∃ (x5_1 : Int), v5 = .int .i64 x5_1 ∧ Aside0 (laws_sameInts.l0 kq l0 l1 x5_1 = some r) ∧ Aside0 (kq ≤ k) ∧ Drawn0 w w')
  case atStart => exact ⟨(0), (by rfl), H', ⟨cD _⟩, by repeat (exact Drawn0.refl _)⟩
  case round =>
   clear H'
   try clear c3b0
   try clear c3b1
   try clear c3b2
   obtain ⟨x5_1, rfl, HA, HK1, ⟨m1, rfl⟩⟩ := hrel
   cases gk with
   | zero => exact absurd HA.out (by simp [laws_sameInts.l0])
   | succ k1 =>
    have H := HA.out
    clear HA
    simp only [laws_sameInts.l0] at H
    by_cases c4 : x5_1 < (l0.length : Int)
    ·rw [if_pos c4] at H
     have c4b0 : decide (x5_1 < (l0.length : Int)) = true := aH c4
     clear c4
     by_cases c5 : 0 ≤ x5_1
     ·rw [if_pos c5] at H
      have c5b0 : decide (0 ≤ x5_1) = true := aH c5
      clear c5
      by_cases c6 : x5_1 < (l1.length : Int)
      ·rw [if_pos c6] at H
       have c6b0 : decide (x5_1 < (l1.length : Int)) = true := aH c6
       clear c6
       by_cases c7 : (rd l0 x5_1) = (rd l1 x5_1)
       all_goals
        first
        |rw [if_pos c7] at H
         have c7b1 : ((rd l0 x5_1) != (rd l1 x5_1)) = false := bne_eq_false_iff_eq.mpr c7
         clear c7
         have H' := aM H
         clear H
        |rw [if_neg c7] at H
         have c7b1 : ((rd l0 x5_1) != (rd l1 x5_1)) = true := bne_iff_ne.mpr c7
         obtain rfl := bU H
        have p666 : 0 ≤ (x5_1 : Int) := aJ (by (with_reducible assumption))
        have q666 : x5_1 < (l0.length : Int) := aJ (by (with_reducible assumption))
        obtain ⟨ad666, e666, hx666_0⟩ := Kd.at_int HR0.out x5_1 p666 q666
        cases e666
        replace p666 := eq_true p666
        replace q666 := eq_true q666
        have p667 : 0 ≤ (x5_1 : Int) := aJ (by (with_reducible assumption))
        have q667 : x5_1 < (l1.length : Int) := aJ (by (with_reducible assumption))
        obtain ⟨ad667, e667, hx667_0⟩ := Kd.at_int HR1.out x5_1 p667 q667
        cases e667
        replace q667 := eq_true q667
        go_wp2
        repeat (go_quiet (fail); try go_wp2)
        first
        |go_roundg k1
         case measure => have := HK1.out; omega
         case rel => exact ⟨(wrap64 (x5_1 + 1)), (by rfl), H', ⟨by have := HK1.out; omega⟩, by repeat (first | exact Drawn0.refl _ | apply Drawn0.step)⟩
        |go_ret
         exact ⟨by first | rfl | (simp [*]; done), by repeat (first | exact Drawn0.refl _ | apply Drawn0.step)⟩
      ·rw [if_neg c6] at H
       exact absurd H (by simp)
     ·rw [if_neg c5] at H
      exact absurd H (by simp)
    ·rw [if_neg c4] at H
     have c4b0 : decide (x5_1 < (l0.length : Int)) = false := aK c4
     clear c4
     obtain rfl := bU H
     go_wp2
     repeat (go_quiet (fail); try go_wp2)
     go_ret
     exact ⟨by first | rfl | (simp [*]; done), by repeat (first | exact Drawn0.refl _ | apply Drawn0.step)⟩
 ·rw [if_neg c3] at H
  have c3b1 : ((l0.length : Int) != (l1.length : Int)) = true := bne_iff_ne.mpr c3
  have c3b2 : (l0.length == l1.length) = false := by first | (simp at c3 ⊢; omega)
  obtain rfl := bU H
  go_enter Try.func18, Try.ntmps18
  go_wp2
  repeat (go_quiet (fail); try go_wp2)
  go_ret
  exact ⟨by first | rfl | (simp [*]; done), by repeat (exact Drawn0.refl _)⟩


/-- A state of type 63 at block g of W; what its slices lead to came in by w0. -/
def IsS63 (w0 W : World) (g : Nat) (f0 : List Int) (f1 : Int) : Prop := ∃ A0 c0, W.heap[g]? = some (.cells #[.slice A0 f0.length c0, .int .i64 f1] 63 (0, 0)) ∧ w0.heap.size ≤ g ∧ Kd.C (Kd.int .u8) w0 A0 f0.length f0
theorem IsS63.grown {w0 W : World} {g : Nat} {f0 : List Int} {f1 : Int} {W1 : World} {row : Option Nat} (h : IsS63 w0 W g f0 f1) (hw : W.grownBy W1 row) (hne : some g ≠ row) : IsS63 w0 W1 g f0 f1 := by
 obtain ⟨A0, c0, hb, hg, hr0⟩ := h
 exact ⟨A0, c0, blk_grown hb hw hne, hg, hr0⟩
theorem IsS63.below {w0 W : World} {g : Nat} {f0 : List Int} {f1 : Int} {W1 : World} (h : IsS63 w0 W g f0 f1) (hw : Below W.heap.size W W1) : IsS63 w0 W1 g f0 f1 := h.grown (grown_of_below hw none) (by simp)
theorem IsS63.drewN {w0 W : World} {g : Nat} {f0 : List Int} {f1 : Int} (h : IsS63 w0 W g f0 f1) (m : Nat) : IsS63 w0 (W.drewN m) g f0 f1 := h
theorem IsS63.drew {w0 W : World} {g : Nat} {f0 : List Int} {f1 : Int} (h : IsS63 w0 W g f0 f1) : IsS63 w0 W.drew g f0 f1 := h
theorem IsS63.apart {w0 W : World} {g : Nat} {f0 : List Int} {f1 : Int} {α : Type} {d : Kd α} {e : Nat} {base : Nat} {ok : Nat → Prop} {v : Value} {xs : List α} (h : IsS63 w0 W g f0 f1) (ho : d.R e W base ok v xs) (ht : ∀ q, q ∈ e :: d.E → q ≠ 63) : d.R e W base (fun k => ok k ∧ k ≠ g) v xs := by
 obtain ⟨A0, c0, hb, hg, hr0⟩ := h
 exact bE ho hb ht
theorem IsS63.ge {w0 W : World} {g : Nat} {f0 : List Int} {f1 : Int} (h : IsS63 w0 W g f0 f1) : w0.heap.size ≤ g := by
 obtain ⟨A0, c0, hb, hg, hr0⟩ := h
 exact hg
theorem cellS63_0 {W : World} {g : Nat} {A0 : Option Addr} {c0 : Nat} {f0 : List Int} {f1 : Int} (h : W.heap[g]? = some (.cells #[.slice A0 f0.length c0, .int .i64 f1] 63 (0, 0))) : W.cell? ⟨g, 0, none⟩ = some (.slice A0 f0.length c0) := (aA h 0).trans rfl
theorem cellS63_1 {W : World} {g : Nat} {A0 : Option Addr} {c0 : Nat} {f0 : List Int} {f1 : Int} (h : W.heap[g]? = some (.cells #[.slice A0 f0.length c0, .int .i64 f1] 63 (0, 0))) : W.cell? ⟨g, 1, none⟩ = some (.int .i64 f1) := (aA h 1).trans rfl
theorem IsS63.set_1 {w0 W : World} {g : Nat} {f0 : List Int} {f1 : Int} (h : IsS63 w0 W g f0 f1) (x : Int) : IsS63 w0 (W.setCell ⟨g, 1, none⟩ (.int .i64 x)) g f0 x := by
 obtain ⟨A0, c0, hb, hg, hr0⟩ := h
 exact ⟨A0, c0, by simpa using cM hb 1 (.int .i64 x), hg, hr0⟩
def spec_l6Open.f (l0 : List Int) : Option (List Int × Int) := if (l0.length : Int) > 2000 then (if 2000 ≤ (l0.length : Int) then (some (l0.take 2000, 0)) else (none)) else (some (l0, 0))
set_option maxHeartbeats 8000000 in
set_option maxRecDepth 100000 in
theorem spec_l6Open.calls (A0 : Option Addr) (c0 : Nat) (l0 : List Int) (r1 : List Int) (r2 : Int) (w0 w : World) (hB : Below w0.heap.size w0 w) (hr0 : Kd.C (Kd.int .u8) w0 A0 l0.length l0) (hc0 : l0.length ≤ c0) (h : spec_l6Open.f l0 = some (r1, r2)) :
  Calls Try.prog 22 #[.slice A0 l0.length c0] w fun e w' => ∃ g_ : Nat, e = .returned (.pointer (some ⟨g_, 0, none⟩)) ∧ IsS63 w0 w' g_ r1 r2 ∧ Below w0.heap.size w0 w' ∧ Below w.heap.size w w' := by
 have HR0 := aM hr0
 have HC0 := aM hc0
 clear hr0 hc0
 have HBW := aM (cE w.heap.size w)
 have HW0 := aM hB.size
 have HB := aM hB
 clear hB
 have H : (if (l0.length : Int) > 2000 then (if 2000 ≤ (l0.length : Int) then (some (l0.take 2000, 0)) else (none)) else (some (l0, 0))) = some (r1, r2) := h
 clear h
 by_cases c2 : (l0.length : Int) > 2000
 ·rw [if_pos c2] at H
  have c2b0 : decide (2000 < (l0.length : Int)) = true := aH c2
  have c2b1 : decide (2000 < l0.length) = true := aH (by omega)
  clear c2
  by_cases c3 : 2000 ≤ (l0.length : Int)
  ·rw [if_pos c3] at H
   have c3b1 : decide (2000 ≤ (l0.length : Int)) = true := aH c3
   clear c3
   simp only [aV, aW] at H
   obtain ⟨rfl, rfl⟩ := H
   obtain ⟨i04, hi04, _, hsz4, _⟩ := info_parts info5
   obtain ⟨hcut4, hA4, hC4⟩ := print_take_of (P := Try.prog) (Value.int .u8) 0 22 5 .i64 Try.underlying22 hi04 hsz4 A0 c0 l0 2000 (by omega) (aJ (by (with_reducible assumption))) HC0.out
   have HR108 := aM (cP (h1 := fun _ => rfl) (hA4 _ (Kd.reads_of_C HR0.out)))
   clear hA4 hC4 hi04 hsz4
   go_enter Try.func22, Try.ntmps22
   go_wp2_with (first | ((with_reducible refine aZ (N := 10) rfl ?_); refine bB ?hg (N := 10) ?hd (cs := #[.slice A0 (l0.take 2000).length c0, .int .i64 0]) (t := 63) ?hr ?_; (case hd => rfl); (case hg => rfl); (case hr => first | (go_simp; done)); intro gb109 hg w5 hbox hb; replace HB := aM (aE HB.out hb); have BK109 := aM hbox; have GE109 := aM ((Nat.le_trans HW0.out (by rw [hg]; exact (aG HBW.out) : w.heap.size ≤ gb109) : w0.heap.size ≤ gb109)); replace HBW := aM (aE HBW.out hb); clear hb hbox hg))
   go_ret
   exact ⟨_, rfl, (show IsS63 w0 _ gb109 (l0.take 2000) 0 from ⟨_, _, by exact BK109.out, GE109.out, HR108.out⟩), HB.out, HBW.out⟩
  ·rw [if_neg c3] at H
   exact absurd H (by simp)
 ·rw [if_neg c2] at H
  have c2b0 : decide (2000 < (l0.length : Int)) = false := aK c2
  clear c2
  simp only [aV, aW] at H
  obtain ⟨rfl, rfl⟩ := H
  go_enter Try.func22, Try.ntmps22
  go_wp2_with (first | ((with_reducible refine aZ (N := 10) rfl ?_); refine bB ?hg (N := 10) ?hd (cs := #[.slice A0 l0.length c0, .int .i64 0]) (t := 63) ?hr ?_; (case hd => rfl); (case hg => rfl); (case hr => first | (go_simp; done)); intro gb110 hg w6 hbox hb; replace HB := aM (aE HB.out hb); have BK110 := aM hbox; have GE110 := aM ((Nat.le_trans HW0.out (by rw [hg]; exact (aG HBW.out) : w.heap.size ≤ gb110) : w0.heap.size ≤ gb110)); replace HBW := aM (aE HBW.out hb); clear hb hbox hg))
  go_ret
  exact ⟨_, rfl, (show IsS63 w0 _ gb110 l0 0 from ⟨_, _, by exact BK110.out, GE110.out, HR0.out⟩), HB.out, HBW.out⟩


def spec_l6Rd_pick.j0 : Nat → Int → Bool → List Int → Int → Option (Int × Int)
 | 0, _, _, _, _ => none
 | k + 1, x1, x24, x1000, x1001 => if x24 = true then (some (0, x1001)) else (if (wrap64 (x1001 - 1)) < (x1000.length : Int) then (if 0 ≤ (wrap64 (x1001 - 1)) then (if x1 = 0 then (none) else (some (Int.tmod (wrap64 (rd x1000 (wrap64 (x1001 - 1)))) x1, x1001))) else (none)) else (if (x1000.length : Int) = 0 then (none) else (if 0 ≤ (Int.tmod (wrap64 (x1001 - 1)) (x1000.length : Int)) then (if (Int.tmod (wrap64 (x1001 - 1)) (x1000.length : Int)) < (x1000.length : Int) then (if 0 ≤ (Int.tmod (wrap64 ((wrap64 ((wrap64 (x1001 - 1)) * 7)) + 3)) (x1000.length : Int)) then (if (Int.tmod (wrap64 ((wrap64 ((wrap64 (x1001 - 1)) * 7)) + 3)) (x1000.length : Int)) < (x1000.length : Int) then (if x1 = 0 then (none) else (some (Int.tmod (Go.bits .xor .i64 (wrap64 ((wrap64 ((wrap64 ((wrap64 ((wrap64 (rd x1000 (Int.tmod (wrap64 (x1001 - 1)) (x1000.length : Int)))) * 131)) + (wrap64 ((wrap64 (rd x1000 (Int.tmod (wrap64 ((wrap64 ((wrap64 (x1001 - 1)) * 7)) + 3)) (x1000.length : Int)))) * 1117)))) + (wrap64 ((wrap64 (x1001 - 1)) * 29)))) + (wrap64 ((wrap64 (Int.tdiv (wrap64 (x1001 - 1)) (x1000.length : Int))) * 53)))) (wrap64 (Int.tdiv (wrap64 ((wrap64 ((wrap64 ((wrap64 ((wrap64 (rd x1000 (Int.tmod (wrap64 (x1001 - 1)) (x1000.length : Int)))) * 131)) + (wrap64 ((wrap64 (rd x1000 (Int.tmod (wrap64 ((wrap64 ((wrap64 (x1001 - 1)) * 7)) + 3)) (x1000.length : Int)))) * 1117)))) + (wrap64 ((wrap64 (x1001 - 1)) * 29)))) + (wrap64 ((wrap64 (Int.tdiv (wrap64 (x1001 - 1)) (x1000.length : Int))) * 53)))) 64))) x1, x1001))) else (none)) else (none)) else (none)) else (none))))
def spec_l6Rd_pick.f (k : Nat) (s0_0 : List Int) (s0_1 : Int) (a1 : Int) : Option (Int × Int) := if a1 < 1 then (spec_l6Rd_pick.j0 k a1 true s0_0 (wrap64 (s0_1 + 1))) else (spec_l6Rd_pick.j0 k a1 ((s0_0.length : Int) == 0) s0_0 (wrap64 (s0_1 + 1)))
set_option maxHeartbeats 8000000 in
set_option maxRecDepth 100000 in
theorem spec_l6Rd_pick.calls (k : Nat) (g : Nat) (s0_0 : List Int) (s0_1 : Int) (a1 : Int) (r1 : Int) (r2 : Int) (w0 w : World) (hI : IsS63 w0 w g s0_0 s0_1) (hB : Below w0.heap.size w0 w) (h : spec_l6Rd_pick.f k s0_0 s0_1 a1 = some (r1, r2)) :
  Calls Try.prog 24 #[.pointer (some ⟨g, 0, none⟩), .int .i64 a1] w fun e w' => e = .returned (.int .i64 r1) ∧ IsS63 w0 w' g s0_0 r2 ∧ Below w0.heap.size w0 w' ∧ KeepBut w w' g none := by
 have HI0 := aM hI
 have HK := aM (KeepBut.refl w g none)
 clear hI
 have HB := aM hB
 clear hB
 have H : (if a1 < 1 then (spec_l6Rd_pick.j0 k a1 true s0_0 (wrap64 (s0_1 + 1))) else (spec_l6Rd_pick.j0 k a1 ((s0_0.length : Int) == 0) s0_0 (wrap64 (s0_1 + 1)))) = some (r1, r2) := h
 clear h
 have HC3 := aM H
 clear H
 obtain ⟨ASz4_0, cSz4_0, HGz4, hgz4, HSz4_0⟩ := HI0.out
 have hcz4_0 := cellS63_0 HGz4
 have hcz4_1 := cellS63_1 HGz4
 have hfz4_1 := aC HGz4 1
 clear HGz4 hgz4
 go_enter Try.func24, Try.ntmps24
 go_upto_region 2 with (fail)
 repeat (go_quiet (fail); go_upto_region 2 with (fail))
 go_cut [24] (fun v24 wc => ∃ (kq : Nat) (x24_2 : Bool), v24 = .bool x24_2 ∧ Aside0 (spec_l6Rd_pick.j0 kq a1 x24_2 s0_0 (wrap64 (s0_1 + 1)) = some (r1, r2)) ∧ Aside0 (kq ≤ k) ∧ Aside0 (IsS63 w0 wc g s0_0 (wrap64 (s0_1 + 1))) ∧ Aside0 (KeepBut w wc g none) ∧ Aside0 (Below w0.heap.size w0 wc))
 case first =>
  have H := HC3.out
  clear HC3
  by_cases c5 : a1 < 1
  ·rw [if_pos c5] at H
   have c5b0 : decide (a1 < 1) = true := aH c5
   clear c5
   have H' := aM H
   clear H
   go_wp2
   repeat (go_quiet (fail); try go_wp2)
   go_meet
   case rel => exact ⟨_, (true), (by rfl), H', ⟨by omega⟩, ⟨by repeat (first | (with_reducible first | exact HI0.out | apply IsS63.set_1))⟩, ⟨by repeat (first | (with_reducible first | exact HK.out | apply KeepBut.set_))⟩, ⟨by repeat (first | (with_reducible first | exact HB.out | refine bS ?_ (IsS63.ge HI0.out)))⟩⟩
  ·rw [if_neg c5] at H
   have c5b0 : decide (a1 < 1) = false := aK c5
   clear c5
   have H' := aM H
   clear H
   obtain ⟨ASz6_0, cSz6_0, HGz6, hgz6, HSz6_0⟩ := HI0.out
   clear HGz6 hgz6
   go_wp2
   repeat (go_quiet (fail); try go_wp2)
   go_meet
   case rel => exact ⟨_, (((s0_0.length : Int) == 0)), (by rfl), H', ⟨by omega⟩, ⟨by repeat (first | (with_reducible first | exact HI0.out | apply IsS63.set_1))⟩, ⟨by repeat (first | (with_reducible first | exact HK.out | apply KeepBut.set_))⟩, ⟨by repeat (first | (with_reducible first | exact HB.out | refine bS ?_ (IsS63.ge HI0.out)))⟩⟩
 case rest =>
  clear HC3
  try clear hcz4_0
  try clear hcz4_1
  try clear hfz4_1
  obtain ⟨kq, x24_2, rfl, HA, HJ2, HI0, HK, HB⟩ := hcut
  cases kq with
  | zero => exact absurd HA.out (by simp [spec_l6Rd_pick.j0])
  | succ kj2 =>
   have H := HA.out
   clear HA
   simp only [spec_l6Rd_pick.j0] at H
   by_cases c7 : x24_2 = true
   ·subst c7
    replace H : (some (0, (wrap64 (s0_1 + 1)))) = some (r1, r2) := by rw [if_pos rfl] at H; exact H
    simp only [aV, aW] at H
    obtain ⟨rfl, rfl⟩ := H
    go_wp2
    repeat (go_quiet (fail); try go_wp2)
    go_ret
    exact ⟨by first | rfl | (simp [*, errW_none, errW_some] <;> rfl), HI0.out, HB.out, HK.out⟩
   ·replace c7 := Bool.eq_false_iff.mpr c7
    subst c7
    replace H : (if (wrap64 ((wrap64 (s0_1 + 1)) - 1)) < (s0_0.length : Int) then (if 0 ≤ (wrap64 ((wrap64 (s0_1 + 1)) - 1)) then (if a1 = 0 then (none) else (some (Int.tmod (wrap64 (rd s0_0 (wrap64 ((wrap64 (s0_1 + 1)) - 1)))) a1, (wrap64 (s0_1 + 1))))) else (none)) else (if (s0_0.length : Int) = 0 then (none) else (if 0 ≤ (Int.tmod (wrap64 ((wrap64 (s0_1 + 1)) - 1)) (s0_0.length : Int)) then (if (Int.tmod (wrap64 ((wrap64 (s0_1 + 1)) - 1)) (s0_0.length : Int)) < (s0_0.length : Int) then (if 0 ≤ (Int.tmod (wrap64 ((wrap64 ((wrap64 ((wrap64 (s0_1 + 1)) - 1)) * 7)) + 3)) (s0_0.length : Int)) then (if (Int.tmod (wrap64 ((wrap64 ((wrap64 ((wrap64 (s0_1 + 1)) - 1)) * 7)) + 3)) (s0_0.length : Int)) < (s0_0.length : Int) then (if a1 = 0 then (none) else (some (Int.tmod (Go.bits .xor .i64 (wrap64 ((wrap64 ((wrap64 ((wrap64 ((wrap64 (rd s0_0 (Int.tmod (wrap64 ((wrap64 (s0_1 + 1)) - 1)) (s0_0.length : Int)))) * 131)) + (wrap64 ((wrap64 (rd s0_0 (Int.tmod (wrap64 ((wrap64 ((wrap64 ((wrap64 (s0_1 + 1)) - 1)) * 7)) + 3)) (s0_0.length : Int)))) * 1117)))) + (wrap64 ((wrap64 ((wrap64 (s0_1 + 1)) - 1)) * 29)))) + (wrap64 ((wrap64 (Int.tdiv (wrap64 ((wrap64 (s0_1 + 1)) - 1)) (s0_0.length : Int))) * 53)))) (wrap64 (Int.tdiv (wrap64 ((wrap64 ((wrap64 ((wrap64 ((wrap64 (rd s0_0 (Int.tmod (wrap64 ((wrap64 (s0_1 + 1)) - 1)) (s0_0.length : Int)))) * 131)) + (wrap64 ((wrap64 (rd s0_0 (Int.tmod (wrap64 ((wrap64 ((wrap64 ((wrap64 (s0_1 + 1)) - 1)) * 7)) + 3)) (s0_0.length : Int)))) * 1117)))) + (wrap64 ((wrap64 ((wrap64 (s0_1 + 1)) - 1)) * 29)))) + (wrap64 ((wrap64 (Int.tdiv (wrap64 ((wrap64 (s0_1 + 1)) - 1)) (s0_0.length : Int))) * 53)))) 64))) a1, (wrap64 (s0_1 + 1))))) else (none)) else (none)) else (none)) else (none)))) = some (r1, r2) := by rw [if_neg (show ¬ (false = true) by decide)] at H; exact H
    by_cases c8 : (wrap64 ((wrap64 (s0_1 + 1)) - 1)) < (s0_0.length : Int)
    ·rw [if_pos c8] at H
     have c8b0 : decide ((wrap64 ((wrap64 (s0_1 + 1)) - 1)) < (s0_0.length : Int)) = true := aH c8
     clear c8
     obtain ⟨ji9, hji9⟩ : ∃ j_ : Int, (wrap64 ((wrap64 (s0_1 + 1)) - 1)) = j_ := ⟨_, rfl⟩
     replace H : (if 0 ≤ (ji9) then (if a1 = 0 then (none) else (some (Int.tmod (wrap64 (rd s0_0 (ji9))) a1, (wrap64 (s0_1 + 1))))) else (none)) = some (r1, r2) := by first | (rw [hji9] at H; exact H)
     (try rw [hji9] at c8b0)
     have hji9w : (IntKind.i64.wrap ((wrap64 (s0_1 + 1)) - 1)) = ji9 := (cS _).trans hji9
     by_cases c10 : 0 ≤ (ji9)
     ·rw [if_pos c10] at H
      have c10b0 : decide (0 ≤ (ji9)) = true := aH c10
      clear c10
      by_cases c11 : a1 = 0
      ·rw [if_pos c11] at H
       exact absurd H (by simp)
      ·rw [if_neg c11] at H
       simp only [aV, aW] at H
       obtain ⟨rfl, rfl⟩ := H
       obtain ⟨ASz12_0, cSz12_0, HGz12, hgz12, HSz12_0⟩ := HI0.out
       have hcz12_0 := cellS63_0 HGz12
       have hcz12_1 := cellS63_1 HGz12
       clear HGz12 hgz12
       have p111 : 0 ≤ ((ji9) : Int) := aJ (by (with_reducible assumption))
       have q111 : (ji9) < (s0_0.length : Int) := aJ (by (with_reducible assumption))
       obtain ⟨ad111, e111, hx111_0⟩ := Kd.at_int HSz12_0 (ji9) p111 q111
       cases e111
       replace hx111_0 := cN HB.out hx111_0
       replace p111 := eq_true p111
       replace q111 := eq_true q111
       go_wp2
       repeat (go_quiet (fail); try go_wp2)
       go_ret
       exact ⟨by first | rfl | (simp [*, errW_none, errW_some] <;> rfl), HI0.out, HB.out, HK.out⟩
     ·rw [if_neg c10] at H
      exact absurd H (by simp)
    ·rw [if_neg c8] at H
     have c8b0 : decide ((wrap64 ((wrap64 (s0_1 + 1)) - 1)) < (s0_0.length : Int)) = false := aK c8
     clear c8
     by_cases c13 : (s0_0.length : Int) = 0
     ·rw [if_pos c13] at H
      exact absurd H (by simp)
     ·rw [if_neg c13] at H
      have c13b2 : ¬ (s0_0 = []) := fun h_ => c13 (by rw [h_]; rfl)
      obtain ⟨ji14, hji14⟩ : ∃ j_ : Int, (Int.tmod (wrap64 ((wrap64 (s0_1 + 1)) - 1)) (s0_0.length : Int)) = j_ := ⟨_, rfl⟩
      replace H : (if 0 ≤ (ji14) then (if (ji14) < (s0_0.length : Int) then (if 0 ≤ (Int.tmod (wrap64 ((wrap64 ((wrap64 ((wrap64 (s0_1 + 1)) - 1)) * 7)) + 3)) (s0_0.length : Int)) then (if (Int.tmod (wrap64 ((wrap64 ((wrap64 ((wrap64 (s0_1 + 1)) - 1)) * 7)) + 3)) (s0_0.length : Int)) < (s0_0.length : Int) then (if a1 = 0 then (none) else (some (Int.tmod (Go.bits .xor .i64 (wrap64 ((wrap64 ((wrap64 ((wrap64 ((wrap64 (rd s0_0 (ji14))) * 131)) + (wrap64 ((wrap64 (rd s0_0 (Int.tmod (wrap64 ((wrap64 ((wrap64 ((wrap64 (s0_1 + 1)) - 1)) * 7)) + 3)) (s0_0.length : Int)))) * 1117)))) + (wrap64 ((wrap64 ((wrap64 (s0_1 + 1)) - 1)) * 29)))) + (wrap64 ((wrap64 (Int.tdiv (wrap64 ((wrap64 (s0_1 + 1)) - 1)) (s0_0.length : Int))) * 53)))) (wrap64 (Int.tdiv (wrap64 ((wrap64 ((wrap64 ((wrap64 ((wrap64 (rd s0_0 (ji14))) * 131)) + (wrap64 ((wrap64 (rd s0_0 (Int.tmod (wrap64 ((wrap64 ((wrap64 ((wrap64 (s0_1 + 1)) - 1)) * 7)) + 3)) (s0_0.length : Int)))) * 1117)))) + (wrap64 ((wrap64 ((wrap64 (s0_1 + 1)) - 1)) * 29)))) + (wrap64 ((wrap64 (Int.tdiv (wrap64 ((wrap64 (s0_1 + 1)) - 1)) (s0_0.length : Int))) * 53)))) 64))) a1, (wrap64 (s0_1 + 1))))) else (none)) else (none)) else (none)) else (none)) = some (r1, r2) := by first | (rw [hji14] at H; exact H)
      by_cases c15 : 0 ≤ (ji14)
      ·rw [if_pos c15] at H
       have c15b0 : decide (0 ≤ (ji14)) = true := aH c15
       clear c15
       by_cases c16 : (ji14) < (s0_0.length : Int)
       ·rw [if_pos c16] at H
        have c16b0 : decide ((ji14) < (s0_0.length : Int)) = true := aH c16
        clear c16
        obtain ⟨ji17, hji17⟩ : ∃ j_ : Int, (Int.tmod (wrap64 ((wrap64 ((wrap64 ((wrap64 (s0_1 + 1)) - 1)) * 7)) + 3)) (s0_0.length : Int)) = j_ := ⟨_, rfl⟩
        replace H : (if 0 ≤ (ji17) then (if (ji17) < (s0_0.length : Int) then (if a1 = 0 then (none) else (some (Int.tmod (Go.bits .xor .i64 (wrap64 ((wrap64 ((wrap64 ((wrap64 ((wrap64 (rd s0_0 (ji14))) * 131)) + (wrap64 ((wrap64 (rd s0_0 (ji17))) * 1117)))) + (wrap64 ((wrap64 ((wrap64 (s0_1 + 1)) - 1)) * 29)))) + (wrap64 ((wrap64 (Int.tdiv (wrap64 ((wrap64 (s0_1 + 1)) - 1)) (s0_0.length : Int))) * 53)))) (wrap64 (Int.tdiv (wrap64 ((wrap64 ((wrap64 ((wrap64 ((wrap64 (rd s0_0 (ji14))) * 131)) + (wrap64 ((wrap64 (rd s0_0 (ji17))) * 1117)))) + (wrap64 ((wrap64 ((wrap64 (s0_1 + 1)) - 1)) * 29)))) + (wrap64 ((wrap64 (Int.tdiv (wrap64 ((wrap64 (s0_1 + 1)) - 1)) (s0_0.length : Int))) * 53)))) 64))) a1, (wrap64 (s0_1 + 1))))) else (none)) else (none)) = some (r1, r2) := by first | (rw [hji17] at H; exact H)
        by_cases c18 : 0 ≤ (ji17)
        ·rw [if_pos c18] at H
         have c18b0 : decide (0 ≤ (ji17)) = true := aH c18
         clear c18
         by_cases c19 : (ji17) < (s0_0.length : Int)
         ·rw [if_pos c19] at H
          have c19b0 : decide ((ji17) < (s0_0.length : Int)) = true := aH c19
          clear c19
          by_cases c20 : a1 = 0
          ·rw [if_pos c20] at H
           exact absurd H (by simp)
          ·rw [if_neg c20] at H
           simp only [aV, aW] at H
           obtain ⟨rfl, rfl⟩ := H
           obtain ⟨ASz21_0, cSz21_0, HGz21, hgz21, HSz21_0⟩ := HI0.out
           have hcz21_0 := cellS63_0 HGz21
           have hcz21_1 := cellS63_1 HGz21
           clear HGz21 hgz21
           have p112 : 0 ≤ ((ji14) : Int) := aJ (by (with_reducible assumption))
           have q112 : (ji14) < (s0_0.length : Int) := aJ (by (with_reducible assumption))
           obtain ⟨ad112, e112, hx112_0⟩ := Kd.at_int HSz21_0 (ji14) p112 q112
           cases e112
           replace hx112_0 := cN HB.out hx112_0
           replace p112 := eq_true p112
           replace q112 := eq_true q112
           have p113 : 0 ≤ ((ji17) : Int) := aJ (by (with_reducible assumption))
           have q113 : (ji17) < (s0_0.length : Int) := aJ (by (with_reducible assumption))
           obtain ⟨ad113, e113, hx113_0⟩ := Kd.at_int HSz21_0 (ji17) p113 q113
           obtain rfl : ad112 = ad113 := (by injection e113)
           replace hx113_0 := cN HB.out hx113_0
           replace p113 := eq_true p113
           replace q113 := eq_true q113
           go_wp2
           repeat (go_quiet (fail); try go_wp2)
           go_ret
           exact ⟨by first | rfl | (simp [*, errW_none, errW_some] <;> rfl), by repeat (first | (with_reducible first | exact HI0.out | apply IsS63.drewN)), by repeat (first | (with_reducible first | exact HB.out | apply bN)), by repeat (first | (with_reducible first | exact HK.out | apply keep_drewN))⟩
         ·rw [if_neg c19] at H
          exact absurd H (by simp)
        ·rw [if_neg c18] at H
         exact absurd H (by simp)
       ·rw [if_neg c16] at H
        exact absurd H (by simp)
      ·rw [if_neg c15] at H
       exact absurd H (by simp)


mutual
def spec_l91Term.j0 : Nat → Int → Bool → List Int → Int → Option (ByteArray × Int)
 | 0, _, _, _, _ => none
 | k + 1, x1, x11, x1000, x1001 => if x11 = true then ((some (([(⟨#[48]⟩ : ByteArray), (⟨#[49]⟩ : ByteArray), (⟨#[97]⟩ : ByteArray), (⟨#[97]⟩ : ByteArray)] : List ByteArray) : List ByteArray)).bind fun y116 => ((spec_l6Rd_pick.f k x1000 x1001 4).bind fun bt119 => (if 0 ≤ bt119.1 then (if bt119.1 < (y116.length : Int) then (some (rdOf ByteArray.empty y116 bt119.1, bt119.2)) else (none)) else (none)))) else ((spec_l6Rd_pick.f k x1000 x1001 6).bind fun bt122 => (if bt122.1 = 0 then ((spec_l91Term.f k x1000 bt122.2 (wrap64 (x1 - 1))).bind fun bt124 => (if 1 + bt124.1.size ≤ 9223372036854775807 then (some ((⟨#[42]⟩ : ByteArray) ++ bt124.1, bt124.2)) else (none))) else (if bt122.1 = 1 then ((some (([(⟨#[50]⟩ : ByteArray), (⟨#[51]⟩ : ByteArray), (⟨#[52]⟩ : ByteArray), (⟨#[53]⟩ : ByteArray)] : List ByteArray) : List ByteArray)).bind fun y126 => ((spec_l6Rd_pick.f k x1000 bt122.2 4).bind fun bt129 => (if 0 ≤ bt129.1 then (if bt129.1 < (y126.length : Int) then ((spec_l91Term.f k x1000 bt129.2 (wrap64 (x1 - 1))).bind fun bt132 => (if (rdOf ByteArray.empty y126 bt129.1).size + bt132.1.size ≤ 9223372036854775807 then (some ((rdOf ByteArray.empty y126 bt129.1) ++ bt132.1, bt132.2)) else (none))) else (none)) else (none)))) else ((spec_l91Term.f k x1000 bt122.2 (wrap64 (x1 - 1))).bind fun bt134 => (if 1 + bt134.1.size ≤ 9223372036854775807 then ((some (([(⟨#[43]⟩ : ByteArray), (⟨#[43]⟩ : ByteArray), (⟨#[46]⟩ : ByteArray), (⟨#[38]⟩ : ByteArray)] : List ByteArray) : List ByteArray)).bind fun y136 => ((spec_l6Rd_pick.f k x1000 bt134.2 4).bind fun bt139 => (if 0 ≤ bt139.1 then (if bt139.1 < (y136.length : Int) then (if 1 + bt134.1.size + (rdOf ByteArray.empty y136 bt139.1).size ≤ 9223372036854775807 then ((spec_l91Term.f k x1000 bt139.2 (wrap64 (x1 - 1))).bind fun bt142 => (if 1 + bt134.1.size + (rdOf ByteArray.empty y136 bt139.1).size + bt142.1.size ≤ 9223372036854775807 then (if 1 + bt134.1.size + (rdOf ByteArray.empty y136 bt139.1).size + bt142.1.size + 1 ≤ 9223372036854775807 then (some (((((⟨#[40]⟩ : ByteArray) ++ bt134.1) ++ (rdOf ByteArray.empty y136 bt139.1)) ++ bt142.1) ++ (⟨#[41]⟩ : ByteArray), bt142.2)) else (none)) else (none))) else (none)) else (none)) else (none)))) else (none))))))
def spec_l91Term.f : Nat → List Int → Int → Int → Option (ByteArray × Int)
 | 0, _, _, _ => none
 | k + 1, s0_0, s0_1, a1 => if a1 = 0 then (spec_l91Term.j0 k a1 true s0_0 s0_1) else ((spec_l6Rd_pick.f k s0_0 s0_1 5).bind fun bt114 => (spec_l91Term.j0 k a1 (bt114.1 == 0) s0_0 bt114.2))
end
def spec_l91Term.T7 : Bool × List (List Nat × List Nat) := (true, [([], []), ([], []), ([1], [1]), ([0, 2], [0, 2]), ([3], [3]), ([], []), ([], []), ([6], [6]), ([5, 7, 2], [5, 7]), ([4, 8], [4, 8]), ([9, 8, 0, 1, 2, 3, 4, 5, 6, 7, 8, 9], [9])])
def spec_l91Term.B7 : List Nat := [0, 0, 2, 7, 15, 0, 0, 64, 230, 511, 1023]
theorem spec_l91Term.tab7 : rtab .any (opsOf Try.f38 7) = spec_l91Term.T7 := by kernel_rfl
theorem spec_l91Term.bits7 : waitsOk spec_l91Term.T7.2 spec_l91Term.B7 = true := by kernel_rfl
def spec_l91Term.T8 : Bool × List (List Nat × List Nat) := (true, [([], []), ([], []), ([1], [1]), ([0, 2], [0, 2]), ([3], [3]), ([], []), ([], []), ([6, 3], [6]), ([5, 7], [5, 7]), ([8], [8]), ([4, 9], [4, 9]), ([], []), ([], []), ([12], [12]), ([11, 13, 7], [11, 13]), ([10, 14], [10, 14]), ([15], [15]), ([16, 14, 0, 1, 2, 3, 4, 5, 6, 7, 8, 9, 10, 11, 12, 13, 14, 15, 16], [16])])
def spec_l91Term.B8 : List Nat := [0, 0, 2, 7, 15, 0, 0, 79, 239, 495, 1023, 0, 0, 4096, 14543, 32767, 65535, 131071]
theorem spec_l91Term.tab8 : rtab .any (opsOf Try.f38 8) = spec_l91Term.T8 := by kernel_rfl
theorem spec_l91Term.bits8 : waitsOk spec_l91Term.T8.2 spec_l91Term.B8 = true := by kernel_rfl
set_option maxHeartbeats 8000000 in
set_option maxRecDepth 100000 in
theorem spec_l91Term.calls (k : Nat) : ∀ (g : Nat) (s0_0 : List Int) (s0_1 : Int) (a1 : Int) (r1 : ByteArray) (r2 : Int) (w0 w : World) (hI : IsS63 w0 w g s0_0 s0_1) (hB : Below w0.heap.size w0 w) (h : spec_l91Term.f k s0_0 s0_1 a1 = some (r1, r2)),
  Calls Try.prog 38 #[.pointer (some ⟨g, 0, none⟩), .int .i64 a1] w fun e w' => e = .returned (.string r1) ∧ IsS63 w0 w' g s0_0 r2 ∧ Below w0.heap.size w0 w' ∧ KeepBut w w' g none := by
 induction k using Nat.strongRecOn with
 | _ k ih =>
 intro g s0_0 s0_1 a1 r1 r2 w0 w hI hB h
 cases k with
 | zero => exact absurd h (by simp [spec_l91Term.f])
 | succ k =>
 simp only [spec_l91Term.f] at h
 have HI0 := aM hI
 have HK := aM (KeepBut.refl w g none)
 clear hI
 have HB := aM hB
 clear hB
 have H : (if a1 = 0 then (spec_l91Term.j0 k a1 true s0_0 s0_1) else ((spec_l6Rd_pick.f k s0_0 s0_1 5).bind fun bt114 => (spec_l91Term.j0 k a1 (bt114.1 == 0) s0_0 bt114.2))) = some (r1, r2) := h
 clear h
 have HC3 := aM H
 clear H
 go_enter Try.func38, Try.ntmps38
 go_upto_region 1 with (fail)
 go_cut [11] (fun v11 wc => ∃ (kq : Nat) (x11_2 : Bool) (x1001_2 : Int), v11 = .bool x11_2 ∧ Aside0 (spec_l91Term.j0 kq a1 x11_2 s0_0 x1001_2 = some (r1, r2)) ∧ Aside0 (kq ≤ k) ∧ Aside0 (IsS63 w0 wc g s0_0 x1001_2) ∧ Aside0 (KeepBut w wc g none) ∧ Aside0 (Below w0.heap.size w0 wc))
 case first =>
  have H := HC3.out
  clear HC3
  by_cases c4 : a1 = 0
  ·rw [if_pos c4] at H
   have c4b0 : (a1 == 0) = true := beq_iff_eq.mpr c4
   clear c4
   have H' := aM H
   clear H
   go_wp2
   go_meet
   case rel => exact ⟨_, (true), (s0_1), (by rfl), H', ⟨by omega⟩, ⟨HI0.out⟩, ⟨HK.out⟩, ⟨HB.out⟩⟩
  ·rw [if_neg c4] at H
   have c4b0 : (a1 == 0) = false := beq_eq_false_iff_ne.mpr c4
   replace H := Option.bind_eq_some_iff.mp H
   obtain ⟨⟨t114, t115⟩, A50, H⟩ := H
   replace H : (spec_l91Term.j0 k a1 (t114 == 0) s0_0 t115) = some (r1, r2) := H
   have A5 := aM A50
   clear A50
   have H' := aM H
   clear H
   go_wp2_with (first | (go_at_call 24; (with_reducible refine (spec_l6Rd_pick.calls k g s0_0 s0_1 5 t114 t115 w0 _ ?side1 ?side2 A5.out).mono ?_); (case side1 => repeat ((with_reducible exact HI0.out))); (case side2 => repeat ((with_reducible exact HB.out))); rintro e w6 ⟨rfl, hi, hb, hk⟩; replace HK := aM (cK HK.out hk (.inl rfl)); replace HB := aM hb; replace HI0 := aM hi; (try clear hb); (try clear hk); (try clear hi)))
   go_meet
   case rel => exact ⟨_, ((t114 == 0)), (t115), (by rfl), H', ⟨by omega⟩, ⟨HI0.out⟩, ⟨HK.out⟩, ⟨HB.out⟩⟩
 case rest =>
  clear HC3
  obtain ⟨kq, x11_2, x1001_2, rfl, HA, HJ2, HI0, HK, HB⟩ := hcut
  cases kq with
  | zero => exact absurd HA.out (by simp [spec_l91Term.j0])
  | succ kj2 =>
   have H := HA.out
   clear HA
   simp only [spec_l91Term.j0] at H
   by_cases c7 : x11_2 = true
   ·subst c7
    replace H : ((some (([(⟨#[48]⟩ : ByteArray), (⟨#[49]⟩ : ByteArray), (⟨#[97]⟩ : ByteArray), (⟨#[97]⟩ : ByteArray)] : List ByteArray) : List ByteArray)).bind fun y116 => ((spec_l6Rd_pick.f kj2 s0_0 x1001_2 4).bind fun bt119 => (if 0 ≤ bt119.1 then (if bt119.1 < (y116.length : Int) then (some (rdOf ByteArray.empty y116 bt119.1, bt119.2)) else (none)) else (none)))) = some (r1, r2) := by rw [if_pos rfl] at H; exact H
    obtain ⟨y116, hy116⟩ : ∃ y_ : List ByteArray, y_ = (([(⟨#[48]⟩ : ByteArray), (⟨#[49]⟩ : ByteArray), (⟨#[97]⟩ : ByteArray), (⟨#[97]⟩ : ByteArray)] : List ByteArray)) := ⟨_, rfl⟩
    replace H : ((spec_l6Rd_pick.f kj2 s0_0 x1001_2 4).bind fun bt119 => (if 0 ≤ bt119.1 then (if bt119.1 < (y116.length : Int) then (some (rdOf ByteArray.empty y116 bt119.1, bt119.2)) else (none)) else (none))) = some (r1, r2) := by first | (have H2_ := (bR _ _).symm.trans H; rw [hy116]; with_reducible exact H2_)
    have Ny116 := aM hy116
    clear hy116
    replace H := Option.bind_eq_some_iff.mp H
    obtain ⟨⟨t119, t120⟩, A80, H⟩ := H
    replace H : (if 0 ≤ t119 then (if t119 < (y116.length : Int) then (some (rdOf ByteArray.empty y116 t119, t120)) else (none)) else (none)) = some (r1, r2) := H
    have A8 := aM A80
    clear A80
    by_cases c9 : 0 ≤ t119
    ·rw [if_pos c9] at H
     have c9b0 : decide (0 ≤ t119) = true := aH c9
     clear c9
     by_cases c10 : t119 < (y116.length : Int)
     ·rw [if_pos c10] at H
      have c10b0 : decide (t119 < (y116.length : Int)) = true := aH c10
      clear c10
      simp only [aV, aW] at H
      obtain ⟨rfl, rfl⟩ := H
      go_wp2_with (first | ((with_reducible refine aZ (N := 12) rfl ?_); refine Kd.R_lit Kd.string _ 9 ?hg (N := 12) ?hd (xs := ([(⟨#[48]⟩ : ByteArray), (⟨#[49]⟩ : ByteArray), (⟨#[97]⟩ : ByteArray), (⟨#[97]⟩ : ByteArray)] : List ByteArray)) (inner := [.string (⟨#[48]⟩ : ByteArray), .string (⟨#[49]⟩ : ByteArray), .string (⟨#[97]⟩ : ByteArray), .string (⟨#[97]⟩ : ByteArray)]) (ok := fun _ => True) (okp := fun _ => True) ?hr ?hp (fun _ hk => hk) trivial (cE _ _) (cD _) (by simp) ?_; (case hd => rfl); (case hg => rfl); (case hr => first | (go_simp; done)); (case hp => exact (Reps.one (show Kd.M Kd.string _ _ _ (⟨#[48]⟩ : ByteArray) [.string (⟨#[48]⟩ : ByteArray)] from rfl) (Reps.one (show Kd.M Kd.string _ _ _ (⟨#[49]⟩ : ByteArray) [.string (⟨#[49]⟩ : ByteArray)] from rfl) (Reps.one (show Kd.M Kd.string _ _ _ (⟨#[97]⟩ : ByteArray) [.string (⟨#[97]⟩ : ByteArray)] from rfl) (Reps.one (show Kd.M Kd.string _ _ _ (⟨#[97]⟩ : ByteArray) [.string (⟨#[97]⟩ : ByteArray)] from rfl) (Reps.none _ _)))))); intro v117 w11 ho12 hb hg_ hnew_; clear hg_ hnew_; (rw [← Ny116.out] at ho12); have HO118 := aM (bP ho12 (keep_size (w := w) (g := g) (row := none) HK.out)); replace HI0 := aM (IsS63.below HI0.out hb); replace HK := aM (cK HK.out (KeepBut.of_below hb g none) (.inl rfl)); replace HB := aM (aE HB.out hb); clear hb ho12) | ((with_reducible refine aY (f := 24) rfl ?_); refine gL 14 Try.func24 #[.pointer (some ⟨g, 0, none⟩), .int .i64 4] ?_; (with_reducible refine (spec_l6Rd_pick.calls kj2 g s0_0 x1001_2 4 t119 t120 w0 _ ?side1 ?side2 A8.out).mono ?_); (case side1 => repeat ((with_reducible exact HI0.out))); (case side2 => repeat ((with_reducible exact HB.out))); rintro e w13 ⟨rfl, hi, hb, hk⟩; refine ⟨_, rfl, ?_⟩; replace HO118 := aM (bJ (cH (IsS63.apart (show IsS63 w0 _ g s0_0 x1001_2 from by repeat ((with_reducible exact HI0.out))) HO118.out (by decide)) hk (fun _ h => h.2)) (fun _ h => h.1)); replace HK := aM (cK HK.out hk (.inl rfl)); replace HB := aM hb; replace HI0 := aM hi; (try clear hb); (try clear hk); (try clear hi); obtain ⟨Ao14, co14, eo14⟩ := bL HO118.out; subst eo14; have p121 : 0 ≤ (t119 : Int) := aJ (by (with_reducible assumption)); have q121 : t119 < (y116.length : Int) := aJ (by (with_reducible assumption)); obtain ⟨ad121, e121, hx121_0⟩ := cR (bM HO118.out).2.2 t119 p121 q121; cases e121; replace p121 := eq_true p121; replace q121 := eq_true q121))
      go_ret
      exact ⟨by first | rfl | (simp [*, errW_none, errW_some] <;> rfl), HI0.out, HB.out, HK.out⟩
     ·rw [if_neg c10] at H
      exact absurd H (by simp)
    ·rw [if_neg c9] at H
     exact absurd H (by simp)
   ·replace c7 := Bool.eq_false_iff.mpr c7
    subst c7
    replace H : ((spec_l6Rd_pick.f kj2 s0_0 x1001_2 6).bind fun bt122 => (if bt122.1 = 0 then ((spec_l91Term.f kj2 s0_0 bt122.2 (wrap64 (a1 - 1))).bind fun bt124 => (if 1 + bt124.1.size ≤ 9223372036854775807 then (some ((⟨#[42]⟩ : ByteArray) ++ bt124.1, bt124.2)) else (none))) else (if bt122.1 = 1 then ((some (([(⟨#[50]⟩ : ByteArray), (⟨#[51]⟩ : ByteArray), (⟨#[52]⟩ : ByteArray), (⟨#[53]⟩ : ByteArray)] : List ByteArray) : List ByteArray)).bind fun y126 => ((spec_l6Rd_pick.f kj2 s0_0 bt122.2 4).bind fun bt129 => (if 0 ≤ bt129.1 then (if bt129.1 < (y126.length : Int) then ((spec_l91Term.f kj2 s0_0 bt129.2 (wrap64 (a1 - 1))).bind fun bt132 => (if (rdOf ByteArray.empty y126 bt129.1).size + bt132.1.size ≤ 9223372036854775807 then (some ((rdOf ByteArray.empty y126 bt129.1) ++ bt132.1, bt132.2)) else (none))) else (none)) else (none)))) else ((spec_l91Term.f kj2 s0_0 bt122.2 (wrap64 (a1 - 1))).bind fun bt134 => (if 1 + bt134.1.size ≤ 9223372036854775807 then ((some (([(⟨#[43]⟩ : ByteArray), (⟨#[43]⟩ : ByteArray), (⟨#[46]⟩ : ByteArray), (⟨#[38]⟩ : ByteArray)] : List ByteArray) : List ByteArray)).bind fun y136 => ((spec_l6Rd_pick.f kj2 s0_0 bt134.2 4).bind fun bt139 => (if 0 ≤ bt139.1 then (if bt139.1 < (y136.length : Int) then (if 1 + bt134.1.size + (rdOf ByteArray.empty y136 bt139.1).size ≤ 9223372036854775807 then ((spec_l91Term.f kj2 s0_0 bt139.2 (wrap64 (a1 - 1))).bind fun bt142 => (if 1 + bt134.1.size + (rdOf ByteArray.empty y136 bt139.1).size + bt142.1.size ≤ 9223372036854775807 then (if 1 + bt134.1.size + (rdOf ByteArray.empty y136 bt139.1).size + bt142.1.size + 1 ≤ 9223372036854775807 then (some (((((⟨#[40]⟩ : ByteArray) ++ bt134.1) ++ (rdOf ByteArray.empty y136 bt139.1)) ++ bt142.1) ++ (⟨#[41]⟩ : ByteArray), bt142.2)) else (none)) else (none))) else (none)) else (none)) else (none)))) else (none)))))) = some (r1, r2) := by rw [if_neg (show ¬ (false = true) by decide)] at H; exact H
    replace H := Option.bind_eq_some_iff.mp H
    obtain ⟨⟨t122, t123⟩, A150, H⟩ := H
    replace H : (if t122 = 0 then ((spec_l91Term.f kj2 s0_0 t123 (wrap64 (a1 - 1))).bind fun bt124 => (if 1 + bt124.1.size ≤ 9223372036854775807 then (some ((⟨#[42]⟩ : ByteArray) ++ bt124.1, bt124.2)) else (none))) else (if t122 = 1 then ((some (([(⟨#[50]⟩ : ByteArray), (⟨#[51]⟩ : ByteArray), (⟨#[52]⟩ : ByteArray), (⟨#[53]⟩ : ByteArray)] : List ByteArray) : List ByteArray)).bind fun y126 => ((spec_l6Rd_pick.f kj2 s0_0 t123 4).bind fun bt129 => (if 0 ≤ bt129.1 then (if bt129.1 < (y126.length : Int) then ((spec_l91Term.f kj2 s0_0 bt129.2 (wrap64 (a1 - 1))).bind fun bt132 => (if (rdOf ByteArray.empty y126 bt129.1).size + bt132.1.size ≤ 9223372036854775807 then (some ((rdOf ByteArray.empty y126 bt129.1) ++ bt132.1, bt132.2)) else (none))) else (none)) else (none)))) else ((spec_l91Term.f kj2 s0_0 t123 (wrap64 (a1 - 1))).bind fun bt134 => (if 1 + bt134.1.size ≤ 9223372036854775807 then ((some (([(⟨#[43]⟩ : ByteArray), (⟨#[43]⟩ : ByteArray), (⟨#[46]⟩ : ByteArray), (⟨#[38]⟩ : ByteArray)] : List ByteArray) : List ByteArray)).bind fun y136 => ((spec_l6Rd_pick.f kj2 s0_0 bt134.2 4).bind fun bt139 => (if 0 ≤ bt139.1 then (if bt139.1 < (y136.length : Int) then (if 1 + bt134.1.size + (rdOf ByteArray.empty y136 bt139.1).size ≤ 9223372036854775807 then ((spec_l91Term.f kj2 s0_0 bt139.2 (wrap64 (a1 - 1))).bind fun bt142 => (if 1 + bt134.1.size + (rdOf ByteArray.empty y136 bt139.1).size + bt142.1.size ≤ 9223372036854775807 then (if 1 + bt134.1.size + (rdOf ByteArray.empty y136 bt139.1).size + bt142.1.size + 1 ≤ 9223372036854775807 then (some (((((⟨#[40]⟩ : ByteArray) ++ bt134.1) ++ (rdOf ByteArray.empty y136 bt139.1)) ++ bt142.1) ++ (⟨#[41]⟩ : ByteArray), bt142.2)) else (none)) else (none))) else (none)) else (none)) else (none)))) else (none))))) = some (r1, r2) := H
    have A15 := aM A150
    clear A150
    by_cases c16 : t122 = 0
    ·rw [if_pos c16] at H
     have c16b0 : (t122 == 0) = true := beq_iff_eq.mpr c16
     clear c16
     replace H := Option.bind_eq_some_iff.mp H
     obtain ⟨⟨t124, t125⟩, A170, H⟩ := H
     replace H : (if 1 + t124.size ≤ 9223372036854775807 then (some ((⟨#[42]⟩ : ByteArray) ++ t124, t125)) else (none)) = some (r1, r2) := H
     have A17 := aM A170
     clear A170
     by_cases c18 : 1 + t124.size ≤ 9223372036854775807
     ·rw [if_pos c18] at H
      try have c18b2 : (9223372036854775807 < 1 + t124.size) = False := eq_false (Nat.not_lt.2 c18)
      simp only [aV, aW] at H
      obtain ⟨rfl, rfl⟩ := H
      go_wp2_with (first | ((with_reducible refine aY (f := 24) rfl ?_); refine gL 18 Try.func24 #[.pointer (some ⟨g, 0, none⟩), .int .i64 6] ?_; (with_reducible refine (spec_l6Rd_pick.calls kj2 g s0_0 x1001_2 6 t122 t123 w0 _ ?side1 ?side2 A15.out).mono ?_); (case side1 => repeat ((with_reducible exact HI0.out))); (case side2 => repeat ((with_reducible exact HB.out))); rintro e w19 ⟨rfl, hi, hb, hk⟩; refine ⟨_, rfl, ?_⟩; replace HK := aM (cK HK.out hk (.inl rfl)); replace HB := aM hb; replace HI0 := aM hi; (try clear hb); (try clear hk); (try clear hi)) | ((with_reducible refine aY (f := 38) rfl ?_); refine gL 24 Try.func38 #[.pointer (some ⟨g, 0, none⟩), .int .i64 (wrap64 (a1 - 1))] ?_; (with_reducible refine (ih kj2 (by have := HJ2.out; omega) g s0_0 t123 (wrap64 (a1 - 1)) t124 t125 w0 _ ?side1 ?side2 A17.out).mono ?_); (case side1 => repeat ((with_reducible exact HI0.out))); (case side2 => repeat ((with_reducible exact HB.out))); rintro e w20 ⟨rfl, hi, hb, hk⟩; refine ⟨_, rfl, ?_⟩; replace HK := aM (cK HK.out hk (.inl rfl)); replace HB := aM hb; replace HI0 := aM hi; (try clear hb); (try clear hk); (try clear hi)))
      go_ret
      exact ⟨by first | rfl | (simp [*, errW_none, errW_some] <;> rfl), HI0.out, HB.out, HK.out⟩
     ·rw [if_neg c18] at H
      exact absurd H (by simp)
    ·rw [if_neg c16] at H
     have c16b0 : (t122 == 0) = false := beq_eq_false_iff_ne.mpr c16
     have c16b1 : (t122 != 0) = true := bne_iff_ne.mpr c16
     by_cases c21 : t122 = 1
     ·rw [if_pos c21] at H
      have c21b0 : (t122 == 1) = true := beq_iff_eq.mpr c21
      clear c21
      obtain ⟨y126, hy126⟩ : ∃ y_ : List ByteArray, y_ = (([(⟨#[50]⟩ : ByteArray), (⟨#[51]⟩ : ByteArray), (⟨#[52]⟩ : ByteArray), (⟨#[53]⟩ : ByteArray)] : List ByteArray)) := ⟨_, rfl⟩
      replace H : ((spec_l6Rd_pick.f kj2 s0_0 t123 4).bind fun bt129 => (if 0 ≤ bt129.1 then (if bt129.1 < (y126.length : Int) then ((spec_l91Term.f kj2 s0_0 bt129.2 (wrap64 (a1 - 1))).bind fun bt132 => (if (rdOf ByteArray.empty y126 bt129.1).size + bt132.1.size ≤ 9223372036854775807 then (some ((rdOf ByteArray.empty y126 bt129.1) ++ bt132.1, bt132.2)) else (none))) else (none)) else (none))) = some (r1, r2) := by first | (have H2_ := (bR _ _).symm.trans H; rw [hy126]; with_reducible exact H2_)
      have Ny126 := aM hy126
      clear hy126
      replace H := Option.bind_eq_some_iff.mp H
      obtain ⟨⟨t129, t130⟩, A220, H⟩ := H
      replace H : (if 0 ≤ t129 then (if t129 < (y126.length : Int) then ((spec_l91Term.f kj2 s0_0 t130 (wrap64 (a1 - 1))).bind fun bt132 => (if (rdOf ByteArray.empty y126 t129).size + bt132.1.size ≤ 9223372036854775807 then (some ((rdOf ByteArray.empty y126 t129) ++ bt132.1, bt132.2)) else (none))) else (none)) else (none)) = some (r1, r2) := H
      have A22 := aM A220
      clear A220
      by_cases c23 : 0 ≤ t129
      ·rw [if_pos c23] at H
       have c23b0 : decide (0 ≤ t129) = true := aH c23
       clear c23
       by_cases c24 : t129 < (y126.length : Int)
       ·rw [if_pos c24] at H
        have c24b0 : decide (t129 < (y126.length : Int)) = true := aH c24
        clear c24
        replace H := Option.bind_eq_some_iff.mp H
        obtain ⟨⟨t132, t133⟩, A250, H⟩ := H
        replace H : (if (rdOf ByteArray.empty y126 t129).size + t132.size ≤ 9223372036854775807 then (some ((rdOf ByteArray.empty y126 t129) ++ t132, t133)) else (none)) = some (r1, r2) := H
        have A25 := aM A250
        clear A250
        by_cases c26 : (rdOf ByteArray.empty y126 t129).size + t132.size ≤ 9223372036854775807
        ·rw [if_pos c26] at H
         try have c26b2 : (9223372036854775807 < (rdOf ByteArray.empty y126 t129).size + t132.size) = False := eq_false (Nat.not_lt.2 c26)
         simp only [aV, aW] at H
         obtain ⟨rfl, rfl⟩ := H
         try go_wp2_with (first | ((with_reducible refine aY (f := 24) rfl ?_); refine gL 18 Try.func24 #[.pointer (some ⟨g, 0, none⟩), .int .i64 6] ?_; (with_reducible refine (spec_l6Rd_pick.calls kj2 g s0_0 x1001_2 6 t122 t123 w0 _ ?side1 ?side2 A15.out).mono ?_); (case side1 => repeat ((with_reducible exact HI0.out))); (case side2 => repeat ((with_reducible exact HB.out))); rintro e w27 ⟨rfl, hi, hb, hk⟩; refine ⟨_, rfl, ?_⟩; replace HK := aM (cK HK.out hk (.inl rfl)); replace HB := aM hb; replace HI0 := aM hi; (try clear hb); (try clear hk); (try clear hi)))
         have pi131 : (0 ≤ (t129 : Int)) = True := eq_true (aJ (by (with_reducible assumption)))
         have qi131 : (t129 < (y126.length : Int)) = True := eq_true (aJ (by (with_reducible assumption)))
         replace HI0 := aM (IsS63.drew HI0.out)
         replace HK := aM (keep_drew HK.out)
         replace HB := aM (b1 HB.out)
         refine start_ (n := 11) (S := fun w' => True) (ds := []) #[false, false, false, false, false, false, false, false, false, false, false] (by kernel_rfl) rfl rfl trivial (fun hHeld => ?_); refine with_tabW spec_l91Term.tab7 spec_l91Term.bits7 (fun HT_ HW_ => ?_)
         generalize w27.drew = w28 at HI0 HK HB hHeld ⊢
         refine pQ 1 29 HT_ ?_
         refine pQ 5 33 HT_ ?_
         refine pQ 6 34 HT_ ?_
         refine inv_at [0, 2, 3, 4, 7, 8, 9, 10] (fun a0_ b a w' => ∃ (v127 : Value) (adz_v127 : Addr) (m3_ : Value), a = putSel a0_ b [(0, 28, v127), (2, 30, .int .i64 t129), (3, 31, m3_), (4, 32, .string (rdOf ByteArray.empty y126 t129)), (7, 35, .int .i64 (wrap64 (a1 - 1))), (8, 36, .string t132), (9, 37, .string ((rdOf ByteArray.empty y126 t129) ++ t132)), (10, 4, .string ((rdOf ByteArray.empty y126 t129) ++ t132))] ∧ (b 2 = false → IsS63 w0 w' g s0_0 t123) ∧ (KeepBut w w' g none) ∧ (Below w0.heap.size w0 w') ∧ (b 0 = true → Kd.R Kd.string 9 w' w.heap.size (fun _ => True) v127 y126) ∧ (b 0 = true → ∃ c_, (v127 : Value) = .slice (some adz_v127) y126.length c_) ∧ (b 2 = true → b 8 = false → IsS63 w0 w' g s0_0 t130) ∧ (b 8 = true → IsS63 w0 w' g s0_0 t133) ∧ (b 3 = true → (m3_ : Value) = .pointer (some (adz_v127.add (t129).toNat)))) HT_.out HW_.out (by kernel_rfl) (by kernel_rfl) ?_ ?_ ?_
         ·exact ⟨.bool false, ⟨0, 0, none⟩, .bool false, by simp only [putSel, bX, if_false], fun _ => HI0.out, HK.out, HB.out, fun h_ => absurd h_ (by decide), fun h_ => absurd h_ (by decide), fun h_ => absurd h_ (by decide), fun h_ => absurd h_ (by decide), fun h_ => absurd h_ (by decide)⟩
         ·skip
          clear HB HI0 HK
          refine steps_cons ?_ ?_
          ·rintro b a w' ⟨v127, adz_v127, m3_, ha, Q_HI0, Q_HK, Q_HB, Q_HO128, Q_HA_HO128, Q_HI0_e2, Q_HI0_e8, Q_X3_⟩ hb_ hon hoff
           refine ⟨_, rfl, fun K hK => ?_⟩
           replace ha := aM ha
           have HK := aM Q_HK
           have HB := aM Q_HB
           refine Kd.R_lit_step Kd.string _ 9 ?hg (N := 28) ?hd (xs := ([(⟨#[50]⟩ : ByteArray), (⟨#[51]⟩ : ByteArray), (⟨#[52]⟩ : ByteArray), (⟨#[53]⟩ : ByteArray)] : List ByteArray)) (inner := [.string (⟨#[50]⟩ : ByteArray), .string (⟨#[51]⟩ : ByteArray), .string (⟨#[52]⟩ : ByteArray), .string (⟨#[53]⟩ : ByteArray)]) (ok := fun _ => True) (okp := fun _ => True) ?hr ?hp (fun _ hk => hk) trivial (cE _ _) (cD _) (by simp) ?_; (case hd => rfl); (case hg => rfl); (case hr => first | (go_simp; done)); (case hp => exact (Reps.one (show Kd.M Kd.string _ _ _ (⟨#[50]⟩ : ByteArray) [.string (⟨#[50]⟩ : ByteArray)] from rfl) (Reps.one (show Kd.M Kd.string _ _ _ (⟨#[51]⟩ : ByteArray) [.string (⟨#[51]⟩ : ByteArray)] from rfl) (Reps.one (show Kd.M Kd.string _ _ _ (⟨#[52]⟩ : ByteArray) [.string (⟨#[52]⟩ : ByteArray)] from rfl) (Reps.one (show Kd.M Kd.string _ _ _ (⟨#[53]⟩ : ByteArray) [.string (⟨#[53]⟩ : ByteArray)] from rfl) (Reps.none _ _))))))
           intro v127 w29 ho30 hb hg_ hnew_
           clear hg_ hnew_
           (rw [← Ny126.out] at ho30)
           have n0_ := aM (bP ho30 (keep_size (w := w) (g := g) (row := none) HK.out))
           have n2_ := aM (cK HK.out (KeepBut.of_below hb g none) (.inl rfl))
           have n3_ := aM (aE HB.out hb)
           have z_HI0 := fun (h0_ : b 2 = false) => (show IsS63 w0 w29 g s0_0 t123 from by exact (IsS63.below (by repeat ((with_reducible exact (Q_HI0 h0_)))) hb))
           have z_HI0_e2 := fun (h0_ : b 2 = true) (h1_ : b 8 = false) => (show IsS63 w0 w29 g s0_0 t130 from by exact (IsS63.below (by repeat ((with_reducible exact (Q_HI0_e2 h0_ h1_)))) hb))
           have z_HI0_e8 := fun (h0_ : b 8 = true) => (show IsS63 w0 w29 g s0_0 t133 from by exact (IsS63.below (by repeat ((with_reducible exact (Q_HI0_e8 h0_)))) hb))
           clear HK
           clear HB
           have HO128 := n0_
           have HK := n2_
           have HB := n3_
           clear n0_ n2_ n3_
           clear hb ho30
           obtain ⟨Ao31, co31, eo31⟩ := bL HO128.out
           subst eo31
           obtain ⟨ado31, fo31, _⟩ := cR (bM HO128.out).2.2 0 (by decide) (by rw [Ny126.out]; simp)
           cases fo31
           refine hK.out _ _ ⟨.slice (some ado31) y126.length co31, ado31, m3_, (by rw [ha.out]; exact bZ 0 hb_ rfl rfl rfl), z_HI0, HK.out, HB.out, fun _ => HO128.out, fun _ => ⟨_, rfl⟩, z_HI0_e2, z_HI0_e8, fun h0_ => absurd ((hoff 3 (by kernel_rfl)).symm.trans h0_) (by decide)⟩
          refine steps_cons ?_ ?_
          ·rintro b a w' ⟨v127, adz_v127, m3_, ha, Q_HI0, Q_HK, Q_HB, Q_HO128, Q_HA_HO128, Q_HI0_e2, Q_HI0_e8, Q_X3_⟩ hb_ hon hoff
           refine ⟨_, rfl, fun K hK => ?_⟩
           have e29 : a.tmps[29]? = some (.pointer (some ⟨g, 0, none⟩)) := by rw [ha]; exact (cB rfl).trans rfl
           replace ha := aM ha
           have HI0 := aM (Q_HI0 hb_)
           have HK := aM Q_HK
           have HB := aM Q_HB
           refine gO Try.func24 #[.pointer (some ⟨g, 0, none⟩), .int .i64 4] (hargs := (by first | (simp only [aN, aQ, aT, Act.eval, Array.getD_eq_getD_getElem?, Option.getD_some, e29]; done))) ?_
           with_reducible refine (spec_l6Rd_pick.calls kj2 g s0_0 t123 4 t129 t130 w0 _ ?side1 ?side2 A22.out).mono ?_
           (case side1 => repeat ((with_reducible exact HI0.out)))
           (case side2 => repeat ((with_reducible exact HB.out)))
           rintro e w29 ⟨rfl, hi, hb, hk⟩
           refine ⟨_, rfl, ?_⟩
           have n0_ := aM (cK HK.out hk (.inl rfl))
           have n1_ := aM hb
           have n2_ := aM hi
           have z_HO128 := fun (h0_ : b 0 = true) => (show Kd.R Kd.string 9 w29 w.heap.size (fun _ => True) v127 y126 from by first | exact (bJ (cH (IsS63.apart (show IsS63 w0 _ g s0_0 t123 from by repeat ((with_reducible exact HI0.out))) (by exact (Q_HO128 h0_)) (by decide)) hk (fun _ h => h.2)) (fun _ h => h.1)))
           clear HK
           clear HB
           clear HI0
           have HK := n0_
           have HB := n1_
           have HI0 := n2_
           clear n0_ n1_ n2_
           (try clear hb)
           (try clear hk)
           (try clear hi)
           refine hK.out _ _ ⟨v127, adz_v127, m3_, (by rw [ha.out]; exact bZ 1 hb_ rfl rfl rfl), fun h0_ => absurd ((up_self b 2).symm.trans h0_) (by decide), HK.out, HB.out, z_HO128, Q_HA_HO128, fun _ _ => HI0.out, fun h0_ => absurd ((hoff 8 (by kernel_rfl)).symm.trans h0_) (by decide), fun h0_ => absurd ((hoff 3 (by kernel_rfl)).symm.trans h0_) (by decide)⟩
          refine steps_cons ?_ ?_
          ·rintro b a w' ⟨v127, adz_v127, m3_, ha, Q_HI0, Q_HK, Q_HB, Q_HO128, Q_HA_HO128, Q_HI0_e2, Q_HI0_e8, Q_X3_⟩ hb_ hon hoff
           refine ⟨_, rfl, fun K hK => ?_⟩
           have e28 : a.tmps[28]? = some (v127) := by rw [ha]; exact cA (e := (0, 28, v127)) 0 rfl rfl (hon 0 (by kernel_rfl)) rfl
           have e30 : a.tmps[30]? = some (.int .i64 t129) := by rw [ha]; exact cA (e := (2, 30, .int .i64 t129)) 1 rfl rfl (hon 2 (by kernel_rfl)) rfl
           replace ha := aM ha
           have HA_HO128 := aM (Q_HA_HO128 (hon 0 (by kernel_rfl)))
           obtain ⟨c_, hv_⟩ := HA_HO128.out
           rw [hv_] at e28
           refine value_ (w1 := w') (v := .pointer (some (adz_v127.add (t129).toNat))) (by rfl) rfl ?_ ?_
           ·go_simp
           refine hK.out _ _ ⟨v127, adz_v127, (.pointer (some (adz_v127.add (t129).toNat))), (by rw [ha.out]; exact bZ 2 hb_ rfl rfl rfl), fun h0_ => absurd ((hon 2 (by kernel_rfl)).symm.trans h0_) (by decide), Q_HK, Q_HB, Q_HO128, Q_HA_HO128, Q_HI0_e2, Q_HI0_e8, fun _ => rfl⟩
          refine steps_cons ?_ ?_
          ·rintro b a w' ⟨v127, adz_v127, m3_, ha, Q_HI0, Q_HK, Q_HB, Q_HO128, Q_HA_HO128, Q_HI0_e2, Q_HI0_e8, Q_X3_⟩ hb_ hon hoff
           refine ⟨_, rfl, fun K hK => ?_⟩
           have e31 : a.tmps[31]? = some (m3_) := by rw [ha]; exact cA (e := (3, 31, m3_)) 2 rfl rfl (hon 3 (by kernel_rfl)) rfl
           rw [Q_X3_ (hon 3 (by kernel_rfl))] at e31
           replace ha := aM ha
           have HO128 := aM (Q_HO128 (hon 0 (by kernel_rfl)))
           have HA_HO128 := aM (Q_HA_HO128 (hon 0 (by kernel_rfl)))
           obtain ⟨c_, hv_⟩ := HA_HO128.out
           have hF_ := HO128.out
           rw [hv_] at hF_
           obtain ⟨ad_, ea_, hx_⟩ := cR (bM hF_).2.2 t129 (cC pi131) (cC qi131)
           cases ea_
           refine value_ (w1 := w') (v := .string (rdOf ByteArray.empty y126 t129)) (by rfl) rfl ?_ ?_
           ·go_simp
           refine hK.out _ _ ⟨v127, adz_v127, m3_, (by rw [ha.out]; exact bZ 3 hb_ rfl rfl rfl), fun h0_ => absurd ((hon 2 (by kernel_rfl)).symm.trans h0_) (by decide), Q_HK, Q_HB, Q_HO128, Q_HA_HO128, Q_HI0_e2, Q_HI0_e8, Q_X3_⟩
          refine steps_cons ?_ ?_
          ·rintro b a w' ⟨v127, adz_v127, m3_, ha, Q_HI0, Q_HK, Q_HB, Q_HO128, Q_HA_HO128, Q_HI0_e2, Q_HI0_e8, Q_X3_⟩ hb_ hon hoff
           refine ⟨_, rfl, fun K hK => ?_⟩
           have e34 : a.tmps[34]? = some (.int .i64 a1) := by rw [ha]; exact (cB rfl).trans rfl
           replace ha := aM ha
           refine value_ (w1 := w') (v := .int .i64 (wrap64 (a1 - 1))) (by rfl) rfl ?_ ?_
           ·go_simp
            (try simp only [cS])
           refine hK.out _ _ ⟨v127, adz_v127, m3_, (by rw [ha.out]; exact bZ 4 hb_ rfl rfl rfl), Q_HI0, Q_HK, Q_HB, Q_HO128, Q_HA_HO128, Q_HI0_e2, fun h0_ => absurd ((hoff 8 (by kernel_rfl)).symm.trans h0_) (by decide), Q_X3_⟩
          refine steps_cons ?_ ?_
          ·rintro b a w' ⟨v127, adz_v127, m3_, ha, Q_HI0, Q_HK, Q_HB, Q_HO128, Q_HA_HO128, Q_HI0_e2, Q_HI0_e8, Q_X3_⟩ hb_ hon hoff
           refine ⟨_, rfl, fun K hK => ?_⟩
           have e33 : a.tmps[33]? = some (.pointer (some ⟨g, 0, none⟩)) := by rw [ha]; exact (cB rfl).trans rfl
           have e35 : a.tmps[35]? = some (.int .i64 (wrap64 (a1 - 1))) := by rw [ha]; exact cA (e := (7, 35, .int .i64 (wrap64 (a1 - 1)))) 4 rfl rfl (hon 7 (by kernel_rfl)) rfl
           replace ha := aM ha
           have HK := aM Q_HK
           have HB := aM Q_HB
           have HI0 := aM (Q_HI0_e2 (hon 2 (by kernel_rfl)) hb_)
           refine gO Try.func38 #[.pointer (some ⟨g, 0, none⟩), .int .i64 (wrap64 (a1 - 1))] (hargs := (by first | (simp only [aN, aQ, aT, Act.eval, Array.getD_eq_getD_getElem?, Option.getD_some, e33, e35]; done))) ?_
           with_reducible refine (ih kj2 (by have := HJ2.out; omega) g s0_0 t130 (wrap64 (a1 - 1)) t132 t133 w0 _ ?side1 ?side2 A25.out).mono ?_
           (case side1 => repeat ((with_reducible exact HI0.out)))
           (case side2 => repeat ((with_reducible exact HB.out)))
           rintro e w31 ⟨rfl, hi, hb, hk⟩
           refine ⟨_, rfl, ?_⟩
           have n0_ := aM (cK HK.out hk (.inl rfl))
           have n1_ := aM hb
           have n2_ := aM hi
           have z_HO128 := fun (h0_ : b 0 = true) => (show Kd.R Kd.string 9 w31 w.heap.size (fun _ => True) v127 y126 from by first | exact (bJ (cH (IsS63.apart (show IsS63 w0 _ g s0_0 t130 from by repeat ((with_reducible exact HI0.out))) (by exact (Q_HO128 h0_)) (by decide)) hk (fun _ h => h.2)) (fun _ h => h.1)))
           clear HK
           clear HB
           clear HI0
           have HK := n0_
           have HB := n1_
           have HI0 := n2_
           clear n0_ n1_ n2_
           (try clear hb)
           (try clear hk)
           (try clear hi)
           refine hK.out _ _ ⟨v127, adz_v127, m3_, (by rw [ha.out]; exact bZ 5 hb_ rfl rfl rfl), fun h0_ => absurd ((hon 2 (by kernel_rfl)).symm.trans h0_) (by decide), HK.out, HB.out, z_HO128, Q_HA_HO128, fun _ h1_ => absurd ((up_self b 8).symm.trans h1_) (by decide), fun _ => HI0.out, Q_X3_⟩
          refine steps_cons ?_ ?_
          ·rintro b a w' ⟨v127, adz_v127, m3_, ha, Q_HI0, Q_HK, Q_HB, Q_HO128, Q_HA_HO128, Q_HI0_e2, Q_HI0_e8, Q_X3_⟩ hb_ hon hoff
           refine ⟨_, rfl, fun K hK => ?_⟩
           have e32 : a.tmps[32]? = some (.string (rdOf ByteArray.empty y126 t129)) := by rw [ha]; exact cA (e := (4, 32, .string (rdOf ByteArray.empty y126 t129))) 3 rfl rfl (hon 4 (by kernel_rfl)) rfl
           have e36 : a.tmps[36]? = some (.string t132) := by rw [ha]; exact cA (e := (8, 36, .string t132)) 5 rfl rfl (hon 8 (by kernel_rfl)) rfl
           replace ha := aM ha
           refine value_ (w1 := w') (v := .string ((rdOf ByteArray.empty y126 t129) ++ t132)) (by rfl) rfl ?_ ?_
           ·go_simp
           refine hK.out _ _ ⟨v127, adz_v127, m3_, (by rw [ha.out]; exact bZ 6 hb_ rfl rfl rfl), fun h0_ => absurd ((hon 2 (by kernel_rfl)).symm.trans h0_) (by decide), Q_HK, Q_HB, Q_HO128, Q_HA_HO128, fun _ h1_ => absurd ((hon 8 (by kernel_rfl)).symm.trans h1_) (by decide), Q_HI0_e8, Q_X3_⟩
          refine steps_cons ?_ ?_
          ·rintro b a w' ⟨v127, adz_v127, m3_, ha, Q_HI0, Q_HK, Q_HB, Q_HO128, Q_HA_HO128, Q_HI0_e2, Q_HI0_e8, Q_X3_⟩ hb_ hon hoff
           refine ⟨_, rfl, fun K hK => ?_⟩
           have e37 : a.tmps[37]? = some (.string ((rdOf ByteArray.empty y126 t129) ++ t132)) := by rw [ha]; exact cA (e := (9, 37, .string ((rdOf ByteArray.empty y126 t129) ++ t132))) 6 rfl rfl (hon 9 (by kernel_rfl)) rfl
           replace ha := aM ha
           refine value_ (w1 := w') (v := .string ((rdOf ByteArray.empty y126 t129) ++ t132)) (by rfl) rfl ?_ ?_
           ·go_simp
           refine hK.out _ _ ⟨v127, adz_v127, m3_, (by rw [ha.out]; exact bZ 7 hb_ rfl rfl rfl), fun h0_ => absurd ((hon 2 (by kernel_rfl)).symm.trans h0_) (by decide), Q_HK, Q_HB, Q_HO128, Q_HA_HO128, fun _ h1_ => absurd ((hon 8 (by kernel_rfl)).symm.trans h1_) (by decide), Q_HI0_e8, Q_X3_⟩
          exact steps_nil
         rintro b a w34 hall ⟨v127, adz_v127, m3_, ha, Q_HI0, Q_HK, Q_HB, Q_HO128, Q_HA_HO128, Q_HI0_e2, Q_HI0_e8, Q_X3_⟩
         clear HB HI0 HK
         have hb0_ := hall 0 (by kernel_rfl)
         have hb2_ := hall 2 (by kernel_rfl)
         have hb3_ := hall 3 (by kernel_rfl)
         have hb4_ := hall 4 (by kernel_rfl)
         have hb7_ := hall 7 (by kernel_rfl)
         have hb8_ := hall 8 (by kernel_rfl)
         have hb9_ := hall 9 (by kernel_rfl)
         have hb10_ := hall 10 (by kernel_rfl)
         subst ha
         obtain rfl := Q_X3_ hb3_
         simp only [putSel, hb0_, hb2_, hb3_, hb4_, hb7_, hb8_, hb9_, hb10_, if_true, Act.put, sA, sZ, sS]
         clear Q_HI0
         have HK := aM Q_HK
         clear Q_HK
         have HB := aM Q_HB
         clear Q_HB
         have HO128 := aM (Q_HO128 hb0_)
         clear Q_HO128
         have HA_HO128 := aM (Q_HA_HO128 hb0_)
         clear Q_HA_HO128
         clear Q_HI0_e2
         have HI0 := aM (Q_HI0_e8 hb8_)
         clear Q_HI0_e8
         clear hall hb0_ hb2_ hb3_ hb4_ hb7_ hb8_ hb9_ hb10_
         obtain ⟨co35, eo35⟩ := HA_HO128.out
         clear HA_HO128
         subst eo35
         try go_wp2
         go_ret
         exact ⟨by first | rfl | (simp [*, errW_none, errW_some] <;> rfl), HI0.out, HB.out, HK.out⟩
        ·rw [if_neg c26] at H
         exact absurd H (by simp)
       ·rw [if_neg c24] at H
        exact absurd H (by simp)
      ·rw [if_neg c23] at H
       exact absurd H (by simp)
     ·rw [if_neg c21] at H
      have c21b0 : (t122 == 1) = false := beq_eq_false_iff_ne.mpr c21
      replace H := Option.bind_eq_some_iff.mp H
      obtain ⟨⟨t134, t135⟩, A360, H⟩ := H
      replace H : (if 1 + t134.size ≤ 9223372036854775807 then ((some (([(⟨#[43]⟩ : ByteArray), (⟨#[43]⟩ : ByteArray), (⟨#[46]⟩ : ByteArray), (⟨#[38]⟩ : ByteArray)] : List ByteArray) : List ByteArray)).bind fun y136 => ((spec_l6Rd_pick.f kj2 s0_0 t135 4).bind fun bt139 => (if 0 ≤ bt139.1 then (if bt139.1 < (y136.length : Int) then (if 1 + t134.size + (rdOf ByteArray.empty y136 bt139.1).size ≤ 9223372036854775807 then ((spec_l91Term.f kj2 s0_0 bt139.2 (wrap64 (a1 - 1))).bind fun bt142 => (if 1 + t134.size + (rdOf ByteArray.empty y136 bt139.1).size + bt142.1.size ≤ 9223372036854775807 then (if 1 + t134.size + (rdOf ByteArray.empty y136 bt139.1).size + bt142.1.size + 1 ≤ 9223372036854775807 then (some (((((⟨#[40]⟩ : ByteArray) ++ t134) ++ (rdOf ByteArray.empty y136 bt139.1)) ++ bt142.1) ++ (⟨#[41]⟩ : ByteArray), bt142.2)) else (none)) else (none))) else (none)) else (none)) else (none)))) else (none)) = some (r1, r2) := H
      have A36 := aM A360
      clear A360
      by_cases c37 : 1 + t134.size ≤ 9223372036854775807
      ·rw [if_pos c37] at H
       try have c37b2 : (9223372036854775807 < 1 + t134.size) = False := eq_false (Nat.not_lt.2 c37)
       obtain ⟨y136, hy136⟩ : ∃ y_ : List ByteArray, y_ = (([(⟨#[43]⟩ : ByteArray), (⟨#[43]⟩ : ByteArray), (⟨#[46]⟩ : ByteArray), (⟨#[38]⟩ : ByteArray)] : List ByteArray)) := ⟨_, rfl⟩
       replace H : ((spec_l6Rd_pick.f kj2 s0_0 t135 4).bind fun bt139 => (if 0 ≤ bt139.1 then (if bt139.1 < (y136.length : Int) then (if 1 + t134.size + (rdOf ByteArray.empty y136 bt139.1).size ≤ 9223372036854775807 then ((spec_l91Term.f kj2 s0_0 bt139.2 (wrap64 (a1 - 1))).bind fun bt142 => (if 1 + t134.size + (rdOf ByteArray.empty y136 bt139.1).size + bt142.1.size ≤ 9223372036854775807 then (if 1 + t134.size + (rdOf ByteArray.empty y136 bt139.1).size + bt142.1.size + 1 ≤ 9223372036854775807 then (some (((((⟨#[40]⟩ : ByteArray) ++ t134) ++ (rdOf ByteArray.empty y136 bt139.1)) ++ bt142.1) ++ (⟨#[41]⟩ : ByteArray), bt142.2)) else (none)) else (none))) else (none)) else (none)) else (none))) = some (r1, r2) := by first | (have H2_ := (bR _ _).symm.trans H; rw [hy136]; with_reducible exact H2_)
       have Ny136 := aM hy136
       clear hy136
       replace H := Option.bind_eq_some_iff.mp H
       obtain ⟨⟨t139, t140⟩, A380, H⟩ := H
       replace H : (if 0 ≤ t139 then (if t139 < (y136.length : Int) then (if 1 + t134.size + (rdOf ByteArray.empty y136 t139).size ≤ 9223372036854775807 then ((spec_l91Term.f kj2 s0_0 t140 (wrap64 (a1 - 1))).bind fun bt142 => (if 1 + t134.size + (rdOf ByteArray.empty y136 t139).size + bt142.1.size ≤ 9223372036854775807 then (if 1 + t134.size + (rdOf ByteArray.empty y136 t139).size + bt142.1.size + 1 ≤ 9223372036854775807 then (some (((((⟨#[40]⟩ : ByteArray) ++ t134) ++ (rdOf ByteArray.empty y136 t139)) ++ bt142.1) ++ (⟨#[41]⟩ : ByteArray), bt142.2)) else (none)) else (none))) else (none)) else (none)) else (none)) = some (r1, r2) := H
       have A38 := aM A380
       clear A380
       by_cases c39 : 0 ≤ t139
       ·rw [if_pos c39] at H
        have c39b0 : decide (0 ≤ t139) = true := aH c39
        clear c39
        by_cases c40 : t139 < (y136.length : Int)
        ·rw [if_pos c40] at H
         have c40b0 : decide (t139 < (y136.length : Int)) = true := aH c40
         clear c40
         by_cases c41 : 1 + t134.size + (rdOf ByteArray.empty y136 t139).size ≤ 9223372036854775807
         ·rw [if_pos c41] at H
          try have c41b2 : (9223372036854775807 < 1 + t134.size + (rdOf ByteArray.empty y136 t139).size) = False := eq_false (Nat.not_lt.2 c41)
          replace H := Option.bind_eq_some_iff.mp H
          obtain ⟨⟨t142, t143⟩, A420, H⟩ := H
          replace H : (if 1 + t134.size + (rdOf ByteArray.empty y136 t139).size + t142.size ≤ 9223372036854775807 then (if 1 + t134.size + (rdOf ByteArray.empty y136 t139).size + t142.size + 1 ≤ 9223372036854775807 then (some (((((⟨#[40]⟩ : ByteArray) ++ t134) ++ (rdOf ByteArray.empty y136 t139)) ++ t142) ++ (⟨#[41]⟩ : ByteArray), t143)) else (none)) else (none)) = some (r1, r2) := H
          have A42 := aM A420
          clear A420
          by_cases c43 : 1 + t134.size + (rdOf ByteArray.empty y136 t139).size + t142.size ≤ 9223372036854775807
          ·rw [if_pos c43] at H
           have c43b0 := eq_true c43
           have c43b1 : decide (1 + t134.size + (rdOf ByteArray.empty y136 t139).size + t142.size ≤ 9223372036854775807) = true := aH c43
           try have c43b2 : (9223372036854775807 < 1 + t134.size + (rdOf ByteArray.empty y136 t139).size + t142.size) = False := eq_false (Nat.not_lt.2 c43)
           by_cases c44 : 1 + t134.size + (rdOf ByteArray.empty y136 t139).size + t142.size + 1 ≤ 9223372036854775807
           ·rw [if_pos c44] at H
            try have c44b2 : (9223372036854775807 < 1 + t134.size + (rdOf ByteArray.empty y136 t139).size + t142.size + 1) = False := eq_false (Nat.not_lt.2 c44)
            simp only [aV, aW] at H
            obtain ⟨rfl, rfl⟩ := H
            try go_wp2_with (first | ((with_reducible refine aY (f := 24) rfl ?_); refine gL 18 Try.func24 #[.pointer (some ⟨g, 0, none⟩), .int .i64 6] ?_; (with_reducible refine (spec_l6Rd_pick.calls kj2 g s0_0 x1001_2 6 t122 t123 w0 _ ?side1 ?side2 A15.out).mono ?_); (case side1 => repeat ((with_reducible exact HI0.out))); (case side2 => repeat ((with_reducible exact HB.out))); rintro e w45 ⟨rfl, hi, hb, hk⟩; refine ⟨_, rfl, ?_⟩; replace HK := aM (cK HK.out hk (.inl rfl)); replace HB := aM hb; replace HI0 := aM hi; (try clear hb); (try clear hk); (try clear hi)))
            have pi141 : (0 ≤ (t139 : Int)) = True := eq_true (aJ (by (with_reducible assumption)))
            have qi141 : (t139 < (y136.length : Int)) = True := eq_true (aJ (by (with_reducible assumption)))
            replace HI0 := aM (IsS63.drew HI0.out)
            replace HK := aM (keep_drew HK.out)
            replace HB := aM (b1 HB.out)
            refine start_ (n := 18) (S := fun w' => True) (ds := []) #[false, false, false, false, false, false, false, false, false, false, false, false, false, false, false, false, false, false] (by kernel_rfl) rfl rfl trivial (fun hHeld => ?_); refine with_tabW spec_l91Term.tab8 spec_l91Term.bits8 (fun HT_ HW_ => ?_)
            generalize w45.drew = w46 at HI0 HK HB hHeld ⊢
            refine pQ 0 38 HT_ ?_
            refine pQ 1 39 HT_ ?_
            refine pQ 6 44 HT_ ?_
            refine pQ 11 49 HT_ ?_
            refine pQ 12 50 HT_ ?_
            refine inv_at [2, 3, 4, 5, 7, 8, 9, 10, 13, 14, 15, 16, 17] (fun a0_ b a w' => ∃ (v137 : Value) (adz_v137 : Addr) (m8_ : Value), a = putSel a0_ b [(2, 40, .int .i64 (wrap64 (a1 - 1))), (3, 41, .string t134), (4, 42, .string ((⟨#[40]⟩ : ByteArray) ++ t134)), (5, 43, v137), (7, 45, .int .i64 t139), (8, 46, m8_), (9, 47, .string (rdOf ByteArray.empty y136 t139)), (10, 48, .string (((⟨#[40]⟩ : ByteArray) ++ t134) ++ (rdOf ByteArray.empty y136 t139))), (13, 51, .int .i64 (wrap64 (a1 - 1))), (14, 52, .string t142), (15, 53, .string ((((⟨#[40]⟩ : ByteArray) ++ t134) ++ (rdOf ByteArray.empty y136 t139)) ++ t142)), (16, 54, .string (((((⟨#[40]⟩ : ByteArray) ++ t134) ++ (rdOf ByteArray.empty y136 t139)) ++ t142) ++ (⟨#[41]⟩ : ByteArray))), (17, 4, .string (((((⟨#[40]⟩ : ByteArray) ++ t134) ++ (rdOf ByteArray.empty y136 t139)) ++ t142) ++ (⟨#[41]⟩ : ByteArray)))] ∧ (b 3 = false → IsS63 w0 w' g s0_0 t123) ∧ (KeepBut w w' g none) ∧ (Below w0.heap.size w0 w') ∧ (b 3 = true → b 7 = false → IsS63 w0 w' g s0_0 t135) ∧ (b 5 = true → Kd.R Kd.string 9 w' w.heap.size (fun _ => True) v137 y136) ∧ (b 5 = true → ∃ c_, (v137 : Value) = .slice (some adz_v137) y136.length c_) ∧ (b 7 = true → b 14 = false → IsS63 w0 w' g s0_0 t140) ∧ (b 14 = true → IsS63 w0 w' g s0_0 t143) ∧ (b 8 = true → (m8_ : Value) = .pointer (some (adz_v137.add (t139).toNat)))) HT_.out HW_.out (by kernel_rfl) (by kernel_rfl) ?_ ?_ ?_
            ·exact ⟨.bool false, ⟨0, 0, none⟩, .bool false, by simp only [putSel, bX, if_false], fun _ => HI0.out, HK.out, HB.out, fun h_ => absurd h_ (by decide), fun h_ => absurd h_ (by decide), fun h_ => absurd h_ (by decide), fun h_ => absurd h_ (by decide), fun h_ => absurd h_ (by decide), fun h_ => absurd h_ (by decide)⟩
            ·skip
             clear HB HI0 HK
             refine steps_cons ?_ ?_
             ·rintro b a w' ⟨v137, adz_v137, m8_, ha, Q_HI0, Q_HK, Q_HB, Q_HI0_e3, Q_HO138, Q_HA_HO138, Q_HI0_e7, Q_HI0_e14, Q_X8_⟩ hb_ hon hoff
              refine ⟨_, rfl, fun K hK => ?_⟩
              have e39 : a.tmps[39]? = some (.int .i64 a1) := by rw [ha]; exact (cB rfl).trans rfl
              replace ha := aM ha
              refine value_ (w1 := w') (v := .int .i64 (wrap64 (a1 - 1))) (by rfl) rfl ?_ ?_
              ·go_simp
               (try simp only [cS])
              refine hK.out _ _ ⟨v137, adz_v137, m8_, (by rw [ha.out]; exact bZ 0 hb_ rfl rfl rfl), Q_HI0, Q_HK, Q_HB, fun h0_ _ => absurd ((hoff 3 (by kernel_rfl)).symm.trans h0_) (by decide), Q_HO138, Q_HA_HO138, fun h0_ _ => absurd ((hoff 7 (by kernel_rfl)).symm.trans h0_) (by decide), fun h0_ => absurd ((hoff 14 (by kernel_rfl)).symm.trans h0_) (by decide), fun h0_ => absurd ((hoff 8 (by kernel_rfl)).symm.trans h0_) (by decide)⟩
             refine steps_cons ?_ ?_
             ·rintro b a w' ⟨v137, adz_v137, m8_, ha, Q_HI0, Q_HK, Q_HB, Q_HI0_e3, Q_HO138, Q_HA_HO138, Q_HI0_e7, Q_HI0_e14, Q_X8_⟩ hb_ hon hoff
              refine ⟨_, rfl, fun K hK => ?_⟩
              have e38 : a.tmps[38]? = some (.pointer (some ⟨g, 0, none⟩)) := by rw [ha]; exact (cB rfl).trans rfl
              have e40 : a.tmps[40]? = some (.int .i64 (wrap64 (a1 - 1))) := by rw [ha]; exact cA (e := (2, 40, .int .i64 (wrap64 (a1 - 1)))) 0 rfl rfl (hon 2 (by kernel_rfl)) rfl
              replace ha := aM ha
              have HI0 := aM (Q_HI0 hb_)
              have HK := aM Q_HK
              have HB := aM Q_HB
              refine gO Try.func38 #[.pointer (some ⟨g, 0, none⟩), .int .i64 (wrap64 (a1 - 1))] (hargs := (by first | (simp only [aN, aQ, aT, Act.eval, Array.getD_eq_getD_getElem?, Option.getD_some, e38, e40]; done))) ?_
              with_reducible refine (ih kj2 (by have := HJ2.out; omega) g s0_0 t123 (wrap64 (a1 - 1)) t134 t135 w0 _ ?side1 ?side2 A36.out).mono ?_
              (case side1 => repeat ((with_reducible exact HI0.out)))
              (case side2 => repeat ((with_reducible exact HB.out)))
              rintro e w47 ⟨rfl, hi, hb, hk⟩
              refine ⟨_, rfl, ?_⟩
              have n0_ := aM (cK HK.out hk (.inl rfl))
              have n1_ := aM hb
              have n2_ := aM hi
              have z_HO138 := fun (h0_ : b 5 = true) => (show Kd.R Kd.string 9 w47 w.heap.size (fun _ => True) v137 y136 from by first | exact (bJ (cH (IsS63.apart (show IsS63 w0 _ g s0_0 t123 from by repeat ((with_reducible exact HI0.out))) (by exact (Q_HO138 h0_)) (by decide)) hk (fun _ h => h.2)) (fun _ h => h.1)))
              clear HK
              clear HB
              clear HI0
              have HK := n0_
              have HB := n1_
              have HI0 := n2_
              clear n0_ n1_ n2_
              (try clear hb)
              (try clear hk)
              (try clear hi)
              refine hK.out _ _ ⟨v137, adz_v137, m8_, (by rw [ha.out]; exact bZ 1 hb_ rfl rfl rfl), fun h0_ => absurd ((up_self b 3).symm.trans h0_) (by decide), HK.out, HB.out, fun _ _ => HI0.out, z_HO138, Q_HA_HO138, fun h0_ _ => absurd ((hoff 7 (by kernel_rfl)).symm.trans h0_) (by decide), fun h0_ => absurd ((hoff 14 (by kernel_rfl)).symm.trans h0_) (by decide), fun h0_ => absurd ((hoff 8 (by kernel_rfl)).symm.trans h0_) (by decide)⟩
             refine steps_cons ?_ ?_
             ·rintro b a w' ⟨v137, adz_v137, m8_, ha, Q_HI0, Q_HK, Q_HB, Q_HI0_e3, Q_HO138, Q_HA_HO138, Q_HI0_e7, Q_HI0_e14, Q_X8_⟩ hb_ hon hoff
              refine ⟨_, rfl, fun K hK => ?_⟩
              have e41 : a.tmps[41]? = some (.string t134) := by rw [ha]; exact cA (e := (3, 41, .string t134)) 1 rfl rfl (hon 3 (by kernel_rfl)) rfl
              replace ha := aM ha
              refine value_ (w1 := w') (v := .string ((⟨#[40]⟩ : ByteArray) ++ t134)) (by rfl) rfl ?_ ?_
              ·go_simp
              refine hK.out _ _ ⟨v137, adz_v137, m8_, (by rw [ha.out]; exact bZ 2 hb_ rfl rfl rfl), fun h0_ => absurd ((hon 3 (by kernel_rfl)).symm.trans h0_) (by decide), Q_HK, Q_HB, Q_HI0_e3, Q_HO138, Q_HA_HO138, Q_HI0_e7, Q_HI0_e14, Q_X8_⟩
             refine steps_cons ?_ ?_
             ·rintro b a w' ⟨v137, adz_v137, m8_, ha, Q_HI0, Q_HK, Q_HB, Q_HI0_e3, Q_HO138, Q_HA_HO138, Q_HI0_e7, Q_HI0_e14, Q_X8_⟩ hb_ hon hoff
              refine ⟨_, rfl, fun K hK => ?_⟩
              replace ha := aM ha
              have HK := aM Q_HK
              have HB := aM Q_HB
              refine Kd.R_lit_step Kd.string _ 9 ?hg (N := 43) ?hd (xs := ([(⟨#[43]⟩ : ByteArray), (⟨#[43]⟩ : ByteArray), (⟨#[46]⟩ : ByteArray), (⟨#[38]⟩ : ByteArray)] : List ByteArray)) (inner := [.string (⟨#[43]⟩ : ByteArray), .string (⟨#[43]⟩ : ByteArray), .string (⟨#[46]⟩ : ByteArray), .string (⟨#[38]⟩ : ByteArray)]) (ok := fun _ => True) (okp := fun _ => True) ?hr ?hp (fun _ hk => hk) trivial (cE _ _) (cD _) (by simp) ?_; (case hd => rfl); (case hg => rfl); (case hr => first | (go_simp; done)); (case hp => exact (Reps.one (show Kd.M Kd.string _ _ _ (⟨#[43]⟩ : ByteArray) [.string (⟨#[43]⟩ : ByteArray)] from rfl) (Reps.one (show Kd.M Kd.string _ _ _ (⟨#[43]⟩ : ByteArray) [.string (⟨#[43]⟩ : ByteArray)] from rfl) (Reps.one (show Kd.M Kd.string _ _ _ (⟨#[46]⟩ : ByteArray) [.string (⟨#[46]⟩ : ByteArray)] from rfl) (Reps.one (show Kd.M Kd.string _ _ _ (⟨#[38]⟩ : ByteArray) [.string (⟨#[38]⟩ : ByteArray)] from rfl) (Reps.none _ _))))))
              intro v137 w47 ho48 hb hg_ hnew_
              clear hg_ hnew_
              (rw [← Ny136.out] at ho48)
              have n0_ := aM (bP ho48 (keep_size (w := w) (g := g) (row := none) HK.out))
              have n2_ := aM (cK HK.out (KeepBut.of_below hb g none) (.inl rfl))
              have n3_ := aM (aE HB.out hb)
              have z_HI0 := fun (h0_ : b 3 = false) => (show IsS63 w0 w47 g s0_0 t123 from by exact (IsS63.below (by repeat ((with_reducible exact (Q_HI0 h0_)))) hb))
              have z_HI0_e3 := fun (h0_ : b 3 = true) (h1_ : b 7 = false) => (show IsS63 w0 w47 g s0_0 t135 from by exact (IsS63.below (by repeat ((with_reducible exact (Q_HI0_e3 h0_ h1_)))) hb))
              have z_HI0_e7 := fun (h0_ : b 7 = true) (h1_ : b 14 = false) => (show IsS63 w0 w47 g s0_0 t140 from by exact (IsS63.below (by repeat ((with_reducible exact (Q_HI0_e7 h0_ h1_)))) hb))
              have z_HI0_e14 := fun (h0_ : b 14 = true) => (show IsS63 w0 w47 g s0_0 t143 from by exact (IsS63.below (by repeat ((with_reducible exact (Q_HI0_e14 h0_)))) hb))
              clear HK
              clear HB
              have HO138 := n0_
              have HK := n2_
              have HB := n3_
              clear n0_ n2_ n3_
              clear hb ho48
              obtain ⟨Ao49, co49, eo49⟩ := bL HO138.out
              subst eo49
              obtain ⟨ado49, fo49, _⟩ := cR (bM HO138.out).2.2 0 (by decide) (by rw [Ny136.out]; simp)
              cases fo49
              refine hK.out _ _ ⟨.slice (some ado49) y136.length co49, ado49, m8_, (by rw [ha.out]; exact bZ 3 hb_ rfl rfl rfl), z_HI0, HK.out, HB.out, z_HI0_e3, fun _ => HO138.out, fun _ => ⟨_, rfl⟩, z_HI0_e7, z_HI0_e14, fun h0_ => absurd ((hoff 8 (by kernel_rfl)).symm.trans h0_) (by decide)⟩
             refine steps_cons ?_ ?_
             ·rintro b a w' ⟨v137, adz_v137, m8_, ha, Q_HI0, Q_HK, Q_HB, Q_HI0_e3, Q_HO138, Q_HA_HO138, Q_HI0_e7, Q_HI0_e14, Q_X8_⟩ hb_ hon hoff
              refine ⟨_, rfl, fun K hK => ?_⟩
              have e44 : a.tmps[44]? = some (.pointer (some ⟨g, 0, none⟩)) := by rw [ha]; exact (cB rfl).trans rfl
              replace ha := aM ha
              have HK := aM Q_HK
              have HB := aM Q_HB
              have HI0 := aM (Q_HI0_e3 (hon 3 (by kernel_rfl)) hb_)
              refine gO Try.func24 #[.pointer (some ⟨g, 0, none⟩), .int .i64 4] (hargs := (by first | (simp only [aN, aQ, aT, Act.eval, Array.getD_eq_getD_getElem?, Option.getD_some, e44]; done))) ?_
              with_reducible refine (spec_l6Rd_pick.calls kj2 g s0_0 t135 4 t139 t140 w0 _ ?side1 ?side2 A38.out).mono ?_
              (case side1 => repeat ((with_reducible exact HI0.out)))
              (case side2 => repeat ((with_reducible exact HB.out)))
              rintro e w49 ⟨rfl, hi, hb, hk⟩
              refine ⟨_, rfl, ?_⟩
              have n0_ := aM (cK HK.out hk (.inl rfl))
              have n1_ := aM hb
              have n2_ := aM hi
              have z_HO138 := fun (h0_ : b 5 = true) => (show Kd.R Kd.string 9 w49 w.heap.size (fun _ => True) v137 y136 from by first | exact (bJ (cH (IsS63.apart (show IsS63 w0 _ g s0_0 t135 from by repeat ((with_reducible exact HI0.out))) (by exact (Q_HO138 h0_)) (by decide)) hk (fun _ h => h.2)) (fun _ h => h.1)))
              clear HK
              clear HB
              clear HI0
              have HK := n0_
              have HB := n1_
              have HI0 := n2_
              clear n0_ n1_ n2_
              (try clear hb)
              (try clear hk)
              (try clear hi)
              refine hK.out _ _ ⟨v137, adz_v137, m8_, (by rw [ha.out]; exact bZ 4 hb_ rfl rfl rfl), fun h0_ => absurd ((hon 3 (by kernel_rfl)).symm.trans h0_) (by decide), HK.out, HB.out, fun _ h1_ => absurd ((up_self b 7).symm.trans h1_) (by decide), z_HO138, Q_HA_HO138, fun _ _ => HI0.out, fun h0_ => absurd ((hoff 14 (by kernel_rfl)).symm.trans h0_) (by decide), fun h0_ => absurd ((hoff 8 (by kernel_rfl)).symm.trans h0_) (by decide)⟩
             refine steps_cons ?_ ?_
             ·rintro b a w' ⟨v137, adz_v137, m8_, ha, Q_HI0, Q_HK, Q_HB, Q_HI0_e3, Q_HO138, Q_HA_HO138, Q_HI0_e7, Q_HI0_e14, Q_X8_⟩ hb_ hon hoff
              refine ⟨_, rfl, fun K hK => ?_⟩
              have e43 : a.tmps[43]? = some (v137) := by rw [ha]; exact cA (e := (5, 43, v137)) 3 rfl rfl (hon 5 (by kernel_rfl)) rfl
              have e45 : a.tmps[45]? = some (.int .i64 t139) := by rw [ha]; exact cA (e := (7, 45, .int .i64 t139)) 4 rfl rfl (hon 7 (by kernel_rfl)) rfl
              replace ha := aM ha
              have HA_HO138 := aM (Q_HA_HO138 (hon 5 (by kernel_rfl)))
              obtain ⟨c_, hv_⟩ := HA_HO138.out
              rw [hv_] at e43
              refine value_ (w1 := w') (v := .pointer (some (adz_v137.add (t139).toNat))) (by rfl) rfl ?_ ?_
              ·go_simp
              refine hK.out _ _ ⟨v137, adz_v137, (.pointer (some (adz_v137.add (t139).toNat))), (by rw [ha.out]; exact bZ 5 hb_ rfl rfl rfl), fun h0_ => absurd ((hon 3 (by kernel_rfl)).symm.trans h0_) (by decide), Q_HK, Q_HB, fun _ h1_ => absurd ((hon 7 (by kernel_rfl)).symm.trans h1_) (by decide), Q_HO138, Q_HA_HO138, Q_HI0_e7, Q_HI0_e14, fun _ => rfl⟩
             refine steps_cons ?_ ?_
             ·rintro b a w' ⟨v137, adz_v137, m8_, ha, Q_HI0, Q_HK, Q_HB, Q_HI0_e3, Q_HO138, Q_HA_HO138, Q_HI0_e7, Q_HI0_e14, Q_X8_⟩ hb_ hon hoff
              refine ⟨_, rfl, fun K hK => ?_⟩
              have e46 : a.tmps[46]? = some (m8_) := by rw [ha]; exact cA (e := (8, 46, m8_)) 5 rfl rfl (hon 8 (by kernel_rfl)) rfl
              rw [Q_X8_ (hon 8 (by kernel_rfl))] at e46
              replace ha := aM ha
              have HO138 := aM (Q_HO138 (hon 5 (by kernel_rfl)))
              have HA_HO138 := aM (Q_HA_HO138 (hon 5 (by kernel_rfl)))
              obtain ⟨c_, hv_⟩ := HA_HO138.out
              have hF_ := HO138.out
              rw [hv_] at hF_
              obtain ⟨ad_, ea_, hx_⟩ := cR (bM hF_).2.2 t139 (cC pi141) (cC qi141)
              cases ea_
              refine value_ (w1 := w') (v := .string (rdOf ByteArray.empty y136 t139)) (by rfl) rfl ?_ ?_
              ·go_simp
              refine hK.out _ _ ⟨v137, adz_v137, m8_, (by rw [ha.out]; exact bZ 6 hb_ rfl rfl rfl), fun h0_ => absurd ((hon 3 (by kernel_rfl)).symm.trans h0_) (by decide), Q_HK, Q_HB, fun _ h1_ => absurd ((hon 7 (by kernel_rfl)).symm.trans h1_) (by decide), Q_HO138, Q_HA_HO138, Q_HI0_e7, Q_HI0_e14, Q_X8_⟩
             refine steps_cons ?_ ?_
             ·rintro b a w' ⟨v137, adz_v137, m8_, ha, Q_HI0, Q_HK, Q_HB, Q_HI0_e3, Q_HO138, Q_HA_HO138, Q_HI0_e7, Q_HI0_e14, Q_X8_⟩ hb_ hon hoff
              refine ⟨_, rfl, fun K hK => ?_⟩
              have e42 : a.tmps[42]? = some (.string ((⟨#[40]⟩ : ByteArray) ++ t134)) := by rw [ha]; exact cA (e := (4, 42, .string ((⟨#[40]⟩ : ByteArray) ++ t134))) 2 rfl rfl (hon 4 (by kernel_rfl)) rfl
              have e47 : a.tmps[47]? = some (.string (rdOf ByteArray.empty y136 t139)) := by rw [ha]; exact cA (e := (9, 47, .string (rdOf ByteArray.empty y136 t139))) 6 rfl rfl (hon 9 (by kernel_rfl)) rfl
              replace ha := aM ha
              refine value_ (w1 := w') (v := .string (((⟨#[40]⟩ : ByteArray) ++ t134) ++ (rdOf ByteArray.empty y136 t139))) (by rfl) rfl ?_ ?_
              ·go_simp
              refine hK.out _ _ ⟨v137, adz_v137, m8_, (by rw [ha.out]; exact bZ 7 hb_ rfl rfl rfl), fun h0_ => absurd ((hon 3 (by kernel_rfl)).symm.trans h0_) (by decide), Q_HK, Q_HB, fun _ h1_ => absurd ((hon 7 (by kernel_rfl)).symm.trans h1_) (by decide), Q_HO138, Q_HA_HO138, Q_HI0_e7, Q_HI0_e14, Q_X8_⟩
             refine steps_cons ?_ ?_
             ·rintro b a w' ⟨v137, adz_v137, m8_, ha, Q_HI0, Q_HK, Q_HB, Q_HI0_e3, Q_HO138, Q_HA_HO138, Q_HI0_e7, Q_HI0_e14, Q_X8_⟩ hb_ hon hoff
              refine ⟨_, rfl, fun K hK => ?_⟩
              have e50 : a.tmps[50]? = some (.int .i64 a1) := by rw [ha]; exact (cB rfl).trans rfl
              replace ha := aM ha
              refine value_ (w1 := w') (v := .int .i64 (wrap64 (a1 - 1))) (by rfl) rfl ?_ ?_
              ·go_simp
               (try simp only [cS])
              refine hK.out _ _ ⟨v137, adz_v137, m8_, (by rw [ha.out]; exact bZ 8 hb_ rfl rfl rfl), Q_HI0, Q_HK, Q_HB, Q_HI0_e3, Q_HO138, Q_HA_HO138, Q_HI0_e7, fun h0_ => absurd ((hoff 14 (by kernel_rfl)).symm.trans h0_) (by decide), Q_X8_⟩
             refine steps_cons ?_ ?_
             ·rintro b a w' ⟨v137, adz_v137, m8_, ha, Q_HI0, Q_HK, Q_HB, Q_HI0_e3, Q_HO138, Q_HA_HO138, Q_HI0_e7, Q_HI0_e14, Q_X8_⟩ hb_ hon hoff
              refine ⟨_, rfl, fun K hK => ?_⟩
              have e49 : a.tmps[49]? = some (.pointer (some ⟨g, 0, none⟩)) := by rw [ha]; exact (cB rfl).trans rfl
              have e51 : a.tmps[51]? = some (.int .i64 (wrap64 (a1 - 1))) := by rw [ha]; exact cA (e := (13, 51, .int .i64 (wrap64 (a1 - 1)))) 8 rfl rfl (hon 13 (by kernel_rfl)) rfl
              replace ha := aM ha
              have HK := aM Q_HK
              have HB := aM Q_HB
              have HI0 := aM (Q_HI0_e7 (hon 7 (by kernel_rfl)) hb_)
              refine gO Try.func38 #[.pointer (some ⟨g, 0, none⟩), .int .i64 (wrap64 (a1 - 1))] (hargs := (by first | (simp only [aN, aQ, aT, Act.eval, Array.getD_eq_getD_getElem?, Option.getD_some, e49, e51]; done))) ?_
              with_reducible refine (ih kj2 (by have := HJ2.out; omega) g s0_0 t140 (wrap64 (a1 - 1)) t142 t143 w0 _ ?side1 ?side2 A42.out).mono ?_
              (case side1 => repeat ((with_reducible exact HI0.out)))
              (case side2 => repeat ((with_reducible exact HB.out)))
              rintro e w50 ⟨rfl, hi, hb, hk⟩
              refine ⟨_, rfl, ?_⟩
              have n0_ := aM (cK HK.out hk (.inl rfl))
              have n1_ := aM hb
              have n2_ := aM hi
              have z_HO138 := fun (h0_ : b 5 = true) => (show Kd.R Kd.string 9 w50 w.heap.size (fun _ => True) v137 y136 from by first | exact (bJ (cH (IsS63.apart (show IsS63 w0 _ g s0_0 t140 from by repeat ((with_reducible exact HI0.out))) (by exact (Q_HO138 h0_)) (by decide)) hk (fun _ h => h.2)) (fun _ h => h.1)))
              clear HK
              clear HB
              clear HI0
              have HK := n0_
              have HB := n1_
              have HI0 := n2_
              clear n0_ n1_ n2_
              (try clear hb)
              (try clear hk)
              (try clear hi)
              refine hK.out _ _ ⟨v137, adz_v137, m8_, (by rw [ha.out]; exact bZ 9 hb_ rfl rfl rfl), fun h0_ => absurd ((hon 3 (by kernel_rfl)).symm.trans h0_) (by decide), HK.out, HB.out, fun _ h1_ => absurd ((hon 7 (by kernel_rfl)).symm.trans h1_) (by decide), z_HO138, Q_HA_HO138, fun _ h1_ => absurd ((up_self b 14).symm.trans h1_) (by decide), fun _ => HI0.out, Q_X8_⟩
             refine steps_cons ?_ ?_
             ·rintro b a w' ⟨v137, adz_v137, m8_, ha, Q_HI0, Q_HK, Q_HB, Q_HI0_e3, Q_HO138, Q_HA_HO138, Q_HI0_e7, Q_HI0_e14, Q_X8_⟩ hb_ hon hoff
              refine ⟨_, rfl, fun K hK => ?_⟩
              have e48 : a.tmps[48]? = some (.string (((⟨#[40]⟩ : ByteArray) ++ t134) ++ (rdOf ByteArray.empty y136 t139))) := by rw [ha]; exact cA (e := (10, 48, .string (((⟨#[40]⟩ : ByteArray) ++ t134) ++ (rdOf ByteArray.empty y136 t139)))) 7 rfl rfl (hon 10 (by kernel_rfl)) rfl
              have e52 : a.tmps[52]? = some (.string t142) := by rw [ha]; exact cA (e := (14, 52, .string t142)) 9 rfl rfl (hon 14 (by kernel_rfl)) rfl
              replace ha := aM ha
              refine value_ (w1 := w') (v := .string ((((⟨#[40]⟩ : ByteArray) ++ t134) ++ (rdOf ByteArray.empty y136 t139)) ++ t142)) (by rfl) rfl ?_ ?_
              ·go_simp
              refine hK.out _ _ ⟨v137, adz_v137, m8_, (by rw [ha.out]; exact bZ 10 hb_ rfl rfl rfl), fun h0_ => absurd ((hon 3 (by kernel_rfl)).symm.trans h0_) (by decide), Q_HK, Q_HB, fun _ h1_ => absurd ((hon 7 (by kernel_rfl)).symm.trans h1_) (by decide), Q_HO138, Q_HA_HO138, fun _ h1_ => absurd ((hon 14 (by kernel_rfl)).symm.trans h1_) (by decide), Q_HI0_e14, Q_X8_⟩
             refine steps_cons ?_ ?_
             ·rintro b a w' ⟨v137, adz_v137, m8_, ha, Q_HI0, Q_HK, Q_HB, Q_HI0_e3, Q_HO138, Q_HA_HO138, Q_HI0_e7, Q_HI0_e14, Q_X8_⟩ hb_ hon hoff
              refine ⟨_, rfl, fun K hK => ?_⟩
              have e53 : a.tmps[53]? = some (.string ((((⟨#[40]⟩ : ByteArray) ++ t134) ++ (rdOf ByteArray.empty y136 t139)) ++ t142)) := by rw [ha]; exact cA (e := (15, 53, .string ((((⟨#[40]⟩ : ByteArray) ++ t134) ++ (rdOf ByteArray.empty y136 t139)) ++ t142))) 10 rfl rfl (hon 15 (by kernel_rfl)) rfl
              replace ha := aM ha
              refine value_ (w1 := w') (v := .string (((((⟨#[40]⟩ : ByteArray) ++ t134) ++ (rdOf ByteArray.empty y136 t139)) ++ t142) ++ (⟨#[41]⟩ : ByteArray))) (by rfl) rfl ?_ ?_
              ·go_simp
              refine hK.out _ _ ⟨v137, adz_v137, m8_, (by rw [ha.out]; exact bZ 11 hb_ rfl rfl rfl), fun h0_ => absurd ((hon 3 (by kernel_rfl)).symm.trans h0_) (by decide), Q_HK, Q_HB, fun _ h1_ => absurd ((hon 7 (by kernel_rfl)).symm.trans h1_) (by decide), Q_HO138, Q_HA_HO138, fun _ h1_ => absurd ((hon 14 (by kernel_rfl)).symm.trans h1_) (by decide), Q_HI0_e14, Q_X8_⟩
             refine steps_cons ?_ ?_
             ·rintro b a w' ⟨v137, adz_v137, m8_, ha, Q_HI0, Q_HK, Q_HB, Q_HI0_e3, Q_HO138, Q_HA_HO138, Q_HI0_e7, Q_HI0_e14, Q_X8_⟩ hb_ hon hoff
              refine ⟨_, rfl, fun K hK => ?_⟩
              have e54 : a.tmps[54]? = some (.string (((((⟨#[40]⟩ : ByteArray) ++ t134) ++ (rdOf ByteArray.empty y136 t139)) ++ t142) ++ (⟨#[41]⟩ : ByteArray))) := by rw [ha]; exact cA (e := (16, 54, .string (((((⟨#[40]⟩ : ByteArray) ++ t134) ++ (rdOf ByteArray.empty y136 t139)) ++ t142) ++ (⟨#[41]⟩ : ByteArray)))) 11 rfl rfl (hon 16 (by kernel_rfl)) rfl
              replace ha := aM ha
              refine value_ (w1 := w') (v := .string (((((⟨#[40]⟩ : ByteArray) ++ t134) ++ (rdOf ByteArray.empty y136 t139)) ++ t142) ++ (⟨#[41]⟩ : ByteArray))) (by rfl) rfl ?_ ?_
              ·go_simp
              refine hK.out _ _ ⟨v137, adz_v137, m8_, (by rw [ha.out]; exact bZ 12 hb_ rfl rfl rfl), fun h0_ => absurd ((hon 3 (by kernel_rfl)).symm.trans h0_) (by decide), Q_HK, Q_HB, fun _ h1_ => absurd ((hon 7 (by kernel_rfl)).symm.trans h1_) (by decide), Q_HO138, Q_HA_HO138, fun _ h1_ => absurd ((hon 14 (by kernel_rfl)).symm.trans h1_) (by decide), Q_HI0_e14, Q_X8_⟩
             exact steps_nil
            rintro b a w53 hall ⟨v137, adz_v137, m8_, ha, Q_HI0, Q_HK, Q_HB, Q_HI0_e3, Q_HO138, Q_HA_HO138, Q_HI0_e7, Q_HI0_e14, Q_X8_⟩
            clear HB HI0 HK
            have hb2_ := hall 2 (by kernel_rfl)
            have hb3_ := hall 3 (by kernel_rfl)
            have hb4_ := hall 4 (by kernel_rfl)
            have hb5_ := hall 5 (by kernel_rfl)
            have hb7_ := hall 7 (by kernel_rfl)
            have hb8_ := hall 8 (by kernel_rfl)
            have hb9_ := hall 9 (by kernel_rfl)
            have hb10_ := hall 10 (by kernel_rfl)
            have hb13_ := hall 13 (by kernel_rfl)
            have hb14_ := hall 14 (by kernel_rfl)
            have hb15_ := hall 15 (by kernel_rfl)
            have hb16_ := hall 16 (by kernel_rfl)
            have hb17_ := hall 17 (by kernel_rfl)
            subst ha
            obtain rfl := Q_X8_ hb8_
            simp only [putSel, hb2_, hb3_, hb4_, hb5_, hb7_, hb8_, hb9_, hb10_, hb13_, hb14_, hb15_, hb16_, hb17_, if_true, Act.put, sA, sZ, sS]
            clear Q_HI0
            have HK := aM Q_HK
            clear Q_HK
            have HB := aM Q_HB
            clear Q_HB
            clear Q_HI0_e3
            have HO138 := aM (Q_HO138 hb5_)
            clear Q_HO138
            have HA_HO138 := aM (Q_HA_HO138 hb5_)
            clear Q_HA_HO138
            clear Q_HI0_e7
            have HI0 := aM (Q_HI0_e14 hb14_)
            clear Q_HI0_e14
            clear hall hb2_ hb3_ hb4_ hb5_ hb7_ hb8_ hb9_ hb10_ hb13_ hb14_ hb15_ hb16_ hb17_
            obtain ⟨co54, eo54⟩ := HA_HO138.out
            clear HA_HO138
            subst eo54
            try go_wp2
            go_ret
            exact ⟨by first | rfl | (simp [*, errW_none, errW_some] <;> rfl), HI0.out, HB.out, HK.out⟩
           ·rw [if_neg c44] at H
            exact absurd H (by simp)
          ·rw [if_neg c43] at H
           exact absurd H (by simp)
         ·rw [if_neg c41] at H
          exact absurd H (by simp)
        ·rw [if_neg c40] at H
         exact absurd H (by simp)
       ·rw [if_neg c39] at H
        exact absurd H (by simp)
      ·rw [if_neg c37] at H
       exact absurd H (by simp)


def spec_l91Said.f (k : Nat) (s0_0 : List Int) (s0_1 : Int) : Option (ByteArray × Int) := (spec_l6Rd_pick.f k s0_0 s0_1 4).bind fun bt144 => ((spec_l91Term.f k s0_0 bt144.2 bt144.1).bind fun bt146 => ((spec_l6Rd_pick.f k s0_0 bt146.2 16).bind fun bt148 => (if bt148.1 = 0 then ((spec_l6Rd_pick.f k s0_0 bt148.2 (wrap64 ((bt146.1.size : Int) + 1))).bind fun bt150 => (if 0 ≤ bt150.1 then (if bt150.1 ≤ (bt146.1.size : Int) then ((some (([(⟨#[]⟩ : ByteArray), (⟨#[98]⟩ : ByteArray), (⟨#[40]⟩ : ByteArray), (⟨#[41]⟩ : ByteArray), (⟨#[43]⟩ : ByteArray)] : List ByteArray) : List ByteArray)).bind fun y152 => ((spec_l6Rd_pick.f k s0_0 bt150.2 5).bind fun bt155 => (if 0 ≤ bt155.1 then (if bt155.1 < (y152.length : Int) then (if (bt146.1.extract 0 (bt150.1 : Int).toNat).size + (rdOf ByteArray.empty y152 bt155.1).size ≤ 9223372036854775807 then (if (bt146.1.extract 0 (bt150.1 : Int).toNat).size + (rdOf ByteArray.empty y152 bt155.1).size + (bt146.1.extract (bt150.1 : Int).toNat bt146.1.size).size ≤ 9223372036854775807 then (some (((bt146.1.extract 0 (bt150.1 : Int).toNat) ++ (rdOf ByteArray.empty y152 bt155.1)) ++ (bt146.1.extract (bt150.1 : Int).toNat bt146.1.size), bt155.2)) else (none)) else (none)) else (none)) else (none)))) else (none)) else (none))) else (some (bt146.1, bt148.2)))))
def spec_l91Said.T4 : Bool × List (List Nat × List Nat) := (true, [([], []), ([], []), ([0, 1], [0, 1]), ([], []), ([], []), ([4], [4]), ([3, 5], [3, 5]), ([6], [6]), ([2, 7], [2, 7]), ([], []), ([], []), ([9, 10], [9, 10]), ([8, 11], [8, 11]), ([12, 5, 0, 1, 2, 3, 4, 5, 6, 7, 8, 9, 10, 11, 12], [12])])
def spec_l91Said.B4 : List Nat := [0, 0, 3, 0, 0, 16, 56, 120, 255, 0, 0, 1536, 4095, 8191]
theorem spec_l91Said.tab4 : rtab .any (opsOf Try.f23 4) = spec_l91Said.T4 := by kernel_rfl
theorem spec_l91Said.bits4 : waitsOk spec_l91Said.T4.2 spec_l91Said.B4 = true := by kernel_rfl
set_option maxHeartbeats 8000000 in
set_option maxRecDepth 100000 in
theorem spec_l91Said.calls (k : Nat) (g : Nat) (s0_0 : List Int) (s0_1 : Int) (r1 : ByteArray) (r2 : Int) (w0 w : World) (hI : IsS63 w0 w g s0_0 s0_1) (hB : Below w0.heap.size w0 w) (h : spec_l91Said.f k s0_0 s0_1 = some (r1, r2)) :
  Calls Try.prog 23 #[.pointer (some ⟨g, 0, none⟩)] w fun e w' => e = .returned (.string r1) ∧ IsS63 w0 w' g s0_0 r2 ∧ Below w0.heap.size w0 w' ∧ KeepBut w w' g none := by
 have HI0 := aM hI
 have HK := aM (KeepBut.refl w g none)
 clear hI
 have HB := aM hB
 clear hB
 have H : ((spec_l6Rd_pick.f k s0_0 s0_1 4).bind fun bt144 => ((spec_l91Term.f k s0_0 bt144.2 bt144.1).bind fun bt146 => ((spec_l6Rd_pick.f k s0_0 bt146.2 16).bind fun bt148 => (if bt148.1 = 0 then ((spec_l6Rd_pick.f k s0_0 bt148.2 (wrap64 ((bt146.1.size : Int) + 1))).bind fun bt150 => (if 0 ≤ bt150.1 then (if bt150.1 ≤ (bt146.1.size : Int) then ((some (([(⟨#[]⟩ : ByteArray), (⟨#[98]⟩ : ByteArray), (⟨#[40]⟩ : ByteArray), (⟨#[41]⟩ : ByteArray), (⟨#[43]⟩ : ByteArray)] : List ByteArray) : List ByteArray)).bind fun y152 => ((spec_l6Rd_pick.f k s0_0 bt150.2 5).bind fun bt155 => (if 0 ≤ bt155.1 then (if bt155.1 < (y152.length : Int) then (if (bt146.1.extract 0 (bt150.1 : Int).toNat).size + (rdOf ByteArray.empty y152 bt155.1).size ≤ 9223372036854775807 then (if (bt146.1.extract 0 (bt150.1 : Int).toNat).size + (rdOf ByteArray.empty y152 bt155.1).size + (bt146.1.extract (bt150.1 : Int).toNat bt146.1.size).size ≤ 9223372036854775807 then (some (((bt146.1.extract 0 (bt150.1 : Int).toNat) ++ (rdOf ByteArray.empty y152 bt155.1)) ++ (bt146.1.extract (bt150.1 : Int).toNat bt146.1.size), bt155.2)) else (none)) else (none)) else (none)) else (none)))) else (none)) else (none))) else (some (bt146.1, bt148.2)))))) = some (r1, r2) := h
 clear h
 replace H := Option.bind_eq_some_iff.mp H
 obtain ⟨⟨t144, t145⟩, A20, H⟩ := H
 replace H : ((spec_l91Term.f k s0_0 t145 t144).bind fun bt146 => ((spec_l6Rd_pick.f k s0_0 bt146.2 16).bind fun bt148 => (if bt148.1 = 0 then ((spec_l6Rd_pick.f k s0_0 bt148.2 (wrap64 ((bt146.1.size : Int) + 1))).bind fun bt150 => (if 0 ≤ bt150.1 then (if bt150.1 ≤ (bt146.1.size : Int) then ((some (([(⟨#[]⟩ : ByteArray), (⟨#[98]⟩ : ByteArray), (⟨#[40]⟩ : ByteArray), (⟨#[41]⟩ : ByteArray), (⟨#[43]⟩ : ByteArray)] : List ByteArray) : List ByteArray)).bind fun y152 => ((spec_l6Rd_pick.f k s0_0 bt150.2 5).bind fun bt155 => (if 0 ≤ bt155.1 then (if bt155.1 < (y152.length : Int) then (if (bt146.1.extract 0 (bt150.1 : Int).toNat).size + (rdOf ByteArray.empty y152 bt155.1).size ≤ 9223372036854775807 then (if (bt146.1.extract 0 (bt150.1 : Int).toNat).size + (rdOf ByteArray.empty y152 bt155.1).size + (bt146.1.extract (bt150.1 : Int).toNat bt146.1.size).size ≤ 9223372036854775807 then (some (((bt146.1.extract 0 (bt150.1 : Int).toNat) ++ (rdOf ByteArray.empty y152 bt155.1)) ++ (bt146.1.extract (bt150.1 : Int).toNat bt146.1.size), bt155.2)) else (none)) else (none)) else (none)) else (none)))) else (none)) else (none))) else (some (bt146.1, bt148.2))))) = some (r1, r2) := H
 have A2 := aM A20
 clear A20
 replace H := Option.bind_eq_some_iff.mp H
 obtain ⟨⟨t146, t147⟩, A30, H⟩ := H
 replace H : ((spec_l6Rd_pick.f k s0_0 t147 16).bind fun bt148 => (if bt148.1 = 0 then ((spec_l6Rd_pick.f k s0_0 bt148.2 (wrap64 ((t146.size : Int) + 1))).bind fun bt150 => (if 0 ≤ bt150.1 then (if bt150.1 ≤ (t146.size : Int) then ((some (([(⟨#[]⟩ : ByteArray), (⟨#[98]⟩ : ByteArray), (⟨#[40]⟩ : ByteArray), (⟨#[41]⟩ : ByteArray), (⟨#[43]⟩ : ByteArray)] : List ByteArray) : List ByteArray)).bind fun y152 => ((spec_l6Rd_pick.f k s0_0 bt150.2 5).bind fun bt155 => (if 0 ≤ bt155.1 then (if bt155.1 < (y152.length : Int) then (if (t146.extract 0 (bt150.1 : Int).toNat).size + (rdOf ByteArray.empty y152 bt155.1).size ≤ 9223372036854775807 then (if (t146.extract 0 (bt150.1 : Int).toNat).size + (rdOf ByteArray.empty y152 bt155.1).size + (t146.extract (bt150.1 : Int).toNat t146.size).size ≤ 9223372036854775807 then (some (((t146.extract 0 (bt150.1 : Int).toNat) ++ (rdOf ByteArray.empty y152 bt155.1)) ++ (t146.extract (bt150.1 : Int).toNat t146.size), bt155.2)) else (none)) else (none)) else (none)) else (none)))) else (none)) else (none))) else (some (t146, bt148.2)))) = some (r1, r2) := H
 have A3 := aM A30
 clear A30
 replace H := Option.bind_eq_some_iff.mp H
 obtain ⟨⟨t148, t149⟩, A40, H⟩ := H
 replace H : (if t148 = 0 then ((spec_l6Rd_pick.f k s0_0 t149 (wrap64 ((t146.size : Int) + 1))).bind fun bt150 => (if 0 ≤ bt150.1 then (if bt150.1 ≤ (t146.size : Int) then ((some (([(⟨#[]⟩ : ByteArray), (⟨#[98]⟩ : ByteArray), (⟨#[40]⟩ : ByteArray), (⟨#[41]⟩ : ByteArray), (⟨#[43]⟩ : ByteArray)] : List ByteArray) : List ByteArray)).bind fun y152 => ((spec_l6Rd_pick.f k s0_0 bt150.2 5).bind fun bt155 => (if 0 ≤ bt155.1 then (if bt155.1 < (y152.length : Int) then (if (t146.extract 0 (bt150.1 : Int).toNat).size + (rdOf ByteArray.empty y152 bt155.1).size ≤ 9223372036854775807 then (if (t146.extract 0 (bt150.1 : Int).toNat).size + (rdOf ByteArray.empty y152 bt155.1).size + (t146.extract (bt150.1 : Int).toNat t146.size).size ≤ 9223372036854775807 then (some (((t146.extract 0 (bt150.1 : Int).toNat) ++ (rdOf ByteArray.empty y152 bt155.1)) ++ (t146.extract (bt150.1 : Int).toNat t146.size), bt155.2)) else (none)) else (none)) else (none)) else (none)))) else (none)) else (none))) else (some (t146, t149))) = some (r1, r2) := H
 have A4 := aM A40
 clear A40
 by_cases c5 : t148 = 0
 ·rw [if_pos c5] at H
  have c5b0 : (t148 == 0) = true := beq_iff_eq.mpr c5
  clear c5
  replace H := Option.bind_eq_some_iff.mp H
  obtain ⟨⟨t150, t151⟩, A60, H⟩ := H
  replace H : (if 0 ≤ t150 then (if t150 ≤ (t146.size : Int) then ((some (([(⟨#[]⟩ : ByteArray), (⟨#[98]⟩ : ByteArray), (⟨#[40]⟩ : ByteArray), (⟨#[41]⟩ : ByteArray), (⟨#[43]⟩ : ByteArray)] : List ByteArray) : List ByteArray)).bind fun y152 => ((spec_l6Rd_pick.f k s0_0 t151 5).bind fun bt155 => (if 0 ≤ bt155.1 then (if bt155.1 < (y152.length : Int) then (if (t146.extract 0 (t150 : Int).toNat).size + (rdOf ByteArray.empty y152 bt155.1).size ≤ 9223372036854775807 then (if (t146.extract 0 (t150 : Int).toNat).size + (rdOf ByteArray.empty y152 bt155.1).size + (t146.extract (t150 : Int).toNat t146.size).size ≤ 9223372036854775807 then (some (((t146.extract 0 (t150 : Int).toNat) ++ (rdOf ByteArray.empty y152 bt155.1)) ++ (t146.extract (t150 : Int).toNat t146.size), bt155.2)) else (none)) else (none)) else (none)) else (none)))) else (none)) else (none)) = some (r1, r2) := H
  have A6 := aM A60
  clear A60
  by_cases c7 : 0 ≤ t150
  ·rw [if_pos c7] at H
   have c7b0 := eq_true c7
   have c7b1 : decide (0 ≤ t150) = true := aH c7
   clear c7
   by_cases c8 : t150 ≤ (t146.size : Int)
   ·rw [if_pos c8] at H
    have c8b0 := eq_true c8
    have c8b1 : decide (t150 ≤ (t146.size : Int)) = true := aH c8
    clear c8
    obtain ⟨y152, hy152⟩ : ∃ y_ : List ByteArray, y_ = (([(⟨#[]⟩ : ByteArray), (⟨#[98]⟩ : ByteArray), (⟨#[40]⟩ : ByteArray), (⟨#[41]⟩ : ByteArray), (⟨#[43]⟩ : ByteArray)] : List ByteArray)) := ⟨_, rfl⟩
    replace H : ((spec_l6Rd_pick.f k s0_0 t151 5).bind fun bt155 => (if 0 ≤ bt155.1 then (if bt155.1 < (y152.length : Int) then (if (t146.extract 0 (t150 : Int).toNat).size + (rdOf ByteArray.empty y152 bt155.1).size ≤ 9223372036854775807 then (if (t146.extract 0 (t150 : Int).toNat).size + (rdOf ByteArray.empty y152 bt155.1).size + (t146.extract (t150 : Int).toNat t146.size).size ≤ 9223372036854775807 then (some (((t146.extract 0 (t150 : Int).toNat) ++ (rdOf ByteArray.empty y152 bt155.1)) ++ (t146.extract (t150 : Int).toNat t146.size), bt155.2)) else (none)) else (none)) else (none)) else (none))) = some (r1, r2) := by first | (have H2_ := (bR _ _).symm.trans H; rw [hy152]; with_reducible exact H2_)
    have Ny152 := aM hy152
    clear hy152
    replace H := Option.bind_eq_some_iff.mp H
    obtain ⟨⟨t155, t156⟩, A90, H⟩ := H
    replace H : (if 0 ≤ t155 then (if t155 < (y152.length : Int) then (if (t146.extract 0 (t150 : Int).toNat).size + (rdOf ByteArray.empty y152 t155).size ≤ 9223372036854775807 then (if (t146.extract 0 (t150 : Int).toNat).size + (rdOf ByteArray.empty y152 t155).size + (t146.extract (t150 : Int).toNat t146.size).size ≤ 9223372036854775807 then (some (((t146.extract 0 (t150 : Int).toNat) ++ (rdOf ByteArray.empty y152 t155)) ++ (t146.extract (t150 : Int).toNat t146.size), t156)) else (none)) else (none)) else (none)) else (none)) = some (r1, r2) := H
    have A9 := aM A90
    clear A90
    by_cases c10 : 0 ≤ t155
    ·rw [if_pos c10] at H
     have c10b0 : decide (0 ≤ t155) = true := aH c10
     clear c10
     by_cases c11 : t155 < (y152.length : Int)
     ·rw [if_pos c11] at H
      have c11b0 : decide (t155 < (y152.length : Int)) = true := aH c11
      clear c11
      by_cases c12 : (t146.extract 0 (t150 : Int).toNat).size + (rdOf ByteArray.empty y152 t155).size ≤ 9223372036854775807
      ·rw [if_pos c12] at H
       have c12b0 := eq_true c12
       have c12b1 : decide ((t146.extract 0 (t150 : Int).toNat).size + (rdOf ByteArray.empty y152 t155).size ≤ 9223372036854775807) = true := aH c12
       try have c12b2 : (9223372036854775807 < (t146.extract 0 (t150 : Int).toNat).size + (rdOf ByteArray.empty y152 t155).size) = False := eq_false (Nat.not_lt.2 c12)
       have c13b0 := eq_true (aJ (by (with_reducible assumption)) : 0 ≤ t150)
       have c14b0 := eq_true (aJ (by (with_reducible assumption)) : t150 ≤ (t146.size : Int))
       by_cases c15 : (t146.extract 0 (t150 : Int).toNat).size + (rdOf ByteArray.empty y152 t155).size + (t146.extract (t150 : Int).toNat t146.size).size ≤ 9223372036854775807
       ·rw [if_pos c15] at H
        try have c15b2 : (9223372036854775807 < (t146.extract 0 (t150 : Int).toNat).size + (rdOf ByteArray.empty y152 t155).size + (t146.extract (t150 : Int).toNat t146.size).size) = False := eq_false (Nat.not_lt.2 c15)
        simp only [aV, aW] at H
        obtain ⟨rfl, rfl⟩ := H
        go_enter Try.func23, Try.ntmps23
        try go_wp2_with (first | ((with_reducible refine aY (f := 24) rfl ?_); refine gL 7 Try.func24 #[.pointer (some ⟨g, 0, none⟩), .int .i64 4] ?_; (with_reducible refine (spec_l6Rd_pick.calls k g s0_0 s0_1 4 t144 t145 w0 _ ?side1 ?side2 A2.out).mono ?_); (case side1 => repeat ((with_reducible exact HI0.out))); (case side2 => repeat ((with_reducible exact HB.out))); rintro e w16 ⟨rfl, hi, hb, hk⟩; refine ⟨_, rfl, ?_⟩; replace HK := aM (cK HK.out hk (.inl rfl)); replace HB := aM hb; replace HI0 := aM hi; (try clear hb); (try clear hk); (try clear hi)) | ((with_reducible refine aY (f := 38) rfl ?_); refine gL 8 Try.func38 #[.pointer (some ⟨g, 0, none⟩), .int .i64 t144] ?_; (with_reducible refine (spec_l91Term.calls k g s0_0 t145 t144 t146 t147 w0 _ ?side1 ?side2 A3.out).mono ?_); (case side1 => repeat ((with_reducible exact HI0.out))); (case side2 => repeat ((with_reducible exact HB.out))); rintro e w17 ⟨rfl, hi, hb, hk⟩; refine ⟨_, rfl, ?_⟩; replace HK := aM (cK HK.out hk (.inl rfl)); replace HB := aM hb; replace HI0 := aM hi; (try clear hb); (try clear hk); (try clear hi)) | ((with_reducible refine aY (f := 24) rfl ?_); refine gL 10 Try.func24 #[.pointer (some ⟨g, 0, none⟩), .int .i64 16] ?_; (with_reducible refine (spec_l6Rd_pick.calls k g s0_0 t147 16 t148 t149 w0 _ ?side1 ?side2 A4.out).mono ?_); (case side1 => repeat ((with_reducible exact HI0.out))); (case side2 => repeat ((with_reducible exact HB.out))); rintro e w18 ⟨rfl, hi, hb, hk⟩; refine ⟨_, rfl, ?_⟩; replace HK := aM (cK HK.out hk (.inl rfl)); replace HB := aM hb; replace HI0 := aM hi; (try clear hb); (try clear hk); (try clear hi)) | ((with_reducible refine aY (f := 24) rfl ?_); refine gL 16 Try.func24 #[.pointer (some ⟨g, 0, none⟩), .int .i64 (wrap64 ((t146.size : Int) + 1))] ?_; (with_reducible refine (spec_l6Rd_pick.calls k g s0_0 t149 (wrap64 ((t146.size : Int) + 1)) t150 t151 w0 _ ?side1 ?side2 A6.out).mono ?_); (case side1 => repeat ((with_reducible exact HI0.out))); (case side2 => repeat ((with_reducible exact HB.out))); rintro e w19 ⟨rfl, hi, hb, hk⟩; refine ⟨_, rfl, ?_⟩; replace HK := aM (cK HK.out hk (.inl rfl)); replace HB := aM hb; replace HI0 := aM hi; (try clear hb); (try clear hk); (try clear hi)))
        have pi157 : (0 ≤ (t155 : Int)) = True := eq_true (aJ (by (with_reducible assumption)))
        have qi157 : (t155 < (y152.length : Int)) = True := eq_true (aJ (by (with_reducible assumption)))
        replace HI0 := aM (IsS63.drew HI0.out)
        replace HK := aM (keep_drew HK.out)
        replace HB := aM (b1 HB.out)
        refine start_ (n := 14) (S := fun w' => True) (ds := []) #[false, false, false, false, false, false, false, false, false, false, false, false, false, false] (by kernel_rfl) rfl rfl trivial (fun hHeld => ?_); refine with_tabW spec_l91Said.tab4 spec_l91Said.bits4 (fun HT_ HW_ => ?_)
        generalize w19.drew = w20 at HI0 HK HB hHeld ⊢
        refine pQ 0 17 HT_ ?_
        refine pQ 1 18 HT_ ?_
        refine pQ 4 21 HT_ ?_
        refine pQ 9 26 HT_ ?_
        refine pQ 10 27 HT_ ?_
        refine inv_at [2, 3, 5, 6, 7, 8, 11, 12, 13] (fun a0_ b a w' => ∃ (v153 : Value) (adz_v153 : Addr) (m6_ : Value), a = putSel a0_ b [(2, 19, .string (t146.extract 0 (t150 : Int).toNat)), (3, 20, v153), (5, 22, .int .i64 t155), (6, 23, m6_), (7, 24, .string (rdOf ByteArray.empty y152 t155)), (8, 25, .string ((t146.extract 0 (t150 : Int).toNat) ++ (rdOf ByteArray.empty y152 t155))), (11, 28, .string (t146.extract (t150 : Int).toNat t146.size)), (12, 29, .string (((t146.extract 0 (t150 : Int).toNat) ++ (rdOf ByteArray.empty y152 t155)) ++ (t146.extract (t150 : Int).toNat t146.size))), (13, 2, .string (((t146.extract 0 (t150 : Int).toNat) ++ (rdOf ByteArray.empty y152 t155)) ++ (t146.extract (t150 : Int).toNat t146.size)))] ∧ (b 5 = false → IsS63 w0 w' g s0_0 t151) ∧ (KeepBut w w' g none) ∧ (Below w0.heap.size w0 w') ∧ (b 3 = true → Kd.R Kd.string 9 w' w.heap.size (fun _ => True) v153 y152) ∧ (b 3 = true → ∃ c_, (v153 : Value) = .slice (some adz_v153) y152.length c_) ∧ (b 5 = true → IsS63 w0 w' g s0_0 t156) ∧ (b 6 = true → (m6_ : Value) = .pointer (some (adz_v153.add (t155).toNat)))) HT_.out HW_.out (by kernel_rfl) (by kernel_rfl) ?_ ?_ ?_
        ·exact ⟨.bool false, ⟨0, 0, none⟩, .bool false, by simp only [putSel, bX, if_false], fun _ => HI0.out, HK.out, HB.out, fun h_ => absurd h_ (by decide), fun h_ => absurd h_ (by decide), fun h_ => absurd h_ (by decide), fun h_ => absurd h_ (by decide)⟩
        ·skip
         clear HB HI0 HK
         refine steps_cons ?_ ?_
         ·rintro b a w' ⟨v153, adz_v153, m6_, ha, Q_HI0, Q_HK, Q_HB, Q_HO154, Q_HA_HO154, Q_HI0_e5, Q_X6_⟩ hb_ hon hoff
          refine ⟨_, rfl, fun K hK => ?_⟩
          have e17 : a.tmps[17]? = some (.string t146) := by rw [ha]; exact (cB rfl).trans rfl
          have e18 : a.tmps[18]? = some (.int .i64 t150) := by rw [ha]; exact (cB rfl).trans rfl
          replace ha := aM ha
          refine value_ (w1 := w') (v := .string (t146.extract 0 (t150 : Int).toNat)) (by rfl) rfl ?_ ?_
          ·go_simp
          refine hK.out _ _ ⟨v153, adz_v153, m6_, (by rw [ha.out]; exact bZ 0 hb_ rfl rfl rfl), Q_HI0, Q_HK, Q_HB, Q_HO154, Q_HA_HO154, Q_HI0_e5, Q_X6_⟩
         refine steps_cons ?_ ?_
         ·rintro b a w' ⟨v153, adz_v153, m6_, ha, Q_HI0, Q_HK, Q_HB, Q_HO154, Q_HA_HO154, Q_HI0_e5, Q_X6_⟩ hb_ hon hoff
          refine ⟨_, rfl, fun K hK => ?_⟩
          replace ha := aM ha
          have HK := aM Q_HK
          have HB := aM Q_HB
          refine Kd.R_lit_step Kd.string _ 9 ?hg (N := 20) ?hd (xs := ([(⟨#[]⟩ : ByteArray), (⟨#[98]⟩ : ByteArray), (⟨#[40]⟩ : ByteArray), (⟨#[41]⟩ : ByteArray), (⟨#[43]⟩ : ByteArray)] : List ByteArray)) (inner := [.string (⟨#[]⟩ : ByteArray), .string (⟨#[98]⟩ : ByteArray), .string (⟨#[40]⟩ : ByteArray), .string (⟨#[41]⟩ : ByteArray), .string (⟨#[43]⟩ : ByteArray)]) (ok := fun _ => True) (okp := fun _ => True) ?hr ?hp (fun _ hk => hk) trivial (cE _ _) (cD _) (by simp) ?_; (case hd => rfl); (case hg => rfl); (case hr => first | (go_simp; done)); (case hp => exact (Reps.one (show Kd.M Kd.string _ _ _ (⟨#[]⟩ : ByteArray) [.string (⟨#[]⟩ : ByteArray)] from rfl) (Reps.one (show Kd.M Kd.string _ _ _ (⟨#[98]⟩ : ByteArray) [.string (⟨#[98]⟩ : ByteArray)] from rfl) (Reps.one (show Kd.M Kd.string _ _ _ (⟨#[40]⟩ : ByteArray) [.string (⟨#[40]⟩ : ByteArray)] from rfl) (Reps.one (show Kd.M Kd.string _ _ _ (⟨#[41]⟩ : ByteArray) [.string (⟨#[41]⟩ : ByteArray)] from rfl) (Reps.one (show Kd.M Kd.string _ _ _ (⟨#[43]⟩ : ByteArray) [.string (⟨#[43]⟩ : ByteArray)] from rfl) (Reps.none _ _)))))))
          intro v153 w21 ho22 hb hg_ hnew_
          clear hg_ hnew_
          (rw [← Ny152.out] at ho22)
          have n0_ := aM (bP ho22 (keep_size (w := w) (g := g) (row := none) HK.out))
          have n2_ := aM (cK HK.out (KeepBut.of_below hb g none) (.inl rfl))
          have n3_ := aM (aE HB.out hb)
          have z_HI0 := fun (h0_ : b 5 = false) => (show IsS63 w0 w21 g s0_0 t151 from by exact (IsS63.below (by repeat ((with_reducible exact (Q_HI0 h0_)))) hb))
          have z_HI0_e5 := fun (h0_ : b 5 = true) => (show IsS63 w0 w21 g s0_0 t156 from by exact (IsS63.below (by repeat ((with_reducible exact (Q_HI0_e5 h0_)))) hb))
          clear HK
          clear HB
          have HO154 := n0_
          have HK := n2_
          have HB := n3_
          clear n0_ n2_ n3_
          clear hb ho22
          obtain ⟨Ao23, co23, eo23⟩ := bL HO154.out
          subst eo23
          obtain ⟨ado23, fo23, _⟩ := cR (bM HO154.out).2.2 0 (by decide) (by rw [Ny152.out]; simp)
          cases fo23
          refine hK.out _ _ ⟨.slice (some ado23) y152.length co23, ado23, m6_, (by rw [ha.out]; exact bZ 1 hb_ rfl rfl rfl), z_HI0, HK.out, HB.out, fun _ => HO154.out, fun _ => ⟨_, rfl⟩, z_HI0_e5, fun h0_ => absurd ((hoff 6 (by kernel_rfl)).symm.trans h0_) (by decide)⟩
         refine steps_cons ?_ ?_
         ·rintro b a w' ⟨v153, adz_v153, m6_, ha, Q_HI0, Q_HK, Q_HB, Q_HO154, Q_HA_HO154, Q_HI0_e5, Q_X6_⟩ hb_ hon hoff
          refine ⟨_, rfl, fun K hK => ?_⟩
          have e21 : a.tmps[21]? = some (.pointer (some ⟨g, 0, none⟩)) := by rw [ha]; exact (cB rfl).trans rfl
          replace ha := aM ha
          have HI0 := aM (Q_HI0 hb_)
          have HK := aM Q_HK
          have HB := aM Q_HB
          refine gO Try.func24 #[.pointer (some ⟨g, 0, none⟩), .int .i64 5] (hargs := (by first | (simp only [aN, aQ, aT, Act.eval, Array.getD_eq_getD_getElem?, Option.getD_some, e21]; done))) ?_
          with_reducible refine (spec_l6Rd_pick.calls k g s0_0 t151 5 t155 t156 w0 _ ?side1 ?side2 A9.out).mono ?_
          (case side1 => repeat ((with_reducible exact HI0.out)))
          (case side2 => repeat ((with_reducible exact HB.out)))
          rintro e w21 ⟨rfl, hi, hb, hk⟩
          refine ⟨_, rfl, ?_⟩
          have n0_ := aM (cK HK.out hk (.inl rfl))
          have n1_ := aM hb
          have n2_ := aM hi
          have z_HO154 := fun (h0_ : b 3 = true) => (show Kd.R Kd.string 9 w21 w.heap.size (fun _ => True) v153 y152 from by first | exact (bJ (cH (IsS63.apart (show IsS63 w0 _ g s0_0 t151 from by repeat ((with_reducible exact HI0.out))) (by exact (Q_HO154 h0_)) (by decide)) hk (fun _ h => h.2)) (fun _ h => h.1)))
          clear HK
          clear HB
          clear HI0
          have HK := n0_
          have HB := n1_
          have HI0 := n2_
          clear n0_ n1_ n2_
          (try clear hb)
          (try clear hk)
          (try clear hi)
          refine hK.out _ _ ⟨v153, adz_v153, m6_, (by rw [ha.out]; exact bZ 2 hb_ rfl rfl rfl), fun h0_ => absurd ((up_self b 5).symm.trans h0_) (by decide), HK.out, HB.out, z_HO154, Q_HA_HO154, fun _ => HI0.out, fun h0_ => absurd ((hoff 6 (by kernel_rfl)).symm.trans h0_) (by decide)⟩
         refine steps_cons ?_ ?_
         ·rintro b a w' ⟨v153, adz_v153, m6_, ha, Q_HI0, Q_HK, Q_HB, Q_HO154, Q_HA_HO154, Q_HI0_e5, Q_X6_⟩ hb_ hon hoff
          refine ⟨_, rfl, fun K hK => ?_⟩
          have e20 : a.tmps[20]? = some (v153) := by rw [ha]; exact cA (e := (3, 20, v153)) 1 rfl rfl (hon 3 (by kernel_rfl)) rfl
          have e22 : a.tmps[22]? = some (.int .i64 t155) := by rw [ha]; exact cA (e := (5, 22, .int .i64 t155)) 2 rfl rfl (hon 5 (by kernel_rfl)) rfl
          replace ha := aM ha
          have HA_HO154 := aM (Q_HA_HO154 (hon 3 (by kernel_rfl)))
          obtain ⟨c_, hv_⟩ := HA_HO154.out
          rw [hv_] at e20
          refine value_ (w1 := w') (v := .pointer (some (adz_v153.add (t155).toNat))) (by rfl) rfl ?_ ?_
          ·go_simp
          refine hK.out _ _ ⟨v153, adz_v153, (.pointer (some (adz_v153.add (t155).toNat))), (by rw [ha.out]; exact bZ 3 hb_ rfl rfl rfl), fun h0_ => absurd ((hon 5 (by kernel_rfl)).symm.trans h0_) (by decide), Q_HK, Q_HB, Q_HO154, Q_HA_HO154, Q_HI0_e5, fun _ => rfl⟩
         refine steps_cons ?_ ?_
         ·rintro b a w' ⟨v153, adz_v153, m6_, ha, Q_HI0, Q_HK, Q_HB, Q_HO154, Q_HA_HO154, Q_HI0_e5, Q_X6_⟩ hb_ hon hoff
          refine ⟨_, rfl, fun K hK => ?_⟩
          have e23 : a.tmps[23]? = some (m6_) := by rw [ha]; exact cA (e := (6, 23, m6_)) 3 rfl rfl (hon 6 (by kernel_rfl)) rfl
          rw [Q_X6_ (hon 6 (by kernel_rfl))] at e23
          replace ha := aM ha
          have HO154 := aM (Q_HO154 (hon 3 (by kernel_rfl)))
          have HA_HO154 := aM (Q_HA_HO154 (hon 3 (by kernel_rfl)))
          obtain ⟨c_, hv_⟩ := HA_HO154.out
          have hF_ := HO154.out
          rw [hv_] at hF_
          obtain ⟨ad_, ea_, hx_⟩ := cR (bM hF_).2.2 t155 (cC pi157) (cC qi157)
          cases ea_
          refine value_ (w1 := w') (v := .string (rdOf ByteArray.empty y152 t155)) (by rfl) rfl ?_ ?_
          ·go_simp
          refine hK.out _ _ ⟨v153, adz_v153, m6_, (by rw [ha.out]; exact bZ 4 hb_ rfl rfl rfl), fun h0_ => absurd ((hon 5 (by kernel_rfl)).symm.trans h0_) (by decide), Q_HK, Q_HB, Q_HO154, Q_HA_HO154, Q_HI0_e5, Q_X6_⟩
         refine steps_cons ?_ ?_
         ·rintro b a w' ⟨v153, adz_v153, m6_, ha, Q_HI0, Q_HK, Q_HB, Q_HO154, Q_HA_HO154, Q_HI0_e5, Q_X6_⟩ hb_ hon hoff
          refine ⟨_, rfl, fun K hK => ?_⟩
          have e19 : a.tmps[19]? = some (.string (t146.extract 0 (t150 : Int).toNat)) := by rw [ha]; exact cA (e := (2, 19, .string (t146.extract 0 (t150 : Int).toNat))) 0 rfl rfl (hon 2 (by kernel_rfl)) rfl
          have e24 : a.tmps[24]? = some (.string (rdOf ByteArray.empty y152 t155)) := by rw [ha]; exact cA (e := (7, 24, .string (rdOf ByteArray.empty y152 t155))) 4 rfl rfl (hon 7 (by kernel_rfl)) rfl
          replace ha := aM ha
          refine value_ (w1 := w') (v := .string ((t146.extract 0 (t150 : Int).toNat) ++ (rdOf ByteArray.empty y152 t155))) (by rfl) rfl ?_ ?_
          ·go_simp
           all_goals (have h8 := cC c8b0; have h12 := c12; have h15 := c15; simp only [ByteArray.size_extract] at h12 h15; omega)
          refine hK.out _ _ ⟨v153, adz_v153, m6_, (by rw [ha.out]; exact bZ 5 hb_ rfl rfl rfl), fun h0_ => absurd ((hon 5 (by kernel_rfl)).symm.trans h0_) (by decide), Q_HK, Q_HB, Q_HO154, Q_HA_HO154, Q_HI0_e5, Q_X6_⟩
         refine steps_cons ?_ ?_
         ·rintro b a w' ⟨v153, adz_v153, m6_, ha, Q_HI0, Q_HK, Q_HB, Q_HO154, Q_HA_HO154, Q_HI0_e5, Q_X6_⟩ hb_ hon hoff
          refine ⟨_, rfl, fun K hK => ?_⟩
          have e26 : a.tmps[26]? = some (.string t146) := by rw [ha]; exact (cB rfl).trans rfl
          have e27 : a.tmps[27]? = some (.int .i64 t150) := by rw [ha]; exact (cB rfl).trans rfl
          replace ha := aM ha
          refine value_ (w1 := w') (v := .string (t146.extract (t150 : Int).toNat t146.size)) (by rfl) rfl ?_ ?_
          ·go_simp
          refine hK.out _ _ ⟨v153, adz_v153, m6_, (by rw [ha.out]; exact bZ 6 hb_ rfl rfl rfl), Q_HI0, Q_HK, Q_HB, Q_HO154, Q_HA_HO154, Q_HI0_e5, Q_X6_⟩
         refine steps_cons ?_ ?_
         ·rintro b a w' ⟨v153, adz_v153, m6_, ha, Q_HI0, Q_HK, Q_HB, Q_HO154, Q_HA_HO154, Q_HI0_e5, Q_X6_⟩ hb_ hon hoff
          refine ⟨_, rfl, fun K hK => ?_⟩
          have e25 : a.tmps[25]? = some (.string ((t146.extract 0 (t150 : Int).toNat) ++ (rdOf ByteArray.empty y152 t155))) := by rw [ha]; exact cA (e := (8, 25, .string ((t146.extract 0 (t150 : Int).toNat) ++ (rdOf ByteArray.empty y152 t155)))) 5 rfl rfl (hon 8 (by kernel_rfl)) rfl
          have e28 : a.tmps[28]? = some (.string (t146.extract (t150 : Int).toNat t146.size)) := by rw [ha]; exact cA (e := (11, 28, .string (t146.extract (t150 : Int).toNat t146.size))) 6 rfl rfl (hon 11 (by kernel_rfl)) rfl
          replace ha := aM ha
          refine value_ (w1 := w') (v := .string (((t146.extract 0 (t150 : Int).toNat) ++ (rdOf ByteArray.empty y152 t155)) ++ (t146.extract (t150 : Int).toNat t146.size))) (by rfl) rfl ?_ ?_
          ·go_simp
           all_goals (have h8 := cC c8b0; have h12 := c12; have h15 := c15; simp only [ByteArray.size_extract] at h12 h15; omega)
          refine hK.out _ _ ⟨v153, adz_v153, m6_, (by rw [ha.out]; exact bZ 7 hb_ rfl rfl rfl), fun h0_ => absurd ((hon 5 (by kernel_rfl)).symm.trans h0_) (by decide), Q_HK, Q_HB, Q_HO154, Q_HA_HO154, Q_HI0_e5, Q_X6_⟩
         refine steps_cons ?_ ?_
         ·rintro b a w' ⟨v153, adz_v153, m6_, ha, Q_HI0, Q_HK, Q_HB, Q_HO154, Q_HA_HO154, Q_HI0_e5, Q_X6_⟩ hb_ hon hoff
          refine ⟨_, rfl, fun K hK => ?_⟩
          have e29 : a.tmps[29]? = some (.string (((t146.extract 0 (t150 : Int).toNat) ++ (rdOf ByteArray.empty y152 t155)) ++ (t146.extract (t150 : Int).toNat t146.size))) := by rw [ha]; exact cA (e := (12, 29, .string (((t146.extract 0 (t150 : Int).toNat) ++ (rdOf ByteArray.empty y152 t155)) ++ (t146.extract (t150 : Int).toNat t146.size)))) 7 rfl rfl (hon 12 (by kernel_rfl)) rfl
          replace ha := aM ha
          refine value_ (w1 := w') (v := .string (((t146.extract 0 (t150 : Int).toNat) ++ (rdOf ByteArray.empty y152 t155)) ++ (t146.extract (t150 : Int).toNat t146.size))) (by rfl) rfl ?_ ?_
          ·go_simp
           all_goals (have h8 := cC c8b0; have h12 := c12; have h15 := c15; simp only [ByteArray.size_extract] at h12 h15; omega)
          refine hK.out _ _ ⟨v153, adz_v153, m6_, (by rw [ha.out]; exact bZ 8 hb_ rfl rfl rfl), fun h0_ => absurd ((hon 5 (by kernel_rfl)).symm.trans h0_) (by decide), Q_HK, Q_HB, Q_HO154, Q_HA_HO154, Q_HI0_e5, Q_X6_⟩
         exact steps_nil
        rintro b a w25 hall ⟨v153, adz_v153, m6_, ha, Q_HI0, Q_HK, Q_HB, Q_HO154, Q_HA_HO154, Q_HI0_e5, Q_X6_⟩
        clear HB HI0 HK
        have hb2_ := hall 2 (by kernel_rfl)
        have hb3_ := hall 3 (by kernel_rfl)
        have hb5_ := hall 5 (by kernel_rfl)
        have hb6_ := hall 6 (by kernel_rfl)
        have hb7_ := hall 7 (by kernel_rfl)
        have hb8_ := hall 8 (by kernel_rfl)
        have hb11_ := hall 11 (by kernel_rfl)
        have hb12_ := hall 12 (by kernel_rfl)
        have hb13_ := hall 13 (by kernel_rfl)
        subst ha
        obtain rfl := Q_X6_ hb6_
        simp only [putSel, hb2_, hb3_, hb5_, hb6_, hb7_, hb8_, hb11_, hb12_, hb13_, if_true, Act.put, sA, sZ, sS]
        clear Q_HI0
        have HK := aM Q_HK
        clear Q_HK
        have HB := aM Q_HB
        clear Q_HB
        have HO154 := aM (Q_HO154 hb3_)
        clear Q_HO154
        have HA_HO154 := aM (Q_HA_HO154 hb3_)
        clear Q_HA_HO154
        have HI0 := aM (Q_HI0_e5 hb5_)
        clear Q_HI0_e5
        clear hall hb2_ hb3_ hb5_ hb6_ hb7_ hb8_ hb11_ hb12_ hb13_
        obtain ⟨co26, eo26⟩ := HA_HO154.out
        clear HA_HO154
        subst eo26
        try go_wp2
        go_ret
        exact ⟨by first | rfl | (simp [*, errW_none, errW_some] <;> rfl), HI0.out, HB.out, HK.out⟩
       ·rw [if_neg c15] at H
        exact absurd H (by simp)
      ·rw [if_neg c12] at H
       exact absurd H (by simp)
     ·rw [if_neg c11] at H
      exact absurd H (by simp)
    ·rw [if_neg c10] at H
     exact absurd H (by simp)
   ·rw [if_neg c8] at H
    exact absurd H (by simp)
  ·rw [if_neg c7] at H
   exact absurd H (by simp)
 ·rw [if_neg c5] at H
  have c5b0 : (t148 == 0) = false := beq_eq_false_iff_ne.mpr c5
  simp only [aV, aW] at H
  obtain ⟨rfl, rfl⟩ := H
  go_enter Try.func23, Try.ntmps23
  go_wp2_with (first | ((with_reducible refine aY (f := 24) rfl ?_); refine gL 7 Try.func24 #[.pointer (some ⟨g, 0, none⟩), .int .i64 4] ?_; (with_reducible refine (spec_l6Rd_pick.calls k g s0_0 s0_1 4 t144 t145 w0 _ ?side1 ?side2 A2.out).mono ?_); (case side1 => repeat ((with_reducible exact HI0.out))); (case side2 => repeat ((with_reducible exact HB.out))); rintro e w27 ⟨rfl, hi, hb, hk⟩; refine ⟨_, rfl, ?_⟩; replace HK := aM (cK HK.out hk (.inl rfl)); replace HB := aM hb; replace HI0 := aM hi; (try clear hb); (try clear hk); (try clear hi)) | ((with_reducible refine aY (f := 38) rfl ?_); refine gL 8 Try.func38 #[.pointer (some ⟨g, 0, none⟩), .int .i64 t144] ?_; (with_reducible refine (spec_l91Term.calls k g s0_0 t145 t144 t146 t147 w0 _ ?side1 ?side2 A3.out).mono ?_); (case side1 => repeat ((with_reducible exact HI0.out))); (case side2 => repeat ((with_reducible exact HB.out))); rintro e w28 ⟨rfl, hi, hb, hk⟩; refine ⟨_, rfl, ?_⟩; replace HK := aM (cK HK.out hk (.inl rfl)); replace HB := aM hb; replace HI0 := aM hi; (try clear hb); (try clear hk); (try clear hi)) | ((with_reducible refine aY (f := 24) rfl ?_); refine gL 10 Try.func24 #[.pointer (some ⟨g, 0, none⟩), .int .i64 16] ?_; (with_reducible refine (spec_l6Rd_pick.calls k g s0_0 t147 16 t148 t149 w0 _ ?side1 ?side2 A4.out).mono ?_); (case side1 => repeat ((with_reducible exact HI0.out))); (case side2 => repeat ((with_reducible exact HB.out))); rintro e w29 ⟨rfl, hi, hb, hk⟩; refine ⟨_, rfl, ?_⟩; replace HK := aM (cK HK.out hk (.inl rfl)); replace HB := aM hb; replace HI0 := aM hi; (try clear hb); (try clear hk); (try clear hi)))
  go_ret
  exact ⟨by first | rfl | (simp [*, errW_none, errW_some] <;> rfl), HI0.out, HB.out, HK.out⟩


def spec_DrawTermSet.f (k : Nat) (l0 : List Int) : Option (ByteArray) := (spec_l6Open.f l0).bind fun bt682 => ((spec_l91Said.f k bt682.1 bt682.2).bind fun bt685 => (some bt685.1))
set_option maxHeartbeats 8000000 in
set_option maxRecDepth 100000 in
theorem spec_DrawTermSet.calls (k : Nat) (A0 : Option Addr) (c0 : Nat) (l0 : List Int) (r : ByteArray) (w : World) (hr0 : Kd.C (Kd.int .u8) w A0 l0.length l0) (hc0 : l0.length ≤ c0) (h : spec_DrawTermSet.f k l0 = some r) :
  Calls Try.prog 19 #[.slice A0 l0.length c0] w fun e w' => e = .returned (.string r) ∧ Below w.heap.size w w' := by
 have HR0 := aM hr0
 have HC0 := aM hc0
 clear hr0 hc0
 have HB := aM (cE w.heap.size w)
 have H : ((spec_l6Open.f l0).bind fun bt682 => ((spec_l91Said.f k bt682.1 bt682.2).bind fun bt685 => (some bt685.1))) = some r := h
 clear h
 replace H := Option.bind_eq_some_iff.mp H
 obtain ⟨⟨t682, t683⟩, A20, H⟩ := H
 replace H : ((spec_l91Said.f k t682 t683).bind fun bt685 => (some bt685.1)) = some r := H
 have A2 := aM A20
 clear A20
 replace H := Option.bind_eq_some_iff.mp H
 obtain ⟨⟨t685, t686⟩, A30, H⟩ := H
 replace H : (some t685) = some r := H
 have A3 := aM A30
 clear A30
 obtain rfl := bU H
 go_enter Try.func19, Try.ntmps19
 go_wp2_with (first | ((with_reducible refine aY (f := 22) rfl ?_); refine gL 5 Try.func22 #[.slice A0 l0.length c0] ?_; (with_reducible refine (spec_l6Open.calls _ _ l0 t682 t683 w _ ?side1 ?side2 ?side3 A2.out).mono ?_); (case side1 => repeat ((with_reducible exact HB.out))); (case side2 => exact HR0.out); (case side3 => exact HC0.out); rintro e w4 ⟨g684, rfl, hi, hb, hb2⟩; refine ⟨_, rfl, ?_⟩; replace HB := aM hb; have HI684 := aM hi; (try clear hb); (try clear hb2); (try clear hi)) | ((with_reducible refine aY (f := 23) rfl ?_); refine gL 7 Try.func23 #[.pointer (some ⟨g684, 0, none⟩)] ?_; (with_reducible refine (spec_l91Said.calls k g684 t682 t683 t685 t686 w _ ?side1 ?side2 A3.out).mono ?_); (case side1 => repeat ((with_reducible exact HI684.out))); (case side2 => repeat ((with_reducible exact HB.out))); rintro e w5 ⟨rfl, hi, hb, hk⟩; refine ⟨_, rfl, ?_⟩; replace HB := aM hb; (try clear hb); (try clear hk); (try clear hi)))
 go_ret
 exact ⟨by first | rfl | (simp [*, errW_none, errW_some] <;> rfl), HB.out⟩


def impl_set_below.l0 : Nat → List Int → Int → Int → List Bool → List Bool → Option (List Int)
 | 0, _, _, _, _, _ => none
 | k + 1, x5, x7, x8, x688000, x688001 => if x8 < x7 then ((impl_set_has.f x688000 x688001 x8).bind fun t688 => (if t688 = true then (if x5.length < 17592186044416 then (impl_set_below.l0 k (x5 ++ [x8]) x7 (wrap64 (x8 + 1)) x688000 x688001) else (none)) else (impl_set_below.l0 k x5 x7 (wrap64 (x8 + 1)) x688000 x688001))) else (some x5)
def impl_set_below.f (k : Nat) (l0_0 : List Bool) (l0_1 : List Bool) (a1 : Int) : Option (List Int) := impl_set_below.l0 k ([] : List Int) a1 0 l0_0 l0_1
set_option maxHeartbeats 8000000 in
set_option maxRecDepth 100000 in
theorem impl_set_below.calls (k : Nat) (A0_0 : Option Addr) (c0_0 : Nat) (l0_0 : List Bool) (A0_1 : Option Addr) (c0_1 : Nat) (l0_1 : List Bool) (a1 : Int) (r : List Int) (w : World) (hr0_0 : Kd.C Kd.bool w A0_0 l0_0.length l0_0) (hc0_0 : l0_0.length ≤ c0_0) (hr0_1 : Kd.C Kd.bool w A0_1 l0_1.length l0_1) (hc0_1 : l0_1.length ≤ c0_1) (h : impl_set_below.f k l0_0 l0_1 a1 = some r) :
  Calls Try.prog 35 #[.agg #[.slice A0_0 l0_0.length c0_0, .slice A0_1 l0_1.length c0_1], .int .i64 a1] w fun e w' => ∃ v0_ : Value, e = .returned (v0_) ∧ Kd.R (Kd.int .i64) 3 w' w.heap.size (fun _ => True) v0_ r ∧ Below w.heap.size w w' := by
 have HR0_0 := aM hr0_0
 have HC0_0 := aM hc0_0
 clear hr0_0 hc0_0
 have HR0_1 := aM hr0_1
 have HC0_1 := aM hc0_1
 clear hr0_1 hc0_1
 have HB := aM (cE w.heap.size w)
 have H : (impl_set_below.l0 k ([] : List Int) a1 0 l0_0 l0_1) = some r := h
 clear h
 have H' := aM H
 clear H
 go_enter Try.func35, Try.ntmps35
 go_wp2_with (first | ((with_reducible refine aZ (N := 2) rfl ?_); refine bB ?hg (N := 2) ?hd (cs := #[.slice A0_0 l0_0.length c0_0, .slice A0_1 l0_1.length c0_1]) (t := 56) ?hr ?_; (case hd => rfl); (case hg => rfl); (case hr => first | (go_simp; done)); intro gb687 hg w3 hbox hb; have BK687 := aM hbox; replace HB := aM (aE HB.out hb); clear hb hbox hg))
 go_loopg [5, 8] k (fun kq v5 v8 w' => ∃ (x5_1 : List Int) (x8_1 : Int), v8 = .int .i64 x8_1 ∧ Aside0 (impl_set_below.l0 kq x5_1 a1 x8_1 l0_0 l0_1 = some r) ∧ Aside0 (kq ≤ k) ∧ Aside0 (Kd.R (Kd.int .i64) 3 w' w.heap.size (fun _ => True) v5 x5_1) ∧ Aside0 (w'.heap[gb687]? = some (.cells #[(.slice A0_0 l0_0.length c0_0), (.slice A0_1 l0_1.length c0_1)] 56 (0, 0))) ∧ Aside0 (Below w.heap.size w w'))
 case atStart => exact ⟨(([] : List Int)), (0), (by rfl), H', ⟨cD _⟩, ⟨by exact Kd.R_nil _ _ _ _ _⟩, ⟨by exact BK687.out⟩, ⟨HB.out⟩⟩
 case round =>
  clear H'
  obtain ⟨x5_1, x8_1, rfl, HA, HK1, HO_5, BK687, HB⟩ := hrel
  cases gk with
  | zero => exact absurd HA.out (by simp [impl_set_below.l0])
  | succ k1 =>
   have H := HA.out
   clear HA
   simp only [impl_set_below.l0] at H
   by_cases c4 : x8_1 < a1
   ·rw [if_pos c4] at H
    have c4b0 : decide (x8_1 < a1) = true := aH c4
    clear c4
    replace H := Option.bind_eq_some_iff.mp H
    obtain ⟨t688, A50, H⟩ := H
    replace H : (if t688 = true then (if x5_1.length < 17592186044416 then (impl_set_below.l0 k1 (x5_1 ++ [x8_1]) a1 (wrap64 (x8_1 + 1)) l0_0 l0_1) else (none)) else (impl_set_below.l0 k1 x5_1 a1 (wrap64 (x8_1 + 1)) l0_0 l0_1)) = some r := H
    have A5 := aM A50
    clear A50
    by_cases c6 : t688 = true
    ·subst c6
     replace H : (if x5_1.length < 17592186044416 then (impl_set_below.l0 k1 (x5_1 ++ [x8_1]) a1 (wrap64 (x8_1 + 1)) l0_0 l0_1) else (none)) = some r := by rw [if_pos rfl] at H; exact H
     by_cases c7 : x5_1.length < 17592186044416
     ·rw [if_pos c7] at H
      have LMc7 := aM c7
      clear c7
      obtain ⟨y689, hy689⟩ : ∃ y_ : List Int, y_ = (x5_1 ++ [x8_1]) := ⟨_, rfl⟩
      replace H : (impl_set_below.l0 k1 y689 a1 (wrap64 (x8_1 + 1)) l0_0 l0_1) = some r := by first | (rw [hy689]; with_reducible exact H)
      have Ny689 := aM hy689
      clear hy689
      have H' := aM H
      clear H
      have hcz8_0 : wr.cell? ⟨gb687, 0, none⟩ = some (.slice A0_0 l0_0.length c0_0) := (aA BK687.out 0).trans rfl
      have hcz8_1 : wr.cell? ⟨gb687, 1, none⟩ = some (.slice A0_1 l0_1.length c0_1) := (aA BK687.out 1).trans rfl
      go_wp2_with (first | ((with_reducible refine aY (f := 33) rfl ?_); refine gL 13 Try.func33 #[.agg #[.slice A0_0 l0_0.length c0_0, .slice A0_1 l0_1.length c0_1], .int .i64 x8_1] ?_; (with_reducible refine (impl_set_has.calls _ _ l0_0 _ _ l0_1 x8_1 true _ ?side1 ?side2 ?side3 ?side4 A5.out).mono ?_); (case side1 => repeat (exact (bF HR0_0.out HB.out))); (case side2 => exact HC0_0.out); (case side3 => repeat (exact (bF HR0_1.out HB.out))); (case side4 => exact HC0_1.out); rintro e w9 ⟨rfl, hb⟩; refine ⟨_, rfl, ?_⟩; replace HO_5 := aM (bG HO_5.out hb); replace BK687 := aM (aD (g := gb687) (o := .cells #[.slice A0_0 l0_0.length c0_0, .slice A0_1 l0_1.length c0_1] 56 (0, 0)) BK687.out hb); replace HB := aM (aE HB.out hb); (try clear hb)) | ((with_reducible refine gate_builtin (b := .append) (xs := #[.tmp 14, .tmp 16]) rfl ?_); at_builtin; refine Kd.R_append (Kd.int .i64) (w0 := w) w.heap.size rfl (.tmp 14) (.tmp 16) 33 3 (.int .i64 0) 8 rfl Try.underlying33 info3 rfl (by decide) (by omega) u5 x5_1 x8_1 [.int .i64 x8_1] (fun _ => True) (fun _ => False) rfl rfl ?aP (fun _ hk => hk.elim) ?aF ?aO ?aB ?aS ?aL ?_; (case aP => exact rfl); (case aB => exact HB.out); (case aF => exact (fun _ _ => trivial)); (case aO => exact HO_5.out); (case aS => exact (aG HB.out)); (case aL => have := LMc7.out; omega); intro v690 w10 ho hb hg hat; rw [← Ny689.out] at ho; replace BK687 := aM (blk_grown (g := gb687) (o := .cells #[.slice A0_0 l0_0.length c0_0, .slice A0_1 l0_1.length c0_1] 56 (0, 0)) BK687.out hg (Kd.R_ne HO_5.out BK687.out (by decide))); replace HB := aM hb; have HO691 := aM ho; clear HO_5; clear ho hb hg hat))
      go_roundg k1
      case measure => have := HK1.out; omega
      case rel => exact ⟨(y689), (wrap64 (x8_1 + 1)), (by rfl), H', ⟨by have := HK1.out; omega⟩, ⟨by exact HO691.out⟩, ⟨by exact BK687.out⟩, ⟨HB.out⟩⟩
     ·rw [if_neg c7] at H
      exact absurd H (by simp)
    ·replace c6 := Bool.eq_false_iff.mpr c6
     subst c6
     replace H : (impl_set_below.l0 k1 x5_1 a1 (wrap64 (x8_1 + 1)) l0_0 l0_1) = some r := by rw [if_neg (show ¬ (false = true) by decide)] at H; exact H
     have H' := aM H
     clear H
     have hcz11_0 : wr.cell? ⟨gb687, 0, none⟩ = some (.slice A0_0 l0_0.length c0_0) := (aA BK687.out 0).trans rfl
     have hcz11_1 : wr.cell? ⟨gb687, 1, none⟩ = some (.slice A0_1 l0_1.length c0_1) := (aA BK687.out 1).trans rfl
     go_wp2_with (first | ((with_reducible refine aY (f := 33) rfl ?_); refine gL 13 Try.func33 #[.agg #[.slice A0_0 l0_0.length c0_0, .slice A0_1 l0_1.length c0_1], .int .i64 x8_1] ?_; (with_reducible refine (impl_set_has.calls _ _ l0_0 _ _ l0_1 x8_1 false _ ?side1 ?side2 ?side3 ?side4 A5.out).mono ?_); (case side1 => repeat (exact (bF HR0_0.out HB.out))); (case side2 => exact HC0_0.out); (case side3 => repeat (exact (bF HR0_1.out HB.out))); (case side4 => exact HC0_1.out); rintro e w12 ⟨rfl, hb⟩; refine ⟨_, rfl, ?_⟩; replace HO_5 := aM (bG HO_5.out hb); replace BK687 := aM (aD (g := gb687) (o := .cells #[.slice A0_0 l0_0.length c0_0, .slice A0_1 l0_1.length c0_1] 56 (0, 0)) BK687.out hb); replace HB := aM (aE HB.out hb); (try clear hb)))
     go_roundg k1
     case measure => have := HK1.out; omega
     case rel => exact ⟨(x5_1), (wrap64 (x8_1 + 1)), (by rfl), H', ⟨by have := HK1.out; omega⟩, ⟨by exact HO_5.out⟩, ⟨by exact BK687.out⟩, ⟨HB.out⟩⟩
   ·rw [if_neg c4] at H
    have c4b0 : decide (x8_1 < a1) = false := aK c4
    clear c4
    obtain rfl := bU H
    go_wp2
    go_ret
    exact ⟨_, by first | rfl | (simp [*, errW_none, errW_some] <;> rfl), by exact HO_5.out, HB.out⟩


def impl_SetList.f (k : Nat) (a0 : ByteArray) (a1 : Int) : Option (List Int × Bool) := (impl_setOf.f a0).bind fun bt692 => (if bt692.2.2 = true then ((impl_in.f a1 0 1000).bind fun t700 => (if t700 = true then ((impl_set_below.f k bt692.1 bt692.2.1 a1).bind fun t701 => (some (t701, true))) else (some (([] : List Int), false)))) else (some (([] : List Int), false)))
set_option maxHeartbeats 8000000 in
set_option maxRecDepth 100000 in
theorem impl_SetList.calls (k : Nat) (a0 : ByteArray) (a1 : Int) (r1 : List Int) (r2 : Bool) (w : World) (h : impl_SetList.f k a0 a1 = some (r1, r2)) :
  Calls Try.prog 20 #[.string a0, .int .i64 a1] w fun e w' => ∃ v0_ : Value, e = .returned (.tuple #[v0_, .bool r2]) ∧ Kd.R (Kd.int .i64) 3 w' w.heap.size (fun _ => True) v0_ r1 ∧ Below w.heap.size w w' := by
 have HB := aM (cE w.heap.size w)
 have H : ((impl_setOf.f a0).bind fun bt692 => (if bt692.2.2 = true then ((impl_in.f a1 0 1000).bind fun t700 => (if t700 = true then ((impl_set_below.f k bt692.1 bt692.2.1 a1).bind fun t701 => (some (t701, true))) else (some (([] : List Int), false)))) else (some (([] : List Int), false)))) = some (r1, r2) := h
 clear h
 replace H := Option.bind_eq_some_iff.mp H
 obtain ⟨⟨t692, t695, t698⟩, A30, H⟩ := H
 replace H : (if t698 = true then ((impl_in.f a1 0 1000).bind fun t700 => (if t700 = true then ((impl_set_below.f k t692 t695 a1).bind fun t701 => (some (t701, true))) else (some (([] : List Int), false)))) else (some (([] : List Int), false))) = some (r1, r2) := H
 have A3 := aM A30
 clear A30
 by_cases c4 : t698 = true
 ·subst c4
  replace H : ((impl_in.f a1 0 1000).bind fun t700 => (if t700 = true then ((impl_set_below.f k t692 t695 a1).bind fun t701 => (some (t701, true))) else (some (([] : List Int), false)))) = some (r1, r2) := by rw [if_pos rfl] at H; exact H
  replace H := Option.bind_eq_some_iff.mp H
  obtain ⟨t700, A50, H⟩ := H
  replace H : (if t700 = true then ((impl_set_below.f k t692 t695 a1).bind fun t701 => (some (t701, true))) else (some (([] : List Int), false))) = some (r1, r2) := H
  have A5 := aM A50
  clear A50
  by_cases c6 : t700 = true
  ·subst c6
   replace H : ((impl_set_below.f k t692 t695 a1).bind fun t701 => (some (t701, true))) = some (r1, r2) := by rw [if_pos rfl] at H; exact H
   replace H := Option.bind_eq_some_iff.mp H
   obtain ⟨t701, A70, H⟩ := H
   replace H : (some (t701, true)) = some (r1, r2) := H
   have A7 := aM A70
   clear A70
   simp only [aV, aW] at H
   obtain ⟨rfl, rfl⟩ := H
   go_enter Try.func20, Try.ntmps20
   go_wp2_with (first | ((with_reducible refine aY (f := 32) rfl ?_); refine gL 10 Try.func32 #[.string a0] ?_; (with_reducible refine (impl_setOf.calls a0 t692 t695 true _ A3.out).mono ?_); rintro e w8 ⟨v693, v696, rfl, ho0, ho1, hb⟩; refine ⟨_, rfl, ?_⟩; have HO694 := aM (bP ho0 (aG HB.out)); have HO697 := aM (bP ho1 (aG HB.out)); replace HB := aM (aE HB.out hb); (try clear hb); (try clear ho0); (try clear ho1)) | ((with_reducible refine aZ (N := 6) rfl ?_); refine bB ?hg (N := 6) ?hd (cs := #[.slice none 0 0, .slice none 0 0]) (t := 56) ?hr ?_; (case hd => rfl); (case hg => rfl); (case hr => first | (go_simp; done)); intro gb699 hg w9 hbox hb; replace HO694 := aM (bG HO694.out hb); replace HO697 := aM (bG HO697.out hb); have BK699 := aM hbox; have GE699 := aM ((by rw [hg]; exact (aG HB.out) : w.heap.size ≤ gb699)); replace HB := aM (aE HB.out hb); clear hb hbox hg; obtain ⟨Ao10, co10, eo10⟩ := bL HO694.out; subst eo10; have hcz11_0 : w9.cell? ⟨gb699, 0, none⟩ = some (.slice none 0 0) := (aA BK699.out 0).trans rfl; have hcz11_1 : w9.cell? ⟨gb699, 1, none⟩ = some (.slice none 0 0) := (aA BK699.out 1).trans rfl; have hfz11_0 := aC BK699.out 0; have hfz11_1 := aC BK699.out 1; obtain ⟨Ao12, co12, eo12⟩ := bL HO697.out; subst eo12) | (go_at_call 26; (with_reducible refine (impl_in.calls a1 0 1000 true _ A5.out).mono ?_); rintro e w' ⟨rfl, ⟨nd, rfl⟩⟩) | ((with_reducible refine aY (f := 35) rfl ?_); refine gL 22 Try.func35 #[.agg #[.slice Ao10 t692.length co10, .slice Ao12 t695.length co12], .int .i64 a1] ?_; (with_reducible refine (impl_set_below.calls k _ _ t692 _ _ t695 a1 t701 _ ?side1 ?side2 ?side3 ?side4 A7.out).mono ?_); (case side1 => refine (bM (e := 4) (base := w.heap.size) (ok := fun k_ => some k_ ≠ (.slice Ao12 t695.length co12 : Value).ownBlock) (n := t692.length) (c := co10) ?_).2.2; exact (by (with_reducible repeat (apply rN)); exact (bJ (bC (p := ⟨gb699, 1, none⟩) (bC (p := ⟨gb699, 0, none⟩) (bE HO694.out BK699.out (by decide)) (fun _ hk => hk.2) (.slice Ao10 t692.length co10)) (fun _ hk => hk.2) (.slice Ao12 t695.length co12)) (fun _ h_ => h_.1)))); (case side2 => exact (bM HO694.out).2.1); (case side3 => refine (bM (e := 4) (base := w.heap.size) (ok := fun k_ => some k_ ≠ (.slice Ao10 t692.length co10 : Value).ownBlock) (n := t695.length) (c := co12) ?_).2.2; exact (by (with_reducible repeat (apply rN)); exact (bJ (bC (p := ⟨gb699, 1, none⟩) (bC (p := ⟨gb699, 0, none⟩) (bE HO697.out BK699.out (by decide)) (fun _ hk => hk.2) (.slice Ao10 t692.length co10)) (fun _ hk => hk.2) (.slice Ao12 t695.length co12)) (fun _ h_ => h_.1)))); (case side4 => exact (bM HO697.out).2.1); rintro e w13 ⟨v702, rfl, ho0, hb⟩; refine ⟨_, rfl, ?_⟩; have HO703 := aM (bP ho0 (aG (by repeat (first | (with_reducible first | exact HB.out | apply bN | refine bS ?_ GE699.out))))); replace HB := aM (aE (by repeat (first | (with_reducible first | exact HB.out | apply bN | refine bS ?_ GE699.out))) hb); (try clear hb); (try clear ho0)))
   go_ret2
   exact ⟨_, by first | rfl | (simp [*, errW_none, errW_some] <;> rfl), by exact HO703.out, HB.out⟩
  ·replace c6 := Bool.eq_false_iff.mpr c6
   subst c6
   replace H : (some (([] : List Int), false)) = some (r1, r2) := by rw [if_neg (show ¬ (false = true) by decide)] at H; exact H
   simp only [aV, aW] at H
   obtain ⟨rfl, rfl⟩ := H
   go_enter Try.func20, Try.ntmps20
   go_wp2_with (first | ((with_reducible refine aY (f := 32) rfl ?_); refine gL 10 Try.func32 #[.string a0] ?_; (with_reducible refine (impl_setOf.calls a0 t692 t695 true _ A3.out).mono ?_); rintro e w14 ⟨v693, v696, rfl, ho0, ho1, hb⟩; refine ⟨_, rfl, ?_⟩; have HO694 := aM (bP ho0 (aG HB.out)); have HO697 := aM (bP ho1 (aG HB.out)); replace HB := aM (aE HB.out hb); (try clear hb); (try clear ho0); (try clear ho1)) | ((with_reducible refine aZ (N := 6) rfl ?_); refine bB ?hg (N := 6) ?hd (cs := #[.slice none 0 0, .slice none 0 0]) (t := 56) ?hr ?_; (case hd => rfl); (case hg => rfl); (case hr => first | (go_simp; done)); intro gb699 hg w15 hbox hb; replace HO694 := aM (bG HO694.out hb); replace HO697 := aM (bG HO697.out hb); have BK699 := aM hbox; have GE699 := aM ((by rw [hg]; exact (aG HB.out) : w.heap.size ≤ gb699)); replace HB := aM (aE HB.out hb); clear hb hbox hg; obtain ⟨Ao16, co16, eo16⟩ := bL HO694.out; subst eo16; have hcz17_0 : w15.cell? ⟨gb699, 0, none⟩ = some (.slice none 0 0) := (aA BK699.out 0).trans rfl; have hcz17_1 : w15.cell? ⟨gb699, 1, none⟩ = some (.slice none 0 0) := (aA BK699.out 1).trans rfl; have hfz17_0 := aC BK699.out 0; have hfz17_1 := aC BK699.out 1; obtain ⟨Ao18, co18, eo18⟩ := bL HO697.out; subst eo18) | (go_at_call 26; (with_reducible refine (impl_in.calls a1 0 1000 false _ A5.out).mono ?_); rintro e w' ⟨rfl, ⟨nd, rfl⟩⟩))
   go_ret2
   exact ⟨_, by first | rfl | (simp [*, errW_none, errW_some] <;> rfl), by first | exact Kd.R_nil _ _ _ _ _ | exact Kd.S_nil _ _ _ _ _, by repeat (first | (with_reducible first | exact HB.out | apply bN | refine bS ?_ GE699.out))⟩
 ·replace c4 := Bool.eq_false_iff.mpr c4
  subst c4
  replace H : (some (([] : List Int), false)) = some (r1, r2) := by rw [if_neg (show ¬ (false = true) by decide)] at H; exact H
  simp only [aV, aW] at H
  obtain ⟨rfl, rfl⟩ := H
  go_enter Try.func20, Try.ntmps20
  go_wp2_with (first | ((with_reducible refine aY (f := 32) rfl ?_); refine gL 10 Try.func32 #[.string a0] ?_; (with_reducible refine (impl_setOf.calls a0 t692 t695 false _ A3.out).mono ?_); rintro e w19 ⟨v693, v696, rfl, ho0, ho1, hb⟩; refine ⟨_, rfl, ?_⟩; have HO694 := aM (bP ho0 (aG HB.out)); have HO697 := aM (bP ho1 (aG HB.out)); replace HB := aM (aE HB.out hb); (try clear hb); (try clear ho0); (try clear ho1)) | ((with_reducible refine aZ (N := 6) rfl ?_); refine bB ?hg (N := 6) ?hd (cs := #[.slice none 0 0, .slice none 0 0]) (t := 56) ?hr ?_; (case hd => rfl); (case hg => rfl); (case hr => first | (go_simp; done)); intro gb699 hg w20 hbox hb; replace HO694 := aM (bG HO694.out hb); replace HO697 := aM (bG HO697.out hb); have BK699 := aM hbox; have GE699 := aM ((by rw [hg]; exact (aG HB.out) : w.heap.size ≤ gb699)); replace HB := aM (aE HB.out hb); clear hb hbox hg; obtain ⟨Ao21, co21, eo21⟩ := bL HO694.out; subst eo21; have hcz22_0 : w20.cell? ⟨gb699, 0, none⟩ = some (.slice none 0 0) := (aA BK699.out 0).trans rfl; have hcz22_1 : w20.cell? ⟨gb699, 1, none⟩ = some (.slice none 0 0) := (aA BK699.out 1).trans rfl; have hfz22_0 := aC BK699.out 0; have hfz22_1 := aC BK699.out 1; obtain ⟨Ao23, co23, eo23⟩ := bL HO697.out; subst eo23))
  go_ret2
  exact ⟨_, by first | rfl | (simp [*, errW_none, errW_some] <;> rfl), by first | exact Kd.R_nil _ _ _ _ _ | exact Kd.S_nil _ _ _ _ _, by repeat (first | (with_reducible first | exact HB.out | refine bS ?_ GE699.out))⟩

end Go.Proofs.Ytedhckahjinieaa.Q
