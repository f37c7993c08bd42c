/- A term has what its set has; no condition beyond the statement's own. -/
import Derived.Test.YtedhckahjinieaaCFnTermHas1
import Derived.Test.YtedhckahjinieaaCFnTermHas8
import Derived.Test.YtedhckahjinieaaCFnTermHas9
import Derived.Test.YtedhckahjinieaaCFnTermHas10
import Derived.Test.YtedhckahjinieaaCFnTermHas11
namespace Go.Proofs.Ytedhckahjinieaa.Q
open Go.RowKit Go.Proofs.YtedhckahjinieaaW.PrintWords Go.Proofs.YtedhckahjinieaaW.PrintLast Go.Proofs.YtedhckahjinieaaW.PrintMore
attribute [local go_sem] max2_int max_two
set_option linter.unusedVariables false
set_option linter.unusedSimpArgs false
mutual
def spec_l7Marks.j0 : Nat → Int → List Bool → Bool → Int → List (S49) → Option (List Bool)
 | 0, _, _, _, _, _ => none
 | k + 1, x1, x5, x20, x184000, x184001 => if x20 = true then ((spec_l1Bit.f (x184000 == 97)).bind fun t187 => (if t187 < x1 then (if 0 ≤ t187 then (if t187 < (x5.length : Int) then (some (x5.set (t187 : Int).toNat true)) else (none)) else (none)) else (some x5))) else (if 0 < (x184001.length : Int) then ((spec_l7Marks.f k ((rd_T49 x184001 0).f0) ((rd_T49 x184001 0).f1) x1).bind fun t190 => (if x184000 = 42 then (spec_l7Marks.l0 k x1 x5 t190 0) else (if x184000 ≥ 50 then (spec_l7Marks.j3 k x1 x5 t190 (decide (x184000 ≤ 53)) x184000 x184001) else (spec_l7Marks.j3 k x1 x5 t190 false x184000 x184001)))) else (none))
def spec_l7Marks.l0 : Nat → Int → List Bool → List Bool → Int → Option (List Bool)
 | 0, _, _, _, _ => none
 | k + 1, x1, x5, x7, x8 => if x8 < x1 then (if 0 ≤ x8 then (if x8 < (x5.length : Int) then (spec_l7Marks.l1 k x1 (x5.set (x8 : Int).toNat (x8 == 0)) x7 x8 1) else (none)) else (none)) else (some x5)
def spec_l7Marks.l1 : Nat → Int → List Bool → List Bool → Int → Int → Option (List Bool)
 | 0, _, _, _, _, _ => none
 | k + 1, x1, x5, x7, x8, x9 => if x9 ≤ x8 then (if 0 ≤ x8 then (if x8 < (x5.length : Int) then (if rdOf false x5 x8 = true then (spec_l7Marks.l1 k x1 (x5.set (x8 : Int).toNat true) x7 x8 (wrap64 (x9 + 1))) else (if 0 ≤ x9 then (if x9 < (x7.length : Int) then (if rdOf false x7 x9 = true then (if 0 ≤ (wrap64 (x8 - x9)) then (if (wrap64 (x8 - x9)) < (x5.length : Int) then (spec_l7Marks.l1 k x1 (x5.set (x8 : Int).toNat (rdOf false x5 (wrap64 (x8 - x9)))) x7 x8 (wrap64 (x9 + 1))) else (none)) else (none)) else (spec_l7Marks.l1 k x1 (x5.set (x8 : Int).toNat false) x7 x8 (wrap64 (x9 + 1)))) else (none)) else (none))) else (none)) else (none)) else (spec_l7Marks.l0 k x1 x5 x7 (wrap64 (x8 + 1)))
def spec_l7Marks.j3 : Nat → Int → List Bool → List Bool → Bool → Int → List (S49) → Option (List Bool)
 | 0, _, _, _, _, _, _ => none
 | k + 1, x1, x5, x7, x87, x184000, x184001 => if x87 = true then (spec_l7Marks.l2 k x7 x7 49 x184000 x184001) else (if 1 < (x184001.length : Int) then ((spec_l7Marks.f k ((rd_T49 x184001 1).f0) ((rd_T49 x184001 1).f1) x1).bind fun t204 => (if x184000 = 46 then ((spec_l7Sum.f k x7 t204).bind fun t207 => (some t207)) else (spec_l7Marks.l3 k x1 x5 x7 t204 0 x184000 x184001))) else (none))
def spec_l7Marks.l2 : Nat → List Bool → List Bool → Int → Int → List (S49) → Option (List Bool)
 | 0, _, _, _, _, _ => none
 | k + 1, x5, x7, x10, x184000, x184001 => if x10 < x184000 then ((spec_l7Sum.f k x5 x7).bind fun t200 => (spec_l7Marks.l2 k t200 x7 ((x10 + 1) % 256) x184000 x184001)) else (some x5)
def spec_l7Marks.l3 : Nat → Int → List Bool → List Bool → List Bool → Int → Int → List (S49) → Option (List Bool)
 | 0, _, _, _, _, _, _, _ => none
 | k + 1, x1, x5, x7, x11, x12, x184000, x184001 => if x12 < x1 then (if x184000 = 43 then (if 0 ≤ x12 then (if x12 < (x7.length : Int) then (if rdOf false x7 x12 = true then (if x12 < (x5.length : Int) then (spec_l7Marks.l3 k x1 (x5.set (x12 : Int).toNat true) x7 x11 (wrap64 (x12 + 1)) x184000 x184001) else (none)) else (if x12 < (x11.length : Int) then (if x12 < (x5.length : Int) then (spec_l7Marks.l3 k x1 (x5.set (x12 : Int).toNat (rdOf false x11 x12)) x7 x11 (wrap64 (x12 + 1)) x184000 x184001) else (none)) else (none))) else (none)) else (none)) else (if 0 ≤ x12 then (if x12 < (x7.length : Int) then (if rdOf false x7 x12 = true then (if x12 < (x11.length : Int) then (if x12 < (x5.length : Int) then (spec_l7Marks.l3 k x1 (x5.set (x12 : Int).toNat (rdOf false x11 x12)) x7 x11 (wrap64 (x12 + 1)) x184000 x184001) else (none)) else (none)) else (if x12 < (x5.length : Int) then (spec_l7Marks.l3 k x1 (x5.set (x12 : Int).toNat false) x7 x11 (wrap64 (x12 + 1)) x184000 x184001) else (none))) else (none)) else (none))) else (some x5)
def spec_l7Marks.f : Nat → Int → List (S49) → Int → Option (List Bool)
 | 0, _, _, _ => none
 | k + 1, a0_0, l0_1, a1 => if 0 ≤ a1 then (if (a1 : Int).toNat ≤ 281474976710656 then ((some (List.replicate (a1 : Int).toNat false : List Bool)).bind fun y184 => (if a0_0 = 48 then (some y184) else (if a0_0 = 49 then (spec_l7Marks.j0 k a1 y184 true a0_0 l0_1) else (spec_l7Marks.j0 k a1 y184 (a0_0 == 97) a0_0 l0_1)))) else (none)) else (none)
end
set_option maxHeartbeats 8000000 in
set_option maxRecDepth 100000 in
theorem spec_l7Marks.calls (k : Nat) : ∀ (a0_0 : Int) (A0_1 : Option Addr) (c0_1 : Nat) (l0_1 : List (S49)) (a1 : Int) (r : List Bool) (w : World) (hr0_1 : Kd.C k49 w A0_1 l0_1.length l0_1) (hc0_1 : l0_1.length ≤ c0_1) (h : spec_l7Marks.f k a0_0 l0_1 a1 = some r),
  Calls Try.prog 30 #[.agg #[.int .u8 a0_0, .slice A0_1 l0_1.length c0_1], .int .i64 a1] w fun e w' => ∃ v0_ : Value, e = .returned (v0_) ∧ Kd.R Kd.bool 4 w' w.heap.size (fun _ => True) v0_ r ∧ Below w.heap.size w w' := by
 induction k using Nat.strongRecOn with
 | _ k ih =>
 intro a0_0 A0_1 c0_1 l0_1 a1 r w hr0_1 hc0_1 h
 cases k with
 | zero => exact absurd h (by simp [spec_l7Marks.f])
 | succ k =>
 simp only [spec_l7Marks.f] at h
 have hu49 := Try.underlying49
 have HR0_1 := aM hr0_1
 have HC0_1 := aM hc0_1
 clear hr0_1 hc0_1
 have HB := aM (cE w.heap.size w)
 have H : (if 0 ≤ a1 then (if (a1 : Int).toNat ≤ 281474976710656 then ((some (List.replicate (a1 : Int).toNat false : List Bool)).bind fun y184 => (if a0_0 = 48 then (some y184) else (if a0_0 = 49 then (spec_l7Marks.j0 k a1 y184 true a0_0 l0_1) else (spec_l7Marks.j0 k a1 y184 (a0_0 == 97) a0_0 l0_1)))) else (none)) else (none)) = some r := h
 clear h
 by_cases c3 : 0 ≤ a1
 ·rw [if_pos c3] at H
  have c3b0 := eq_true c3
  have c3b1 : decide (0 ≤ a1) = true := aH c3
  clear c3
  by_cases c4 : (a1 : Int).toNat ≤ 281474976710656
  ·rw [if_pos c4] at H
   have c4b0 := eq_true c4
   have c4b1 : decide ((a1 : Int).toNat ≤ 281474976710656) = true := aH c4
   clear c4
   obtain ⟨y184, hy184⟩ : ∃ y_ : List Bool, y_ = (List.replicate (a1 : Int).toNat false) := ⟨_, rfl⟩
   replace H : (if a0_0 = 48 then (some y184) else (if a0_0 = 49 then (spec_l7Marks.j0 k a1 y184 true a0_0 l0_1) else (spec_l7Marks.j0 k a1 y184 (a0_0 == 97) a0_0 l0_1))) = some r := by first | (rw [hy184]; with_reducible exact H) | (have H2_ := (bR _ _).symm.trans H; rw [hy184]; with_reducible exact H2_) | (have H2_ := (bR _ _).symm.trans H; with_reducible exact H2_) | with_reducible exact H | (rw [hy184]; exact H) | exact H
   have Ny184 := aM hy184
   clear hy184
   by_cases c5 : a0_0 = 48
   ·rw [if_pos c5] at H
    have c5b0 : (a0_0 == 48) = true := beq_iff_eq.mpr c5
    have c5b1 : (a0_0 != 48) = false := bne_eq_false_iff_eq.mpr c5
    clear c5
    obtain rfl := bU H
    go_enter Try.func30, Try.ntmps30
    go_wp2_with (first | ((with_reducible refine aZ (N := 2) rfl ?_); refine bB ?hg (N := 2) ?hd (cs := #[.int .u8 a0_0, .slice A0_1 l0_1.length c0_1]) (t := 49) ?hr ?_; (case hd => rfl); (case hg => rfl); (case hr => first | (go_simp; done) | (go_simp; rfl)); intro gb183 hg w6 hbox hb; have n0_ := aM (aE (by repeat (first | (with_reducible first | exact HB.out | apply bA | apply bN | apply b1) | exact HB.out)) hb); have n1_ := aM (hbox); have n2_ := aM ((by rw [hg]; exact (aG (by repeat (first | (with_reducible first | exact HB.out | apply bA | apply bN | apply b1) | exact HB.out))) : w.heap.size ≤ gb183)); have n3_ := aM ((by rw [hg]; exact (aG (by repeat (first | (with_reducible first | exact HB.out | apply bA | apply bN | apply b1) | exact HB.out))) : w.heap.size ≤ gb183)); clear HB; have HB := n0_; have BK183 := n1_; have GW183 := n2_; have GE183 := n3_; clear n0_ n1_ n2_ n3_; clear hb hbox hg) | ((with_reducible refine aZ (N := 14) rfl ?_); refine Kd.R_make Kd.bool _ 4 rfl (N := 14) rfl 52 _ _ rfl a1 rfl rfl Try.underlying52 (.bool false) 1 info4 rfl (by decide) (by omega) false (ok := fun _ => True) (okp := fun _ => True) rfl (fun _ hk => hk) trivial (aJ (by first | (with_reducible assumption) | assumption)) (Nat.le_trans (Nat.mul_le_mul_right _ (aJ (by first | (with_reducible assumption) | assumption) : a1.toNat ≤ 281474976710656)) (by omega)) (cE _ _) (cD _) ?_; intro v185 w7 ho8 hb hg_ hnew_; clear hg_ hnew_; (first | rw [← Ny184.out] at ho8 | (simp only [Int.reduceToNat] at ho8; rw [← Ny184.out] at ho8)); have n0_ := aM (bP ho8 (aG (by repeat (first | (with_reducible first | exact HB.out | apply bA | apply bN | apply b1 | refine bS ?_ GE183.out) | exact HB.out)))); have n1_ := aM (aD (g := gb183) (o := .cells #[.int .u8 a0_0, .slice A0_1 l0_1.length c0_1] 49 (0, 0)) (by (with_reducible repeat (first | refine kN ?_ _ | refine kD ?_ | refine kA ?_ _)); exact BK183.out) hb); have n2_ := aM (aE (by repeat (first | (with_reducible first | exact HB.out | apply bA | apply bN | apply b1 | refine bS ?_ GE183.out) | exact HB.out)) hb); clear BK183; clear HB; have HO186 := n0_; have BK183 := n1_; have HB := n2_; clear n0_ n1_ n2_; clear hb ho8; have hcz9_0 : w7.cell? ⟨gb183, 0, none⟩ = some (.int .u8 a0_0) := (aA BK183.out 0).trans rfl; have hcz9_1 : w7.cell? ⟨gb183, 1, none⟩ = some (.slice A0_1 l0_1.length c0_1) := (aA BK183.out 1).trans rfl; have hfz9_0 := aC BK183.out 0; have hfz9_1 := aC BK183.out 1))
    go_ret
    exact ⟨_, by first | rfl | (simp [errW_none, errW_some] <;> rfl) | (simp [errW_none, errW_some]; exact ⟨rfl, rfl⟩) | (simp [errW_none, errW_some]; exact ⟨rfl, rfl, rfl⟩) | (simp [*, errW_none, errW_some] <;> rfl), by (with_reducible repeat (first | apply rA | apply rN | apply rD)); exact HO186.out, by repeat (first | (with_reducible first | exact HB.out | apply bA | apply bN | apply b1 | refine bS ?_ GE183.out) | exact HB.out)⟩
   ·rw [if_neg c5] at H
    have c5b0 : (a0_0 == 48) = false := beq_eq_false_iff_ne.mpr c5
    have c5b1 : (a0_0 != 48) = true := bne_iff_ne.mpr c5
    have HC10 := aM H
    clear H
    go_enter Try.func30, Try.ntmps30
    go_upto_region 4 with (first | ((with_reducible refine aZ (N := 2) rfl ?_); refine bB ?hg (N := 2) ?hd (cs := #[.int .u8 a0_0, .slice A0_1 l0_1.length c0_1]) (t := 49) ?hr ?_; (case hd => rfl); (case hg => rfl); (case hr => first | (go_simp; done) | (go_simp; rfl)); intro gb183 hg w11 hbox hb; have n0_ := aM (aE (by repeat (first | (with_reducible first | exact HB.out | apply bA | apply bN | apply b1) | exact HB.out)) hb); have n1_ := aM (hbox); have n2_ := aM ((by rw [hg]; exact (aG (by repeat (first | (with_reducible first | exact HB.out | apply bA | apply bN | apply b1) | exact HB.out))) : w.heap.size ≤ gb183)); have n3_ := aM ((by rw [hg]; exact (aG (by repeat (first | (with_reducible first | exact HB.out | apply bA | apply bN | apply b1) | exact HB.out))) : w.heap.size ≤ gb183)); clear HB; have HB := n0_; have BK183 := n1_; have GW183 := n2_; have GE183 := n3_; clear n0_ n1_ n2_ n3_; clear hb hbox hg) | ((with_reducible refine aZ (N := 14) rfl ?_); refine Kd.R_make Kd.bool _ 4 rfl (N := 14) rfl 52 _ _ rfl a1 rfl rfl Try.underlying52 (.bool false) 1 info4 rfl (by decide) (by omega) false (ok := fun _ => True) (okp := fun _ => True) rfl (fun _ hk => hk) trivial (aJ (by first | (with_reducible assumption) | assumption)) (Nat.le_trans (Nat.mul_le_mul_right _ (aJ (by first | (with_reducible assumption) | assumption) : a1.toNat ≤ 281474976710656)) (by omega)) (cE _ _) (cD _) ?_; intro v185 w12 ho13 hb hg_ hnew_; clear hg_ hnew_; (first | rw [← Ny184.out] at ho13 | (simp only [Int.reduceToNat] at ho13; rw [← Ny184.out] at ho13)); have n0_ := aM (bP ho13 (aG (by repeat (first | (with_reducible first | exact HB.out | apply bA | apply bN | apply b1 | refine bS ?_ GE183.out) | exact HB.out)))); have n1_ := aM (aD (g := gb183) (o := .cells #[.int .u8 a0_0, .slice A0_1 l0_1.length c0_1] 49 (0, 0)) (by (with_reducible repeat (first | refine kN ?_ _ | refine kD ?_ | refine kA ?_ _)); exact BK183.out) hb); have n2_ := aM (aE (by repeat (first | (with_reducible first | exact HB.out | apply bA | apply bN | apply b1 | refine bS ?_ GE183.out) | exact HB.out)) hb); clear BK183; clear HB; have HO186 := n0_; have BK183 := n1_; have HB := n2_; clear n0_ n1_ n2_; clear hb ho13; have hcz14_0 : w12.cell? ⟨gb183, 0, none⟩ = some (.int .u8 a0_0) := (aA BK183.out 0).trans rfl; have hcz14_1 : w12.cell? ⟨gb183, 1, none⟩ = some (.slice A0_1 l0_1.length c0_1) := (aA BK183.out 1).trans rfl; have hfz14_0 := aC BK183.out 0; have hfz14_1 := aC BK183.out 1))
    (try simp only [Act.put, sA, sZ, sS])
    go_cut [20] (fun v20 wc => ∃ (kq : Nat) (x20_9 : Bool), v20 = .bool x20_9 ∧ Aside0 (spec_l7Marks.j0 kq a1 y184 x20_9 a0_0 l0_1 = some r) ∧ Aside0 (kq ≤ k) ∧ Aside0 (Kd.R Kd.bool 4 wc w.heap.size (fun _ => True) v185 y184) ∧ Aside0 (wc.heap[gb183]? = some (.cells #[.int .u8 a0_0, (.slice A0_1 l0_1.length c0_1)] 49 (0, 0))) ∧ Aside0 (Below w.heap.size w wc))
    case first =>
     have H := HC10.out
     clear HC10
     by_cases c15 : a0_0 = 49
     ·rw [if_pos c15] at H
      have c15b0 : (a0_0 == 49) = true := beq_iff_eq.mpr c15
      have c15b1 : (a0_0 != 49) = false := bne_eq_false_iff_eq.mpr c15
      clear c15
      (first | rw [c15b0] | (simp only [cS, cT]; rw [c15b0]) | skip)
      have H' := aM H
      clear H
      have hcz16_0 : w12.cell? ⟨gb183, 0, none⟩ = some (.int .u8 a0_0) := (aA BK183.out 0).trans rfl
      have hcz16_1 : w12.cell? ⟨gb183, 1, none⟩ = some (.slice A0_1 l0_1.length c0_1) := (aA BK183.out 1).trans rfl
      have hfz16_0 := aC BK183.out 0
      have hfz16_1 := aC BK183.out 1
      go_wp2
      go_meet
      case rel => exact ⟨_, (true), (by first | rfl | (simp; done) | (simp [*]; done) | (simp [Int.tmod_eq_emod_of_nonneg]; done)), H', ⟨by first | omega | exact cD _⟩, ⟨by (with_reducible repeat (first | apply rA | apply rN | apply rD)); exact HO186.out⟩, ⟨by (with_reducible repeat (first | refine kN ?_ _ | refine kD ?_ | refine kA ?_ _)); exact BK183.out⟩, ⟨by repeat (first | (with_reducible first | exact HB.out | apply bA | apply bN | apply b1 | refine bS ?_ GE183.out) | exact HB.out)⟩⟩
     ·rw [if_neg c15] at H
      have c15b0 : (a0_0 == 49) = false := beq_eq_false_iff_ne.mpr c15
      have c15b1 : (a0_0 != 49) = true := bne_iff_ne.mpr c15
      (first | rw [c15b0] | (simp only [cS, cT]; rw [c15b0]) | skip)
      have H' := aM H
      clear H
      have hcz17_0 : w12.cell? ⟨gb183, 0, none⟩ = some (.int .u8 a0_0) := (aA BK183.out 0).trans rfl
      have hcz17_1 : w12.cell? ⟨gb183, 1, none⟩ = some (.slice A0_1 l0_1.length c0_1) := (aA BK183.out 1).trans rfl
      have hfz17_0 := aC BK183.out 0
      have hfz17_1 := aC BK183.out 1
      go_wp2
      go_meet
      case rel => exact ⟨_, ((a0_0 == 97)), (by first | rfl | (simp; done) | (simp [*]; done) | (simp [Int.tmod_eq_emod_of_nonneg]; done)), H', ⟨by first | omega | exact cD _⟩, ⟨by (with_reducible repeat (first | apply rA | apply rN | apply rD)); exact HO186.out⟩, ⟨by (with_reducible repeat (first | refine kN ?_ _ | refine kD ?_ | refine kA ?_ _)); exact BK183.out⟩, ⟨by repeat (first | (with_reducible first | exact HB.out | apply bA | apply bN | apply b1 | refine bS ?_ GE183.out) | exact HB.out)⟩⟩
    case rest =>
     clear HC10
     try clear c1
     try clear p2
     try clear c3
     try clear c3b0
     try clear c3b1
     try clear c4
     try clear c4b0
     try clear c4b1
     try clear c5
     try clear c5b0
     try clear c5b1
     try clear c15
     try clear c15b0
     try clear c15b1
     try clear hcz14_0
     try clear hcz14_1
     try clear hcz16_0
     try clear hcz16_1
     try clear hcz17_0
     try clear hcz17_1
     try clear hcz9_0
     try clear hcz9_1
     try clear hfz14_0
     try clear hfz14_1
     try clear hfz16_0
     try clear hfz16_1
     try clear hfz17_0
     try clear hfz17_1
     try clear hfz9_0
     try clear hfz9_1
     obtain ⟨kq, x20_9, rfl, HA, HJ9, HO_5, BK183, HB⟩ := hcut
     cases kq with
     | zero => exact absurd HA.out (by simp [spec_l7Marks.j0])
     | succ kj9 =>
      have H := HA.out
      clear HA
      simp only [spec_l7Marks.j0] at H
      by_cases c18 : x20_9 = true
      ·subst c18
       have H1 : ((spec_l1Bit.f (a0_0 == 97)).bind fun t187 => (if t187 < a1 then (if 0 ≤ t187 then (if t187 < (y184.length : Int) then (some (y184.set (t187 : Int).toNat true)) else (none)) else (none)) else (some y184))) = some r := by rw [if_pos rfl] at H; exact H
       clear H
       have H := H1
       clear H1
       replace H := Option.bind_eq_some_iff.mp H
       obtain ⟨t187, A190, H⟩ := H
       replace H : (if t187 < a1 then (if 0 ≤ t187 then (if t187 < (y184.length : Int) then (some (y184.set (t187 : Int).toNat true)) else (none)) else (none)) else (some y184)) = some r := H
       have A19 := aM A190
       clear A190
       by_cases c20 : t187 < a1
       ·rw [if_pos c20] at H
        have c20b0 : decide (t187 < a1) = true := aH c20
        clear c20
        by_cases c21 : 0 ≤ t187
        ·rw [if_pos c21] at H
         have c21b0 : decide (0 ≤ t187) = true := aH c21
         clear c21
         by_cases c22 : t187 < (y184.length : Int)
         ·rw [if_pos c22] at H
          have c22b0 : decide (t187 < (y184.length : Int)) = true := aH c22
          clear c22
          obtain ⟨y188, hy188⟩ : ∃ y_ : List Bool, y_ = (y184.set (t187 : Int).toNat true) := ⟨_, rfl⟩
          replace H : (some y188) = some r := by first | (rw [hy188]; with_reducible exact H) | (have H2_ := (bR _ _).symm.trans H; rw [hy188]; with_reducible exact H2_) | (have H2_ := (bR _ _).symm.trans H; with_reducible exact H2_) | with_reducible exact H | (rw [hy188]; exact H) | exact H
          have Ny188 := aM hy188
          clear hy188
          obtain rfl := bU H
          have hcz24_0 : wc.cell? ⟨gb183, 0, none⟩ = some (.int .u8 a0_0) := (aA BK183.out 0).trans rfl
          have hcz24_1 : wc.cell? ⟨gb183, 1, none⟩ = some (.slice A0_1 l0_1.length c0_1) := (aA BK183.out 1).trans rfl
          have hfz24_0 := aC BK183.out 0
          have hfz24_1 := aC BK183.out 1
          go_wp2_with (first | ((with_reducible refine aY (f := 44) rfl ?_); refine gL 32 Try.func44 #[.bool (a0_0 == 97)] (hargs := (by (try simp only [aN, aQ, aT]); first | done | rfl | (simp only [List.length_drop, List.length_take]; rfl))) ?_; (with_reducible refine (spec_l1Bit.calls (a0_0 == 97) t187 _ A19.out).mono ?_); rintro e w' ⟨rfl, ⟨nd, rfl⟩⟩; refine ⟨_, rfl, ?_⟩; (try (rw [drewN_self wc]; generalize hq_ : World.drewN wc _ = wc; have n0_ : Aside0 (Kd.R Kd.bool 4 wc w.heap.size (fun _ => True) v185 y184) := ⟨by rw [← hq_]; exact (by (with_reducible repeat (first | apply rA | apply rN | apply rD)); exact HO_5.out)⟩; have n1_ : Aside0 (wc.heap[gb183]? = some (.cells #[.int .u8 a0_0, .slice A0_1 l0_1.length c0_1] 49 (0, 0))) := ⟨by rw [← hq_]; exact (by (with_reducible repeat (first | refine kN ?_ _ | refine kD ?_ | refine kA ?_ _)); exact BK183.out)⟩; have n2_ : Aside0 (Below w.heap.size w wc) := ⟨by rw [← hq_]; exact (by repeat (first | (with_reducible first | exact HB.out | apply bA | apply bN | apply b1 | refine bS ?_ GE183.out) | exact HB.out))⟩; clear HO_5 BK183 HB hq_; have HO_5 := n0_; have BK183 := n1_; have HB := n2_; clear n0_ n1_ n2_)); have p23 : 0 ≤ (t187 : Int) := aJ (by first | (with_reducible assumption) | assumption); have q23 : (t187 : Int) < ((y184.length : Int) : Int) := aJ (by first | (with_reducible assumption) | assumption); obtain ⟨go23, co23, eo23, gb23, gl23, cl23, HG23⟩ := cQ HO_5.out (by omega); (first | cases eo23 | (injection eo23 with ea_ en_ ec_; (first | subst ea_ | (injection ea_ with ea_; subst ea_)); subst ec_; clear en_)); have GB23 := aM gb23; have GG23 := aM HG23; clear gb23 gl23 HG23; obtain ⟨hx23_0, hf23_0⟩ := Kd.R_celln false HO_5.out (t187 : Int) p23 q23; replace p23 := eq_true p23; replace q23 := eq_true q23; obtain ⟨hy25_, hz25_⟩ := Kd.R_celln false HO_5.out (t187 : Int) (aJ (by first | (with_reducible assumption) | assumption)) (aJ (by first | (with_reducible assumption) | assumption)); have HP25 := Kd.R_putg HO_5.out (t187 : Int) true) | ((with_reducible refine gate_store (t := 4) (p := 38) rfl ?_); refine store_event (t := 4) (p := 38) (v := ?vo_w26) (w1 := (wc.setCell ⟨go23, (t187 : Int).toNat, none⟩ (.bool true))) ?hg ?ho ?hn ?hr ?_; (case ho => rfl); (case hg => rfl); (case hn => rfl); (case hr => first | (go_simp; done) | (go_simp; rfl)); intro w26 hw; have hg : wc.grownBy w26 (some go23) := (by rw [hw]; exact HP25.2); have hp_ : Kd.R Kd.bool 4 w26 w.heap.size (fun _ => True) (.slice (some ⟨go23, 0, none⟩) y184.length co23) y188 := (by rw [hw, Ny188.out]; exact HP25.1); clear HP25; have n0_ := aM (hp_); have n1_ := aM (blk_grown (g := gb183) (o := .cells #[.int .u8 a0_0, .slice A0_1 l0_1.length c0_1] 49 (0, 0)) (by (with_reducible repeat (first | refine kN ?_ _ | refine kD ?_ | refine kA ?_ _)); exact BK183.out) hg (Kd.R_ne HO_5.out BK183.out (by decide))); have n2_ := aM ((by rw [hw]; exact bS (HB.out) GB23.out : Below w.heap.size w w26)); clear HO_5; clear BK183; clear HB; have HO_5 := n0_; have BK183 := n1_; have HB := n2_; clear n0_ n1_ n2_; clear hg hw hp_))
          go_ret
          exact ⟨_, by first | rfl | (simp [errW_none, errW_some] <;> rfl) | (simp [errW_none, errW_some]; exact ⟨rfl, rfl⟩) | (simp [errW_none, errW_some]; exact ⟨rfl, rfl, rfl⟩) | (simp [*, errW_none, errW_some] <;> rfl), by (with_reducible repeat (first | apply rA | apply rN | apply rD)); exact HO_5.out, by repeat (first | (with_reducible first | exact HB.out | apply bA | apply bN | apply b1 | refine bS ?_ GE183.out) | exact HB.out)⟩
         ·rw [if_neg c22] at H
          exact absurd H (by simp)
        ·rw [if_neg c21] at H
         exact absurd H (by simp)
       ·rw [if_neg c20] at H
        have c20b0 : decide (t187 < a1) = false := aK c20
        clear c20
        obtain rfl := bU H
        have hcz27_0 : wc.cell? ⟨gb183, 0, none⟩ = some (.int .u8 a0_0) := (aA BK183.out 0).trans rfl
        have hcz27_1 : wc.cell? ⟨gb183, 1, none⟩ = some (.slice A0_1 l0_1.length c0_1) := (aA BK183.out 1).trans rfl
        have hfz27_0 := aC BK183.out 0
        have hfz27_1 := aC BK183.out 1
        go_wp2_with (first | ((with_reducible refine aY (f := 44) rfl ?_); refine gL 32 Try.func44 #[.bool (a0_0 == 97)] (hargs := (by (try simp only [aN, aQ, aT]); first | done | rfl | (simp only [List.length_drop, List.length_take]; rfl))) ?_; (with_reducible refine (spec_l1Bit.calls (a0_0 == 97) t187 _ A19.out).mono ?_); rintro e w' ⟨rfl, ⟨nd, rfl⟩⟩; refine ⟨_, rfl, ?_⟩))
        go_ret
        exact ⟨_, by first | rfl | (simp [errW_none, errW_some] <;> rfl) | (simp [errW_none, errW_some]; exact ⟨rfl, rfl⟩) | (simp [errW_none, errW_some]; exact ⟨rfl, rfl, rfl⟩) | (simp [*, errW_none, errW_some] <;> rfl), by (with_reducible repeat (first | apply rA | apply rN | apply rD)); exact HO_5.out, by repeat (first | (with_reducible first | exact HB.out | apply bA | apply bN | apply b1 | refine bS ?_ GE183.out) | exact HB.out)⟩
      ·replace c18 := Bool.eq_false_iff.mpr c18
       subst c18
       have H1 : (if 0 < (l0_1.length : Int) then ((spec_l7Marks.f kj9 ((rd_T49 l0_1 0).f0) ((rd_T49 l0_1 0).f1) a1).bind fun t190 => (if a0_0 = 42 then (spec_l7Marks.l0 kj9 a1 y184 t190 0) else (if a0_0 ≥ 50 then (spec_l7Marks.j3 kj9 a1 y184 t190 (decide (a0_0 ≤ 53)) a0_0 l0_1) else (spec_l7Marks.j3 kj9 a1 y184 t190 false a0_0 l0_1)))) else (none)) = some r := by rw [if_neg (show ¬ (false = true) by decide)] at H; exact H
       clear H
       have H := H1
       clear H1
       by_cases c28 : 0 < (l0_1.length : Int)
       ·rw [if_pos c28] at H
        have c28b0 : decide (0 < (l0_1.length : Int)) = true := aH c28
        have c28b1 : decide (0 < l0_1.length) = true := aH (by omega)
        clear c28
        replace H := Option.bind_eq_some_iff.mp H
        obtain ⟨t190, A290, H⟩ := H
        replace H : (if a0_0 = 42 then (spec_l7Marks.l0 kj9 a1 y184 t190 0) else (if a0_0 ≥ 50 then (spec_l7Marks.j3 kj9 a1 y184 t190 (decide (a0_0 ≤ 53)) a0_0 l0_1) else (spec_l7Marks.j3 kj9 a1 y184 t190 false a0_0 l0_1))) = some r := H
        have A29 := aM A290
        clear A290
        by_cases c30 : a0_0 = 42
        ·rw [if_pos c30] at H
         have c30b0 : (a0_0 == 42) = true := beq_iff_eq.mpr c30
         have c30b1 : (a0_0 != 42) = false := bne_eq_false_iff_eq.mpr c30
         clear c30
         have H' := aM H
         clear H
         have hcz31_0 : wc.cell? ⟨gb183, 0, none⟩ = some (.int .u8 a0_0) := (aA BK183.out 0).trans rfl
         have hcz31_1 : wc.cell? ⟨gb183, 1, none⟩ = some (.slice A0_1 l0_1.length c0_1) := (aA BK183.out 1).trans rfl
         have hfz31_0 := aC BK183.out 0
         have hfz31_1 := aC BK183.out 1
         have p189 : 0 ≤ (0 : Int) := (by omega)
         have q189 : 0 < (l0_1.length : Int) := aJ (by first | (with_reducible assumption) | assumption)
         obtain ⟨ad189, A189_1, c189_1, e189, hx189_0, hx189_1, hl189_1, hi189_1⟩ := at_T49 HR0_1.out 0 p189 q189
         cases e189
         have qi189 : (0 < l0_1.length) = True := eq_true (by omega)
         (try rw [show ((0 : Int)).toNat = 0 from rfl] at hx189_0)
         (try rw [show 0 * 2 = 0 from rfl] at hx189_0)
         (try rw [Addr.add_zero'] at hx189_0)
         (try rw [show ((0 : Int)).toNat = 0 from rfl] at hx189_1)
         (try rw [show 0 * 2 = 0 from rfl] at hx189_1)
         (try rw [Addr.add_zero'] at hx189_1)
         replace hx189_0 := (HB.out.cell (World.block_lt_of_cell? w _ hx189_0)).trans hx189_0
         replace hx189_1 := (HB.out.cell (World.block_lt_of_cell? w _ hx189_1)).trans hx189_1
         have HR189_1 := aM hi189_1
         have HC189_1 := aM hl189_1
         clear hi189_1 hl189_1
         replace p189 := eq_true p189
         replace q189 := eq_true q189
         go_wp2_with (first | ((with_reducible refine aY (f := 30) rfl ?_); refine gL 45 Try.func30 #[.agg #[.int .u8 ((rd_T49 l0_1 0).f0), .slice A189_1 ((rd_T49 l0_1 0).f1).length c189_1], .int .i64 a1] (hargs := (by (try simp only [aN, aQ, aT]); first | done | rfl | (simp only [List.length_drop, List.length_take]; rfl))) ?_; (with_reducible refine (ih kj9 (by have := HJ9.out; omega) ((rd_T49 l0_1 0).f0) _ _ ((rd_T49 l0_1 0).f1) a1 t190 _ ?side1 ?side2 A29.out).mono ?_); (case side1 => repeat (first | exact (bF HR189_1.out HB.out) | (with_reducible refine Kd.C_alloc ?_ _) | (with_reducible refine Kd.C_drewN ?_ _) | (with_reducible refine Kd.C_drew ?_))); (case side2 => exact HC189_1.out); rintro e w32 ⟨v191, rfl, ho0, hb⟩; refine ⟨_, rfl, ?_⟩; have n0_ := aM (Kd.R_elder' (by (with_reducible repeat (first | apply rA | apply rN | apply rD)); exact HO_5.out) (Kd.R_base ho0) hb); have n1_ := aM (bP (Kd.R_new' ho0 (Kd.R_lt (by (with_reducible repeat (first | apply rA | apply rN | apply rD)); exact HO_5.out))) (aG (by repeat (first | (with_reducible first | exact HB.out | apply bA | apply bN | apply b1 | refine bS ?_ GE183.out) | exact HB.out)))); have n2_ := aM (aD (g := gb183) (o := .cells #[.int .u8 a0_0, .slice (some ad189) l0_1.length c0_1] 49 (0, 0)) (by (with_reducible repeat (first | refine kN ?_ _ | refine kD ?_ | refine kA ?_ _)); exact BK183.out) hb); have n3_ := aM (aE (by repeat (first | (with_reducible first | exact HB.out | apply bA | apply bN | apply b1 | refine bS ?_ GE183.out) | exact HB.out)) hb); clear HO_5; clear BK183; clear HB; have HO_5 := n0_; have HO192 := n1_; have BK183 := n2_; have HB := n3_; clear n0_ n1_ n2_ n3_; (try clear hb); (try clear hb2); (try clear hk); (try clear hi); (try clear ho0); have hcz33_0 : w32.cell? ⟨gb183, 0, none⟩ = some (.int .u8 a0_0) := (aA BK183.out 0).trans rfl; have hcz33_1 : w32.cell? ⟨gb183, 1, none⟩ = some (.slice (some ad189) l0_1.length c0_1) := (aA BK183.out 1).trans rfl; have hfz33_0 := aC BK183.out 0; have hfz33_1 := aC BK183.out 1))
         go_loopg [8] kj9 (fun kq v8 w' => ∃ (x5_2 : List Bool) (x8_2 : Int), v8 = .int .i64 x8_2 ∧ Aside0 (spec_l7Marks.l0 kq a1 x5_2 t190 x8_2 = some r) ∧ Aside0 (kq ≤ kj9) ∧ Aside0 (Kd.R Kd.bool 4 w' w.heap.size (fun k_ => some k_ ≠ (v191 : Value).ownBlock) v185 x5_2) ∧ Aside0 (Kd.R Kd.bool 4 w' w.heap.size (fun k_ => some k_ ≠ (v185 : Value).ownBlock) v191 t190) ∧ Aside0 (w'.heap[gb183]? = some (.cells #[.int .u8 a0_0, (.slice (some ad189) l0_1.length c0_1)] 49 (0, 0))) ∧ Aside0 (Below w.heap.size w w'))
         case atStart => exact ⟨(y184), (0), (by first | rfl | (simp; done) | (simp [*]; done) | (simp [Int.tmod_eq_emod_of_nonneg]; done)), H', ⟨cD _⟩, ⟨by (with_reducible repeat (first | apply rA | apply rN | apply rD)); exact bJ HO_5.out (fun _ hk => hk.2)⟩, ⟨by (with_reducible repeat (first | apply rA | apply rN | apply rD)); exact bJ HO192.out (fun _ hk => hk.2)⟩, ⟨by (with_reducible repeat (first | refine kN ?_ _ | refine kD ?_ | refine kA ?_ _)); exact BK183.out⟩, ⟨by repeat (first | (with_reducible first | exact HB.out | apply bA | apply bN | apply b1 | refine bS ?_ GE183.out) | exact HB.out)⟩⟩
         case round =>
          clear H'
          try clear c1
          try clear p1
          try clear q1
          try clear hx1
          try clear qi1
          try clear c2
          try clear p2
          try clear q2
          try clear hx2
          try clear hf2
          try clear c3
          try clear c3b0
          try clear c3b1
          try clear c4
          try clear c4b0
          try clear c4b1
          try clear c5
          try clear c5b0
          try clear c5b1
          try clear c15
          try clear c15b0
          try clear c15b1
          try clear c18
          try clear p18
          try clear q18
          try clear hx18
          try clear qi18
          try clear c20
          try clear c20b0
          try clear c21
          try clear c21b0
          try clear c22
          try clear c22b0
          try clear p23
          try clear q23
          try clear hx23
          try clear hf23
          try clear c28
          try clear c28b0
          try clear c28b1
          try clear c30
          try clear c30b0
          try clear c30b1
          try clear hcz14_0
          try clear hcz14_1
          try clear hcz16_0
          try clear hcz16_1
          try clear hcz17_0
          try clear hcz17_1
          try clear hcz24_0
          try clear hcz24_1
          try clear hcz27_0
          try clear hcz27_1
          try clear hcz31_0
          try clear hcz31_1
          try clear hcz33_0
          try clear hcz33_1
          try clear hcz9_0
          try clear hcz9_1
          try clear hfz14_0
          try clear hfz14_1
          try clear hfz16_0
          try clear hfz16_1
          try clear hfz17_0
          try clear hfz17_1
          try clear hfz24_0
          try clear hfz24_1
          try clear hfz27_0
          try clear hfz27_1
          try clear hfz31_0
          try clear hfz31_1
          try clear hfz33_0
          try clear hfz33_1
          try clear hfz9_0
          try clear hfz9_1
          try clear hx189_0
          try clear hx189_1
          try clear hx23_0
          try clear p189
          try clear p2
          try clear p23
          try clear q189
          try clear q23
          obtain ⟨x5_2, x8_2, rfl, HA, HK2, HO_5, HO_7, BK183, HB⟩ := hrel
          cases gk with
          | zero => exact absurd HA.out (by simp [spec_l7Marks.l0])
          | succ k2 =>
           have H := HA.out
           clear HA
           simp only [spec_l7Marks.l0] at H
           by_cases c34 : x8_2 < a1
           ·rw [if_pos c34] at H
            have c34b0 : decide (x8_2 < a1) = true := aH c34
            clear c34
            by_cases c35 : 0 ≤ x8_2
            ·rw [if_pos c35] at H
             have c35b0 : decide (0 ≤ x8_2) = true := aH c35
             clear c35
             by_cases c36 : x8_2 < (x5_2.length : Int)
             ·rw [if_pos c36] at H
              have c36b0 : decide (x8_2 < (x5_2.length : Int)) = true := aH c36
              clear c36
              obtain ⟨y193, hy193⟩ : ∃ y_ : List Bool, y_ = (x5_2.set (x8_2 : Int).toNat (x8_2 == 0)) := ⟨_, rfl⟩
              replace H : (spec_l7Marks.l1 k2 a1 y193 t190 x8_2 1) = some r := by first | (rw [hy193]; with_reducible exact H) | (have H2_ := (bR _ _).symm.trans H; rw [hy193]; with_reducible exact H2_) | (have H2_ := (bR _ _).symm.trans H; with_reducible exact H2_) | with_reducible exact H | (rw [hy193]; exact H) | exact H
              have Ny193 := aM hy193
              clear hy193
              have H' := aM H
              clear H
              have p37 : 0 ≤ (x8_2 : Int) := aJ (by first | (with_reducible assumption) | assumption)
              have q37 : (x8_2 : Int) < ((x5_2.length : Int) : Int) := aJ (by first | (with_reducible assumption) | assumption)
              obtain ⟨go37, co37, eo37, gb37, gl37, cl37, HG37⟩ := cQ HO_5.out (by omega)
              (first | cases eo37 | (injection eo37 with ea_ en_ ec_; (first | subst ea_ | (injection ea_ with ea_; subst ea_)); subst ec_; clear en_))
              have GB37 := aM gb37
              have GG37 := aM HG37
              clear gb37 gl37 HG37
              obtain ⟨hx37_0, hf37_0⟩ := Kd.R_celln false HO_5.out (x8_2 : Int) p37 q37
              replace p37 := eq_true p37
              replace q37 := eq_true q37
              have HP38 := Kd.R_putg HO_5.out (x8_2 : Int) (x8_2 == 0)
              go_wp2_with (first | ((with_reducible refine gate_store (t := 4) (p := 59) rfl ?_); refine store_event (t := 4) (p := 59) (v := ?vo_w39) (w1 := (wr.setCell ⟨go37, (x8_2 : Int).toNat, none⟩ (.bool (x8_2 == 0)))) ?hg ?ho ?hn ?hr ?_; (case ho => rfl); (case hg => rfl); (case hn => rfl); (case hr => first | (go_simp; done) | (go_simp; rfl)); intro w39 hw; have hg : wr.grownBy w39 (some go37) := (by rw [hw]; exact HP38.2); have hp_ : Kd.R Kd.bool 4 w39 w.heap.size (fun k_ => some k_ ≠ (v191 : Value).ownBlock) (.slice (some ⟨go37, 0, none⟩) x5_2.length co37) y193 := (by rw [hw, Ny193.out]; exact HP38.1); clear HP38; have n0_ := aM (hp_); have n1_ := aM (cJ (v := (.slice (some ⟨go37, 0, none⟩) x5_2.length co37)) (v1 := (.slice (some ⟨go37, 0, none⟩) x5_2.length co37)) (ok := (fun _ => True)) (by (with_reducible repeat (first | apply rA | apply rN | apply rD)); exact bJ HO_7.out (fun _ hk => ⟨trivial, hk⟩)) hg (.inl rfl)); have n2_ := aM (blk_grown (g := gb183) (o := .cells #[.int .u8 a0_0, .slice (some ad189) l0_1.length c0_1] 49 (0, 0)) (by (with_reducible repeat (first | refine kN ?_ _ | refine kD ?_ | refine kA ?_ _)); exact BK183.out) hg (Kd.R_ne HO_5.out BK183.out (by decide))); have n3_ := aM ((by rw [hw]; exact bS (HB.out) GB37.out : Below w.heap.size w w39)); clear HO_5; clear HO_7; clear BK183; clear HB; have HO_5 := n0_; have HO_7 := n1_; have BK183 := n2_; have HB := n3_; clear n0_ n1_ n2_ n3_; clear hg hw hp_))
              go_loopg [9] k2 (fun kq v9 w' => ∃ (x5_3 : List Bool) (x9_3 : Int), v9 = .int .i64 x9_3 ∧ Aside0 (spec_l7Marks.l1 kq a1 x5_3 t190 x8_2 x9_3 = some r) ∧ Aside0 (kq ≤ k2) ∧ Aside0 (Kd.R Kd.bool 4 w' w.heap.size (fun k_ => some k_ ≠ (v191 : Value).ownBlock) (.slice (some ⟨go37, 0, none⟩) x5_2.length co37) x5_3) ∧ Aside0 (Kd.R Kd.bool 4 w' w.heap.size (fun k_ => some k_ ≠ ((.slice (some ⟨go37, 0, none⟩) x5_2.length co37) : Value).ownBlock) v191 t190) ∧ Aside0 (w'.heap[gb183]? = some (.cells #[.int .u8 a0_0, (.slice (some ad189) l0_1.length c0_1)] 49 (0, 0))) ∧ Aside0 (Below w.heap.size w w'))
              case atStart => exact ⟨(y193), (1), (by first | rfl | (simp; done) | (simp [*]; done) | (simp [Int.tmod_eq_emod_of_nonneg]; done)), H', ⟨cD _⟩, ⟨by (with_reducible repeat (first | apply rA | apply rN | apply rD)); exact HO_5.out⟩, ⟨by (with_reducible repeat (first | apply rA | apply rN | apply rD)); exact bJ HO_7.out (fun _ hk => hk.2)⟩, ⟨by (with_reducible repeat (first | refine kN ?_ _ | refine kD ?_ | refine kA ?_ _)); exact BK183.out⟩, ⟨by repeat (first | (with_reducible first | exact HB.out | apply bA | apply bN | apply b1 | refine bS ?_ GE183.out) | exact HB.out)⟩⟩
              case round =>
               clear H'
               try clear c1
               try clear p1
               try clear q1
               try clear hx1
               try clear qi1
               try clear c2
               try clear p2
               try clear q2
               try clear hx2
               try clear hf2
               try clear c3
               try clear c3b0
               try clear c3b1
               try clear p3
               try clear q3
               try clear hx3
               try clear hf3
               try clear c4
               try clear c4b0
               try clear c4b1
               try clear c5
               try clear c5b0
               try clear c5b1
               try clear c15
               try clear c15b0
               try clear c15b1
               try clear c18
               try clear p18
               try clear q18
               try clear hx18
               try clear qi18
               try clear c20
               try clear c20b0
               try clear c21
               try clear c21b0
               try clear c22
               try clear c22b0
               try clear p23
               try clear q23
               try clear hx23
               try clear hf23
               try clear c28
               try clear c28b0
               try clear c28b1
               try clear c30
               try clear c30b0
               try clear c30b1
               try clear c34
               try clear c34b0
               try clear c35
               try clear c35b0
               try clear c36
               try clear c36b0
               try clear p37
               try clear q37
               try clear hx37
               try clear hf37
               try clear hcz14_0
               try clear hcz14_1
               try clear hcz16_0
               try clear hcz16_1
               try clear hcz17_0
               try clear hcz17_1
               try clear hcz24_0
               try clear hcz24_1
               try clear hcz27_0
               try clear hcz27_1
               try clear hcz31_0
               try clear hcz31_1
               try clear hcz33_0
               try clear hcz33_1
               try clear hcz9_0
               try clear hcz9_1
               try clear hfz14_0
               try clear hfz14_1
               try clear hfz16_0
               try clear hfz16_1
               try clear hfz17_0
               try clear hfz17_1
               try clear hfz24_0
               try clear hfz24_1
               try clear hfz27_0
               try clear hfz27_1
               try clear hfz31_0
               try clear hfz31_1
               try clear hfz33_0
               try clear hfz33_1
               try clear hfz9_0
               try clear hfz9_1
               try clear hx189_0
               try clear hx189_1
               try clear hx23_0
               try clear hx37_0
               try clear p1
               try clear p18
               try clear p189
               try clear p2
               try clear p23
               try clear p37
               try clear q1
               try clear q18
               try clear q189
               try clear q2
               try clear q23
               try clear q37
               obtain ⟨x5_3, x9_3, rfl, HA, HK3, HO_5, HO_7, BK183, HB⟩ := hrel
               have hl5_3 := (bM HO_5.out).1
               rw [hl5_3] at HO_5
               (try simp only [hl5_3])
               (try simp only [hl5_3] at BK183)
               (try simp only [hl5_3] at HO_7)
               cases gk with
               | zero => exact absurd HA.out (by simp [spec_l7Marks.l1])
               | succ k3 =>
                have H := HA.out
                clear HA
                simp only [spec_l7Marks.l1] at H
                by_cases c40 : x9_3 ≤ x8_2
                ·rw [if_pos c40] at H
                 have c40b0 : decide (x9_3 ≤ x8_2) = true := aH c40
                 clear c40
                 by_cases c41 : 0 ≤ x8_2
                 ·rw [if_pos c41] at H
                  have c41b0 : decide (0 ≤ x8_2) = true := aH c41
                  clear c41
                  by_cases c42 : x8_2 < (x5_3.length : Int)
                  ·rw [if_pos c42] at H
                   have c42b0 : decide (x8_2 < (x5_3.length : Int)) = true := aH c42
                   have c42b0z := c42b0
                   (try simp only [hl5_3] at c42b0z)
                   clear c42
                   obtain ⟨bq43, hbq43⟩ : ∃ b_ : Bool, b_ = (rdOf false x5_3 x8_2) := ⟨_, rfl⟩
                   replace H : (if bq43 = true then (spec_l7Marks.l1 k3 a1 (x5_3.set (x8_2 : Int).toNat true) t190 x8_2 (wrap64 (x9_3 + 1))) else (if 0 ≤ x9_3 then (if x9_3 < (t190.length : Int) then (if rdOf false t190 x9_3 = true then (if 0 ≤ (wrap64 (x8_2 - x9_3)) then (if (wrap64 (x8_2 - x9_3)) < (x5_3.length : Int) then (spec_l7Marks.l1 k3 a1 (x5_3.set (x8_2 : Int).toNat (rdOf false x5_3 (wrap64 (x8_2 - x9_3)))) t190 x8_2 (wrap64 (x9_3 + 1))) else (none)) else (none)) else (spec_l7Marks.l1 k3 a1 (x5_3.set (x8_2 : Int).toNat false) t190 x8_2 (wrap64 (x9_3 + 1)))) else (none)) else (none))) = some r := by rw [← hbq43] at H; exact H
                   have Nbq43 := aM hbq43
                   clear hbq43
                   by_cases c44 : bq43 = true
                   ·subst c44
                    have H1 : (spec_l7Marks.l1 k3 a1 (x5_3.set (x8_2 : Int).toNat true) t190 x8_2 (wrap64 (x9_3 + 1))) = some r := by rw [if_pos rfl] at H; exact H
                    clear H
                    have H := H1
                    clear H1
                    obtain ⟨y195, hy195⟩ : ∃ y_ : List Bool, y_ = (x5_3.set (x8_2 : Int).toNat true) := ⟨_, rfl⟩
                    replace H : (spec_l7Marks.l1 k3 a1 y195 t190 x8_2 (wrap64 (x9_3 + 1))) = some r := by first | (rw [hy195]; with_reducible exact H) | (have H2_ := (bR _ _).symm.trans H; rw [hy195]; with_reducible exact H2_) | (have H2_ := (bR _ _).symm.trans H; with_reducible exact H2_) | with_reducible exact H | (rw [hy195]; exact H) | exact H
                    have Ny195 := aM hy195
                    clear hy195
                    have H' := aM H
                    clear H
                    have p194 : 0 ≤ (x8_2 : Int) := aJ (by first | (with_reducible assumption) | assumption)
                    have q194 : x8_2 < (x5_3.length : Int) := aJ (by first | (with_reducible assumption) | assumption)
                    obtain ⟨ad194, e194, hx194_0⟩ := Kd.at_bool (bM HO_5.out).2.2 x8_2 p194 q194
                    (try rw [← Nbq43.out] at hx194_0)
                    obtain rfl : (⟨go37, 0, none⟩ : Addr) = ad194 := (by injection e194)
                    (first | simp only [add_plain] at hx194_0 | simp only [add_at] at hx194_0 | simp only [Addr.add, Nat.zero_add] at hx194_0 | skip)
                    replace p194 := eq_true p194
                    replace q194 := eq_true q194
                    have p45 : 0 ≤ (x8_2 : Int) := aJ (by first | (with_reducible assumption) | assumption)
                    have q45 : (x8_2 : Int) < ((x5_3.length : Int) : Int) := aJ (by first | (with_reducible assumption) | assumption)
                    obtain ⟨hx45_0, hf45_0⟩ := Kd.R_celln false HO_5.out (x8_2 : Int) p45 q45
                    replace p45 := eq_true p45
                    replace q45 := eq_true q45
                    have HP46 := Kd.R_putg HO_5.out (x8_2 : Int) true
                    go_wp2_with (first | ((with_reducible refine gate_store (t := 4) (p := 85) rfl ?_); refine store_event (t := 4) (p := 85) (v := ?vo_w47) (w1 := (wr.setCell ⟨go37, (x8_2 : Int).toNat, none⟩ (.bool true))) ?hg ?ho ?hn ?hr ?_; (case ho => rfl); (case hg => rfl); (case hn => rfl); (case hr => first | (go_simp; done) | (go_simp; rfl)); intro w47 hw; have hg : wr.grownBy w47 (some go37) := (by rw [hw]; exact HP46.2); have hp_ : Kd.R Kd.bool 4 w47 w.heap.size (fun k_ => some k_ ≠ (v191 : Value).ownBlock) (.slice (some ⟨go37, 0, none⟩) x5_3.length co37) y195 := (by rw [hw, Ny195.out]; exact HP46.1); clear HP46; have n0_ := aM (hp_); have n1_ := aM (cJ (v := (.slice (some ⟨go37, 0, none⟩) x5_3.length co37)) (v1 := (.slice (some ⟨go37, 0, none⟩) x5_3.length co37)) (ok := (fun _ => True)) (by (with_reducible repeat (first | apply rA | apply rN | apply rD)); exact bJ HO_7.out (fun _ hk => ⟨trivial, hk⟩)) hg (.inl rfl)); have n2_ := aM (blk_grown (g := gb183) (o := .cells #[.int .u8 a0_0, .slice (some ad189) l0_1.length c0_1] 49 (0, 0)) (by (with_reducible repeat (first | refine kN ?_ _ | refine kD ?_ | refine kA ?_ _)); exact BK183.out) hg (Kd.R_ne HO_5.out BK183.out (by decide))); have n3_ := aM ((by rw [hw]; exact bS (HB.out) GB37.out : Below w.heap.size w w47)); clear HO_5; clear HO_7; clear BK183; clear HB; have HO_5 := n0_; have HO_7 := n1_; have BK183 := n2_; have HB := n3_; clear n0_ n1_ n2_ n3_; clear hg hw hp_))
                    (try simp only [← hl5_3])
                    go_roundg k3
                    case measure => have := HJ9.out; have := HK2.out; have := HK3.out; omega
                    case rel => exact ⟨(y195), (wrap64 (x9_3 + 1)), (by first | rfl | (simp; done) | (simp [*]; done) | (simp [Int.tmod_eq_emod_of_nonneg]; done)), H', ⟨by have := HJ9.out; have := HK2.out; have := HK3.out; omega⟩, ⟨by (try simp only [hl5_3]); (with_reducible repeat (first | apply rA | apply rN | apply rD)); exact HO_5.out⟩, ⟨by (try simp only [hl5_3]); (with_reducible repeat (first | apply rA | apply rN | apply rD)); exact bJ HO_7.out (fun _ hk => hk.2)⟩, ⟨by (try simp only [hl5_3]); (with_reducible repeat (first | refine kN ?_ _ | refine kD ?_ | refine kA ?_ _)); exact BK183.out⟩, ⟨by repeat (first | (with_reducible first | exact HB.out | apply bA | apply bN | apply b1 | refine bS ?_ GE183.out) | exact HB.out)⟩⟩
                   ·replace c44 := Bool.eq_false_iff.mpr c44
                    subst c44
                    have H1 : (if 0 ≤ x9_3 then (if x9_3 < (t190.length : Int) then (if rdOf false t190 x9_3 = true then (if 0 ≤ (wrap64 (x8_2 - x9_3)) then (if (wrap64 (x8_2 - x9_3)) < (x5_3.length : Int) then (spec_l7Marks.l1 k3 a1 (x5_3.set (x8_2 : Int).toNat (rdOf false x5_3 (wrap64 (x8_2 - x9_3)))) t190 x8_2 (wrap64 (x9_3 + 1))) else (none)) else (none)) else (spec_l7Marks.l1 k3 a1 (x5_3.set (x8_2 : Int).toNat false) t190 x8_2 (wrap64 (x9_3 + 1)))) else (none)) else (none)) = some r := by rw [if_neg (show ¬ (false = true) by decide)] at H; exact H
                    clear H
                    have H := H1
                    clear H1
                    by_cases c48 : 0 ≤ x9_3
                    ·rw [if_pos c48] at H
                     have c48b0 : decide (0 ≤ x9_3) = true := aH c48
                     clear c48
                     by_cases c49 : x9_3 < (t190.length : Int)
                     ·rw [if_pos c49] at H
                      have c49b0 : decide (x9_3 < (t190.length : Int)) = true := aH c49
                      have c49b0z := c49b0
                      (try simp only [hl5_3] at c49b0z)
                      clear c49
                      obtain ⟨bq50, hbq50⟩ : ∃ b_ : Bool, b_ = (rdOf false t190 x9_3) := ⟨_, rfl⟩
                      replace H : (if bq50 = true then (if 0 ≤ (wrap64 (x8_2 - x9_3)) then (if (wrap64 (x8_2 - x9_3)) < (x5_3.length : Int) then (spec_l7Marks.l1 k3 a1 (x5_3.set (x8_2 : Int).toNat (rdOf false x5_3 (wrap64 (x8_2 - x9_3)))) t190 x8_2 (wrap64 (x9_3 + 1))) else (none)) else (none)) else (spec_l7Marks.l1 k3 a1 (x5_3.set (x8_2 : Int).toNat false) t190 x8_2 (wrap64 (x9_3 + 1)))) = some r := by rw [← hbq50] at H; exact H
                      have Nbq50 := aM hbq50
                      clear hbq50
                      by_cases c51 : bq50 = true
                      ·subst c51
                       have H1 : (if 0 ≤ (wrap64 (x8_2 - x9_3)) then (if (wrap64 (x8_2 - x9_3)) < (x5_3.length : Int) then (spec_l7Marks.l1 k3 a1 (x5_3.set (x8_2 : Int).toNat (rdOf false x5_3 (wrap64 (x8_2 - x9_3)))) t190 x8_2 (wrap64 (x9_3 + 1))) else (none)) else (none)) = some r := by rw [if_pos rfl] at H; exact H
                       clear H
                       have H := H1
                       clear H1
                       obtain ⟨ji52, hji52⟩ : ∃ j_ : Int, (wrap64 (x8_2 - x9_3)) = j_ := ⟨_, rfl⟩
                       replace H : (if 0 ≤ (ji52) then (if (ji52) < (x5_3.length : Int) then (spec_l7Marks.l1 k3 a1 (x5_3.set (x8_2 : Int).toNat (rdOf false x5_3 (ji52))) t190 x8_2 (wrap64 (x9_3 + 1))) else (none)) else (none)) = some r := by first | (rw [hji52] at H; exact H) | (simp only [hji52] at H ⊢; exact H)
                       have hji52w : (IntKind.i64.wrap (x8_2 - x9_3)) = ji52 := (cS _).trans hji52
                       by_cases c53 : 0 ≤ (ji52)
                       ·rw [if_pos c53] at H
                        have c53b0 : decide (0 ≤ (ji52)) = true := aH c53
                        clear c53
                        by_cases c54 : (ji52) < (x5_3.length : Int)
                        ·rw [if_pos c54] at H
                         have c54b0 : decide ((ji52) < (x5_3.length : Int)) = true := aH c54
                         have c54b0z := c54b0
                         (try simp only [hl5_3] at c54b0z)
                         clear c54
                         obtain ⟨y198, hy198⟩ : ∃ y_ : List Bool, y_ = (x5_3.set (x8_2 : Int).toNat (rdOf false x5_3 (ji52))) := ⟨_, rfl⟩
                         replace H : (spec_l7Marks.l1 k3 a1 y198 t190 x8_2 (wrap64 (x9_3 + 1))) = some r := by first | (rw [hy198]; with_reducible exact H) | (have H2_ := (bR _ _).symm.trans H; rw [hy198]; with_reducible exact H2_) | (have H2_ := (bR _ _).symm.trans H; with_reducible exact H2_) | with_reducible exact H | (rw [hy198]; exact H) | exact H
                         have Ny198 := aM hy198
                         clear hy198
                         have H' := aM H
                         clear H
                         have p194 : 0 ≤ (x8_2 : Int) := aJ (by first | (with_reducible assumption) | assumption)
                         have q194 : x8_2 < (x5_3.length : Int) := aJ (by first | (with_reducible assumption) | assumption)
                         obtain ⟨ad194, e194, hx194_0⟩ := Kd.at_bool (bM HO_5.out).2.2 x8_2 p194 q194
                         (try rw [← Nbq43.out] at hx194_0)
                         (try rw [← Nbq50.out] at hx194_0)
                         obtain rfl : (⟨go37, 0, none⟩ : Addr) = ad194 := (by injection e194)
                         (first | simp only [add_plain] at hx194_0 | simp only [add_at] at hx194_0 | simp only [Addr.add, Nat.zero_add] at hx194_0 | skip)
                         replace p194 := eq_true p194
                         replace q194 := eq_true q194
                         obtain ⟨Ao56, co56, eo56⟩ := bL HO_7.out
                         subst eo56
                         have p196 : 0 ≤ (x9_3 : Int) := aJ (by first | (with_reducible assumption) | assumption)
                         have q196 : x9_3 < (t190.length : Int) := aJ (by first | (with_reducible assumption) | assumption)
                         obtain ⟨ad196, e196, hx196_0⟩ := Kd.at_bool (bM HO_7.out).2.2 x9_3 p196 q196
                         (try rw [← Nbq43.out] at hx196_0)
                         (try rw [← Nbq50.out] at hx196_0)
                         cases e196
                         replace p196 := eq_true p196
                         replace q196 := eq_true q196
                         have p197 : 0 ≤ ((ji52) : Int) := aJ (by first | (with_reducible assumption) | assumption)
                         have q197 : (ji52) < (x5_3.length : Int) := aJ (by first | (with_reducible assumption) | assumption)
                         obtain ⟨ad197, e197, hx197_0⟩ := Kd.at_bool (bM HO_5.out).2.2 (ji52) p197 q197
                         (try rw [← Nbq43.out] at hx197_0)
                         (try rw [← Nbq50.out] at hx197_0)
                         obtain rfl : (⟨go37, 0, none⟩ : Addr) = ad197 := (by injection e197)
                         (first | simp only [add_plain] at hx197_0 | simp only [add_at] at hx197_0 | simp only [Addr.add, Nat.zero_add] at hx197_0 | skip)
                         replace p197 := eq_true p197
                         replace q197 := eq_true q197
                         have p55 : 0 ≤ (x8_2 : Int) := aJ (by first | (with_reducible assumption) | assumption)
                         have q55 : (x8_2 : Int) < ((x5_3.length : Int) : Int) := aJ (by first | (with_reducible assumption) | assumption)
                         obtain ⟨hx55_0, hf55_0⟩ := Kd.R_celln false HO_5.out (x8_2 : Int) p55 q55
                         replace p55 := eq_true p55
                         replace q55 := eq_true q55
                         have HP57 := Kd.R_putg HO_5.out (x8_2 : Int) (rdOf false x5_3 (ji52))
                         go_wp2_with (first | ((with_reducible refine gate_store (t := 4) (p := 85) rfl ?_); refine store_event (t := 4) (p := 85) (v := ?vo_w58) (w1 := (wr.setCell ⟨go37, (x8_2 : Int).toNat, none⟩ (.bool (rdOf false x5_3 (ji52))))) ?hg ?ho ?hn ?hr ?_; (case ho => rfl); (case hg => rfl); (case hn => rfl); (case hr => first | (go_simp; done) | (go_simp; rfl)); intro w58 hw; have hg : wr.grownBy w58 (some go37) := (by rw [hw]; exact HP57.2); have hp_ : Kd.R Kd.bool 4 w58 w.heap.size (fun k_ => some k_ ≠ (.slice (some ad196) t190.length co56 : Value).ownBlock) (.slice (some ⟨go37, 0, none⟩) x5_3.length co37) y198 := (by rw [hw, Ny198.out]; exact HP57.1); clear HP57; have n0_ := aM (hp_); have n1_ := aM (cJ (v := (.slice (some ⟨go37, 0, none⟩) x5_3.length co37)) (v1 := (.slice (some ⟨go37, 0, none⟩) x5_3.length co37)) (ok := (fun _ => True)) (by (with_reducible repeat (first | apply rA | apply rN | apply rD)); exact bJ HO_7.out (fun _ hk => ⟨trivial, hk⟩)) hg (.inl rfl)); have n2_ := aM (blk_grown (g := gb183) (o := .cells #[.int .u8 a0_0, .slice (some ad189) l0_1.length c0_1] 49 (0, 0)) (by (with_reducible repeat (first | refine kN ?_ _ | refine kD ?_ | refine kA ?_ _)); exact BK183.out) hg (Kd.R_ne HO_5.out BK183.out (by decide))); have n3_ := aM ((by rw [hw]; exact bS (HB.out) GB37.out : Below w.heap.size w w58)); clear HO_5; clear HO_7; clear BK183; clear HB; have HO_5 := n0_; have HO_7 := n1_; have BK183 := n2_; have HB := n3_; clear n0_ n1_ n2_ n3_; clear hg hw hp_))
                         (try simp only [← hl5_3])
                         go_roundg k3
                         case measure => have := HJ9.out; have := HK2.out; have := HK3.out; omega
                         case rel => exact ⟨(y198), (wrap64 (x9_3 + 1)), (by first | rfl | (simp; done) | (simp [*]; done) | (simp [Int.tmod_eq_emod_of_nonneg]; done)), H', ⟨by have := HJ9.out; have := HK2.out; have := HK3.out; omega⟩, ⟨by (try simp only [hl5_3]); (with_reducible repeat (first | apply rA | apply rN | apply rD)); exact HO_5.out⟩, ⟨by (try simp only [hl5_3]); (with_reducible repeat (first | apply rA | apply rN | apply rD)); exact bJ HO_7.out (fun _ hk => hk.2)⟩, ⟨by (try simp only [hl5_3]); (with_reducible repeat (first | refine kN ?_ _ | refine kD ?_ | refine kA ?_ _)); exact BK183.out⟩, ⟨by repeat (first | (with_reducible first | exact HB.out | apply bA | apply bN | apply b1 | refine bS ?_ GE183.out) | exact HB.out)⟩⟩
                        ·rw [if_neg c54] at H
                         exact absurd H (by simp)
                       ·rw [if_neg c53] at H
                        exact absurd H (by simp)
                      ·replace c51 := Bool.eq_false_iff.mpr c51
                       subst c51
                       have H1 : (spec_l7Marks.l1 k3 a1 (x5_3.set (x8_2 : Int).toNat false) t190 x8_2 (wrap64 (x9_3 + 1))) = some r := by rw [if_neg (show ¬ (false = true) by decide)] at H; exact H
                       clear H
                       have H := H1
                       clear H1
                       obtain ⟨y199, hy199⟩ : ∃ y_ : List Bool, y_ = (x5_3.set (x8_2 : Int).toNat false) := ⟨_, rfl⟩
                       replace H : (spec_l7Marks.l1 k3 a1 y199 t190 x8_2 (wrap64 (x9_3 + 1))) = some r := by first | (rw [hy199]; with_reducible exact H) | (have H2_ := (bR _ _).symm.trans H; rw [hy199]; with_reducible exact H2_) | (have H2_ := (bR _ _).symm.trans H; with_reducible exact H2_) | with_reducible exact H | (rw [hy199]; exact H) | exact H
                       have Ny199 := aM hy199
                       clear hy199
                       have H' := aM H
                       clear H
                       have p194 : 0 ≤ (x8_2 : Int) := aJ (by first | (with_reducible assumption) | assumption)
                       have q194 : x8_2 < (x5_3.length : Int) := aJ (by first | (with_reducible assumption) | assumption)
                       obtain ⟨ad194, e194, hx194_0⟩ := Kd.at_bool (bM HO_5.out).2.2 x8_2 p194 q194
                       (try rw [← Nbq43.out] at hx194_0)
                       (try rw [← Nbq50.out] at hx194_0)
                       obtain rfl : (⟨go37, 0, none⟩ : Addr) = ad194 := (by injection e194)
                       (first | simp only [add_plain] at hx194_0 | simp only [add_at] at hx194_0 | simp only [Addr.add, Nat.zero_add] at hx194_0 | skip)
                       replace p194 := eq_true p194
                       replace q194 := eq_true q194
                       obtain ⟨Ao60, co60, eo60⟩ := bL HO_7.out
                       subst eo60
                       have p196 : 0 ≤ (x9_3 : Int) := aJ (by first | (with_reducible assumption) | assumption)
                       have q196 : x9_3 < (t190.length : Int) := aJ (by first | (with_reducible assumption) | assumption)
                       obtain ⟨ad196, e196, hx196_0⟩ := Kd.at_bool (bM HO_7.out).2.2 x9_3 p196 q196
                       (try rw [← Nbq43.out] at hx196_0)
                       (try rw [← Nbq50.out] at hx196_0)
                       cases e196
                       replace p196 := eq_true p196
                       replace q196 := eq_true q196
                       have p59 : 0 ≤ (x8_2 : Int) := aJ (by first | (with_reducible assumption) | assumption)
                       have q59 : (x8_2 : Int) < ((x5_3.length : Int) : Int) := aJ (by first | (with_reducible assumption) | assumption)
                       obtain ⟨hx59_0, hf59_0⟩ := Kd.R_celln false HO_5.out (x8_2 : Int) p59 q59
                       replace p59 := eq_true p59
                       replace q59 := eq_true q59
                       have HP61 := Kd.R_putg HO_5.out (x8_2 : Int) false
                       go_wp2_with (first | ((with_reducible refine gate_store (t := 4) (p := 85) rfl ?_); refine store_event (t := 4) (p := 85) (v := ?vo_w62) (w1 := (wr.setCell ⟨go37, (x8_2 : Int).toNat, none⟩ (.bool false))) ?hg ?ho ?hn ?hr ?_; (case ho => rfl); (case hg => rfl); (case hn => rfl); (case hr => first | (go_simp; done) | (go_simp; rfl)); intro w62 hw; have hg : wr.grownBy w62 (some go37) := (by rw [hw]; exact HP61.2); have hp_ : Kd.R Kd.bool 4 w62 w.heap.size (fun k_ => some k_ ≠ (.slice (some ad196) t190.length co60 : Value).ownBlock) (.slice (some ⟨go37, 0, none⟩) x5_3.length co37) y199 := (by rw [hw, Ny199.out]; exact HP61.1); clear HP61; have n0_ := aM (hp_); have n1_ := aM (cJ (v := (.slice (some ⟨go37, 0, none⟩) x5_3.length co37)) (v1 := (.slice (some ⟨go37, 0, none⟩) x5_3.length co37)) (ok := (fun _ => True)) (by (with_reducible repeat (first | apply rA | apply rN | apply rD)); exact bJ HO_7.out (fun _ hk => ⟨trivial, hk⟩)) hg (.inl rfl)); have n2_ := aM (blk_grown (g := gb183) (o := .cells #[.int .u8 a0_0, .slice (some ad189) l0_1.length c0_1] 49 (0, 0)) (by (with_reducible repeat (first | refine kN ?_ _ | refine kD ?_ | refine kA ?_ _)); exact BK183.out) hg (Kd.R_ne HO_5.out BK183.out (by decide))); have n3_ := aM ((by rw [hw]; exact bS (HB.out) GB37.out : Below w.heap.size w w62)); clear HO_5; clear HO_7; clear BK183; clear HB; have HO_5 := n0_; have HO_7 := n1_; have BK183 := n2_; have HB := n3_; clear n0_ n1_ n2_ n3_; clear hg hw hp_))
                       (try simp only [← hl5_3])
                       go_roundg k3
                       case measure => have := HJ9.out; have := HK2.out; have := HK3.out; omega
                       case rel => exact ⟨(y199), (wrap64 (x9_3 + 1)), (by first | rfl | (simp; done) | (simp [*]; done) | (simp [Int.tmod_eq_emod_of_nonneg]; done)), H', ⟨by have := HJ9.out; have := HK2.out; have := HK3.out; omega⟩, ⟨by (try simp only [hl5_3]); (with_reducible repeat (first | apply rA | apply rN | apply rD)); exact HO_5.out⟩, ⟨by (try simp only [hl5_3]); (with_reducible repeat (first | apply rA | apply rN | apply rD)); exact bJ HO_7.out (fun _ hk => hk.2)⟩, ⟨by (try simp only [hl5_3]); (with_reducible repeat (first | refine kN ?_ _ | refine kD ?_ | refine kA ?_ _)); exact BK183.out⟩, ⟨by repeat (first | (with_reducible first | exact HB.out | apply bA | apply bN | apply b1 | refine bS ?_ GE183.out) | exact HB.out)⟩⟩
                     ·rw [if_neg c49] at H
                      exact absurd H (by simp)
                    ·rw [if_neg c48] at H
                     exact absurd H (by simp)
                  ·rw [if_neg c42] at H
                   exact absurd H (by simp)
                 ·rw [if_neg c41] at H
                  exact absurd H (by simp)
                ·rw [if_neg c40] at H
                 have c40b0 : decide (x9_3 ≤ x8_2) = false := aK c40
                 clear c40
                 have H' := aM H
                 clear H
                 go_wp2
                 (try simp only [← hl5_3])
                 go_roundg k3
                 case measure => have := HJ9.out; have := HK2.out; have := HK3.out; omega
                 case rel => exact ⟨(x5_3), (wrap64 (x8_2 + 1)), (by first | rfl | (simp; done) | (simp [*]; done) | (simp [Int.tmod_eq_emod_of_nonneg]; done)), H', ⟨by have := HJ9.out; have := HK2.out; have := HK3.out; omega⟩, ⟨by (try simp only [hl5_3]); (with_reducible repeat (first | apply rA | apply rN | apply rD)); exact HO_5.out⟩, ⟨by (try simp only [hl5_3]); (with_reducible repeat (first | apply rA | apply rN | apply rD)); exact HO_7.out⟩, ⟨by (try simp only [hl5_3]); (with_reducible repeat (first | refine kN ?_ _ | refine kD ?_ | refine kA ?_ _)); exact BK183.out⟩, ⟨by repeat (first | (with_reducible first | exact HB.out | apply bA | apply bN | apply b1 | refine bS ?_ GE183.out) | exact HB.out)⟩⟩
             ·rw [if_neg c36] at H
              exact absurd H (by simp)
            ·rw [if_neg c35] at H
             exact absurd H (by simp)
           ·rw [if_neg c34] at H
            have c34b0 : decide (x8_2 < a1) = false := aK c34
            clear c34
            obtain rfl := bU H
            go_wp2
            go_ret
            exact ⟨_, by first | rfl | (simp [errW_none, errW_some] <;> rfl) | (simp [errW_none, errW_some]; exact ⟨rfl, rfl⟩) | (simp [errW_none, errW_some]; exact ⟨rfl, rfl, rfl⟩) | (simp [*, errW_none, errW_some] <;> rfl), by (with_reducible repeat (first | apply rA | apply rN | apply rD)); exact bJ HO_5.out (fun _ hk => trivial), by repeat (first | (with_reducible first | exact HB.out | apply bA | apply bN | apply b1 | refine bS ?_ GE183.out) | exact HB.out)⟩
        ·rw [if_neg c30] at H
         have c30b0 : (a0_0 == 42) = false := beq_eq_false_iff_ne.mpr c30
         have c30b1 : (a0_0 != 42) = true := bne_iff_ne.mpr c30
         have HC63 := aM H
         clear H
         have hcz64_0 : wc.cell? ⟨gb183, 0, none⟩ = some (.int .u8 a0_0) := (aA BK183.out 0).trans rfl
         have hcz64_1 : wc.cell? ⟨gb183, 1, none⟩ = some (.slice A0_1 l0_1.length c0_1) := (aA BK183.out 1).trans rfl
         have hfz64_0 := aC BK183.out 0
         have hfz64_1 := aC BK183.out 1
         have p189 : 0 ≤ (0 : Int) := (by omega)
         have q189 : 0 < (l0_1.length : Int) := aJ (by first | (with_reducible assumption) | assumption)
         obtain ⟨ad189, A189_1, c189_1, e189, hx189_0, hx189_1, hl189_1, hi189_1⟩ := at_T49 HR0_1.out 0 p189 q189
         cases e189
         have qi189 : (0 < l0_1.length) = True := eq_true (by omega)
         (try rw [show ((0 : Int)).toNat = 0 from rfl] at hx189_0)
         (try rw [show 0 * 2 = 0 from rfl] at hx189_0)
         (try rw [Addr.add_zero'] at hx189_0)
         (try rw [show ((0 : Int)).toNat = 0 from rfl] at hx189_1)
         (try rw [show 0 * 2 = 0 from rfl] at hx189_1)
         (try rw [Addr.add_zero'] at hx189_1)
         replace hx189_0 := (HB.out.cell (World.block_lt_of_cell? w _ hx189_0)).trans hx189_0
         replace hx189_1 := (HB.out.cell (World.block_lt_of_cell? w _ hx189_1)).trans hx189_1
         have HR189_1 := aM hi189_1
         have HC189_1 := aM hl189_1
         clear hi189_1 hl189_1
         replace p189 := eq_true p189
         replace q189 := eq_true q189
         go_upto_region 20 with (first | ((with_reducible refine aY (f := 30) rfl ?_); refine gL 45 Try.func30 #[.agg #[.int .u8 ((rd_T49 l0_1 0).f0), .slice A189_1 ((rd_T49 l0_1 0).f1).length c189_1], .int .i64 a1] (hargs := (by (try simp only [aN, aQ, aT]); first | done | rfl | (simp only [List.length_drop, List.length_take]; rfl))) ?_; (with_reducible refine (ih kj9 (by have := HJ9.out; omega) ((rd_T49 l0_1 0).f0) _ _ ((rd_T49 l0_1 0).f1) a1 t190 _ ?side1 ?side2 A29.out).mono ?_); (case side1 => repeat (first | exact (bF HR189_1.out HB.out) | (with_reducible refine Kd.C_alloc ?_ _) | (with_reducible refine Kd.C_drewN ?_ _) | (with_reducible refine Kd.C_drew ?_))); (case side2 => exact HC189_1.out); rintro e w65 ⟨v191, rfl, ho0, hb⟩; refine ⟨_, rfl, ?_⟩; have n0_ := aM (Kd.R_elder' (by (with_reducible repeat (first | apply rA | apply rN | apply rD)); exact HO_5.out) (Kd.R_base ho0) hb); have n1_ := aM (bP (Kd.R_new' ho0 (Kd.R_lt (by (with_reducible repeat (first | apply rA | apply rN | apply rD)); exact HO_5.out))) (aG (by repeat (first | (with_reducible first | exact HB.out | apply bA | apply bN | apply b1 | refine bS ?_ GE183.out) | exact HB.out)))); have n2_ := aM (aD (g := gb183) (o := .cells #[.int .u8 a0_0, .slice (some ad189) l0_1.length c0_1] 49 (0, 0)) (by (with_reducible repeat (first | refine kN ?_ _ | refine kD ?_ | refine kA ?_ _)); exact BK183.out) hb); have n3_ := aM (aE (by repeat (first | (with_reducible first | exact HB.out | apply bA | apply bN | apply b1 | refine bS ?_ GE183.out) | exact HB.out)) hb); clear HO_5; clear BK183; clear HB; have HO_5 := n0_; have HO192 := n1_; have BK183 := n2_; have HB := n3_; clear n0_ n1_ n2_ n3_; (try clear hb); (try clear hb2); (try clear hk); (try clear hi); (try clear ho0); have hcz66_0 : w65.cell? ⟨gb183, 0, none⟩ = some (.int .u8 a0_0) := (aA BK183.out 0).trans rfl; have hcz66_1 : w65.cell? ⟨gb183, 1, none⟩ = some (.slice (some ad189) l0_1.length c0_1) := (aA BK183.out 1).trans rfl; have hfz66_0 := aC BK183.out 0; have hfz66_1 := aC BK183.out 1))
         (try simp only [Act.put, sA, sZ, sS])
         go_cut [87] (fun v87 wc => ∃ (kq : Nat) (x87_62 : Bool), v87 = .bool x87_62 ∧ Aside0 (spec_l7Marks.j3 kq a1 y184 t190 x87_62 a0_0 l0_1 = some r) ∧ Aside0 (kq ≤ kj9) ∧ Aside0 (Kd.R Kd.bool 4 wc w.heap.size (fun k_ => some k_ ≠ (v191 : Value).ownBlock) v185 y184) ∧ Aside0 (Kd.R Kd.bool 4 wc w.heap.size (fun k_ => some k_ ≠ (v185 : Value).ownBlock) v191 t190) ∧ Aside0 (wc.heap[gb183]? = some (.cells #[.int .u8 a0_0, (.slice (some ad189) l0_1.length c0_1)] 49 (0, 0))) ∧ Aside0 (Below w.heap.size w wc))
         case first =>
          have H := HC63.out
          clear HC63
          by_cases c67 : a0_0 ≥ 50
          ·rw [if_pos c67] at H
           have c67b0 : decide (50 ≤ a0_0) = true := aH c67
           clear c67
           (first | rw [c67b0] | (simp only [cS, cT]; rw [c67b0]) | skip)
           have H' := aM H
           clear H
           have hcz68_0 : w65.cell? ⟨gb183, 0, none⟩ = some (.int .u8 a0_0) := (aA BK183.out 0).trans rfl
           have hcz68_1 : w65.cell? ⟨gb183, 1, none⟩ = some (.slice (some ad189) l0_1.length c0_1) := (aA BK183.out 1).trans rfl
           have hfz68_0 := aC BK183.out 0
           have hfz68_1 := aC BK183.out 1
           go_wp2
           go_meet
           case rel => exact ⟨_, (decide (a0_0 ≤ 53)), (by first | rfl | (simp; done) | (simp [*]; done) | (simp [Int.tmod_eq_emod_of_nonneg]; done)), H', ⟨by have := HJ9.out; first | omega | exact cD _⟩, ⟨by (with_reducible repeat (first | apply rA | apply rN | apply rD)); exact bJ HO_5.out (fun _ hk => hk.2)⟩, ⟨by (with_reducible repeat (first | apply rA | apply rN | apply rD)); exact bJ HO192.out (fun _ hk => hk.2)⟩, ⟨by (with_reducible repeat (first | refine kN ?_ _ | refine kD ?_ | refine kA ?_ _)); exact BK183.out⟩, ⟨by repeat (first | (with_reducible first | exact HB.out | apply bA | apply bN | apply b1 | refine bS ?_ GE183.out) | exact HB.out)⟩⟩
          ·rw [if_neg c67] at H
           have c67b0 : decide (50 ≤ a0_0) = false := aK c67
           clear c67
           (first | rw [c67b0] | (simp only [cS, cT]; rw [c67b0]) | skip)
           have H' := aM H
           clear H
           have hcz69_0 : w65.cell? ⟨gb183, 0, none⟩ = some (.int .u8 a0_0) := (aA BK183.out 0).trans rfl
           have hcz69_1 : w65.cell? ⟨gb183, 1, none⟩ = some (.slice (some ad189) l0_1.length c0_1) := (aA BK183.out 1).trans rfl
           have hfz69_0 := aC BK183.out 0
           have hfz69_1 := aC BK183.out 1
           go_wp2
           go_meet
           case rel => exact ⟨_, (false), (by first | rfl | (simp; done) | (simp [*]; done) | (simp [Int.tmod_eq_emod_of_nonneg]; done)), H', ⟨by have := HJ9.out; first | omega | exact cD _⟩, ⟨by (with_reducible repeat (first | apply rA | apply rN | apply rD)); exact bJ HO_5.out (fun _ hk => hk.2)⟩, ⟨by (with_reducible repeat (first | apply rA | apply rN | apply rD)); exact bJ HO192.out (fun _ hk => hk.2)⟩, ⟨by (with_reducible repeat (first | refine kN ?_ _ | refine kD ?_ | refine kA ?_ _)); exact BK183.out⟩, ⟨by repeat (first | (with_reducible first | exact HB.out | apply bA | apply bN | apply b1 | refine bS ?_ GE183.out) | exact HB.out)⟩⟩
         case rest =>
          clear HC63
          try clear c1
          try clear p1
          try clear q1
          try clear hx1
          try clear qi1
          try clear c2
          try clear p2
          try clear q2
          try clear hx2
          try clear hf2
          try clear c3
          try clear c3b0
          try clear c3b1
          try clear p3
          try clear q3
          try clear hx3
          try clear hf3
          try clear c4
          try clear c4b0
          try clear c4b1
          try clear p4
          try clear q4
          try clear hx4
          try clear hf4
          try clear c5
          try clear c5b0
          try clear c5b1
          try clear p5
          try clear q5
          try clear hx5
          try clear hf5
          try clear c6
          try clear p6
          try clear c15
          try clear c15b0
          try clear c15b1
          try clear c18
          try clear p18
          try clear q18
          try clear hx18
          try clear qi18
          try clear p19
          try clear q19
          try clear hx19
          try clear c20
          try clear c20b0
          try clear c21
          try clear c21b0
          try clear c22
          try clear c22b0
          try clear p23
          try clear q23
          try clear hx23
          try clear hf23
          try clear c28
          try clear c28b0
          try clear c28b1
          try clear c30
          try clear c30b0
          try clear c30b1
          try clear c34
          try clear c34b0
          try clear c35
          try clear c35b0
          try clear c36
          try clear c36b0
          try clear p37
          try clear q37
          try clear hx37
          try clear hf37
          try clear c40
          try clear c40b0
          try clear c41
          try clear c41b0
          try clear c42
          try clear c42b0
          try clear q43
          try clear c44
          try clear p45
          try clear q45
          try clear hx45
          try clear hf45
          try clear c48
          try clear c48b0
          try clear c49
          try clear c49b0
          try clear q50
          try clear c51
          try clear c53
          try clear c53b0
          try clear c54
          try clear c54b0
          try clear p55
          try clear q55
          try clear hx55
          try clear hf55
          try clear p59
          try clear q59
          try clear hx59
          try clear hf59
          try clear p64
          try clear c67
          try clear c67b0
          try clear hcz14_0
          try clear hcz14_1
          try clear hcz16_0
          try clear hcz16_1
          try clear hcz17_0
          try clear hcz17_1
          try clear hcz24_0
          try clear hcz24_1
          try clear hcz27_0
          try clear hcz27_1
          try clear hcz31_0
          try clear hcz31_1
          try clear hcz33_0
          try clear hcz33_1
          try clear hcz64_0
          try clear hcz64_1
          try clear hcz66_0
          try clear hcz66_1
          try clear hcz68_0
          try clear hcz68_1
          try clear hcz69_0
          try clear hcz69_1
          try clear hcz9_0
          try clear hcz9_1
          try clear hfz14_0
          try clear hfz14_1
          try clear hfz16_0
          try clear hfz16_1
          try clear hfz17_0
          try clear hfz17_1
          try clear hfz24_0
          try clear hfz24_1
          try clear hfz27_0
          try clear hfz27_1
          try clear hfz31_0
          try clear hfz31_1
          try clear hfz33_0
          try clear hfz33_1
          try clear hfz64_0
          try clear hfz64_1
          try clear hfz66_0
          try clear hfz66_1
          try clear hfz68_0
          try clear hfz68_1
          try clear hfz69_0
          try clear hfz69_1
          try clear hfz9_0
          try clear hfz9_1
          try clear hx189_0
          try clear hx189_1
          try clear hx194_0
          try clear hx196_0
          try clear hx197_0
          try clear hx23_0
          try clear hx37_0
          try clear hx45_0
          try clear hx55_0
          try clear hx59_0
          try clear p1
          try clear p18
          try clear p189
          try clear p194
          try clear p196
          try clear p197
          try clear p2
          try clear p23
          try clear p3
          try clear p37
          try clear p45
          try clear p55
          try clear p59
          try clear q1
          try clear q18
          try clear q189
          try clear q194
          try clear q196
          try clear q197
          try clear q2
          try clear q23
          try clear q3
          try clear q37
          try clear q45
          try clear q55
          try clear q59
          obtain ⟨kq, x87_62, rfl, HA, HJ62, HO_5, HO_7, BK183, HB⟩ := hcut
          cases kq with
          | zero => exact absurd HA.out (by simp [spec_l7Marks.j3])
          | succ kj62 =>
           have H := HA.out
           clear HA
           simp only [spec_l7Marks.j3] at H
           by_cases c70 : x87_62 = true
           ·subst c70
            have H1 : (spec_l7Marks.l2 kj62 t190 t190 49 a0_0 l0_1) = some r := by rw [if_pos rfl] at H; exact H
            clear H
            have H := H1
            clear H1
            have H' := aM H
            clear H
            go_wp2
            go_loopg [5, 10] kj62 (fun kq v5 v10 w' => ∃ (x5_3 : List Bool) (x10_3 : Int), v10 = .int .u8 x10_3 ∧ Aside0 (spec_l7Marks.l2 kq x5_3 t190 x10_3 a0_0 l0_1 = some r) ∧ Aside0 (kq ≤ kj62) ∧ Aside0 (Kd.R Kd.bool 4 w' w.heap.size (fun _ => True) v5 x5_3) ∧ Aside0 (Kd.R Kd.bool 4 w' w.heap.size (fun _ => True) v191 t190) ∧ Aside0 (w'.heap[gb183]? = some (.cells #[.int .u8 a0_0, (.slice (some ad189) l0_1.length c0_1)] 49 (0, 0))) ∧ Aside0 (Below w.heap.size w w'))
            case atStart => exact ⟨(t190), (49), (by first | rfl | (simp; done) | (simp [*]; done) | (simp [Int.tmod_eq_emod_of_nonneg]; done)), H', ⟨cD _⟩, ⟨by (with_reducible repeat (first | apply rA | apply rN | apply rD)); exact bJ HO_7.out (fun _ hk => trivial)⟩, ⟨by (with_reducible repeat (first | apply rA | apply rN | apply rD)); exact bJ HO_7.out (fun _ hk => trivial)⟩, ⟨by (with_reducible repeat (first | refine kN ?_ _ | refine kD ?_ | refine kA ?_ _)); exact BK183.out⟩, ⟨by repeat (first | (with_reducible first | exact HB.out | apply bA | apply bN | apply b1 | refine bS ?_ GE183.out) | exact HB.out)⟩⟩
            case round =>
             clear H'
             try clear c1
             try clear p1
             try clear q1
             try clear hx1
             try clear qi1
             try clear c2
             try clear p2
             try clear q2
             try clear hx2
             try clear hf2
             try clear c3
             try clear c3b0
             try clear c3b1
             try clear p3
             try clear q3
             try clear hx3
             try clear hf3
             try clear c4
             try clear c4b0
             try clear c4b1
             try clear p4
             try clear q4
             try clear hx4
             try clear hf4
             try clear c5
             try clear c5b0
             try clear c5b1
             try clear p5
             try clear q5
             try clear hx5
             try clear hf5
             try clear c6
             try clear p6
             try clear c7
             try clear c15
             try clear c15b0
             try clear c15b1
             try clear c18
             try clear p18
             try clear q18
             try clear hx18
             try clear qi18
             try clear p19
             try clear q19
             try clear hx19
             try clear c20
             try clear c20b0
             try clear c21
             try clear c21b0
             try clear c22
             try clear c22b0
             try clear p23
             try clear q23
             try clear hx23
             try clear hf23
             try clear c28
             try clear c28b0
             try clear c28b1
             try clear c30
             try clear c30b0
             try clear c30b1
             try clear c34
             try clear c34b0
             try clear c35
             try clear c35b0
             try clear c36
             try clear c36b0
             try clear p37
             try clear q37
             try clear hx37
             try clear hf37
             try clear c40
             try clear c40b0
             try clear c41
             try clear c41b0
             try clear c42
             try clear c42b0
             try clear q43
             try clear c44
             try clear p45
             try clear q45
             try clear hx45
             try clear hf45
             try clear c48
             try clear c48b0
             try clear c49
             try clear c49b0
             try clear q50
             try clear c51
             try clear c53
             try clear c53b0
             try clear c54
             try clear c54b0
             try clear p55
             try clear q55
             try clear hx55
             try clear hf55
             try clear p59
             try clear q59
             try clear hx59
             try clear hf59
             try clear p64
             try clear c67
             try clear c67b0
             try clear c70
             try clear hcz14_0
             try clear hcz14_1
             try clear hcz16_0
             try clear hcz16_1
             try clear hcz17_0
             try clear hcz17_1
             try clear hcz24_0
             try clear hcz24_1
             try clear hcz27_0
             try clear hcz27_1
             try clear hcz31_0
             try clear hcz31_1
             try clear hcz33_0
             try clear hcz33_1
             try clear hcz64_0
             try clear hcz64_1
             try clear hcz66_0
             try clear hcz66_1
             try clear hcz68_0
             try clear hcz68_1
             try clear hcz69_0
             try clear hcz69_1
             try clear hcz9_0
             try clear hcz9_1
             try clear hfz14_0
             try clear hfz14_1
             try clear hfz16_0
             try clear hfz16_1
             try clear hfz17_0
             try clear hfz17_1
             try clear hfz24_0
             try clear hfz24_1
             try clear hfz27_0
             try clear hfz27_1
             try clear hfz31_0
             try clear hfz31_1
             try clear hfz33_0
             try clear hfz33_1
             try clear hfz64_0
             try clear hfz64_1
             try clear hfz66_0
             try clear hfz66_1
             try clear hfz68_0
             try clear hfz68_1
             try clear hfz69_0
             try clear hfz69_1
             try clear hfz9_0
             try clear hfz9_1
             try clear hx189_0
             try clear hx189_1
             try clear hx194_0
             try clear hx196_0
             try clear hx197_0
             try clear hx23_0
             try clear hx37_0
             try clear hx45_0
             try clear hx55_0
             try clear hx59_0
             try clear p1
             try clear p18
             try clear p189
             try clear p19
             try clear p194
             try clear p196
             try clear p197
             try clear p2
             try clear p23
             try clear p3
             try clear p37
             try clear p4
             try clear p45
             try clear p5
             try clear p55
             try clear p59
             try clear p6
             try clear p64
             try clear q1
             try clear q18
             try clear q189
             try clear q19
             try clear q194
             try clear q196
             try clear q197
             try clear q2
             try clear q23
             try clear q3
             try clear q37
             try clear q4
             try clear q43
             try clear q45
             try clear q5
             try clear q50
             try clear q55
             try clear q59
             try clear HO_5
             try clear HO_5
             try clear HO_7
             try clear HO_7
             obtain ⟨x5_3, x10_3, rfl, HA, HK3, HO_5, HO_7, BK183, HB⟩ := hrel  -- mended
             cases gk with
             | zero => exact absurd HA.out (by simp [spec_l7Marks.l2])
             | succ k3 =>
              have H := HA.out
              clear HA
              simp only [spec_l7Marks.l2] at H
              by_cases c71 : x10_3 < a0_0
              ·rw [if_pos c71] at H
               have c71b0 : decide (x10_3 < a0_0) = true := aH c71
               clear c71
               replace H := Option.bind_eq_some_iff.mp H
               obtain ⟨t200, A720, H⟩ := H
               replace H : (spec_l7Marks.l2 k3 t200 t190 ((x10_3 + 1) % 256) a0_0 l0_1) = some r := H
               have A72 := aM A720
               clear A720
               have H' := aM H
               clear H
               have hcz73_0 : wr.cell? ⟨gb183, 0, none⟩ = some (.int .u8 a0_0) := (aA BK183.out 0).trans rfl
               have hcz73_1 : wr.cell? ⟨gb183, 1, none⟩ = some (.slice (some ad189) l0_1.length c0_1) := (aA BK183.out 1).trans rfl
               have hfz73_0 := aC BK183.out 0
               have hfz73_1 := aC BK183.out 1
               obtain ⟨Ao74, co74, eo74⟩ := bL HO_5.out
               subst eo74
               obtain ⟨Ao75, co75, eo75⟩ := bL HO_7.out
               subst eo75
               go_wp2_with (first | ((with_reducible refine aY (f := 45) rfl ?_); refine gL 105 Try.func45 #[.slice Ao74 x5_3.length co74, .slice Ao75 t190.length co75] (hargs := (by (try simp only [aN, aQ, aT]); first | done | rfl | (simp only [List.length_drop, List.length_take]; rfl))) ?_; (with_reducible refine (spec_l7Sum.calls k3 _ _ x5_3 _ _ t190 t200 _ ?side1 ?side2 ?side3 ?side4 A72.out).mono ?_); (case side1 => repeat (first | exact (bM HO_5.out).2.2 | (with_reducible refine Kd.C_alloc ?_ _) | (with_reducible refine Kd.C_drewN ?_ _) | (with_reducible refine Kd.C_drew ?_))); (case side2 => exact (bM HO_5.out).2.1); (case side3 => repeat (first | exact (bM HO_7.out).2.2 | (with_reducible refine Kd.C_alloc ?_ _) | (with_reducible refine Kd.C_drewN ?_ _) | (with_reducible refine Kd.C_drew ?_))); (case side4 => exact (bM HO_7.out).2.1); rintro e w76 ⟨v201, rfl, ho0, hb⟩; refine ⟨_, rfl, ?_⟩; have n0_ := aM (Kd.R_elder' (by (with_reducible repeat (first | apply rA | apply rN | apply rD)); exact HO_5.out) (Kd.R_base ho0) hb); have n1_ := aM (Kd.R_elder' (by (with_reducible repeat (first | apply rA | apply rN | apply rD)); exact HO_7.out) (Kd.R_base ho0) hb); have n2_ := aM (bP (Kd.R_new' (Kd.R_new' ho0 (Kd.R_lt (by (with_reducible repeat (first | apply rA | apply rN | apply rD)); exact HO_5.out))) (Kd.R_lt (by (with_reducible repeat (first | apply rA | apply rN | apply rD)); exact HO_7.out))) (aG (by repeat (first | (with_reducible first | exact HB.out | apply bA | apply bN | apply b1 | refine bS ?_ GE183.out) | exact HB.out)))); have n3_ := aM (aD (g := gb183) (o := .cells #[.int .u8 a0_0, .slice (some ad189) l0_1.length c0_1] 49 (0, 0)) (by (with_reducible repeat (first | refine kN ?_ _ | refine kD ?_ | refine kA ?_ _)); exact BK183.out) hb); have n4_ := aM (aE (by repeat (first | (with_reducible first | exact HB.out | apply bA | apply bN | apply b1 | refine bS ?_ GE183.out) | exact HB.out)) hb); clear HO_5; clear HO_7; clear BK183; clear HB; have HO_5 := n0_; have HO_7 := n1_; have HO202 := n2_; have BK183 := n3_; have HB := n4_; clear n0_ n1_ n2_ n3_ n4_; (try clear hb); (try clear hb2); (try clear hk); (try clear hi); (try clear ho0)))
               go_roundg k3
               case measure => have := HJ9.out; have := HJ62.out; have := HK3.out; omega
               case rel => exact ⟨(t200), ((x10_3 + 1) % 256), (by first | rfl | (simp; done) | (simp [*]; done) | (simp [Int.tmod_eq_emod_of_nonneg]; done)), H', ⟨by have := HJ9.out; have := HJ62.out; have := HK3.out; omega⟩, ⟨by (with_reducible repeat (first | apply rA | apply rN | apply rD)); exact bJ HO202.out (fun _ _ => trivial)⟩, ⟨by (with_reducible repeat (first | apply rA | apply rN | apply rD)); exact bJ HO_7.out (fun _ _ => trivial)⟩, ⟨by (with_reducible repeat (first | refine kN ?_ _ | refine kD ?_ | refine kA ?_ _)); exact BK183.out⟩, ⟨by repeat (first | (with_reducible first | exact HB.out | apply bA | apply bN | apply b1 | refine bS ?_ GE183.out) | exact HB.out)⟩⟩
              ·rw [if_neg c71] at H
               have c71b0 : decide (x10_3 < a0_0) = false := aK c71
               clear c71
               obtain rfl := bU H
               have hcz77_0 : wr.cell? ⟨gb183, 0, none⟩ = some (.int .u8 a0_0) := (aA BK183.out 0).trans rfl
               have hcz77_1 : wr.cell? ⟨gb183, 1, none⟩ = some (.slice (some ad189) l0_1.length c0_1) := (aA BK183.out 1).trans rfl
               have hfz77_0 := aC BK183.out 0
               have hfz77_1 := aC BK183.out 1
               go_wp2
               go_ret
               exact ⟨_, by first | rfl | (simp [errW_none, errW_some] <;> rfl) | (simp [errW_none, errW_some]; exact ⟨rfl, rfl⟩) | (simp [errW_none, errW_some]; exact ⟨rfl, rfl, rfl⟩) | (simp [*, errW_none, errW_some] <;> rfl), by (with_reducible repeat (first | apply rA | apply rN | apply rD)); exact HO_5.out, by repeat (first | (with_reducible first | exact HB.out | apply bA | apply bN | apply b1 | refine bS ?_ GE183.out) | exact HB.out)⟩
           ·replace c70 := Bool.eq_false_iff.mpr c70
            subst c70
            have H1 : (if 1 < (l0_1.length : Int) then ((spec_l7Marks.f kj62 ((rd_T49 l0_1 1).f0) ((rd_T49 l0_1 1).f1) a1).bind fun t204 => (if a0_0 = 46 then ((spec_l7Sum.f kj62 t190 t204).bind fun t207 => (some t207)) else (spec_l7Marks.l3 kj62 a1 y184 t190 t204 0 a0_0 l0_1))) else (none)) = some r := by rw [if_neg (show ¬ (false = true) by decide)] at H; exact H
            clear H
            have H := H1
            clear H1
            by_cases c78 : 1 < (l0_1.length : Int)
            ·rw [if_pos c78] at H
             have c78b0 : decide (1 < (l0_1.length : Int)) = true := aH c78
             have c78b1 : decide (1 < l0_1.length) = true := aH (by omega)
             clear c78
             replace H := Option.bind_eq_some_iff.mp H
             obtain ⟨t204, A790, H⟩ := H
             replace H : (if a0_0 = 46 then ((spec_l7Sum.f kj62 t190 t204).bind fun t207 => (some t207)) else (spec_l7Marks.l3 kj62 a1 y184 t190 t204 0 a0_0 l0_1)) = some r := H
             have A79 := aM A790
             clear A790
             by_cases c80 : a0_0 = 46
             ·rw [if_pos c80] at H
              have c80b0 : (a0_0 == 46) = true := beq_iff_eq.mpr c80
              have c80b1 : (a0_0 != 46) = false := bne_eq_false_iff_eq.mpr c80
              clear c80
              replace H := Option.bind_eq_some_iff.mp H
              obtain ⟨t207, A810, H⟩ := H
              replace H : (some t207) = some r := H
              have A81 := aM A810
              clear A810
              obtain rfl := bU H
              have hcz82_0 : wc.cell? ⟨gb183, 0, none⟩ = some (.int .u8 a0_0) := (aA BK183.out 0).trans rfl
              have hcz82_1 : wc.cell? ⟨gb183, 1, none⟩ = some (.slice (some ad189) l0_1.length c0_1) := (aA BK183.out 1).trans rfl
              have hfz82_0 := aC BK183.out 0
              have hfz82_1 := aC BK183.out 1
              have p203 : 0 ≤ (1 : Int) := (by omega)
              have q203 : 1 < (l0_1.length : Int) := aJ (by first | (with_reducible assumption) | assumption)
              obtain ⟨ad203, A203_1, c203_1, e203, hx203_0, hx203_1, hl203_1, hi203_1⟩ := at_T49 HR0_1.out 1 p203 q203
              obtain rfl : ad189 = ad203 := (by injection e203)
              (try simp only [show (1 : Int).toNat = 1 from rfl, Nat.reduceMul, Nat.reduceEqDiff, Go.Addr.add, ↓reduceIte] at hx203_0)
              (try simp only [show (1 : Int).toNat = 1 from rfl, Nat.reduceMul, Nat.reduceEqDiff, Go.Addr.add, ↓reduceIte] at hx203_1)
              have qi203 : (1 < l0_1.length) = True := eq_true (by omega)
              (try rw [show ((1 : Int)).toNat = 1 from rfl] at hx203_0)
              (try rw [show 1 * 2 = 2 from rfl] at hx203_0)
              (try rw [show ((1 : Int)).toNat = 1 from rfl] at hx203_1)
              (try rw [show 1 * 2 = 2 from rfl] at hx203_1)
              replace hx203_0 := (HB.out.cell (World.block_lt_of_cell? w _ hx203_0)).trans hx203_0
              replace hx203_1 := (HB.out.cell (World.block_lt_of_cell? w _ hx203_1)).trans hx203_1
              have HR203_1 := aM hi203_1
              have HC203_1 := aM hl203_1
              clear hi203_1 hl203_1
              replace p203 := eq_true p203
              replace q203 := eq_true q203
              go_wp2_with (first | ((with_reducible refine aY (f := 30) rfl ?_); refine gL 112 Try.func30 #[.agg #[.int .u8 ((rd_T49 l0_1 1).f0), .slice A203_1 ((rd_T49 l0_1 1).f1).length c203_1], .int .i64 a1] (hargs := (by (try simp only [aN, aQ, aT]); first | done | rfl | (simp only [List.length_drop, List.length_take]; rfl))) ?_; (with_reducible refine (ih kj62 (by have := HJ9.out; have := HJ62.out; omega) ((rd_T49 l0_1 1).f0) _ _ ((rd_T49 l0_1 1).f1) a1 t204 _ ?side1 ?side2 A79.out).mono ?_); (case side1 => repeat (first | exact (bF HR203_1.out HB.out) | (with_reducible refine Kd.C_alloc ?_ _) | (with_reducible refine Kd.C_drewN ?_ _) | (with_reducible refine Kd.C_drew ?_))); (case side2 => exact HC203_1.out); rintro e w83 ⟨v205, rfl, ho0, hb⟩; refine ⟨_, rfl, ?_⟩; have n0_ := aM (Kd.R_elder' (by (with_reducible repeat (first | apply rA | apply rN | apply rD)); exact HO_5.out) (Kd.R_base ho0) hb); have n1_ := aM (Kd.R_elder' (by (with_reducible repeat (first | apply rA | apply rN | apply rD)); exact HO_7.out) (Kd.R_base ho0) hb); have n2_ := aM (bP (Kd.R_new' (Kd.R_new' ho0 (Kd.R_lt (by (with_reducible repeat (first | apply rA | apply rN | apply rD)); exact HO_5.out))) (Kd.R_lt (by (with_reducible repeat (first | apply rA | apply rN | apply rD)); exact HO_7.out))) (aG (by repeat (first | (with_reducible first | exact HB.out | apply bA | apply bN | apply b1 | refine bS ?_ GE183.out) | exact HB.out)))); have n3_ := aM (aD (g := gb183) (o := .cells #[.int .u8 a0_0, .slice (some ad189) l0_1.length c0_1] 49 (0, 0)) (by (with_reducible repeat (first | refine kN ?_ _ | refine kD ?_ | refine kA ?_ _)); exact BK183.out) hb); have n4_ := aM (aE (by repeat (first | (with_reducible first | exact HB.out | apply bA | apply bN | apply b1 | refine bS ?_ GE183.out) | exact HB.out)) hb); clear HO_5; clear HO_7; clear BK183; clear HB; have HO_5 := n0_; have HO_7 := n1_; have HO206 := n2_; have BK183 := n3_; have HB := n4_; clear n0_ n1_ n2_ n3_ n4_; (try clear hb); (try clear hb2); (try clear hk); (try clear hi); (try clear ho0); have hcz84_0 : w83.cell? ⟨gb183, 0, none⟩ = some (.int .u8 a0_0) := (aA BK183.out 0).trans rfl; have hcz84_1 : w83.cell? ⟨gb183, 1, none⟩ = some (.slice (some ad189) l0_1.length c0_1) := (aA BK183.out 1).trans rfl; have hfz84_0 := aC BK183.out 0; have hfz84_1 := aC BK183.out 1; obtain ⟨Ao85, co85, eo85⟩ := bL HO_7.out; subst eo85; obtain ⟨Ao86, co86, eo86⟩ := bL HO206.out; subst eo86) | ((with_reducible refine aY (f := 45) rfl ?_); refine gL 118 Try.func45 #[.slice Ao85 t190.length co85, .slice Ao86 t204.length co86] (hargs := (by (try simp only [aN, aQ, aT]); first | done | rfl | (simp only [List.length_drop, List.length_take]; rfl))) ?_; (with_reducible refine (spec_l7Sum.calls kj62 _ _ t190 _ _ t204 t207 _ ?side1 ?side2 ?side3 ?side4 A81.out).mono ?_); (case side1 => repeat (first | exact (bM HO_7.out).2.2 | (with_reducible refine Kd.C_alloc ?_ _) | (with_reducible refine Kd.C_drewN ?_ _) | (with_reducible refine Kd.C_drew ?_))); (case side2 => exact (bM HO_7.out).2.1); (case side3 => repeat (first | exact (bM HO206.out).2.2 | (with_reducible refine Kd.C_alloc ?_ _) | (with_reducible refine Kd.C_drewN ?_ _) | (with_reducible refine Kd.C_drew ?_))); (case side4 => exact (bM HO206.out).2.1); rintro e w87 ⟨v208, rfl, ho0, hb⟩; refine ⟨_, rfl, ?_⟩; have n0_ := aM (Kd.R_elder' (by (with_reducible repeat (first | apply rA | apply rN | apply rD)); exact HO_5.out) (Kd.R_base ho0) hb); have n1_ := aM (Kd.R_elder' (by (with_reducible repeat (first | apply rA | apply rN | apply rD)); exact HO_7.out) (Kd.R_base ho0) hb); have n2_ := aM (Kd.R_elder' (by (with_reducible repeat (first | apply rA | apply rN | apply rD)); exact HO206.out) (Kd.R_base ho0) hb); have n3_ := aM (bP (Kd.R_new' (Kd.R_new' (Kd.R_new' ho0 (Kd.R_lt (by (with_reducible repeat (first | apply rA | apply rN | apply rD)); exact HO_5.out))) (Kd.R_lt (by (with_reducible repeat (first | apply rA | apply rN | apply rD)); exact HO_7.out))) (Kd.R_lt (by (with_reducible repeat (first | apply rA | apply rN | apply rD)); exact HO206.out))) (aG (by repeat (first | (with_reducible first | exact HB.out | apply bA | apply bN | apply b1 | refine bS ?_ GE183.out) | exact HB.out)))); have n4_ := aM (aD (g := gb183) (o := .cells #[.int .u8 a0_0, .slice (some ad189) l0_1.length c0_1] 49 (0, 0)) (by (with_reducible repeat (first | refine kN ?_ _ | refine kD ?_ | refine kA ?_ _)); exact BK183.out) hb); have n5_ := aM (aE (by repeat (first | (with_reducible first | exact HB.out | apply bA | apply bN | apply b1 | refine bS ?_ GE183.out) | exact HB.out)) hb); clear HO_5; clear HO_7; clear HO206; clear BK183; clear HB; have HO_5 := n0_; have HO_7 := n1_; have HO206 := n2_; have HO209 := n3_; have BK183 := n4_; have HB := n5_; clear n0_ n1_ n2_ n3_ n4_ n5_; (try clear hb); (try clear hb2); (try clear hk); (try clear hi); (try clear ho0)))
              go_ret
              exact ⟨_, by first | rfl | (simp [errW_none, errW_some] <;> rfl) | (simp [errW_none, errW_some]; exact ⟨rfl, rfl⟩) | (simp [errW_none, errW_some]; exact ⟨rfl, rfl, rfl⟩) | (simp [*, errW_none, errW_some] <;> rfl), by (with_reducible repeat (first | apply rA | apply rN | apply rD)); exact bJ HO209.out (fun _ hk => trivial), by repeat (first | (with_reducible first | exact HB.out | apply bA | apply bN | apply b1 | refine bS ?_ GE183.out) | exact HB.out)⟩
             ·rw [if_neg c80] at H
              have c80b0 : (a0_0 == 46) = false := beq_eq_false_iff_ne.mpr c80
              have c80b1 : (a0_0 != 46) = true := bne_iff_ne.mpr c80
              have H' := aM H
              clear H
              have hcz88_0 : wc.cell? ⟨gb183, 0, none⟩ = some (.int .u8 a0_0) := (aA BK183.out 0).trans rfl
              have hcz88_1 : wc.cell? ⟨gb183, 1, none⟩ = some (.slice (some ad189) l0_1.length c0_1) := (aA BK183.out 1).trans rfl
              have hfz88_0 := aC BK183.out 0
              have hfz88_1 := aC BK183.out 1
              have p203 : 0 ≤ (1 : Int) := (by omega)
              have q203 : 1 < (l0_1.length : Int) := aJ (by first | (with_reducible assumption) | assumption)
              obtain ⟨ad203, A203_1, c203_1, e203, hx203_0, hx203_1, hl203_1, hi203_1⟩ := at_T49 HR0_1.out 1 p203 q203
              obtain rfl : ad189 = ad203 := (by injection e203)
              (try simp only [show (1 : Int).toNat = 1 from rfl, Nat.reduceMul, Nat.reduceEqDiff, Go.Addr.add, ↓reduceIte] at hx203_0)
              (try simp only [show (1 : Int).toNat = 1 from rfl, Nat.reduceMul, Nat.reduceEqDiff, Go.Addr.add, ↓reduceIte] at hx203_1)
              have qi203 : (1 < l0_1.length) = True := eq_true (by omega)
              (try rw [show ((1 : Int)).toNat = 1 from rfl] at hx203_0)
              (try rw [show 1 * 2 = 2 from rfl] at hx203_0)
              (try rw [show ((1 : Int)).toNat = 1 from rfl] at hx203_1)
              (try rw [show 1 * 2 = 2 from rfl] at hx203_1)
              replace hx203_0 := (HB.out.cell (World.block_lt_of_cell? w _ hx203_0)).trans hx203_0
              replace hx203_1 := (HB.out.cell (World.block_lt_of_cell? w _ hx203_1)).trans hx203_1
              have HR203_1 := aM hi203_1
              have HC203_1 := aM hl203_1
              clear hi203_1 hl203_1
              replace p203 := eq_true p203
              replace q203 := eq_true q203
              go_wp2_with (first | ((with_reducible refine aY (f := 30) rfl ?_); refine gL 112 Try.func30 #[.agg #[.int .u8 ((rd_T49 l0_1 1).f0), .slice A203_1 ((rd_T49 l0_1 1).f1).length c203_1], .int .i64 a1] (hargs := (by (try simp only [aN, aQ, aT]); first | done | rfl | (simp only [List.length_drop, List.length_take]; rfl))) ?_; (with_reducible refine (ih kj62 (by have := HJ9.out; have := HJ62.out; omega) ((rd_T49 l0_1 1).f0) _ _ ((rd_T49 l0_1 1).f1) a1 t204 _ ?side1 ?side2 A79.out).mono ?_); (case side1 => repeat (first | exact (bF HR203_1.out HB.out) | (with_reducible refine Kd.C_alloc ?_ _) | (with_reducible refine Kd.C_drewN ?_ _) | (with_reducible refine Kd.C_drew ?_))); (case side2 => exact HC203_1.out); rintro e w89 ⟨v205, rfl, ho0, hb⟩; refine ⟨_, rfl, ?_⟩; have n0_ := aM (Kd.R_elder' (by (with_reducible repeat (first | apply rA | apply rN | apply rD)); exact HO_5.out) (Kd.R_base ho0) hb); have n1_ := aM (Kd.R_elder' (by (with_reducible repeat (first | apply rA | apply rN | apply rD)); exact HO_7.out) (Kd.R_base ho0) hb); have n2_ := aM (bP (Kd.R_new' (Kd.R_new' ho0 (Kd.R_lt (by (with_reducible repeat (first | apply rA | apply rN | apply rD)); exact HO_5.out))) (Kd.R_lt (by (with_reducible repeat (first | apply rA | apply rN | apply rD)); exact HO_7.out))) (aG (by repeat (first | (with_reducible first | exact HB.out | apply bA | apply bN | apply b1 | refine bS ?_ GE183.out) | exact HB.out)))); have n3_ := aM (aD (g := gb183) (o := .cells #[.int .u8 a0_0, .slice (some ad189) l0_1.length c0_1] 49 (0, 0)) (by (with_reducible repeat (first | refine kN ?_ _ | refine kD ?_ | refine kA ?_ _)); exact BK183.out) hb); have n4_ := aM (aE (by repeat (first | (with_reducible first | exact HB.out | apply bA | apply bN | apply b1 | refine bS ?_ GE183.out) | exact HB.out)) hb); clear HO_5; clear HO_7; clear BK183; clear HB; have HO_5 := n0_; have HO_7 := n1_; have HO206 := n2_; have BK183 := n3_; have HB := n4_; clear n0_ n1_ n2_ n3_ n4_; (try clear hb); (try clear hb2); (try clear hk); (try clear hi); (try clear ho0); have hcz90_0 : w89.cell? ⟨gb183, 0, none⟩ = some (.int .u8 a0_0) := (aA BK183.out 0).trans rfl; have hcz90_1 : w89.cell? ⟨gb183, 1, none⟩ = some (.slice (some ad189) l0_1.length c0_1) := (aA BK183.out 1).trans rfl; have hfz90_0 := aC BK183.out 0; have hfz90_1 := aC BK183.out 1))
              go_loopg [12] kj62 (fun kq v12 w' => ∃ (x5_3 : List Bool) (x12_3 : Int), v12 = .int .i64 x12_3 ∧ Aside0 (spec_l7Marks.l3 kq a1 x5_3 t190 t204 x12_3 a0_0 l0_1 = some r) ∧ Aside0 (kq ≤ kj62) ∧ Aside0 (Kd.R Kd.bool 4 w' w.heap.size (fun k_ => some k_ ≠ (v191 : Value).ownBlock ∧ some k_ ≠ (v205 : Value).ownBlock) v185 x5_3) ∧ Aside0 (Kd.R Kd.bool 4 w' w.heap.size (fun k_ => some k_ ≠ (v185 : Value).ownBlock ∧ some k_ ≠ (v205 : Value).ownBlock) v191 t190) ∧ Aside0 (Kd.R Kd.bool 4 w' w.heap.size (fun k_ => some k_ ≠ (v185 : Value).ownBlock ∧ some k_ ≠ (v191 : Value).ownBlock) v205 t204) ∧ Aside0 (w'.heap[gb183]? = some (.cells #[.int .u8 a0_0, (.slice (some ad189) l0_1.length c0_1)] 49 (0, 0))) ∧ Aside0 (Below w.heap.size w w'))
              case atStart => exact ⟨(y184), (0), (by first | rfl | (simp; done) | (simp [*]; done) | (simp [Int.tmod_eq_emod_of_nonneg]; done)), H', ⟨cD _⟩, ⟨by (with_reducible repeat (first | apply rA | apply rN | apply rD)); exact HO_5.out⟩, ⟨by (with_reducible repeat (first | apply rA | apply rN | apply rD)); exact HO_7.out⟩, ⟨by (with_reducible repeat (first | apply rA | apply rN | apply rD)); exact bJ HO206.out (fun _ hk => ⟨hk.1.2, hk.2⟩)⟩, ⟨by (with_reducible repeat (first | refine kN ?_ _ | refine kD ?_ | refine kA ?_ _)); exact BK183.out⟩, ⟨by repeat (first | (with_reducible first | exact HB.out | apply bA | apply bN | apply b1 | refine bS ?_ GE183.out) | exact HB.out)⟩⟩
              case round =>
               clear H'
               try clear c1
               try clear p1
               try clear q1
               try clear hx1
               try clear qi1
               try clear c2
               try clear p2
               try clear q2
               try clear hx2
               try clear qi2
               try clear hf2
               try clear c3
               try clear c3b0
               try clear c3b1
               try clear p3
               try clear q3
               try clear hx3
               try clear hf3
               try clear c4
               try clear c4b0
               try clear c4b1
               try clear p4
               try clear q4
               try clear hx4
               try clear hf4
               try clear c5
               try clear c5b0
               try clear c5b1
               try clear p5
               try clear q5
               try clear hx5
               try clear hf5
               try clear c6
               try clear p6
               try clear c7
               try clear c8
               try clear c15
               try clear c15b0
               try clear c15b1
               try clear c18
               try clear p18
               try clear q18
               try clear hx18
               try clear qi18
               try clear p19
               try clear q19
               try clear hx19
               try clear c20
               try clear c20b0
               try clear p20
               try clear q20
               try clear hx20
               try clear qi20
               try clear c21
               try clear c21b0
               try clear c22
               try clear c22b0
               try clear p23
               try clear q23
               try clear hx23
               try clear hf23
               try clear c28
               try clear c28b0
               try clear c28b1
               try clear c30
               try clear c30b0
               try clear c30b1
               try clear c34
               try clear c34b0
               try clear c35
               try clear c35b0
               try clear c36
               try clear c36b0
               try clear p37
               try clear q37
               try clear hx37
               try clear hf37
               try clear c40
               try clear c40b0
               try clear c41
               try clear c41b0
               try clear c42
               try clear c42b0
               try clear q43
               try clear c44
               try clear c45
               try clear p45
               try clear q45
               try clear hx45
               try clear hf45
               try clear c48
               try clear c48b0
               try clear c49
               try clear c49b0
               try clear q50
               try clear c51
               try clear c53
               try clear c53b0
               try clear c54
               try clear c54b0
               try clear p55
               try clear q55
               try clear hx55
               try clear hf55
               try clear p59
               try clear q59
               try clear hx59
               try clear hf59
               try clear p64
               try clear c67
               try clear c67b0
               try clear c70
               try clear c71
               try clear c71b0
               try clear c78
               try clear c78b0
               try clear c78b1
               try clear c80
               try clear c80b0
               try clear c80b1
               try clear hcz14_0
               try clear hcz14_1
               try clear hcz16_0
               try clear hcz16_1
               try clear hcz17_0
               try clear hcz17_1
               try clear hcz24_0
               try clear hcz24_1
               try clear hcz27_0
               try clear hcz27_1
               try clear hcz31_0
               try clear hcz31_1
               try clear hcz33_0
               try clear hcz33_1
               try clear hcz64_0
               try clear hcz64_1
               try clear hcz66_0
               try clear hcz66_1
               try clear hcz68_0
               try clear hcz68_1
               try clear hcz69_0
               try clear hcz69_1
               try clear hcz73_0
               try clear hcz73_1
               try clear hcz77_0
               try clear hcz77_1
               try clear hcz82_0
               try clear hcz82_1
               try clear hcz84_0
               try clear hcz84_1
               try clear hcz88_0
               try clear hcz88_1
               try clear hcz90_0
               try clear hcz90_1
               try clear hcz9_0
               try clear hcz9_1
               try clear hfz14_0
               try clear hfz14_1
               try clear hfz16_0
               try clear hfz16_1
               try clear hfz17_0
               try clear hfz17_1
               try clear hfz24_0
               try clear hfz24_1
               try clear hfz27_0
               try clear hfz27_1
               try clear hfz31_0
               try clear hfz31_1
               try clear hfz33_0
               try clear hfz33_1
               try clear hfz64_0
               try clear hfz64_1
               try clear hfz66_0
               try clear hfz66_1
               try clear hfz68_0
               try clear hfz68_1
               try clear hfz69_0
               try clear hfz69_1
               try clear hfz73_0
               try clear hfz73_1
               try clear hfz77_0
               try clear hfz77_1
               try clear hfz82_0
               try clear hfz82_1
               try clear hfz84_0
               try clear hfz84_1
               try clear hfz88_0
               try clear hfz88_1
               try clear hfz90_0
               try clear hfz90_1
               try clear hfz9_0
               try clear hfz9_1
               try clear hx189_0
               try clear hx189_1
               try clear hx194_0
               try clear hx196_0
               try clear hx197_0
               try clear hx203_0
               try clear hx203_1
               try clear hx23_0
               try clear hx37_0
               try clear hx45_0
               try clear hx55_0
               try clear hx59_0
               try clear p1
               try clear p18
               try clear p189
               try clear p19
               try clear p194
               try clear p196
               try clear p197
               try clear p2
               try clear p203
               try clear p23
               try clear p3
               try clear p37
               try clear p4
               try clear p45
               try clear p5
               try clear p55
               try clear p59
               try clear p6
               try clear p64
               try clear q1
               try clear q18
               try clear q189
               try clear q19
               try clear q194
               try clear q196
               try clear q197
               try clear q2
               try clear q203
               try clear q23
               try clear q3
               try clear q37
               try clear q4
               try clear q43
               try clear q45
               try clear q5
               try clear q50
               try clear q55
               try clear q59
               obtain ⟨x5_3, x12_3, rfl, HA, HK3, HO_5, HO_7, HO_11, BK183, HB⟩ := hrel
               cases gk with
               | zero => exact absurd HA.out (by simp [spec_l7Marks.l3])
               | succ k3 =>
                have H := HA.out
                clear HA
                simp only [spec_l7Marks.l3] at H
                by_cases c91 : x12_3 < a1
                ·rw [if_pos c91] at H
                 have c91b0 : decide (x12_3 < a1) = true := aH c91
                 clear c91
                 by_cases c92 : a0_0 = 43
                 ·rw [if_pos c92] at H
                  have c92b0 : (a0_0 == 43) = true := beq_iff_eq.mpr c92
                  have c92b1 : (a0_0 != 43) = false := bne_eq_false_iff_eq.mpr c92
                  clear c92
                  by_cases c93 : 0 ≤ x12_3
                  ·rw [if_pos c93] at H
                   have c93b0 : decide (0 ≤ x12_3) = true := aH c93
                   clear c93
                   by_cases c94 : x12_3 < (t190.length : Int)
                   ·rw [if_pos c94] at H
                    have c94b0 : decide (x12_3 < (t190.length : Int)) = true := aH c94
                    clear c94
                    obtain ⟨bq95, hbq95⟩ : ∃ b_ : Bool, b_ = (rdOf false t190 x12_3) := ⟨_, rfl⟩
                    replace H : (if bq95 = true then (if x12_3 < (x5_3.length : Int) then (spec_l7Marks.l3 k3 a1 (x5_3.set (x12_3 : Int).toNat true) t190 t204 (wrap64 (x12_3 + 1)) a0_0 l0_1) else (none)) else (if x12_3 < (t204.length : Int) then (if x12_3 < (x5_3.length : Int) then (spec_l7Marks.l3 k3 a1 (x5_3.set (x12_3 : Int).toNat (rdOf false t204 x12_3)) t190 t204 (wrap64 (x12_3 + 1)) a0_0 l0_1) else (none)) else (none))) = some r := by rw [← hbq95] at H; exact H
                    have Nbq95 := aM hbq95
                    clear hbq95
                    by_cases c96 : bq95 = true
                    ·subst c96
                     have H1 : (if x12_3 < (x5_3.length : Int) then (spec_l7Marks.l3 k3 a1 (x5_3.set (x12_3 : Int).toNat true) t190 t204 (wrap64 (x12_3 + 1)) a0_0 l0_1) else (none)) = some r := by rw [if_pos rfl] at H; exact H
                     clear H
                     have H := H1
                     clear H1
                     by_cases c97 : x12_3 < (x5_3.length : Int)
                     ·rw [if_pos c97] at H
                      have c97b0 : decide (x12_3 < (x5_3.length : Int)) = true := aH c97
                      clear c97
                      obtain ⟨y211, hy211⟩ : ∃ y_ : List Bool, y_ = (x5_3.set (x12_3 : Int).toNat true) := ⟨_, rfl⟩
                      replace H : (spec_l7Marks.l3 k3 a1 y211 t190 t204 (wrap64 (x12_3 + 1)) a0_0 l0_1) = some r := by first | (rw [hy211]; with_reducible exact H) | (have H2_ := (bR _ _).symm.trans H; rw [hy211]; with_reducible exact H2_) | (have H2_ := (bR _ _).symm.trans H; with_reducible exact H2_) | with_reducible exact H | (rw [hy211]; exact H) | exact H
                      have Ny211 := aM hy211
                      clear hy211
                      have H' := aM H
                      clear H
                      have hcz99_0 : wr.cell? ⟨gb183, 0, none⟩ = some (.int .u8 a0_0) := (aA BK183.out 0).trans rfl
                      have hcz99_1 : wr.cell? ⟨gb183, 1, none⟩ = some (.slice (some ad189) l0_1.length c0_1) := (aA BK183.out 1).trans rfl
                      have hfz99_0 := aC BK183.out 0
                      have hfz99_1 := aC BK183.out 1
                      obtain ⟨Ao100, co100, eo100⟩ := bL HO_7.out
                      subst eo100
                      have p210 : 0 ≤ (x12_3 : Int) := aJ (by first | (with_reducible assumption) | assumption)
                      have q210 : x12_3 < (t190.length : Int) := aJ (by first | (with_reducible assumption) | assumption)
                      obtain ⟨ad210, e210, hx210_0⟩ := Kd.at_bool (bM HO_7.out).2.2 x12_3 p210 q210
                      (try rw [← Nbq95.out] at hx210_0)
                      cases e210
                      replace p210 := eq_true p210
                      replace q210 := eq_true q210
                      have p98 : 0 ≤ (x12_3 : Int) := aJ (by first | (with_reducible assumption) | assumption)
                      have q98 : (x12_3 : Int) < ((x5_3.length : Int) : Int) := aJ (by first | (with_reducible assumption) | assumption)
                      obtain ⟨go98, co98, eo98, gb98, gl98, cl98, HG98⟩ := cQ HO_5.out (by omega)
                      (first | cases eo98 | (injection eo98 with ea_ en_ ec_; (first | subst ea_ | (injection ea_ with ea_; subst ea_)); subst ec_; clear en_))
                      have GB98 := aM gb98
                      have GG98 := aM HG98
                      clear gb98 gl98 HG98
                      obtain ⟨hx98_0, hf98_0⟩ := Kd.R_celln false HO_5.out (x12_3 : Int) p98 q98
                      replace p98 := eq_true p98
                      replace q98 := eq_true q98
                      have HP101 := Kd.R_putg HO_5.out (x12_3 : Int) true
                      go_wp2_with (first | ((with_reducible refine gate_store (t := 4) (p := 139) rfl ?_); refine store_event (t := 4) (p := 139) (v := ?vo_w102) (w1 := (wr.setCell ⟨go98, (x12_3 : Int).toNat, none⟩ (.bool true))) ?hg ?ho ?hn ?hr ?_; (case ho => rfl); (case hg => rfl); (case hn => rfl); (case hr => first | (go_simp; done) | (go_simp; rfl)); intro w102 hw; have hg : wr.grownBy w102 (some go98) := (by rw [hw]; exact HP101.2); have hp_ : Kd.R Kd.bool 4 w102 w.heap.size (fun k_ => some k_ ≠ (.slice (some ad210) t190.length co100 : Value).ownBlock ∧ some k_ ≠ (v205 : Value).ownBlock) (.slice (some ⟨go98, 0, none⟩) x5_3.length co98) y211 := (by rw [hw, Ny211.out]; exact HP101.1); clear HP101; have n0_ := aM (hp_); have n1_ := aM (cJ (v := (.slice (some ⟨go98, 0, none⟩) x5_3.length co98)) (v1 := (.slice (some ⟨go98, 0, none⟩) x5_3.length co98)) (ok := (fun k_ => some k_ ≠ (v205 : Value).ownBlock)) (by (with_reducible repeat (first | apply rA | apply rN | apply rD)); exact bJ HO_7.out (fun _ hk => ⟨hk.2, hk.1⟩)) hg (.inl rfl)); have n2_ := aM (cJ (v := (.slice (some ⟨go98, 0, none⟩) x5_3.length co98)) (v1 := (.slice (some ⟨go98, 0, none⟩) x5_3.length co98)) (ok := (fun k_ => some k_ ≠ (.slice (some ad210) t190.length co100 : Value).ownBlock)) (by (with_reducible repeat (first | apply rA | apply rN | apply rD)); exact bJ HO_11.out (fun _ hk => ⟨hk.2, hk.1⟩)) hg (.inl rfl)); have n3_ := aM (blk_grown (g := gb183) (o := .cells #[.int .u8 a0_0, .slice (some ad189) l0_1.length c0_1] 49 (0, 0)) (by (with_reducible repeat (first | refine kN ?_ _ | refine kD ?_ | refine kA ?_ _)); exact BK183.out) hg (Kd.R_ne HO_5.out BK183.out (by decide))); have n4_ := aM ((by rw [hw]; exact bS (HB.out) GB98.out : Below w.heap.size w w102)); clear HO_5; clear HO_7; clear HO_11; clear BK183; clear HB; have HO_5 := n0_; have HO_7 := n1_; have HO_11 := n2_; have BK183 := n3_; have HB := n4_; clear n0_ n1_ n2_ n3_ n4_; clear hg hw hp_))
                      go_roundg k3
                      case measure => have := HJ9.out; have := HJ62.out; have := HK3.out; omega
                      case rel => exact ⟨(y211), (wrap64 (x12_3 + 1)), (by first | rfl | (simp; done) | (simp [*]; done) | (simp [Int.tmod_eq_emod_of_nonneg]; done)), H', ⟨by have := HJ9.out; have := HJ62.out; have := HK3.out; omega⟩, ⟨by (with_reducible repeat (first | apply rA | apply rN | apply rD)); exact HO_5.out⟩, ⟨by (with_reducible repeat (first | apply rA | apply rN | apply rD)); exact bJ HO_7.out (fun _ hk => ⟨hk.2, hk.1⟩)⟩, ⟨by (with_reducible repeat (first | apply rA | apply rN | apply rD)); exact bJ HO_11.out (fun _ hk => ⟨hk.2, hk.1⟩)⟩, ⟨by (with_reducible repeat (first | refine kN ?_ _ | refine kD ?_ | refine kA ?_ _)); exact BK183.out⟩, ⟨by repeat (first | (with_reducible first | exact HB.out | apply bA | apply bN | apply b1 | refine bS ?_ GE183.out) | exact HB.out)⟩⟩
                     ·rw [if_neg c97] at H
                      exact absurd H (by simp)
                    ·replace c96 := Bool.eq_false_iff.mpr c96
                     subst c96
                     have H1 : (if x12_3 < (t204.length : Int) then (if x12_3 < (x5_3.length : Int) then (spec_l7Marks.l3 k3 a1 (x5_3.set (x12_3 : Int).toNat (rdOf false t204 x12_3)) t190 t204 (wrap64 (x12_3 + 1)) a0_0 l0_1) else (none)) else (none)) = some r := by rw [if_neg (show ¬ (false = true) by decide)] at H; exact H
                     clear H
                     have H := H1
                     clear H1
                     by_cases c103 : x12_3 < (t204.length : Int)
                     ·rw [if_pos c103] at H
                      have c103b0 : decide (x12_3 < (t204.length : Int)) = true := aH c103
                      clear c103
                      by_cases c104 : x12_3 < (x5_3.length : Int)
                      ·rw [if_pos c104] at H
                       have c104b0 : decide (x12_3 < (x5_3.length : Int)) = true := aH c104
                       clear c104
                       obtain ⟨y213, hy213⟩ : ∃ y_ : List Bool, y_ = (x5_3.set (x12_3 : Int).toNat (rdOf false t204 x12_3)) := ⟨_, rfl⟩
                       replace H : (spec_l7Marks.l3 k3 a1 y213 t190 t204 (wrap64 (x12_3 + 1)) a0_0 l0_1) = some r := by first | (rw [hy213]; with_reducible exact H) | (have H2_ := (bR _ _).symm.trans H; rw [hy213]; with_reducible exact H2_) | (have H2_ := (bR _ _).symm.trans H; with_reducible exact H2_) | with_reducible exact H | (rw [hy213]; exact H) | exact H
                       have Ny213 := aM hy213
                       clear hy213
                       have H' := aM H
                       clear H
                       have hcz106_0 : wr.cell? ⟨gb183, 0, none⟩ = some (.int .u8 a0_0) := (aA BK183.out 0).trans rfl
                       have hcz106_1 : wr.cell? ⟨gb183, 1, none⟩ = some (.slice (some ad189) l0_1.length c0_1) := (aA BK183.out 1).trans rfl
                       have hfz106_0 := aC BK183.out 0
                       have hfz106_1 := aC BK183.out 1
                       obtain ⟨Ao107, co107, eo107⟩ := bL HO_7.out
                       subst eo107
                       have p210 : 0 ≤ (x12_3 : Int) := aJ (by first | (with_reducible assumption) | assumption)
                       have q210 : x12_3 < (t190.length : Int) := aJ (by first | (with_reducible assumption) | assumption)
                       obtain ⟨ad210, e210, hx210_0⟩ := Kd.at_bool (bM HO_7.out).2.2 x12_3 p210 q210
                       (try rw [← Nbq95.out] at hx210_0)
                       cases e210
                       replace p210 := eq_true p210
                       replace q210 := eq_true q210
                       obtain ⟨Ao108, co108, eo108⟩ := bL HO_11.out
                       subst eo108
                       have p212 : 0 ≤ (x12_3 : Int) := aJ (by first | (with_reducible assumption) | assumption)
                       have q212 : x12_3 < (t204.length : Int) := aJ (by first | (with_reducible assumption) | assumption)
                       obtain ⟨ad212, e212, hx212_0⟩ := Kd.at_bool (bM HO_11.out).2.2 x12_3 p212 q212
                       (try rw [← Nbq95.out] at hx212_0)
                       cases e212
                       replace p212 := eq_true p212
                       replace q212 := eq_true q212
                       have p105 : 0 ≤ (x12_3 : Int) := aJ (by first | (with_reducible assumption) | assumption)
                       have q105 : (x12_3 : Int) < ((x5_3.length : Int) : Int) := aJ (by first | (with_reducible assumption) | assumption)
                       obtain ⟨go105, co105, eo105, gb105, gl105, cl105, HG105⟩ := cQ HO_5.out (by omega)
                       (first | cases eo105 | (injection eo105 with ea_ en_ ec_; (first | subst ea_ | (injection ea_ with ea_; subst ea_)); subst ec_; clear en_))
                       have GB105 := aM gb105
                       have GG105 := aM HG105
                       clear gb105 gl105 HG105
                       obtain ⟨hx105_0, hf105_0⟩ := Kd.R_celln false HO_5.out (x12_3 : Int) p105 q105
                       replace p105 := eq_true p105
                       replace q105 := eq_true q105
                       have HP109 := Kd.R_putg HO_5.out (x12_3 : Int) (rdOf false t204 x12_3)
                       go_wp2_with (first | ((with_reducible refine gate_store (t := 4) (p := 139) rfl ?_); refine store_event (t := 4) (p := 139) (v := ?vo_w110) (w1 := (wr.setCell ⟨go105, (x12_3 : Int).toNat, none⟩ (.bool (rdOf false t204 x12_3)))) ?hg ?ho ?hn ?hr ?_; (case ho => rfl); (case hg => rfl); (case hn => rfl); (case hr => first | (go_simp; done) | (go_simp; rfl)); intro w110 hw; have hg : wr.grownBy w110 (some go105) := (by rw [hw]; exact HP109.2); have hp_ : Kd.R Kd.bool 4 w110 w.heap.size (fun k_ => some k_ ≠ (.slice (some ad210) t190.length co107 : Value).ownBlock ∧ some k_ ≠ (.slice (some ad212) t204.length co108 : Value).ownBlock) (.slice (some ⟨go105, 0, none⟩) x5_3.length co105) y213 := (by rw [hw, Ny213.out]; exact HP109.1); clear HP109; have n0_ := aM (hp_); have n1_ := aM (cJ (v := (.slice (some ⟨go105, 0, none⟩) x5_3.length co105)) (v1 := (.slice (some ⟨go105, 0, none⟩) x5_3.length co105)) (ok := (fun k_ => some k_ ≠ (.slice (some ad212) t204.length co108 : Value).ownBlock)) (by (with_reducible repeat (first | apply rA | apply rN | apply rD)); exact bJ HO_7.out (fun _ hk => ⟨hk.2, hk.1⟩)) hg (.inl rfl)); have n2_ := aM (cJ (v := (.slice (some ⟨go105, 0, none⟩) x5_3.length co105)) (v1 := (.slice (some ⟨go105, 0, none⟩) x5_3.length co105)) (ok := (fun k_ => some k_ ≠ (.slice (some ad210) t190.length co107 : Value).ownBlock)) (by (with_reducible repeat (first | apply rA | apply rN | apply rD)); exact bJ HO_11.out (fun _ hk => ⟨hk.2, hk.1⟩)) hg (.inl rfl)); have n3_ := aM (blk_grown (g := gb183) (o := .cells #[.int .u8 a0_0, .slice (some ad189) l0_1.length c0_1] 49 (0, 0)) (by (with_reducible repeat (first | refine kN ?_ _ | refine kD ?_ | refine kA ?_ _)); exact BK183.out) hg (Kd.R_ne HO_5.out BK183.out (by decide))); have n4_ := aM ((by rw [hw]; exact bS (HB.out) GB105.out : Below w.heap.size w w110)); clear HO_5; clear HO_7; clear HO_11; clear BK183; clear HB; have HO_5 := n0_; have HO_7 := n1_; have HO_11 := n2_; have BK183 := n3_; have HB := n4_; clear n0_ n1_ n2_ n3_ n4_; clear hg hw hp_))
                       go_roundg k3
                       case measure => have := HJ9.out; have := HJ62.out; have := HK3.out; omega
                       case rel => exact ⟨(y213), (wrap64 (x12_3 + 1)), (by first | rfl | (simp; done) | (simp [*]; done) | (simp [Int.tmod_eq_emod_of_nonneg]; done)), H', ⟨by have := HJ9.out; have := HJ62.out; have := HK3.out; omega⟩, ⟨by (with_reducible repeat (first | apply rA | apply rN | apply rD)); exact HO_5.out⟩, ⟨by (with_reducible repeat (first | apply rA | apply rN | apply rD)); exact bJ HO_7.out (fun _ hk => ⟨hk.2, hk.1⟩)⟩, ⟨by (with_reducible repeat (first | apply rA | apply rN | apply rD)); exact bJ HO_11.out (fun _ hk => ⟨hk.2, hk.1⟩)⟩, ⟨by (with_reducible repeat (first | refine kN ?_ _ | refine kD ?_ | refine kA ?_ _)); exact BK183.out⟩, ⟨by repeat (first | (with_reducible first | exact HB.out | apply bA | apply bN | apply b1 | refine bS ?_ GE183.out) | exact HB.out)⟩⟩
                      ·rw [if_neg c104] at H
                       exact absurd H (by simp)
                     ·rw [if_neg c103] at H
                      exact absurd H (by simp)
                   ·rw [if_neg c94] at H
                    exact absurd H (by simp)
                  ·rw [if_neg c93] at H
                   exact absurd H (by simp)
                 ·rw [if_neg c92] at H
                  have c92b0 : (a0_0 == 43) = false := beq_eq_false_iff_ne.mpr c92
                  have c92b1 : (a0_0 != 43) = true := bne_iff_ne.mpr c92
                  by_cases c111 : 0 ≤ x12_3
                  ·rw [if_pos c111] at H
                   have c111b0 : decide (0 ≤ x12_3) = true := aH c111
                   clear c111
                   by_cases c112 : x12_3 < (t190.length : Int)
                   ·rw [if_pos c112] at H
                    have c112b0 : decide (x12_3 < (t190.length : Int)) = true := aH c112
                    clear c112
                    obtain ⟨bq113, hbq113⟩ : ∃ b_ : Bool, b_ = (rdOf false t190 x12_3) := ⟨_, rfl⟩
                    replace H : (if bq113 = true then (if x12_3 < (t204.length : Int) then (if x12_3 < (x5_3.length : Int) then (spec_l7Marks.l3 k3 a1 (x5_3.set (x12_3 : Int).toNat (rdOf false t204 x12_3)) t190 t204 (wrap64 (x12_3 + 1)) a0_0 l0_1) else (none)) else (none)) else (if x12_3 < (x5_3.length : Int) then (spec_l7Marks.l3 k3 a1 (x5_3.set (x12_3 : Int).toNat false) t190 t204 (wrap64 (x12_3 + 1)) a0_0 l0_1) else (none))) = some r := by rw [← hbq113] at H; exact H
                    have Nbq113 := aM hbq113
                    clear hbq113
                    by_cases c114 : bq113 = true
                    ·subst c114
                     have H1 : (if x12_3 < (t204.length : Int) then (if x12_3 < (x5_3.length : Int) then (spec_l7Marks.l3 k3 a1 (x5_3.set (x12_3 : Int).toNat (rdOf false t204 x12_3)) t190 t204 (wrap64 (x12_3 + 1)) a0_0 l0_1) else (none)) else (none)) = some r := by rw [if_pos rfl] at H; exact H
                     clear H
                     have H := H1
                     clear H1
                     by_cases c115 : x12_3 < (t204.length : Int)
                     ·rw [if_pos c115] at H
                      have c115b0 : decide (x12_3 < (t204.length : Int)) = true := aH c115
                      clear c115
                      by_cases c116 : x12_3 < (x5_3.length : Int)
                      ·rw [if_pos c116] at H
                       have c116b0 : decide (x12_3 < (x5_3.length : Int)) = true := aH c116
                       clear c116
                       obtain ⟨y216, hy216⟩ : ∃ y_ : List Bool, y_ = (x5_3.set (x12_3 : Int).toNat (rdOf false t204 x12_3)) := ⟨_, rfl⟩
                       replace H : (spec_l7Marks.l3 k3 a1 y216 t190 t204 (wrap64 (x12_3 + 1)) a0_0 l0_1) = some r := by first | (rw [hy216]; with_reducible exact H) | (have H2_ := (bR _ _).symm.trans H; rw [hy216]; with_reducible exact H2_) | (have H2_ := (bR _ _).symm.trans H; with_reducible exact H2_) | with_reducible exact H | (rw [hy216]; exact H) | exact H
                       have Ny216 := aM hy216
                       clear hy216
                       have H' := aM H
                       clear H
                       have hcz118_0 : wr.cell? ⟨gb183, 0, none⟩ = some (.int .u8 a0_0) := (aA BK183.out 0).trans rfl
                       have hcz118_1 : wr.cell? ⟨gb183, 1, none⟩ = some (.slice (some ad189) l0_1.length c0_1) := (aA BK183.out 1).trans rfl
                       have hfz118_0 := aC BK183.out 0
                       have hfz118_1 := aC BK183.out 1
                       obtain ⟨Ao119, co119, eo119⟩ := bL HO_7.out
                       subst eo119
                       have p214 : 0 ≤ (x12_3 : Int) := aJ (by first | (with_reducible assumption) | assumption)
                       have q214 : x12_3 < (t190.length : Int) := aJ (by first | (with_reducible assumption) | assumption)
                       obtain ⟨ad214, e214, hx214_0⟩ := Kd.at_bool (bM HO_7.out).2.2 x12_3 p214 q214
                       (try rw [← Nbq113.out] at hx214_0)
                       cases e214
                       replace p214 := eq_true p214
                       replace q214 := eq_true q214
                       obtain ⟨Ao120, co120, eo120⟩ := bL HO_11.out
                       subst eo120
                       have p215 : 0 ≤ (x12_3 : Int) := aJ (by first | (with_reducible assumption) | assumption)
                       have q215 : x12_3 < (t204.length : Int) := aJ (by first | (with_reducible assumption) | assumption)
                       obtain ⟨ad215, e215, hx215_0⟩ := Kd.at_bool (bM HO_11.out).2.2 x12_3 p215 q215
                       (try rw [← Nbq113.out] at hx215_0)
                       cases e215
                       replace p215 := eq_true p215
                       replace q215 := eq_true q215
                       have p117 : 0 ≤ (x12_3 : Int) := aJ (by first | (with_reducible assumption) | assumption)
                       have q117 : (x12_3 : Int) < ((x5_3.length : Int) : Int) := aJ (by first | (with_reducible assumption) | assumption)
                       obtain ⟨go117, co117, eo117, gb117, gl117, cl117, HG117⟩ := cQ HO_5.out (by omega)
                       (first | cases eo117 | (injection eo117 with ea_ en_ ec_; (first | subst ea_ | (injection ea_ with ea_; subst ea_)); subst ec_; clear en_))
                       have GB117 := aM gb117
                       have GG117 := aM HG117
                       clear gb117 gl117 HG117
                       obtain ⟨hx117_0, hf117_0⟩ := Kd.R_celln false HO_5.out (x12_3 : Int) p117 q117
                       replace p117 := eq_true p117
                       replace q117 := eq_true q117
                       have HP121 := Kd.R_putg HO_5.out (x12_3 : Int) (rdOf false t204 x12_3)
                       go_wp2_with (first | ((with_reducible refine gate_store (t := 4) (p := 152) rfl ?_); refine store_event (t := 4) (p := 152) (v := ?vo_w122) (w1 := (wr.setCell ⟨go117, (x12_3 : Int).toNat, none⟩ (.bool (rdOf false t204 x12_3)))) ?hg ?ho ?hn ?hr ?_; (case ho => rfl); (case hg => rfl); (case hn => rfl); (case hr => first | (go_simp; done) | (go_simp; rfl)); intro w122 hw; have hg : wr.grownBy w122 (some go117) := (by rw [hw]; exact HP121.2); have hp_ : Kd.R Kd.bool 4 w122 w.heap.size (fun k_ => some k_ ≠ (.slice (some ad214) t190.length co119 : Value).ownBlock ∧ some k_ ≠ (.slice (some ad215) t204.length co120 : Value).ownBlock) (.slice (some ⟨go117, 0, none⟩) x5_3.length co117) y216 := (by rw [hw, Ny216.out]; exact HP121.1); clear HP121; have n0_ := aM (hp_); have n1_ := aM (cJ (v := (.slice (some ⟨go117, 0, none⟩) x5_3.length co117)) (v1 := (.slice (some ⟨go117, 0, none⟩) x5_3.length co117)) (ok := (fun k_ => some k_ ≠ (.slice (some ad215) t204.length co120 : Value).ownBlock)) (by (with_reducible repeat (first | apply rA | apply rN | apply rD)); exact bJ HO_7.out (fun _ hk => ⟨hk.2, hk.1⟩)) hg (.inl rfl)); have n2_ := aM (cJ (v := (.slice (some ⟨go117, 0, none⟩) x5_3.length co117)) (v1 := (.slice (some ⟨go117, 0, none⟩) x5_3.length co117)) (ok := (fun k_ => some k_ ≠ (.slice (some ad214) t190.length co119 : Value).ownBlock)) (by (with_reducible repeat (first | apply rA | apply rN | apply rD)); exact bJ HO_11.out (fun _ hk => ⟨hk.2, hk.1⟩)) hg (.inl rfl)); have n3_ := aM (blk_grown (g := gb183) (o := .cells #[.int .u8 a0_0, .slice (some ad189) l0_1.length c0_1] 49 (0, 0)) (by (with_reducible repeat (first | refine kN ?_ _ | refine kD ?_ | refine kA ?_ _)); exact BK183.out) hg (Kd.R_ne HO_5.out BK183.out (by decide))); have n4_ := aM ((by rw [hw]; exact bS (HB.out) GB117.out : Below w.heap.size w w122)); clear HO_5; clear HO_7; clear HO_11; clear BK183; clear HB; have HO_5 := n0_; have HO_7 := n1_; have HO_11 := n2_; have BK183 := n3_; have HB := n4_; clear n0_ n1_ n2_ n3_ n4_; clear hg hw hp_))
                       go_roundg k3
                       case measure => have := HJ9.out; have := HJ62.out; have := HK3.out; omega
                       case rel => exact ⟨(y216), (wrap64 (x12_3 + 1)), (by first | rfl | (simp; done) | (simp [*]; done) | (simp [Int.tmod_eq_emod_of_nonneg]; done)), H', ⟨by have := HJ9.out; have := HJ62.out; have := HK3.out; omega⟩, ⟨by (with_reducible repeat (first | apply rA | apply rN | apply rD)); exact HO_5.out⟩, ⟨by (with_reducible repeat (first | apply rA | apply rN | apply rD)); exact bJ HO_7.out (fun _ hk => ⟨hk.2, hk.1⟩)⟩, ⟨by (with_reducible repeat (first | apply rA | apply rN | apply rD)); exact bJ HO_11.out (fun _ hk => ⟨hk.2, hk.1⟩)⟩, ⟨by (with_reducible repeat (first | refine kN ?_ _ | refine kD ?_ | refine kA ?_ _)); exact BK183.out⟩, ⟨by repeat (first | (with_reducible first | exact HB.out | apply bA | apply bN | apply b1 | refine bS ?_ GE183.out) | exact HB.out)⟩⟩
                      ·rw [if_neg c116] at H
                       exact absurd H (by simp)
                     ·rw [if_neg c115] at H
                      exact absurd H (by simp)
                    ·replace c114 := Bool.eq_false_iff.mpr c114
                     subst c114
                     have H1 : (if x12_3 < (x5_3.length : Int) then (spec_l7Marks.l3 k3 a1 (x5_3.set (x12_3 : Int).toNat false) t190 t204 (wrap64 (x12_3 + 1)) a0_0 l0_1) else (none)) = some r := by rw [if_neg (show ¬ (false = true) by decide)] at H; exact H
                     clear H
                     have H := H1
                     clear H1
                     by_cases c123 : x12_3 < (x5_3.length : Int)
                     ·rw [if_pos c123] at H
                      have c123b0 : decide (x12_3 < (x5_3.length : Int)) = true := aH c123
                      clear c123
                      obtain ⟨y217, hy217⟩ : ∃ y_ : List Bool, y_ = (x5_3.set (x12_3 : Int).toNat false) := ⟨_, rfl⟩
                      replace H : (spec_l7Marks.l3 k3 a1 y217 t190 t204 (wrap64 (x12_3 + 1)) a0_0 l0_1) = some r := by first | (rw [hy217]; with_reducible exact H) | (have H2_ := (bR _ _).symm.trans H; rw [hy217]; with_reducible exact H2_) | (have H2_ := (bR _ _).symm.trans H; with_reducible exact H2_) | with_reducible exact H | (rw [hy217]; exact H) | exact H
                      have Ny217 := aM hy217
                      clear hy217
                      have H' := aM H
                      clear H
                      have hcz125_0 : wr.cell? ⟨gb183, 0, none⟩ = some (.int .u8 a0_0) := (aA BK183.out 0).trans rfl
                      have hcz125_1 : wr.cell? ⟨gb183, 1, none⟩ = some (.slice (some ad189) l0_1.length c0_1) := (aA BK183.out 1).trans rfl
                      have hfz125_0 := aC BK183.out 0
                      have hfz125_1 := aC BK183.out 1
                      obtain ⟨Ao126, co126, eo126⟩ := bL HO_7.out
                      subst eo126
                      have p214 : 0 ≤ (x12_3 : Int) := aJ (by first | (with_reducible assumption) | assumption)
                      have q214 : x12_3 < (t190.length : Int) := aJ (by first | (with_reducible assumption) | assumption)
                      obtain ⟨ad214, e214, hx214_0⟩ := Kd.at_bool (bM HO_7.out).2.2 x12_3 p214 q214
                      (try rw [← Nbq113.out] at hx214_0)
                      cases e214
                      replace p214 := eq_true p214
                      replace q214 := eq_true q214
                      have p124 : 0 ≤ (x12_3 : Int) := aJ (by first | (with_reducible assumption) | assumption)
                      have q124 : (x12_3 : Int) < ((x5_3.length : Int) : Int) := aJ (by first | (with_reducible assumption) | assumption)
                      obtain ⟨go124, co124, eo124, gb124, gl124, cl124, HG124⟩ := cQ HO_5.out (by omega)
                      (first | cases eo124 | (injection eo124 with ea_ en_ ec_; (first | subst ea_ | (injection ea_ with ea_; subst ea_)); subst ec_; clear en_))
                      have GB124 := aM gb124
                      have GG124 := aM HG124
                      clear gb124 gl124 HG124
                      obtain ⟨hx124_0, hf124_0⟩ := Kd.R_celln false HO_5.out (x12_3 : Int) p124 q124
                      replace p124 := eq_true p124
                      replace q124 := eq_true q124
                      have HP127 := Kd.R_putg HO_5.out (x12_3 : Int) false
                      go_wp2_with (first | ((with_reducible refine gate_store (t := 4) (p := 152) rfl ?_); refine store_event (t := 4) (p := 152) (v := ?vo_w128) (w1 := (wr.setCell ⟨go124, (x12_3 : Int).toNat, none⟩ (.bool false))) ?hg ?ho ?hn ?hr ?_; (case ho => rfl); (case hg => rfl); (case hn => rfl); (case hr => first | (go_simp; done) | (go_simp; rfl)); intro w128 hw; have hg : wr.grownBy w128 (some go124) := (by rw [hw]; exact HP127.2); have hp_ : Kd.R Kd.bool 4 w128 w.heap.size (fun k_ => some k_ ≠ (.slice (some ad214) t190.length co126 : Value).ownBlock ∧ some k_ ≠ (v205 : Value).ownBlock) (.slice (some ⟨go124, 0, none⟩) x5_3.length co124) y217 := (by rw [hw, Ny217.out]; exact HP127.1); clear HP127; have n0_ := aM (hp_); have n1_ := aM (cJ (v := (.slice (some ⟨go124, 0, none⟩) x5_3.length co124)) (v1 := (.slice (some ⟨go124, 0, none⟩) x5_3.length co124)) (ok := (fun k_ => some k_ ≠ (v205 : Value).ownBlock)) (by (with_reducible repeat (first | apply rA | apply rN | apply rD)); exact bJ HO_7.out (fun _ hk => ⟨hk.2, hk.1⟩)) hg (.inl rfl)); have n2_ := aM (cJ (v := (.slice (some ⟨go124, 0, none⟩) x5_3.length co124)) (v1 := (.slice (some ⟨go124, 0, none⟩) x5_3.length co124)) (ok := (fun k_ => some k_ ≠ (.slice (some ad214) t190.length co126 : Value).ownBlock)) (by (with_reducible repeat (first | apply rA | apply rN | apply rD)); exact bJ HO_11.out (fun _ hk => ⟨hk.2, hk.1⟩)) hg (.inl rfl)); have n3_ := aM (blk_grown (g := gb183) (o := .cells #[.int .u8 a0_0, .slice (some ad189) l0_1.length c0_1] 49 (0, 0)) (by (with_reducible repeat (first | refine kN ?_ _ | refine kD ?_ | refine kA ?_ _)); exact BK183.out) hg (Kd.R_ne HO_5.out BK183.out (by decide))); have n4_ := aM ((by rw [hw]; exact bS (HB.out) GB124.out : Below w.heap.size w w128)); clear HO_5; clear HO_7; clear HO_11; clear BK183; clear HB; have HO_5 := n0_; have HO_7 := n1_; have HO_11 := n2_; have BK183 := n3_; have HB := n4_; clear n0_ n1_ n2_ n3_ n4_; clear hg hw hp_))
                      go_roundg k3
                      case measure => have := HJ9.out; have := HJ62.out; have := HK3.out; omega
                      case rel => exact ⟨(y217), (wrap64 (x12_3 + 1)), (by first | rfl | (simp; done) | (simp [*]; done) | (simp [Int.tmod_eq_emod_of_nonneg]; done)), H', ⟨by have := HJ9.out; have := HJ62.out; have := HK3.out; omega⟩, ⟨by (with_reducible repeat (first | apply rA | apply rN | apply rD)); exact HO_5.out⟩, ⟨by (with_reducible repeat (first | apply rA | apply rN | apply rD)); exact bJ HO_7.out (fun _ hk => ⟨hk.2, hk.1⟩)⟩, ⟨by (with_reducible repeat (first | apply rA | apply rN | apply rD)); exact bJ HO_11.out (fun _ hk => ⟨hk.2, hk.1⟩)⟩, ⟨by (with_reducible repeat (first | refine kN ?_ _ | refine kD ?_ | refine kA ?_ _)); exact BK183.out⟩, ⟨by repeat (first | (with_reducible first | exact HB.out | apply bA | apply bN | apply b1 | refine bS ?_ GE183.out) | exact HB.out)⟩⟩
                     ·rw [if_neg c123] at H
                      exact absurd H (by simp)
                   ·rw [if_neg c112] at H
                    exact absurd H (by simp)
                  ·rw [if_neg c111] at H
                   exact absurd H (by simp)
                ·rw [if_neg c91] at H
                 have c91b0 : decide (x12_3 < a1) = false := aK c91
                 clear c91
                 obtain rfl := bU H
                 go_wp2
                 go_ret
                 exact ⟨_, by first | rfl | (simp [errW_none, errW_some] <;> rfl) | (simp [errW_none, errW_some]; exact ⟨rfl, rfl⟩) | (simp [errW_none, errW_some]; exact ⟨rfl, rfl, rfl⟩) | (simp [*, errW_none, errW_some] <;> rfl), by (with_reducible repeat (first | apply rA | apply rN | apply rD)); exact bJ HO_5.out (fun _ hk => trivial), by repeat (first | (with_reducible first | exact HB.out | apply bA | apply bN | apply b1 | refine bS ?_ GE183.out) | exact HB.out)⟩
            ·rw [if_neg c78] at H
             exact absurd H (by simp)
       ·rw [if_neg c28] at H
        exact absurd H (by simp)
  ·rw [if_neg c4] at H
   exact absurd H (by simp)
 ·rw [if_neg c3] at H
  exact absurd H (by simp)


def spec_TermHas.f (k : Nat) (a0 : ByteArray) (a1 : Int) : Option Bool := match Tm.of a0 with | some t => (if 0 ≤ a1 ∧ a1 ≤ 200 then (spec_l7Marks.f k t.toS.f0 t.toS.f1 (a1 + 1)).bind fun l => (if a1 < (l.length : Int) then some (rdOf false l a1) else none) else some false) | none => some false
theorem spec_TermHas.in_eq (v : Int) : spec_l6In.f v 0 200 = some (decide (0 ≤ v ∧ v ≤ 200)) := by
 unfold spec_l6In.f
 by_cases c1 : v ≥ 0
 ·rw [if_pos c1]; congr 1; rw [decide_eq_decide]; omega
 ·rw [if_neg c1, aK (by omega)]
set_option maxHeartbeats 2000000 in
set_option maxRecDepth 100000 in
theorem spec_TermHas.calls (k : Nat) (a0 : ByteArray) (a1 : Int) (r : Bool) (w : World) (h : spec_TermHas.f k a0 a1 = some r) :
  Calls Try.prog 10 #[.string a0, .int .i64 a1] w fun e w' => e = .returned (.bool r) ∧ Below w.heap.size w w' := by
 have C := spec_l7Of.calls a0
 have CI := fun W => spec_l6In.calls a1 0 200 _ W (spec_TermHas.in_eq a1)
 unfold spec_TermHas.f at h
 cases hp : Tm.of a0 with
 | none =>
  rw [hp] at C h
  obtain rfl := bU h
  have C0 : ∀ W, Calls Try.prog 28 #[.string a0] W fun e w' => ∃ f A n m, e = .returned (.tuple #[.agg #[.int .u8 f, .slice A n m], .bool false]) ∧ Below W.heap.size W w' := C
  clear C hp CI h
  go_enter Try.func10, Try.ntmps10
  go_wp2_with (go_at_call 28; refine (C0 _).mono ?_; rintro e w1 ⟨f, A, n, m, rfl, hb⟩; have HB := aM hb; clear hb)
  go_ret
  exact ⟨rfl, by repeat (first | with_reducible exact HB.out | with_reducible apply bA)⟩
 | some t =>
  rw [hp] at C h
  simp only at h
  have C0 : ∀ W, Calls Try.prog 28 #[.string a0] W fun e w' => ∃ A m, e = .returned (.tuple #[.agg #[.int .u8 t.toS.f0, .slice A t.toS.f1.length m], .bool true]) ∧ t.toS.f1.length ≤ m ∧ k49.C w' A t.toS.f1.length t.toS.f1 ∧ Below W.heap.size W w' := C
  by_cases hi : 0 ≤ a1 ∧ a1 ≤ 200
  ·rw [if_pos hi] at h
   obtain ⟨l, hl, h⟩ := Option.bind_eq_some_iff.mp h
   split at h
   case isFalse => cases h
   rename_i hlen
   obtain rfl := bU h
   rw [aH hi] at CI
   have hi0 := hi.1
   have hw1 : wrap64 (a1 + 1) = a1 + 1 := by unfold wrap64; omega
   have H := aM hl
   have HL := aM hlen
   have H0 := aM hi0
   clear C hp h hl hi hlen
   go_enter Try.func10, Try.ntmps10
   go_wp2_with (first | (go_at_call 28; refine (C0 _).mono ?_; rintro e w1 ⟨A, m, rfl, hm, hc, hb⟩; have HB := aM hb; have HC := aM hc; have HM := aM hm; clear hb hc hm) | (go_at_call 29; refine (CI _).mono ?_; rintro e w2 ⟨rfl, hd⟩; have BK := aD (blk_new w1 (.cells #[.int .u8 t.toS.f0, .slice A t.toS.f1.length m] 49 (0, 0))) (Drawn0.below hd); have c0_ : w2.cell? ⟨w1.heap.size, 0, none⟩ = some (.int .u8 t.toS.f0) := (aA BK 0).trans rfl; have c1_ : w2.cell? ⟨w1.heap.size, 1, none⟩ = some (.slice A t.toS.f1.length m) := (aA BK 1).trans rfl; have HD := aM (Drawn0.below hd); clear hd BK) | (go_at_call 30; refine (spec_l7Marks.calls k _ _ _ _ (a1 + 1) l _ (bF (Kd.C_alloc HC.out _) HD.out) HM.out H.out).mono ?_; rintro e w3 ⟨v0, rfl, ho, hb⟩; obtain ⟨A0, c0, rfl, q0, k0⟩ := Kd.R_reads ho; obtain ⟨ad, rfl, hcell⟩ := (Kd.reads_of_C (d := false) k0).at_ a1 H0.out HL.out; have HB3 := aM (aE (aE (bA HB.out _) HD.out) hb); have hlen := HL.out; clear hb ho k0 q0))
   go_ret
   exact ⟨rfl, HB3.out⟩
  ·rw [if_neg hi] at h
   obtain rfl := bU h
   rw [aK hi] at CI
   clear C hp h hi
   go_enter Try.func10, Try.ntmps10
   go_wp2_with (first | (go_at_call 28; refine (C0 _).mono ?_; rintro e w1 ⟨A, m, rfl, hm, hc, hb⟩; have HB := aM hb; clear hb hc hm) | (go_at_call 29; refine (CI _).mono ?_; rintro e w2 ⟨rfl, hd⟩; have HD := aM (Drawn0.below hd); clear hd))
   go_ret
   exact ⟨rfl, aE (bA HB.out _) HD.out⟩

def impl_SetHas.f (a0 : ByteArray) (a1 : Int) : Option (Bool) := (impl_setOf.f a0).bind fun bt368 => (if bt368.2.2 = true then ((impl_set_has.f bt368.1 bt368.2.1 a1).bind fun t376 => (some t376)) else (some false))
set_option maxHeartbeats 8000000 in
set_option maxRecDepth 100000 in
theorem impl_SetHas.calls (a0 : ByteArray) (a1 : Int) (r : Bool) (w : World) (h : impl_SetHas.f a0 a1 = some r) :
  Calls Try.prog 12 #[.string a0, .int .i64 a1] w fun e w' => e = .returned (.bool r) ∧ Below w.heap.size w w' := by
 have HB := aM (cE w.heap.size w)
 have H : ((impl_setOf.f a0).bind fun bt368 => (if bt368.2.2 = true then ((impl_set_has.f bt368.1 bt368.2.1 a1).bind fun t376 => (some t376)) else (some false))) = some r := h
 clear h
 replace H := Option.bind_eq_some_iff.mp H
 obtain ⟨⟨t368, t371, t374⟩, A30, H⟩ := H
 replace H : (if t374 = true then ((impl_set_has.f t368 t371 a1).bind fun t376 => (some t376)) else (some false)) = some r := H
 have A3 := aM A30
 clear A30
 by_cases c4 : t374 = true
 ·subst c4
  replace H : ((impl_set_has.f t368 t371 a1).bind fun t376 => (some t376)) = some r := by rw [if_pos rfl] at H; exact H
  replace H := Option.bind_eq_some_iff.mp H
  obtain ⟨t376, A50, H⟩ := H
  replace H : (some t376) = some r := H
  have A5 := aM A50
  clear A50
  obtain rfl := bU H
  go_enter Try.func12, Try.ntmps12
  go_wp2_with (first | ((with_reducible refine aY (f := 32) rfl ?_); refine gL 9 Try.func32 #[.string a0] ?_; (with_reducible refine (impl_setOf.calls a0 t368 t371 true _ A3.out).mono ?_); rintro e w6 ⟨v369, v372, rfl, ho0, ho1, hb⟩; refine ⟨_, rfl, ?_⟩; have HO370 := aM (bP ho0 (aG HB.out)); have HO373 := aM (bP ho1 (aG HB.out)); replace HB := aM (aE HB.out hb); (try clear hb); (try clear ho0); (try clear ho1)) | ((with_reducible refine aZ (N := 5) rfl ?_); refine bB ?hg (N := 5) ?hd (cs := #[.slice none 0 0, .slice none 0 0]) (t := 56) ?hr ?_; (case hd => rfl); (case hg => rfl); (case hr => first | (go_simp; done)); intro gb375 hg w7 hbox hb; replace HO370 := aM (bG HO370.out hb); replace HO373 := aM (bG HO373.out hb); have BK375 := aM hbox; have GE375 := aM ((by rw [hg]; exact (aG HB.out) : w.heap.size ≤ gb375)); replace HB := aM (aE HB.out hb); clear hb hbox hg; obtain ⟨Ao8, co8, eo8⟩ := bL HO370.out; subst eo8; have hcz9_0 : w7.cell? ⟨gb375, 0, none⟩ = some (.slice none 0 0) := (aA BK375.out 0).trans rfl; have hcz9_1 : w7.cell? ⟨gb375, 1, none⟩ = some (.slice none 0 0) := (aA BK375.out 1).trans rfl; have hfz9_0 := aC BK375.out 0; have hfz9_1 := aC BK375.out 1; obtain ⟨Ao10, co10, eo10⟩ := bL HO373.out; subst eo10) | (go_at_call 33; (with_reducible refine (impl_set_has.calls _ _ t368 _ _ t371 a1 t376 _ ?side1 ?side2 ?side3 ?side4 A5.out).mono ?_); (case side1 => refine (bM (e := 4) (base := w.heap.size) (ok := fun k_ => some k_ ≠ (.slice Ao10 t371.length co10 : Value).ownBlock) (n := t368.length) (c := co8) ?_).2.2; exact (by exact (bJ (bC (p := ⟨gb375, 1, none⟩) (bC (p := ⟨gb375, 0, none⟩) (bE HO370.out BK375.out (by decide)) (fun _ hk => hk.2) (.slice Ao8 t368.length co8)) (fun _ hk => hk.2) (.slice Ao10 t371.length co10)) (fun _ h_ => h_.1)))); (case side2 => exact (bM HO370.out).2.1); (case side3 => refine (bM (e := 4) (base := w.heap.size) (ok := fun k_ => some k_ ≠ (.slice Ao8 t368.length co8 : Value).ownBlock) (n := t371.length) (c := co10) ?_).2.2; exact (by exact (bJ (bC (p := ⟨gb375, 1, none⟩) (bC (p := ⟨gb375, 0, none⟩) (bE HO373.out BK375.out (by decide)) (fun _ hk => hk.2) (.slice Ao8 t368.length co8)) (fun _ hk => hk.2) (.slice Ao10 t371.length co10)) (fun _ h_ => h_.1)))); (case side4 => exact (bM HO373.out).2.1); rintro e w11 ⟨rfl, hb⟩; replace HB := aM (aE (by repeat (first | (with_reducible first | exact HB.out | refine bS ?_ GE375.out))) hb); (try clear hb)))
  go_ret
  exact ⟨by first | rfl | (simp [*, errW_none, errW_some] <;> rfl), HB.out⟩
 ·replace c4 := Bool.eq_false_iff.mpr c4
  subst c4
  replace H : (some false) = some r := by rw [if_neg (show ¬ (false = true) by decide)] at H; exact H
  obtain rfl := bU H
  go_enter Try.func12, Try.ntmps12
  go_wp2_with (first | ((with_reducible refine aY (f := 32) rfl ?_); refine gL 9 Try.func32 #[.string a0] ?_; (with_reducible refine (impl_setOf.calls a0 t368 t371 false _ A3.out).mono ?_); rintro e w12 ⟨v369, v372, rfl, ho0, ho1, hb⟩; refine ⟨_, rfl, ?_⟩; have HO370 := aM (bP ho0 (aG HB.out)); have HO373 := aM (bP ho1 (aG HB.out)); replace HB := aM (aE HB.out hb); (try clear hb); (try clear ho0); (try clear ho1)) | ((with_reducible refine aZ (N := 5) rfl ?_); refine bB ?hg (N := 5) ?hd (cs := #[.slice none 0 0, .slice none 0 0]) (t := 56) ?hr ?_; (case hd => rfl); (case hg => rfl); (case hr => first | (go_simp; done)); intro gb375 hg w13 hbox hb; replace HO370 := aM (bG HO370.out hb); replace HO373 := aM (bG HO373.out hb); have BK375 := aM hbox; have GE375 := aM ((by rw [hg]; exact (aG HB.out) : w.heap.size ≤ gb375)); replace HB := aM (aE HB.out hb); clear hb hbox hg; obtain ⟨Ao14, co14, eo14⟩ := bL HO370.out; subst eo14; have hcz15_0 : w13.cell? ⟨gb375, 0, none⟩ = some (.slice none 0 0) := (aA BK375.out 0).trans rfl; have hcz15_1 : w13.cell? ⟨gb375, 1, none⟩ = some (.slice none 0 0) := (aA BK375.out 1).trans rfl; have hfz15_0 := aC BK375.out 0; have hfz15_1 := aC BK375.out 1; obtain ⟨Ao16, co16, eo16⟩ := bL HO373.out; subst eo16))
  go_ret
  exact ⟨by first | rfl | (simp [*, errW_none, errW_some] <;> rfl), by repeat (first | (with_reducible first | exact HB.out | refine bS ?_ GE375.out))⟩


def laws_FnTermHas.f (k : Nat) (l0 : List Int) : Option (Bool) := if (l0.length : Int) > 1048576 then (some true) else ((spec_DrawTermHas.f k l0).bind fun bt366 => ((impl_TermHas.f k bt366.1 bt366.2).bind fun t368 => ((spec_TermHas.f k bt366.1 bt366.2).bind fun t369 => (if ((t368 == t369) = true) then ((impl_TermSet.f k bt366.1).bind fun bt370 => (if bt370.2 = true then (if bt366.2 < 0 then (some true) else (if bt366.2 > 200 then (some true) else ((impl_SetHas.f bt370.1 bt366.2).bind fun t372 => (some (t372 == t368))))) else (some true))) else (some false)))))
set_option maxHeartbeats 8000000 in
set_option maxRecDepth 100000 in
theorem laws_FnTermHas.calls (k : Nat) (A0 : Option Addr) (c0 : Nat) (l0 : List Int) (r : Bool) (w : World) (hr0 : Kd.C (Kd.int .u8) w A0 l0.length l0) (hc0 : l0.length ≤ c0) (h : laws_FnTermHas.f k l0 = some r) :
  Calls Try.prog 3 #[.slice A0 l0.length c0] w fun e w' => e = .returned (.bool r) ∧ Below w.heap.size w w' := by
 have HR0 := aM hr0
 have HC0 := aM hc0
 clear hr0 hc0
 have HB := aM (cE w.heap.size w)
 have H : (if (l0.length : Int) > 1048576 then (some true) else ((spec_DrawTermHas.f k l0).bind fun bt366 => ((impl_TermHas.f k bt366.1 bt366.2).bind fun t368 => ((spec_TermHas.f k bt366.1 bt366.2).bind fun t369 => (if ((t368 == t369) = true) then ((impl_TermSet.f k bt366.1).bind fun bt370 => (if bt370.2 = true then (if bt366.2 < 0 then (some true) else (if bt366.2 > 200 then (some true) else ((impl_SetHas.f bt370.1 bt366.2).bind fun t372 => (some (t372 == t368))))) else (some true))) else (some false)))))) = some r := h
 clear h
 by_cases c2 : (l0.length : Int) > 1048576
 ·rw [if_pos c2] at H
  have c2b0 : decide (1048576 < (l0.length : Int)) = true := aH c2
  have c2b1 : decide (1048576 < l0.length) = true := aH (by omega)
  clear c2
  obtain rfl := bU H
  go_enter Try.func3, Try.ntmps3
  go_wp2
  go_ret
  exact ⟨by first | rfl | (simp [errW_none, errW_some] <;> rfl) | (simp [errW_none, errW_some]; exact ⟨rfl, rfl⟩) | (simp [errW_none, errW_some]; exact ⟨rfl, rfl, rfl⟩) | (simp [*, errW_none, errW_some] <;> rfl), by repeat (first | (with_reducible first | exact HB.out | apply bA | apply bN | apply b1) | exact HB.out)⟩
 ·rw [if_neg c2] at H
  have c2b0 : decide (1048576 < (l0.length : Int)) = false := aK c2
  have c2b1 : decide (1048576 < l0.length) = false := aK (by omega)
  clear c2
  replace H := Option.bind_eq_some_iff.mp H
  obtain ⟨⟨t366, t367⟩, A30, H⟩ := H
  replace H : ((impl_TermHas.f k t366 t367).bind fun t368 => ((spec_TermHas.f k t366 t367).bind fun t369 => (if ((t368 == t369) = true) then ((impl_TermSet.f k t366).bind fun bt370 => (if bt370.2 = true then (if t367 < 0 then (some true) else (if t367 > 200 then (some true) else ((impl_SetHas.f bt370.1 t367).bind fun t372 => (some (t372 == t368))))) else (some true))) else (some false)))) = some r := H
  have A3 := aM A30
  clear A30
  replace H := Option.bind_eq_some_iff.mp H
  obtain ⟨t368, A40, H⟩ := H
  replace H : ((spec_TermHas.f k t366 t367).bind fun t369 => (if ((t368 == t369) = true) then ((impl_TermSet.f k t366).bind fun bt370 => (if bt370.2 = true then (if t367 < 0 then (some true) else (if t367 > 200 then (some true) else ((impl_SetHas.f bt370.1 t367).bind fun t372 => (some (t372 == t368))))) else (some true))) else (some false))) = some r := H
  have A4 := aM A40
  clear A40
  replace H := Option.bind_eq_some_iff.mp H
  obtain ⟨t369, A50, H⟩ := H
  replace H : (if ((t368 == t369) = true) then ((impl_TermSet.f k t366).bind fun bt370 => (if bt370.2 = true then (if t367 < 0 then (some true) else (if t367 > 200 then (some true) else ((impl_SetHas.f bt370.1 t367).bind fun t372 => (some (t372 == t368))))) else (some true))) else (some false)) = some r := H
  have A5 := aM A50
  clear A50
  by_cases c6 : ((t368 == t369) = true)
  ·rw [if_pos c6] at H
   have c6b0 : (t368 == t369) = true := c6
   (try (have c6b1 : decide (t368 = t369) = true := by simpa using c6))
   (try (have c6b2 : (t368 == t369) = true := by simpa using c6))
   clear c6
   replace H := Option.bind_eq_some_iff.mp H
   obtain ⟨⟨t370, t371⟩, A70, H⟩ := H
   replace H : (if t371 = true then (if t367 < 0 then (some true) else (if t367 > 200 then (some true) else ((impl_SetHas.f t370 t367).bind fun t372 => (some (t372 == t368))))) else (some true)) = some r := H
   have A7 := aM A70
   clear A70
   by_cases c8 : t371 = true
   ·subst c8
    have H1 : (if t367 < 0 then (some true) else (if t367 > 200 then (some true) else ((impl_SetHas.f t370 t367).bind fun t372 => (some (t372 == t368))))) = some r := by rw [if_pos rfl] at H; exact H
    clear H
    have H := H1
    clear H1
    by_cases c9 : t367 < 0
    ·rw [if_pos c9] at H
     have c9b0 : decide (t367 < 0) = true := aH c9
     clear c9
     obtain rfl := bU H
     go_enter Try.func3, Try.ntmps3
     go_wp2_with (first | ((with_reducible refine aY (f := 8) rfl ?_); refine gL 15 Try.func8 #[.slice A0 l0.length c0] (hargs := (by (try simp only [aN, aQ, aT]); first | done | rfl | (simp only [List.length_drop, List.length_take]; rfl))) ?_; (with_reducible refine (spec_DrawTermHas.calls k _ _ l0 t366 t367 _ ?side1 ?side2 A3.out).mono ?_); (case side1 => repeat (first | exact HR0.out | (with_reducible refine Kd.C_alloc ?_ _) | (with_reducible refine Kd.C_drewN ?_ _) | (with_reducible refine Kd.C_drew ?_))); (case side2 => exact HC0.out); rintro e w10 ⟨rfl, hb⟩; refine ⟨_, rfl, ?_⟩; have n0_ := aM (aE (by repeat (first | (with_reducible first | exact HB.out | apply bA | apply bN | apply b1) | exact HB.out)) hb); clear HB; have HB := n0_; clear n0_; (try clear hb); (try clear hb2); (try clear hk); (try clear hi)) | ((with_reducible refine aY (f := 9) rfl ?_); refine gL 20 Try.func9 #[.string t366, .int .i64 t367] (hargs := (by (try simp only [aN, aQ, aT]); first | done | rfl | (simp only [List.length_drop, List.length_take]; rfl))) ?_; (with_reducible refine (impl_TermHas.calls k t366 t367 t368 _ A4.out).mono ?_); rintro e w11 ⟨rfl, hb⟩; refine ⟨_, rfl, ?_⟩; have n0_ := aM (aE (by repeat (first | (with_reducible first | exact HB.out | apply bA | apply bN | apply b1) | exact HB.out)) hb); clear HB; have HB := n0_; clear n0_; (try clear hb); (try clear hb2); (try clear hk); (try clear hi)) | ((with_reducible refine aY (f := 10) rfl ?_); refine gL 23 Try.func10 #[.string t366, .int .i64 t367] (hargs := (by (try simp only [aN, aQ, aT]); first | done | rfl | (simp only [List.length_drop, List.length_take]; rfl))) ?_; (with_reducible refine (spec_TermHas.calls k t366 t367 t369 _ A5.out).mono ?_); rintro e w12 ⟨rfl, hb⟩; refine ⟨_, rfl, ?_⟩; have n0_ := aM (aE (by repeat (first | (with_reducible first | exact HB.out | apply bA | apply bN | apply b1) | exact HB.out)) hb); clear HB; have HB := n0_; clear n0_; (try clear hb); (try clear hb2); (try clear hk); (try clear hi)) | ((with_reducible refine aY (f := 11) rfl ?_); refine gL 31 Try.func11 #[.string t366] (hargs := (by (try simp only [aN, aQ, aT]); first | done | rfl | (simp only [List.length_drop, List.length_take]; rfl))) ?_; (with_reducible refine (impl_TermSet.calls k t366 t370 true _ A7.out).mono ?_); rintro e w13 ⟨rfl, hb⟩; refine ⟨_, rfl, ?_⟩; have n0_ := aM (aE (by repeat (first | (with_reducible first | exact HB.out | apply bA | apply bN | apply b1) | exact HB.out)) hb); clear HB; have HB := n0_; clear n0_; (try clear hb); (try clear hb2); (try clear hk); (try clear hi)))
     go_ret
     exact ⟨by first | rfl | (simp [errW_none, errW_some] <;> rfl) | (simp [errW_none, errW_some]; exact ⟨rfl, rfl⟩) | (simp [errW_none, errW_some]; exact ⟨rfl, rfl, rfl⟩) | (simp [*, errW_none, errW_some] <;> rfl), by repeat (first | (with_reducible first | exact HB.out | apply bA | apply bN | apply b1) | exact HB.out)⟩
    ·rw [if_neg c9] at H
     have c9b0 : decide (t367 < 0) = false := aK c9
     clear c9
     by_cases c14 : t367 > 200
     ·rw [if_pos c14] at H
      have c14b0 : decide (200 < t367) = true := aH c14
      clear c14
      obtain rfl := bU H
      go_enter Try.func3, Try.ntmps3
      go_wp2_with (first | ((with_reducible refine aY (f := 8) rfl ?_); refine gL 15 Try.func8 #[.slice A0 l0.length c0] (hargs := (by (try simp only [aN, aQ, aT]); first | done | rfl | (simp only [List.length_drop, List.length_take]; rfl))) ?_; (with_reducible refine (spec_DrawTermHas.calls k _ _ l0 t366 t367 _ ?side1 ?side2 A3.out).mono ?_); (case side1 => repeat (first | exact HR0.out | (with_reducible refine Kd.C_alloc ?_ _) | (with_reducible refine Kd.C_drewN ?_ _) | (with_reducible refine Kd.C_drew ?_))); (case side2 => exact HC0.out); rintro e w15 ⟨rfl, hb⟩; refine ⟨_, rfl, ?_⟩; have n0_ := aM (aE (by repeat (first | (with_reducible first | exact HB.out | apply bA | apply bN | apply b1) | exact HB.out)) hb); clear HB; have HB := n0_; clear n0_; (try clear hb); (try clear hb2); (try clear hk); (try clear hi)) | ((with_reducible refine aY (f := 9) rfl ?_); refine gL 20 Try.func9 #[.string t366, .int .i64 t367] (hargs := (by (try simp only [aN, aQ, aT]); first | done | rfl | (simp only [List.length_drop, List.length_take]; rfl))) ?_; (with_reducible refine (impl_TermHas.calls k t366 t367 t368 _ A4.out).mono ?_); rintro e w16 ⟨rfl, hb⟩; refine ⟨_, rfl, ?_⟩; have n0_ := aM (aE (by repeat (first | (with_reducible first | exact HB.out | apply bA | apply bN | apply b1) | exact HB.out)) hb); clear HB; have HB := n0_; clear n0_; (try clear hb); (try clear hb2); (try clear hk); (try clear hi)) | ((with_reducible refine aY (f := 10) rfl ?_); refine gL 23 Try.func10 #[.string t366, .int .i64 t367] (hargs := (by (try simp only [aN, aQ, aT]); first | done | rfl | (simp only [List.length_drop, List.length_take]; rfl))) ?_; (with_reducible refine (spec_TermHas.calls k t366 t367 t369 _ A5.out).mono ?_); rintro e w17 ⟨rfl, hb⟩; refine ⟨_, rfl, ?_⟩; have n0_ := aM (aE (by repeat (first | (with_reducible first | exact HB.out | apply bA | apply bN | apply b1) | exact HB.out)) hb); clear HB; have HB := n0_; clear n0_; (try clear hb); (try clear hb2); (try clear hk); (try clear hi)) | ((with_reducible refine aY (f := 11) rfl ?_); refine gL 31 Try.func11 #[.string t366] (hargs := (by (try simp only [aN, aQ, aT]); first | done | rfl | (simp only [List.length_drop, List.length_take]; rfl))) ?_; (with_reducible refine (impl_TermSet.calls k t366 t370 true _ A7.out).mono ?_); rintro e w18 ⟨rfl, hb⟩; refine ⟨_, rfl, ?_⟩; have n0_ := aM (aE (by repeat (first | (with_reducible first | exact HB.out | apply bA | apply bN | apply b1) | exact HB.out)) hb); clear HB; have HB := n0_; clear n0_; (try clear hb); (try clear hb2); (try clear hk); (try clear hi)))
      go_ret
      exact ⟨by first | rfl | (simp [errW_none, errW_some] <;> rfl) | (simp [errW_none, errW_some]; exact ⟨rfl, rfl⟩) | (simp [errW_none, errW_some]; exact ⟨rfl, rfl, rfl⟩) | (simp [*, errW_none, errW_some] <;> rfl), by repeat (first | (with_reducible first | exact HB.out | apply bA | apply bN | apply b1) | exact HB.out)⟩
     ·rw [if_neg c14] at H
      have c14b0 : decide (200 < t367) = false := aK c14
      clear c14
      replace H := Option.bind_eq_some_iff.mp H
      obtain ⟨t372, A190, H⟩ := H
      replace H : (some (t372 == t368)) = some r := H
      have A19 := aM A190
      clear A190
      obtain rfl := bU H
      go_enter Try.func3, Try.ntmps3
      go_wp2_with (first | ((with_reducible refine aY (f := 8) rfl ?_); refine gL 15 Try.func8 #[.slice A0 l0.length c0] (hargs := (by (try simp only [aN, aQ, aT]); first | done | rfl | (simp only [List.length_drop, List.length_take]; rfl))) ?_; (with_reducible refine (spec_DrawTermHas.calls k _ _ l0 t366 t367 _ ?side1 ?side2 A3.out).mono ?_); (case side1 => repeat (first | exact HR0.out | (with_reducible refine Kd.C_alloc ?_ _) | (with_reducible refine Kd.C_drewN ?_ _) | (with_reducible refine Kd.C_drew ?_))); (case side2 => exact HC0.out); rintro e w20 ⟨rfl, hb⟩; refine ⟨_, rfl, ?_⟩; have n0_ := aM (aE (by repeat (first | (with_reducible first | exact HB.out | apply bA | apply bN | apply b1) | exact HB.out)) hb); clear HB; have HB := n0_; clear n0_; (try clear hb); (try clear hb2); (try clear hk); (try clear hi)) | ((with_reducible refine aY (f := 9) rfl ?_); refine gL 20 Try.func9 #[.string t366, .int .i64 t367] (hargs := (by (try simp only [aN, aQ, aT]); first | done | rfl | (simp only [List.length_drop, List.length_take]; rfl))) ?_; (with_reducible refine (impl_TermHas.calls k t366 t367 t368 _ A4.out).mono ?_); rintro e w21 ⟨rfl, hb⟩; refine ⟨_, rfl, ?_⟩; have n0_ := aM (aE (by repeat (first | (with_reducible first | exact HB.out | apply bA | apply bN | apply b1) | exact HB.out)) hb); clear HB; have HB := n0_; clear n0_; (try clear hb); (try clear hb2); (try clear hk); (try clear hi)) | ((with_reducible refine aY (f := 10) rfl ?_); refine gL 23 Try.func10 #[.string t366, .int .i64 t367] (hargs := (by (try simp only [aN, aQ, aT]); first | done | rfl | (simp only [List.length_drop, List.length_take]; rfl))) ?_; (with_reducible refine (spec_TermHas.calls k t366 t367 t369 _ A5.out).mono ?_); rintro e w22 ⟨rfl, hb⟩; refine ⟨_, rfl, ?_⟩; have n0_ := aM (aE (by repeat (first | (with_reducible first | exact HB.out | apply bA | apply bN | apply b1) | exact HB.out)) hb); clear HB; have HB := n0_; clear n0_; (try clear hb); (try clear hb2); (try clear hk); (try clear hi)) | ((with_reducible refine aY (f := 11) rfl ?_); refine gL 31 Try.func11 #[.string t366] (hargs := (by (try simp only [aN, aQ, aT]); first | done | rfl | (simp only [List.length_drop, List.length_take]; rfl))) ?_; (with_reducible refine (impl_TermSet.calls k t366 t370 true _ A7.out).mono ?_); rintro e w23 ⟨rfl, hb⟩; refine ⟨_, rfl, ?_⟩; have n0_ := aM (aE (by repeat (first | (with_reducible first | exact HB.out | apply bA | apply bN | apply b1) | exact HB.out)) hb); clear HB; have HB := n0_; clear n0_; (try clear hb); (try clear hb2); (try clear hk); (try clear hi)) | (go_at_call 12; (with_reducible refine (impl_SetHas.calls t370 t367 t372 _ A19.out).mono ?_); rintro e w24 ⟨rfl, hb⟩; have n0_ := aM (aE (by repeat (first | (with_reducible first | exact HB.out | apply bA | apply bN | apply b1) | exact HB.out)) hb); clear HB; have HB := n0_; clear n0_; (try clear hb); (try clear hb2); (try clear hk); (try clear hi)))
      go_ret
      exact ⟨by first | rfl | (simp [errW_none, errW_some] <;> rfl) | (simp [errW_none, errW_some]; exact ⟨rfl, rfl⟩) | (simp [errW_none, errW_some]; exact ⟨rfl, rfl, rfl⟩) | (simp [*, errW_none, errW_some] <;> rfl), by repeat (first | (with_reducible first | exact HB.out | apply bA | apply bN | apply b1) | exact HB.out)⟩
   ·replace c8 := Bool.eq_false_iff.mpr c8
    subst c8
    have H1 : (some true) = some r := by rw [if_neg (show ¬ (false = true) by decide)] at H; exact H
    clear H
    have H := H1
    clear H1
    obtain rfl := bU H
    go_enter Try.func3, Try.ntmps3
    go_wp2_with (first | ((with_reducible refine aY (f := 8) rfl ?_); refine gL 15 Try.func8 #[.slice A0 l0.length c0] (hargs := (by (try simp only [aN, aQ, aT]); first | done | rfl | (simp only [List.length_drop, List.length_take]; rfl))) ?_; (with_reducible refine (spec_DrawTermHas.calls k _ _ l0 t366 t367 _ ?side1 ?side2 A3.out).mono ?_); (case side1 => repeat (first | exact HR0.out | (with_reducible refine Kd.C_alloc ?_ _) | (with_reducible refine Kd.C_drewN ?_ _) | (with_reducible refine Kd.C_drew ?_))); (case side2 => exact HC0.out); rintro e w25 ⟨rfl, hb⟩; refine ⟨_, rfl, ?_⟩; have n0_ := aM (aE (by repeat (first | (with_reducible first | exact HB.out | apply bA | apply bN | apply b1) | exact HB.out)) hb); clear HB; have HB := n0_; clear n0_; (try clear hb); (try clear hb2); (try clear hk); (try clear hi)) | ((with_reducible refine aY (f := 9) rfl ?_); refine gL 20 Try.func9 #[.string t366, .int .i64 t367] (hargs := (by (try simp only [aN, aQ, aT]); first | done | rfl | (simp only [List.length_drop, List.length_take]; rfl))) ?_; (with_reducible refine (impl_TermHas.calls k t366 t367 t368 _ A4.out).mono ?_); rintro e w26 ⟨rfl, hb⟩; refine ⟨_, rfl, ?_⟩; have n0_ := aM (aE (by repeat (first | (with_reducible first | exact HB.out | apply bA | apply bN | apply b1) | exact HB.out)) hb); clear HB; have HB := n0_; clear n0_; (try clear hb); (try clear hb2); (try clear hk); (try clear hi)) | ((with_reducible refine aY (f := 10) rfl ?_); refine gL 23 Try.func10 #[.string t366, .int .i64 t367] (hargs := (by (try simp only [aN, aQ, aT]); first | done | rfl | (simp only [List.length_drop, List.length_take]; rfl))) ?_; (with_reducible refine (spec_TermHas.calls k t366 t367 t369 _ A5.out).mono ?_); rintro e w27 ⟨rfl, hb⟩; refine ⟨_, rfl, ?_⟩; have n0_ := aM (aE (by repeat (first | (with_reducible first | exact HB.out | apply bA | apply bN | apply b1) | exact HB.out)) hb); clear HB; have HB := n0_; clear n0_; (try clear hb); (try clear hb2); (try clear hk); (try clear hi)) | ((with_reducible refine aY (f := 11) rfl ?_); refine gL 31 Try.func11 #[.string t366] (hargs := (by (try simp only [aN, aQ, aT]); first | done | rfl | (simp only [List.length_drop, List.length_take]; rfl))) ?_; (with_reducible refine (impl_TermSet.calls k t366 t370 false _ A7.out).mono ?_); rintro e w28 ⟨rfl, hb⟩; refine ⟨_, rfl, ?_⟩; have n0_ := aM (aE (by repeat (first | (with_reducible first | exact HB.out | apply bA | apply bN | apply b1) | exact HB.out)) hb); clear HB; have HB := n0_; clear n0_; (try clear hb); (try clear hb2); (try clear hk); (try clear hi)))
    go_ret
    exact ⟨by first | rfl | (simp [errW_none, errW_some] <;> rfl) | (simp [errW_none, errW_some]; exact ⟨rfl, rfl⟩) | (simp [errW_none, errW_some]; exact ⟨rfl, rfl, rfl⟩) | (simp [*, errW_none, errW_some] <;> rfl), by repeat (first | (with_reducible first | exact HB.out | apply bA | apply bN | apply b1) | exact HB.out)⟩
  ·rw [if_neg c6] at H
   have c6b0 : (t368 == t369) = false := by simpa using c6
   (try (have c6b1 : decide (t368 = t369) = false := by simpa using c6))
   (try (have c6b2 : (t368 == t369) = false := by simpa using c6))
   (try (have c6b3 : ¬ (t368 = t369) := by simpa using c6))
   clear c6
   obtain rfl := bU H
   go_enter Try.func3, Try.ntmps3
   go_wp2_with (first | ((with_reducible refine aY (f := 8) rfl ?_); refine gL 15 Try.func8 #[.slice A0 l0.length c0] (hargs := (by (try simp only [aN, aQ, aT]); first | done | rfl | (simp only [List.length_drop, List.length_take]; rfl))) ?_; (with_reducible refine (spec_DrawTermHas.calls k _ _ l0 t366 t367 _ ?side1 ?side2 A3.out).mono ?_); (case side1 => repeat (first | exact HR0.out | (with_reducible refine Kd.C_alloc ?_ _) | (with_reducible refine Kd.C_drewN ?_ _) | (with_reducible refine Kd.C_drew ?_))); (case side2 => exact HC0.out); rintro e w29 ⟨rfl, hb⟩; refine ⟨_, rfl, ?_⟩; have n0_ := aM (aE (by repeat (first | (with_reducible first | exact HB.out | apply bA | apply bN | apply b1) | exact HB.out)) hb); clear HB; have HB := n0_; clear n0_; (try clear hb); (try clear hb2); (try clear hk); (try clear hi)) | ((with_reducible refine aY (f := 9) rfl ?_); refine gL 20 Try.func9 #[.string t366, .int .i64 t367] (hargs := (by (try simp only [aN, aQ, aT]); first | done | rfl | (simp only [List.length_drop, List.length_take]; rfl))) ?_; (with_reducible refine (impl_TermHas.calls k t366 t367 t368 _ A4.out).mono ?_); rintro e w30 ⟨rfl, hb⟩; refine ⟨_, rfl, ?_⟩; have n0_ := aM (aE (by repeat (first | (with_reducible first | exact HB.out | apply bA | apply bN | apply b1) | exact HB.out)) hb); clear HB; have HB := n0_; clear n0_; (try clear hb); (try clear hb2); (try clear hk); (try clear hi)) | ((with_reducible refine aY (f := 10) rfl ?_); refine gL 23 Try.func10 #[.string t366, .int .i64 t367] (hargs := (by (try simp only [aN, aQ, aT]); first | done | rfl | (simp only [List.length_drop, List.length_take]; rfl))) ?_; (with_reducible refine (spec_TermHas.calls k t366 t367 t369 _ A5.out).mono ?_); rintro e w31 ⟨rfl, hb⟩; refine ⟨_, rfl, ?_⟩; have n0_ := aM (aE (by repeat (first | (with_reducible first | exact HB.out | apply bA | apply bN | apply b1) | exact HB.out)) hb); clear HB; have HB := n0_; clear n0_; (try clear hb); (try clear hb2); (try clear hk); (try clear hi)))
   go_ret
   exact ⟨by first | rfl | (simp [errW_none, errW_some] <;> rfl) | (simp [errW_none, errW_some]; exact ⟨rfl, rfl⟩) | (simp [errW_none, errW_some]; exact ⟨rfl, rfl, rfl⟩) | (simp [*, errW_none, errW_some] <;> rfl), by repeat (first | (with_reducible first | exact HB.out | apply bA | apply bN | apply b1) | exact HB.out)⟩

/-- THE ONE PURE STATEMENT of laws_FnTermHas: yours. -/
def laws_FnTermHas.Pure : Prop := ∀ (l0 : List Int), l0.length ≤ maxLen → l0.length * 1 ≤ 140737488351232 → (∀ x ∈ l0, (Lit.int .u8 x).wf = true) → ∃ k, laws_FnTermHas.f k l0 = some true
theorem laws_FnTermHas.walk (P : laws_FnTermHas.Pure) (a0 : Option Addr) (len0 cap0 : Nat) (z0 : List Int) (w : World) (w0 : (a0 = none ∧ len0 = 0 ∧ cap0 = 0 ∧ z0 = []) ∨ ∃ x, a0 = some x ∧ len0 ≤ cap0 ∧ cap0 ≤ maxLen ∧ z0.length = cap0 ∧ (∀ i, i < z0.length → w.cell? (x.add i) = some (.int .u8 (z0.getD i 0))) ∧ ∀ n ∈ z0, (Lit.int .u8 n).wf = true) (y0 : len0 * 1 ≤ 140737488351232) :
  Calls Try.prog 3 #[.slice a0 len0 cap0] w fun e w' => e = .returned (.bool true) ∧ Below w.heap.size w w' := by
 obtain ⟨l0, rfl, hr0, hm0, hw0, hc0⟩ := ReadsInt.ofRowC w0
 obtain ⟨k, h⟩ := P l0 hm0 y0 hw0
 refine (laws_FnTermHas.calls k _ _ l0 true w (cP (d := (0 : Int)) (h1 := fun _ => rfl) hr0) hc0 h).mono ?_
 rintro e w' ⟨rfl, hd⟩
 exact ⟨rfl, hd⟩

end Go.Proofs.Ytedhckahjinieaa.Q

namespace Go.Proofs.Ytedhckahjinieaa.Q
open Go.RowKit Go.Proofs.YtedhckahjinieaaW.PrintWords Go.Proofs.YtedhckahjinieaaW.PrintLast Go.Proofs.YtedhckahjinieaaW.PrintMore
attribute [local go_sem] max2_int max_two
set_option linter.unusedVariables false
set_option linter.unusedSimpArgs false

end Go.Proofs.Ytedhckahjinieaa.Q

namespace Go.Proofs.Ytedhckahjinieaa.Q
open Go.RowKit Go.Proofs.YtedhckahjinieaaW.PrintWords Go.Proofs.YtedhckahjinieaaW.PrintLast Go.Proofs.YtedhckahjinieaaW.PrintMore
attribute [local go_sem] max2_int max_two
set_option linter.unusedVariables false
set_option linter.unusedSimpArgs false

end Go.Proofs.Ytedhckahjinieaa.Q

namespace Go.Proofs.Ytedhckahjinieaa.Q
open Go.RowKit Go.Proofs.YtedhckahjinieaaW.PrintWords Go.Proofs.YtedhckahjinieaaW.PrintLast Go.Proofs.YtedhckahjinieaaW.PrintMore
attribute [local go_sem] max2_int max_two
set_option linter.unusedVariables false
set_option linter.unusedSimpArgs false

end Go.Proofs.Ytedhckahjinieaa.Q

namespace Go.Proofs.Ytedhckahjinieaa.Q
open Go.RowKit Go.Proofs.YtedhckahjinieaaW.PrintWords Go.Proofs.YtedhckahjinieaaW.PrintLast Go.Proofs.YtedhckahjinieaaW.PrintMore
attribute [local go_sem] max2_int max_two
set_option linter.unusedVariables false
set_option linter.unusedSimpArgs false

end Go.Proofs.Ytedhckahjinieaa.Q

namespace Go.Proofs.Ytedhckahjinieaa.Q
open Go.RowKit Go.Proofs.YtedhckahjinieaaW.PrintWords Go.Proofs.YtedhckahjinieaaW.PrintLast Go.Proofs.YtedhckahjinieaaW.PrintMore
attribute [local go_sem] max2_int max_two
set_option linter.unusedVariables false
set_option linter.unusedSimpArgs false
def spec_l1Signs.l0 : Nat → ByteArray → List Bool → Int → Option (List Bool × Bool)
 | 0, _, _, _ => none
 | k + 1, x0, x4, x5 => if x5 < (x0.size : Int) then (if 0 ≤ x5 then (if (bt x0 x5) = 48 then (if x4.length < 140737488355328 then (spec_l1Signs.l0 k x0 (x4 ++ [((bt x0 x5) == 49)]) (wrap64 (x5 + 1))) else (none)) else (if (bt x0 x5) = 49 then (if x4.length < 140737488355328 then (spec_l1Signs.l0 k x0 (x4 ++ [true]) (wrap64 (x5 + 1))) else (none)) else (some ((([] : List Bool)), false)))) else (none)) else (some (x4, true))
def spec_l1Signs.f (k : Nat) (a0 : ByteArray) : Option (List Bool × Bool) := spec_l1Signs.l0 k a0 (([] : List Bool)) 0

mutual
def spec_l1Read.j1 : Nat → ByteArray → Int → List Bool → List Bool → Option (List Bool × List Bool × Bool)
 | 0, _, _, _, _ => none
 | k + 1, x0, x5, x404000, x404001 => if (wrap64 (x5 + 2)) ≥ (x0.size : Int) then (spec_l1Read.j2 k x0 x5 true x404000 x404001) else (if 0 ≤ (wrap64 ((x0.size : Int) - 1)) then (if (wrap64 ((x0.size : Int) - 1)) < (x0.size : Int) then (spec_l1Read.j2 k x0 x5 ((bt x0 (wrap64 ((x0.size : Int) - 1))) != 41) x404000 x404001) else (none)) else (none))
def spec_l1Read.j2 : Nat → ByteArray → Int → Bool → List Bool → List Bool → Option (List Bool × List Bool × Bool)
 | 0, _, _, _, _, _ => none
 | k + 1, x0, x5, x37, x404000, x404001 => if x37 = true then (some (x404000, x404001, false)) else (if 0 ≤ x5 then (if x5 ≤ (x0.size : Int) then ((spec_l1Signs.f k (x0.extract 0 (x5 : Int).toNat)).bind fun bt404 => (if 0 ≤ (wrap64 (x5 + 1)) then (if (wrap64 (x5 + 1)) ≤ (wrap64 ((x0.size : Int) - 1)) then (if (wrap64 ((x0.size : Int) - 1)) ≤ (x0.size : Int) then ((spec_l1Signs.f k (x0.extract ((wrap64 (x5 + 1)) : Int).toNat ((wrap64 ((x0.size : Int) - 1)) : Int).toNat)).bind fun bt408 => (if bt404.2 = true then (if bt408.2 = true then (if (bt404.1.length : Int) > 60 then (some (x404000, x404001, false)) else (if (bt408.1.length : Int) > 60 then (some (x404000, x404001, false)) else (some (bt404.1, bt408.1, true)))) else (some (x404000, x404001, false))) else (some (x404000, x404001, false)))) else (none)) else (none)) else (none))) else (none)) else (none))
def spec_l1Read.l0 : Nat → ByteArray → Int → List Bool → List Bool → Option (List Bool × List Bool × Bool)
 | 0, _, _, _, _ => none
 | k + 1, x0, x5, x404000, x404001 => if x5 < (x0.size : Int) then (if 0 ≤ x5 then (if (bt x0 x5) = 40 then (spec_l1Read.j1 k x0 x5 x404000 x404001) else (spec_l1Read.l0 k x0 (wrap64 (x5 + 1)) x404000 x404001)) else (none)) else (spec_l1Read.j1 k x0 x5 x404000 x404001)
end
def spec_l1Read.f (k : Nat) (a0 : ByteArray) : Option (List Bool × List Bool × Bool) := spec_l1Read.l0 k a0 0 (([] : List Bool)) (([false] : List Bool))

def spec_l1Has.f (l0_0 : List Bool) (l0_1 : List Bool) (a1 : Int) : Option (Bool) := if a1 < (l0_0.length : Int) then (if 0 ≤ a1 then (some (rdOf false l0_0 a1)) else (none)) else (if (l0_1.length : Int) = 0 then (none) else (if 0 ≤ (Int.tmod (wrap64 (a1 - (l0_0.length : Int))) (l0_1.length : Int)) then (if (Int.tmod (wrap64 (a1 - (l0_0.length : Int))) (l0_1.length : Int)) < (l0_1.length : Int) then (some (rdOf false l0_1 (Int.tmod (wrap64 (a1 - (l0_0.length : Int))) (l0_1.length : Int)))) else (none)) else (none)))

mutual
def spec_l1Less.l0 : Nat → Int → Int → List Bool → List Bool → Option (List Bool × List Bool)
 | 0, _, _, _, _ => none
 | k + 1, x3, x4, x413000, x413001 => if x4 < x3 then (if x4 = 0 then (none) else (spec_l1Less.l1 k x3 x4 ((Int.tmod x3 x4) == 0) x4 x413000 x413001)) else (if (x413000.length : Int) > 0 then (if 0 ≤ (wrap64 ((x413000.length : Int) - 1)) then (if (wrap64 ((x413000.length : Int) - 1)) < (x413000.length : Int) then (if 0 ≤ (wrap64 (x3 - 1)) then (if (wrap64 (x3 - 1)) < (x413001.length : Int) then (if ((rdOf false x413000 (wrap64 ((x413000.length : Int) - 1))) == (rdOf false x413001 (wrap64 (x3 - 1)))) = true then ((some (([rdOf false x413001 (wrap64 (x3 - 1))] : List Bool) : List Bool)).bind fun y417 => (if (wrap64 (x3 - 1)) ≤ (x413001.length : Int) then ((some (x413001.take ((wrap64 (x3 - 1)) : Int).toNat : List Bool)).bind fun y420 => (if y417.length + y420.length < 140737488355328 then (if (wrap64 ((x413000.length : Int) - 1)) ≤ (x413000.length : Int) then ((spec_l1Less.f k (x413000.take ((wrap64 ((x413000.length : Int) - 1)) : Int).toNat) (y417 ++ y420)).bind fun bt433 => (some (bt433.1, bt433.2))) else (none)) else (none))) else (none))) else (some (x413000, x413001))) else (none)) else (none)) else (none)) else (none)) else (some (x413000, x413001)))
def spec_l1Less.l1 : Nat → Int → Int → Bool → Int → List Bool → List Bool → Option (List Bool × List Bool)
 | 0, _, _, _, _, _, _ => none
 | k + 1, x3, x4, x5, x6, x413000, x413001 => if x6 < x3 then (if x5 = true then (if 0 ≤ x6 then (if x6 < (x413001.length : Int) then (if 0 ≤ (wrap64 (x6 - x4)) then (if (wrap64 (x6 - x4)) < (x413001.length : Int) then (spec_l1Less.l1 k x3 x4 ((rdOf false x413001 x6) == (rdOf false x413001 (wrap64 (x6 - x4)))) (wrap64 (x6 + 1)) x413000 x413001) else (none)) else (none)) else (none)) else (none)) else (spec_l1Less.l0 k x3 (wrap64 (x4 + 1)) x413000 x413001)) else (if x5 = true then (if 0 ≤ x4 then (if x4 ≤ (x413001.length : Int) then ((spec_l1Less.f k x413000 (x413001.take (x4 : Int).toNat)).bind fun bt446 => (some (bt446.1, bt446.2))) else (none)) else (none)) else (spec_l1Less.l0 k x3 (wrap64 (x4 + 1)) x413000 x413001))
def spec_l1Less.f : Nat → List Bool → List Bool → Option (List Bool × List Bool)
 | 0, _, _ => none
 | k + 1, l0_0, l0_1 => spec_l1Less.l0 k (l0_1.length : Int) 1 l0_0 l0_1
end

mutual
def spec_l1Write.l0 : Nat → List Int → Int → List Bool → List Bool → Option (ByteArray)
 | 0, _, _, _, _ => none
 | k + 1, x3, x4, x474000, x474001 => if x4 < (x474000.length : Int) then (if 0 ≤ x4 then ((spec_l1Bit.f (rdOf false x474000 x4)).bind fun t478 => (if 0 ≤ t478 then (if t478 < 2 then (if x3.length < 140737488355328 then (spec_l1Write.l0 k (x3 ++ [bt (⟨#[48, 49]⟩ : ByteArray) t478]) (wrap64 (x4 + 1)) x474000 x474001) else (none)) else (none)) else (none))) else (none)) else (if x3.length < 140737488355328 then (spec_l1Write.l1 k (x3 ++ [40]) 0 x474000 x474001) else (none))
def spec_l1Write.l1 : Nat → List Int → Int → List Bool → List Bool → Option (ByteArray)
 | 0, _, _, _, _ => none
 | k + 1, x3, x5, x474000, x474001 => if x5 < (x474001.length : Int) then (if 0 ≤ x5 then ((spec_l1Bit.f (rdOf false x474001 x5)).bind fun t486 => (if 0 ≤ t486 then (if t486 < 2 then (if x3.length < 140737488355328 then (spec_l1Write.l1 k (x3 ++ [bt (⟨#[48, 49]⟩ : ByteArray) t486]) (wrap64 (x5 + 1)) x474000 x474001) else (none)) else (none)) else (none))) else (none)) else (if x3.length < 140737488355328 then (some (strOfNums (x3 ++ [41]))) else (none))
end
def spec_l1Write.f (k : Nat) (l0_0 : List Bool) (l0_1 : List Bool) : Option (ByteArray) := spec_l1Write.l0 k (([] : List Int)) 0 l0_0 l0_1

def spec_l1Done.f (k : Nat) (l0_0 : List Bool) (l0_1 : List Bool) : Option (ByteArray × Bool) := (spec_l1Less.f k l0_0 l0_1).bind fun bt494 => (if (bt494.1.length : Int) > 60 then (some ((⟨#[]⟩ : ByteArray), false)) else (if (bt494.2.length : Int) > 60 then (some ((⟨#[]⟩ : ByteArray), false)) else ((spec_l1Write.f k bt494.1 bt494.2).bind fun t501 => (some (t501, true)))))

def spec_l1Divisor.l0 : Nat → Int → Int → Option (Int)
 | 0, _, _ => none
 | k + 1, x0, x1 => if x1 > 0 then (if x1 = 0 then (none) else (spec_l1Divisor.l0 k x1 (Int.tmod x0 x1))) else (some x0)
def spec_l1Divisor.f (k : Nat) (a0 : Int) (a1 : Int) : Option (Int) := spec_l1Divisor.l0 k a0 a1

def spec_l1Shape.f (k : Nat) (l0_0 : List Bool) (l0_1 : List Bool) (l1_0 : List Bool) (l1_1 : List Bool) : Option (Int × Int) := (spec_l1Divisor.f k (l0_1.length : Int) (l1_1.length : Int)).bind fun t543 => (if t543 = 0 then (none) else (some (mx (l0_0.length : Int) (l1_0.length : Int), wrap64 ((wrap64 ((l0_1.length : Int) / t543)) * (l1_1.length : Int)))))

mutual
def spec_l2Two.j0 : Nat → Int → Bool → List Bool → List Bool → List Bool → List Bool → Option (ByteArray × Bool)
 | 0, _, _, _, _, _, _ => none
 | k + 1, x2, x32, x595000, x595001, x603000, x603001 => if x32 = true then (some ((⟨#[]⟩ : ByteArray), false)) else ((spec_l1Shape.f k x595000 x595001 x603000 x603001).bind fun bt603 => (spec_l2Two.l0 k x2 bt603.1 bt603.2 0 x595000 x595001 x603000 x603001 (([] : List Bool)) (([] : List Bool))))
def spec_l2Two.l0 : Nat → Int → Int → Int → Int → List Bool → List Bool → List Bool → List Bool → List Bool → List Bool → Option (ByteArray × Bool)
 | 0, _, _, _, _, _, _, _, _, _, _ => none
 | k + 1, x2, x12, x13, x15, x595000, x595001, x603000, x603001, x612000, x612001 => if x15 < (wrap64 (x12 + x13)) then ((spec_l1Has.f x595000 x595001 x15).bind fun t614 => ((spec_l1Bit.f t614).bind fun t615 => ((spec_l1Has.f x603000 x603001 x15).bind fun t616 => ((spec_l1Bit.f t616).bind fun t617 => (if 0 ≤ (wrap64 ((wrap64 (2 * t615)) + t617)) then (if x15 < x12 then (if x612000.length < 140737488355328 then (spec_l2Two.l0 k x2 x12 x13 (wrap64 (x15 + 1)) x595000 x595001 x603000 x603001 (x612000 ++ [((Go.bits .and .i64 (shr .i64 x2 (wrap64 ((wrap64 (2 * t615)) + t617))) 1) == 1)]) x612001) else (none)) else (if x612001.length < 140737488355328 then (spec_l2Two.l0 k x2 x12 x13 (wrap64 (x15 + 1)) x595000 x595001 x603000 x603001 x612000 (x612001 ++ [((Go.bits .and .i64 (shr .i64 x2 (wrap64 ((wrap64 (2 * t615)) + t617))) 1) == 1)])) else (none))) else (none)))))) else ((spec_l1Done.f k x612000 x612001).bind fun bt612 => (some (bt612.1, bt612.2)))
end
def spec_l2Two.f (k : Nat) (a0 : ByteArray) (a1 : ByteArray) (a2 : Int) : Option (ByteArray × Bool) := (spec_l1Read.f k a0).bind fun bt587 => ((spec_l1Read.f k a1).bind fun bt595 => (if bt587.2.2 = true then (spec_l2Two.j0 k a2 (!bt595.2.2) bt587.1 bt587.2.1 bt595.1 bt595.2.1) else (spec_l2Two.j0 k a2 true bt587.1 bt587.2.1 bt595.1 bt595.2.1)))

def spec_MakeEither.f (k : Nat) (a0 : ByteArray) (a1 : ByteArray) : Option (ByteArray × Bool) := (spec_l2Two.f k a0 a1 14).bind fun bt624 => (some (bt624.1, bt624.2))

def spec_MakeBoth.f (k : Nat) (a0 : ByteArray) (a1 : ByteArray) : Option (ByteArray × Bool) := (spec_l2Two.f k a0 a1 8).bind fun bt626 => (some (bt626.1, bt626.2))

def spec_l4Small.f (k : Nat) (a0 : ByteArray) : Option (List Bool × List Bool × Bool) := (spec_l1Read.f k a0).bind fun bt453 => (if bt453.2.2 = true then ((spec_l1Less.f k bt453.1 bt453.2.1).bind fun bt461 => (if (bt461.1.length : Int) ≤ 8 then (some (bt461.1, bt461.2, decide ((bt461.2.length : Int) ≤ 8))) else (some (bt461.1, bt461.2, false)))) else (some (bt453.1, bt453.2.1, false)))

def spec_l4Least.l0 : Nat → Int → List Bool → List Bool → Option (Int)
 | 0, _, _, _ => none
 | k + 1, x3, x472000, x472001 => if x3 ≤ 20 then ((spec_l1Has.f x472000 x472001 x3).bind fun t472 => (if t472 = true then (some x3) else (spec_l4Least.l0 k (wrap64 (x3 + 1)) x472000 x472001))) else (some 0)
def spec_l4Least.f (k : Nat) (l0_0 : List Bool) (l0_1 : List Bool) : Option (Int) := spec_l4Least.l0 k 1 l0_0 l0_1

def spec_l2Fill.f (k : Nat) (l0 : List Bool) (a1 : Int) : Option (ByteArray × Bool) := if 0 ≤ a1 then (if a1 ≤ (l0.length : Int) then ((spec_l1Done.f k (l0.take (a1 : Int).toNat) (l0.drop (a1 : Int).toNat)).bind fun bt504 => (some (bt504.1, bt504.2))) else (none)) else (none)

mutual
def spec_l4Star.l0 : Nat → Int → List Bool → List Int → Int → List Bool → List Bool → Option (List Bool)
 | 0, _, _, _, _, _, _ => none
 | k + 1, x1, x5, x6, x7, x507000, x507001 => if x7 < x1 then (spec_l4Star.l1 k x1 x5 x6 x7 0 x507000 x507001) else (some x5)
def spec_l4Star.j2 : Nat → Int → List Bool → List Int → Int → List Bool → List Bool → Option (List Bool)
 | 0, _, _, _, _, _, _ => none
 | k + 1, x1, x5, x6, x7, x507000, x507001 => if x7 = 0 then (if 0 < (x5.length : Int) then (spec_l4Star.l0 k x1 (x5.set (0 : Int).toNat true) x6 (wrap64 (x7 + 1)) x507000 x507001) else (none)) else (if 0 ≤ x7 then (if x7 < (x5.length : Int) then (if rdOf false x5 x7 = true then (spec_l4Star.l0 k x1 x5 x6 (wrap64 (x7 + 1)) x507000 x507001) else ((spec_l1Has.f x507000 x507001 x7).bind fun t519 => (if t519 = true then (if x6.length < 17592186044416 then (spec_l4Star.l0 k x1 (x5.set (x7 : Int).toNat true) (x6 ++ [x7]) (wrap64 (x7 + 1)) x507000 x507001) else (none)) else (spec_l4Star.l0 k x1 x5 x6 (wrap64 (x7 + 1)) x507000 x507001)))) else (none)) else (none))
def spec_l4Star.l1 : Nat → Int → List Bool → List Int → Int → Int → List Bool → List Bool → Option (List Bool)
 | 0, _, _, _, _, _, _, _ => none
 | k + 1, x1, x5, x6, x7, x8, x507000, x507001 => if x8 < (x6.length : Int) then (if 0 ≤ x7 then (if x7 < (x5.length : Int) then (if rdOf false x5 x7 = true then (spec_l4Star.j2 k x1 x5 x6 x7 x507000 x507001) else (if 0 ≤ x8 then (if 0 ≤ (wrap64 (x7 - (rd x6 x8))) then (if (wrap64 (x7 - (rd x6 x8))) < (x5.length : Int) then (spec_l4Star.l1 k x1 (x5.set (x7 : Int).toNat (rdOf false x5 (wrap64 (x7 - (rd x6 x8))))) x6 x7 (wrap64 (x8 + 1)) x507000 x507001) else (none)) else (none)) else (none))) else (none)) else (none)) else (spec_l4Star.j2 k x1 x5 x6 x7 x507000 x507001)
end
def spec_l4Star.f (k : Nat) (l0_0 : List Bool) (l0_1 : List Bool) (a1 : Int) : Option (List Bool) := if 0 ≤ a1 then (if (a1 : Int).toNat ≤ 281474976710656 then (spec_l4Star.l0 k a1 (List.replicate (a1 : Int).toNat false) (([] : List Int)) 0 l0_0 l0_1) else (none)) else (none)

def spec_l4Whole.f (k : Nat) (l0_0 : List Bool) (l0_1 : List Bool) : Option (ByteArray × Bool) := (spec_l4Least.f k l0_0 l0_1).bind fun t525 => (if t525 = 0 then (some ((⟨#[49, 40, 48, 41]⟩ : ByteArray), true)) else ((spec_l4Star.f k l0_0 l0_1 (wrap64 (2400 + t525))).bind fun t526 => ((spec_l2Fill.f k t526 2400).bind fun bt529 => (some (bt529.1, bt529.2)))))

def spec_StarOf.f (k : Nat) (a0 : ByteArray) : Option (ByteArray × Bool) := (spec_l4Small.f k a0).bind fun bt531 => (if bt531.2.2 = true then ((spec_l4Whole.f k bt531.1 bt531.2.1).bind fun bt539 => (some (bt539.1, bt539.2))) else (some ((⟨#[]⟩ : ByteArray), false)))

mutual
def spec_l4Sum.l0 : Nat → Bool → Int → Int → List Bool → Int → List Bool → List Bool → List Bool → List Bool → Option (ByteArray × Bool)
 | 0, _, _, _, _, _, _, _, _, _ => none
 | k + 1, x2, x8, x9, x10, x11, x545000, x545001, x546000, x546001 => if x11 < (wrap64 (x8 + x9)) then (spec_l4Sum.l1 k x2 x8 x9 x10 x11 false 0 x545000 x545001 x546000 x546001) else ((spec_l2Fill.f k x10 x8).bind fun bt551 => (some (bt551.1, bt551.2)))
def spec_l4Sum.l1 : Nat → Bool → Int → Int → List Bool → Int → Bool → Int → List Bool → List Bool → List Bool → List Bool → Option (ByteArray × Bool)
 | 0, _, _, _, _, _, _, _, _, _, _, _ => none
 | k + 1, x2, x8, x9, x10, x11, x12, x13, x545000, x545001, x546000, x546001 => if x13 ≤ x11 then (if x12 = true then (spec_l4Sum.l1 k x2 x8 x9 x10 x11 true (wrap64 (x13 + 1)) x545000 x545001 x546000 x546001) else ((spec_l1Has.f x545000 x545001 x13).bind fun t553 => (if t553 = true then ((spec_l1Has.f x546000 x546001 (wrap64 (x11 - x13))).bind fun t554 => (if t554 = true then (if x2 = true then (spec_l4Sum.l1 k x2 x8 x9 x10 x11 (x13 != (wrap64 (x11 - x13))) (wrap64 (x13 + 1)) x545000 x545001 x546000 x546001) else (spec_l4Sum.l1 k x2 x8 x9 x10 x11 true (wrap64 (x13 + 1)) x545000 x545001 x546000 x546001)) else (spec_l4Sum.l1 k x2 x8 x9 x10 x11 false (wrap64 (x13 + 1)) x545000 x545001 x546000 x546001))) else (spec_l4Sum.l1 k x2 x8 x9 x10 x11 false (wrap64 (x13 + 1)) x545000 x545001 x546000 x546001)))) else (if x10.length < 140737488355328 then (spec_l4Sum.l0 k x2 x8 x9 (x10 ++ [x12]) (wrap64 (x11 + 1)) x545000 x545001 x546000 x546001) else (none))
end
def spec_l4Sum.f (k : Nat) (l0_0 : List Bool) (l0_1 : List Bool) (l1_0 : List Bool) (l1_1 : List Bool) (a2 : Bool) : Option (ByteArray × Bool) := (spec_l1Shape.f k l0_0 l0_1 l1_0 l1_1).bind fun bt546 => (spec_l4Sum.l0 k a2 (wrap64 ((wrap64 ((wrap64 (2 * bt546.1)) + (wrap64 (3 * bt546.2)))) + 2)) bt546.2 (([] : List Bool)) 0 l0_0 l0_1 l1_0 l1_1)

def spec_SumOf.f (k : Nat) (a0 : ByteArray) (a1 : ByteArray) : Option (ByteArray × Bool) := (spec_l4Small.f k a0).bind fun bt558 => ((spec_l4Small.f k a1).bind fun bt566 => (if bt558.2.2 = true then (if bt566.2.2 = true then ((spec_l4Sum.f k bt558.1 bt558.2.1 bt566.1 bt566.2.1 false).bind fun bt574 => (some (bt574.1, bt574.2))) else (some ((⟨#[]⟩ : ByteArray), false))) else (some ((⟨#[]⟩ : ByteArray), false))))

mutual
def spec_SumTimes.j0 : Nat → ByteArray → Int → Bool → Option (ByteArray × Bool)
 | 0, _, _, _ => none
 | k + 1, x0, x1, x23 => if x23 = true then (some ((⟨#[]⟩ : ByteArray), false)) else (spec_SumTimes.l0 k x0 x1 (⟨#[49, 40, 48, 41]⟩ : ByteArray) 0)
def spec_SumTimes.l0 : Nat → ByteArray → Int → ByteArray → Int → Option (ByteArray × Bool)
 | 0, _, _, _, _ => none
 | k + 1, x0, x1, x8, x9 => if x9 < x1 then ((spec_SumOf.f k x8 x0).bind fun bt585 => (if bt585.2 = true then (spec_SumTimes.l0 k x0 x1 bt585.1 (wrap64 (x9 + 1))) else (some ((⟨#[]⟩ : ByteArray), false)))) else (some (x8, true))
end
def spec_SumTimes.f (k : Nat) (a0 : ByteArray) (a1 : Int) : Option (ByteArray × Bool) := (spec_l4Small.f k a0).bind fun bt576 => (if bt576.2.2 = true then ((spec_l6In.f a1 0 6).bind fun t584 => (spec_SumTimes.j0 k a0 a1 (!t584))) else (spec_SumTimes.j0 k a0 a1 true))

mutual
def spec_l7Set.j0 : Nat → ByteArray → Int → List (S49) → Option (ByteArray × Bool)
 | 0, _, _, _ => none
 | k + 1, x4, x629000, x629001 => if 1 < (x629001.length : Int) then ((spec_l7Set.f k ((rd_T49 x629001 1).f0) ((rd_T49 x629001 1).f1)).bind fun bt637 => (if bt637.2 = true then (if x629000 = 43 then ((spec_MakeEither.f k x4 bt637.1).bind fun bt639 => (some (bt639.1, bt639.2))) else (if x629000 = 46 then ((spec_SumOf.f k x4 bt637.1).bind fun bt641 => (some (bt641.1, bt641.2))) else ((spec_MakeBoth.f k x4 bt637.1).bind fun bt643 => (some (bt643.1, bt643.2))))) else (some ((⟨#[]⟩ : ByteArray), false)))) else (none)
def spec_l7Set.f : Nat → Int → List (S49) → Option (ByteArray × Bool)
 | 0, _, _ => none
 | k + 1, a0_0, l0_1 => if a0_0 = 48 then (some ((⟨#[40, 48, 41]⟩ : ByteArray), true)) else (if a0_0 = 49 then (some ((⟨#[49, 40, 48, 41]⟩ : ByteArray), true)) else (if a0_0 = 97 then (some ((⟨#[48, 49, 40, 48, 41]⟩ : ByteArray), true)) else (if 0 < (l0_1.length : Int) then ((spec_l7Set.f k ((rd_T49 l0_1 0).f0) ((rd_T49 l0_1 0).f1)).bind fun bt630 => (if bt630.2 = true then (if a0_0 = 42 then ((spec_StarOf.f k bt630.1).bind fun bt632 => (some (bt632.1, bt632.2))) else (if a0_0 ≥ 50 then (if a0_0 ≤ 53 then ((spec_SumTimes.f k bt630.1 ((a0_0 - 48) % 256)).bind fun bt634 => (some (bt634.1, bt634.2))) else (spec_l7Set.j0 k bt630.1 a0_0 l0_1)) else (spec_l7Set.j0 k bt630.1 a0_0 l0_1))) else (some ((⟨#[]⟩ : ByteArray), false)))) else (none))))
end

def spec_TermSet.f (k : Nat) (a0 : ByteArray) : Option (ByteArray × Bool) := match Tm.of a0 with | some t => spec_l7Set.f k t.toS.f0 t.toS.f1 | none => some (⟨#[]⟩, false)
end Go.Proofs.Ytedhckahjinieaa.Q

namespace Go.Proofs.Ytedhckahjinieaa.Q
open Go.RowKit Go.Proofs.YtedhckahjinieaaW.PrintWords Go.Proofs.YtedhckahjinieaaW.PrintLast Go.Proofs.YtedhckahjinieaaW.PrintMore
attribute [local go_sem] max2_int max_two
set_option linter.unusedVariables false
set_option linter.unusedSimpArgs false

end Go.Proofs.Ytedhckahjinieaa.Q

namespace Go.Proofs.Ytedhckahjinieaa.Q
open Go.RowKit Go.Proofs.YtedhckahjinieaaW.PrintWords Go.Proofs.YtedhckahjinieaaW.PrintLast Go.Proofs.YtedhckahjinieaaW.PrintMore
open Go.Proofs.Ytedhckahjinieaa.Pl (hasB)
set_option linter.unusedVariables false
set_option linter.unusedSimpArgs false
theorem wr {x : Int} (h0 : -9223372036854775808 ≤ x) (h1 : x ≤ 9223372036854775807) : wrap64 x = x := by unfold wrap64; omega
theorem Ev.eq {α : Type} {g f : Nat → Option α} {r : α} (h : g = f) (k : Ev f r) : Ev g r := h ▸ k
theorem Ev.end {α : Type} {g : Nat → Option α} {r : α} (h : ∀ k, g (k + 1) = some r) : Ev g r := ⟨1, fun k hk => by obtain ⟨m, rfl⟩ : ∃ m, k = m + 1 := ⟨k - 1, by omega⟩; exact h m⟩
theorem Ev.const {α : Type} {g : Nat → Option α} {r : α} (h : ∀ k, g k = some r) : Ev g r := ⟨0, fun k _ => h k⟩
theorem Ev.unique {α : Type} {g : Nat → Option α} {r q : α} (h : Ev g r) (k : Ev g q) : r = q := by
 obtain ⟨a, ha⟩ := h
 obtain ⟨b, hb⟩ := k
 have h1 := ha (max a b) (Nat.le_max_left _ _)
 rw [hb (max a b) (Nat.le_max_right _ _)] at h1
 exact (Option.some.inj h1).symm

theorem bt_list (s : ByteArray) (i : Nat) (h : i < s.size) : bt s (i : Int) = ((s.data.toList.getD i 0).toNat : Int) := by
 unfold bt
 rw [dif_pos (by simpa using h)]
 have : s.data.toList.length = s.size := Array.length_toList
 simp [List.getD, h, this]
 rfl
theorem bt_is (s : ByteArray) (i : Nat) (h : i < s.size) (c : UInt8) (n : Int) (hn : n = (c.toNat : Int)) : bt s (i : Int) = n ↔ s.data.toList.getD i 0 = c := by
 rw [bt_list s i h, hn]
 constructor
 ·intro h
  exact UInt8.toNat_inj.1 (by exact_mod_cast h)
 ·intro h
  rw [h]
theorem drop_getD {α : Type} (l : List α) (i : Nat) (z : α) (h : i < l.length) : l.drop i = l.getD i z :: l.drop (i + 1) := by
 rw [List.drop_eq_getElem_cons h]; simp [List.getD, h]

def okL (l : List UInt8) : Bool := l.all fun c => c == 48 || c == 49
theorem signs_l0 (s : ByteArray) (hs : s.size ≤ 1073741824) (d : Nat) : ∀ (i : Nat) (acc : List Bool), i + d = s.size → acc.length = i →
  Ev (fun k => spec_l1Signs.l0 k s acc i) (if okL (s.data.toList.drop i) then (acc ++ (s.data.toList.drop i).map (· == 49), true) else ([], false)) := by
 have hl : s.data.toList.length = s.size := Array.length_toList
 induction d with
 | zero =>
  intro i acc h1 h2
  refine Ev.end fun k => ?_
  simp only [spec_l1Signs.l0]
  rw [if_neg (by omega), List.drop_of_length_le (by omega)]
  simp [okL]
 | succ d ih =>
  intro i acc h1 h2
  rw [drop_getD _ i 0 (by omega)]
  have hb48 := bt_is s i (by omega) 48 48 rfl
  have hb49 := bt_is s i (by omega) 49 49 rfl
  have hw : wrap64 ((i : Int) + 1) = ((i + 1 : Nat) : Int) := by rw [wr (by omega) (by omega)]; omega
  by_cases c48 : s.data.toList.getD i 0 = 48
  ·refine Ev.step (f := fun k => spec_l1Signs.l0 k s (acc ++ [false]) ((i + 1 : Nat) : Int)) (fun k => ?_) ?_
   ·simp only [spec_l1Signs.l0]
    have e : bt s (i : Int) = 48 := hb48.2 c48
    rw [if_pos (by omega), if_pos (by omega), if_pos e, if_pos (by omega), hw, e]
    rfl
   ·have := ih (i + 1) (acc ++ [false]) (by omega) (by simp [h2])
    rw [c48]
    simpa [okL] using this
  ·by_cases c49 : s.data.toList.getD i 0 = 49
   ·refine Ev.step (f := fun k => spec_l1Signs.l0 k s (acc ++ [true]) ((i + 1 : Nat) : Int)) (fun k => ?_) ?_
    ·simp only [spec_l1Signs.l0]
     have e : bt s (i : Int) = 49 := hb49.2 c49
     rw [if_pos (by omega), if_pos (by omega), if_neg (fun h => c48 (hb48.1 h)), if_pos e, if_pos (by omega), hw]
    ·have := ih (i + 1) (acc ++ [true]) (by omega) (by simp [h2])
     rw [c49]
     simpa [okL] using this
   ·refine Ev.end fun k => ?_
    simp only [spec_l1Signs.l0]
    rw [if_pos (by omega), if_pos (by omega), if_neg (fun h => c48 (hb48.1 h)), if_neg (fun h => c49 (hb49.1 h))]
    rw [if_neg]
    simp only [okL, List.all_cons, Bool.and_eq_true, Bool.or_eq_true, beq_iff_eq, not_and]
    intro h
    exact absurd h (by simp only [not_or]; exact ⟨c48, c49⟩)
theorem l1Signs_ev (s : ByteArray) (hs : s.size ≤ 1073741824) : Ev (fun k => spec_l1Signs.f k s) (if okL s.data.toList then (s.data.toList.map (· == 49), true) else ([], false)) := by
 have := signs_l0 s hs s.size 0 [] (by omega) rfl
 simpa [spec_l1Signs.f] using this
theorem signs_ev (s : ByteArray) (hs : s.size ≤ 1073741824) : impl_signs.f s = some (if okL s.data.toList then (s.data.toList.map (· == 49), decide ((s.size : Int) ≤ 60)) else ([], false)) := by
 unfold impl_signs.f
 rw [if_pos (by omega)]
 unfold okL impl_signs.ok
 split <;> rfl

theorem index_cases (l : List UInt8) (c : UInt8) : (Lib.indexByte l c = -1 ∧ ∀ i, i < l.length → l.getD i 0 ≠ c) ∨ ∃ i : Nat, i < l.length ∧ Lib.indexByte l c = i ∧ l.getD i 0 = c ∧ ∀ j, j < i → l.getD j 0 ≠ c := by
 induction l with
 | nil => left; exact ⟨rfl, fun i h => absurd h (Nat.not_lt_zero i)⟩
 | cons b l ih =>
  unfold Lib.indexByte
  by_cases hb : b = c
  ·right
   exact ⟨0, by simp, by simp [hb], by simp [hb], fun j h => absurd h (Nat.not_lt_zero j)⟩
  ·rw [if_neg (by simpa using hb)]
   rcases ih with ⟨h1, h2⟩ | ⟨i, h1, h2, h3, h4⟩
   ·left
    refine ⟨by rw [h1]; rfl, fun i hi => ?_⟩
    cases i with
    | zero => simpa using hb
    | succ i => simpa using h2 i (by simpa using hi)
   ·right
    refine ⟨i + 1, by simpa using h1, ?_, by simpa using h3, fun j hj => ?_⟩
    ·rw [h2, if_neg (by simp only [beq_iff_eq]; omega)]; omega
    ·cases j with
     | zero => simpa using hb
     | succ j => simpa using h4 j (by omega)

structure Good (t r : List Bool) : Prop where
 pos : 0 < r.length
 tl : t.length ≤ 60
 rl : r.length ≤ 60
structure IsSet (s : ByteArray) (t r : List Bool) : Prop where
 good : Good t r
 impl : impl_setOf.f s = some (t, r, true)
 spec : Ev (fun k => spec_l1Read.f k s) (t, r, true)
structure NoSet (s : ByteArray) : Prop where
 impl : ∃ a b, impl_setOf.f s = some (a, b, false)
 spec : ∃ a b, Ev (fun k => spec_l1Read.f k s) (a, b, false)

/-- The reader comes to the first bracket, or to the end. -/
theorem read_l0 (s : ByteArray) (hs : s.size ≤ 1073741824) (a b : List Bool) {r : List Bool × List Bool × Bool} (j : Nat) (hj : j ≤ s.size) (hn : ∀ i, i < j → s.data.toList.getD i 0 ≠ 40) (hend : j < s.size → s.data.toList.getD j 0 = 40)
  (h : Ev (fun k => spec_l1Read.j1 k s j a b) r) (d : Nat) : ∀ i, i + d = j → Ev (fun k => spec_l1Read.l0 k s (i : Nat) a b) r := by
 induction d with
 | zero =>
  intro i hi
  obtain rfl : i = j := by omega
  refine Ev.step (fun k => ?_) h
  simp only [spec_l1Read.l0]
  by_cases c : i < s.size
  ·rw [if_pos (by omega), if_pos (by omega), if_pos ((bt_is s i c 40 40 rfl).2 (hend c))]
  ·rw [if_neg (by omega)]
 | succ d ih =>
  intro i hi
  refine Ev.step (fun k => ?_) (ih (i + 1) (by omega))
  simp only [spec_l1Read.l0]
  have hw : wrap64 ((i : Int) + 1) = ((i + 1 : Nat) : Int) := by rw [wr (by omega) (by omega)]; omega
  rw [if_pos (by omega), if_pos (by omega), if_neg (fun h => hn i (by omega) ((bt_is s i (by omega) 40 40 rfl).1 h)), hw]

theorem size_data (s : ByteArray) : s.data.toList.length = s.size := Array.length_toList
theorem ext_size (s : ByteArray) (a b : Nat) (hb : b ≤ s.size) : (s.extract a b).size = b - a := by simp; omega
theorem ext_list (s : ByteArray) (a b : Nat) : (s.extract a b).data.toList = (s.data.toList.take b).drop a := by
 simp [List.extract_eq_take_drop, List.drop_take]
theorem toList_eq (s : ByteArray) : s.toList = s.data.toList := (Lib.toList_data s).symm ▸ rfl

theorem last_eq {s : ByteArray} {i : Nat} (h : i + 1 < s.size) : ((s.extract (i + 1) s.size).extract ((s.extract (i + 1) s.size).size - 1) (s.extract (i + 1) s.size).size).toList = [s.data.toList.getD (s.size - 1) 0] := by
 rw [toList_eq, ext_list, ext_list, ext_size _ _ _ (Nat.le_refl _)]
 have hl := size_data s
 rw [List.take_of_length_le (l := s.data.toList) (by omega), List.take_of_length_le (by rw [List.length_drop]; omega), List.drop_drop, drop_getD _ _ 0 (by omega), List.drop_of_length_le (by omega)]
 congr 2
 omega
theorem ring_eq {s : ByteArray} {i : Nat} (h : i + 1 < s.size) : (s.extract (i + 1) s.size).extract 0 ((s.extract (i + 1) s.size).size - 1) = s.extract (i + 1) (s.size - 1) := by
 have : ∀ a b : ByteArray, a.data.toList = b.data.toList → a = b := fun a b h => by
  obtain ⟨⟨a⟩⟩ := a; obtain ⟨⟨b⟩⟩ := b; simp at h; simp [h]
 refine this _ _ ?_
 have hl := size_data s
 rw [ext_list, ext_list, ext_list, ext_size _ _ _ (Nat.le_refl _), List.drop_zero, List.take_of_length_le (l := s.data.toList) (by omega), List.drop_take]
 congr 1
 omega

/-- Each text is a set text for both readers, with the same tail and ring, or for none. -/
theorem read_cases (s : ByteArray) (hs : s.size ≤ 1073741824) : NoSet s ∨ ∃ t r, IsSet s t r := by
 have hl := size_data s
 have hsg := fun (x : ByteArray) (hx : x.size ≤ 1073741824) => signs_ev x hx
 rcases index_cases s.data.toList 40 with ⟨h1, h2⟩ | ⟨i, h1, h2, h3, h4⟩
 ·left
  refine ⟨?_, ?_⟩
  ·have hc : strings_Cut.f s ⟨#[40]⟩ = some (s, ⟨#[]⟩, false) := by
    unfold strings_Cut.f stringslite_Cut.f stringslite_Index.f
    rw [dif_pos (by rfl)]
    show ((some (Lib.indexByte s.data.toList 40)).bind _).bind _ = _
    rw [h1]
    rfl
   have hd : strings_CutSuffix.f ⟨#[]⟩ ⟨#[41]⟩ = some (⟨#[]⟩, false) := by rfl
   refine ⟨(if okL s.data.toList then (s.data.toList.map (· == 49), decide ((s.size : Int) ≤ 60)) else ([], false)).1, [], ?_⟩
   unfold impl_setOf.f
   rw [hc]; simp only [Option.bind_some]
   rw [hd]; simp only [Option.bind_some]
   rw [hsg s hs, hsg ⟨#[]⟩ (by decide)]
   simp only [Option.bind_some]
   rw [if_neg (by simp)]
   rfl
  ·refine ⟨[], [false], ?_⟩
   refine read_l0 s hs [] [false] s.size (Nat.le_refl _) (fun i hi => h2 i (by omega)) (fun h => by omega) ?_ s.size 0 (by omega)
   refine Ev.step (f := fun k => spec_l1Read.j2 k s (s.size : Nat) true [] [false]) (fun k => ?_) (Ev.end fun k => ?_)
   ·simp only [spec_l1Read.j1]
    rw [if_pos (by rw [wr (by omega) (by omega)]; omega)]
   ·simp only [spec_l1Read.j2, if_true]
 ·have hi : i < s.size := by omega
  have hc : strings_Cut.f s ⟨#[40]⟩ = some (s.extract 0 i, s.extract (i + 1) s.size, true) := by
   unfold strings_Cut.f stringslite_Cut.f stringslite_Index.f
   rw [dif_pos (by rfl)]
   show ((some (Lib.indexByte s.data.toList 40)).bind _).bind _ = _
   rw [h2]
   simp only [Option.bind_some]
   have hz : ((⟨#[40]⟩ : ByteArray).size : Int) = 1 := rfl
   rw [if_pos (by omega), if_pos (by omega), if_pos (by omega), hz, wr (by omega) (by omega), if_pos (by omega), if_pos (by omega)]
   simp only [Option.bind_some, Int.toNat_natCast]
   rw [show ((i : Int) + 1).toNat = i + 1 from by omega]
  have hz1 : (s.extract (i + 1) s.size).size = s.size - (i + 1) := ext_size _ _ _ (Nat.le_refl _)
  have h41 : ((⟨#[41]⟩ : ByteArray).size : Int) = 1 := rfl
  have hsuf : strings_CutSuffix.f (s.extract (i + 1) s.size) ⟨#[41]⟩ = some (if i + 1 < s.size ∧ s.data.toList.getD (s.size - 1) 0 = 41 then (s.extract (i + 1) (s.size - 1), true) else (s.extract (i + 1) s.size, false)) := by
   unfold strings_CutSuffix.f stringslite_CutSuffix.f stringslite_HasSuffix.f
   rw [h41]
   by_cases c : i + 1 < s.size
   ·rw [if_pos (by omega), wr (by omega) (by omega), if_pos (by omega), if_pos (by omega), show (((s.extract (i + 1) s.size).size : Int) - 1).toNat = (s.extract (i + 1) s.size).size - 1 from by omega, last_eq c, ring_eq c]
    simp only [Option.bind_some]
    have hb : ([s.data.toList.getD (s.size - 1) 0] == (⟨#[41]⟩ : ByteArray).toList) = decide (s.data.toList.getD (s.size - 1) 0 = 41) := by
     rw [toList_eq, Bool.eq_iff_iff]; simp
    rw [hb]
    by_cases e : s.data.toList.getD (s.size - 1) 0 = 41
    ·rw [decide_eq_true e, if_pos rfl, if_pos (by omega), if_pos (by omega), if_pos ⟨c, e⟩]; rfl
    ·rw [decide_eq_false e, if_neg (by simp), if_neg (by intro h; exact e h.2)]; rfl
   ·rw [if_neg (by omega)]
    simp only [Option.bind_some, Bool.false_eq_true, if_false]
    rw [if_neg (fun h => c h.1)]
  have hspec : ∀ (r : List Bool × List Bool × Bool), Ev (fun k => spec_l1Read.j1 k s i [] [false]) r → Ev (fun k => spec_l1Read.f k s) r := by
   intro r hr
   exact read_l0 s hs [] [false] i (by omega) (fun j hj => h4 j hj) (fun _ => h3) hr i 0 (by omega)
  have hnull : ∀ x : Bool, x = true → Ev (fun k => spec_l1Read.j2 k s (i : Nat) x [] [false]) (([] : List Bool), [false], false) := by
   intro x hx
   refine Ev.end fun k => ?_
   simp only [spec_l1Read.j2]
   rw [if_pos hx]
  -- for the reader's bracket at the end
  have hj1 : ∀ r, Ev (fun k => spec_l1Read.j2 k s (i : Nat) (decide (s.size ≤ i + 2) || s.data.toList.getD (s.size - 1) 0 != 41) [] [false]) r → Ev (fun k => spec_l1Read.j1 k s i [] [false]) r := by
   intro r hr
   refine Ev.step (fun k => ?_) hr
   simp only [spec_l1Read.j1]
   rw [wr (x := (i : Int) + 2) (by omega) (by omega), wr (x := (s.size : Int) - 1) (by omega) (by omega)]
   by_cases c : s.size ≤ i + 2
   ·rw [if_pos (by omega)]; simp [c]
   ·rw [if_neg (by omega), if_pos (by omega), if_pos (by omega)]
    rw [show (s.size : Int) - 1 = ((s.size - 1 : Nat) : Int) from by omega]
    congr 1
    simp only [c, decide_false, Bool.false_or]
    have := bt_is s (s.size - 1) (by omega) 41 41 rfl
    rw [Bool.eq_iff_iff]; simp only [bne_iff_ne, ne_eq, this]
  by_cases c : (i + 2 < s.size) ∧ s.data.toList.getD (s.size - 1) 0 = 41
  ·obtain ⟨c1, c2⟩ := c
   rw [if_pos ⟨by omega, c2⟩] at hsuf
   have e1 := hsg (s.extract 0 i) (by rw [ext_size _ _ _ (by omega)]; omega)
   have e2 := hsg (s.extract (i + 1) (s.size - 1)) (by rw [ext_size _ _ _ (by omega)]; omega)
   have g1 := l1Signs_ev (s.extract 0 i) (by rw [ext_size _ _ _ (by omega)]; omega)
   have g2 := l1Signs_ev (s.extract (i + 1) (s.size - 1)) (by rw [ext_size _ _ _ (by omega)]; omega)
   have z1 : (s.extract 0 i).size = i := by rw [ext_size _ _ _ (by omega)]; omega
   have z2 : (s.extract (i + 1) (s.size - 1)).size = s.size - i - 2 := by rw [ext_size _ _ _ (by omega)]; omega
   have y1 := size_data (s.extract 0 i)
   have y2 := size_data (s.extract (i + 1) (s.size - 1))
   rw [z1] at e1 y1
   rw [z2] at e2 y2
   have himpl : impl_setOf.f s = (impl_signs.f (s.extract 0 i)).bind fun x => (impl_signs.f (s.extract (i + 1) (s.size - 1))).bind fun y => some (x.1, y.1, x.2 && y.2 && decide ((y.1.length : Int) > 0)) := by
    unfold impl_setOf.f
    rw [hc]; simp only [Option.bind_some]
    rw [hsuf]; simp only [Option.bind_some]
    congr 1; funext x; congr 1; funext y
    cases x.2 <;> cases y.2 <;> simp
   have hj2 : ∀ (x y : List Bool × Bool), Ev (fun k => spec_l1Signs.f k (s.extract 0 i)) x → Ev (fun k => spec_l1Signs.f k (s.extract (i + 1) (s.size - 1))) y →
     Ev (fun k => spec_l1Read.f k s) (if x.2 && y.2 && decide (x.1.length ≤ 60) && decide (y.1.length ≤ 60) then (x.1, y.1, true) else ([], [false], false)) := by
    intro x y hx hy
    refine hspec _ (hj1 _ ?_)
    have : (decide (s.size ≤ i + 2) || s.data.toList.getD (s.size - 1) 0 != 41) = false := by rw [c2]; simp; omega
    rw [this]
    refine Ev.step (f := fun k => (spec_l1Signs.f k (s.extract 0 i)).bind fun bt121 => (spec_l1Signs.f k (s.extract (i + 1) (s.size - 1))).bind fun bt125 => (if bt121.2 = true then (if bt125.2 = true then (if (bt121.1.length : Int) > 60 then (some (([] : List Bool), [false], false)) else (if (bt125.1.length : Int) > 60 then (some ([], [false], false)) else (some (bt121.1, bt125.1, true)))) else (some ([], [false], false))) else (some ([], [false], false)))) (fun k => ?_) ?_
    ·simp only [spec_l1Read.j2]
     rw [if_neg (by simp), if_pos (by omega), if_pos (by omega), wr (x := (i : Int) + 1) (by omega) (by omega), wr (x := (s.size : Int) - 1) (by omega) (by omega)]
     simp only [if_pos (show (0 : Int) ≤ (i : Int) + 1 from by omega), if_pos (show (i : Int) + 1 ≤ (s.size : Int) - 1 from by omega), if_pos (show (s.size : Int) - 1 ≤ (s.size : Int) from by omega)]
     rw [Int.toNat_natCast, show ((i : Int) + 1).toNat = i + 1 from by omega, show ((s.size : Int) - 1).toNat = s.size - 1 from by omega]
    ·refine Ev.bind hx (Ev.bind hy (Ev.const fun k => ?_))
     obtain ⟨x1, x2⟩ := x
     obtain ⟨y1, y2⟩ := y
     cases x2 <;> cases y2 <;> simp
     by_cases q1 : x1.length ≤ 60
     ·by_cases q2 : y1.length ≤ 60
      ·rw [if_neg (by omega), if_neg (by omega), if_pos ⟨q1, q2⟩]
      ·rw [if_neg (by omega), if_pos (by omega), if_neg (by omega)]
     ·rw [if_pos (by omega), if_neg (by omega)]
   have hfin := hj2 _ _ g1 g2
   rw [e1, e2] at himpl
   simp only [Option.bind_some] at himpl
   cases o1 : okL (s.extract 0 i).data.toList with
   | false => left; rw [o1] at himpl hfin; exact ⟨⟨_, _, by rw [himpl]; simp; exact ⟨rfl, rfl⟩⟩, ⟨_, _, by simpa using hfin⟩⟩
   | true =>
    cases o2 : okL (s.extract (i + 1) (s.size - 1)).data.toList with
    | false => left; rw [o1, o2] at himpl hfin; exact ⟨⟨_, _, by rw [himpl]; simp; exact ⟨rfl, rfl⟩⟩, ⟨_, _, by simpa using hfin⟩⟩
    | true =>
     rw [o1, o2] at himpl hfin
     simp only [if_true, List.length_map, Bool.and_self, Bool.true_and] at himpl hfin
     rw [y1, y2] at hfin
     rw [y2] at himpl
     by_cases q : i ≤ 60 ∧ s.size - i - 2 ≤ 60
     ·right
      refine ⟨(s.extract 0 i).data.toList.map (· == 49), (s.extract (i + 1) (s.size - 1)).data.toList.map (· == 49), ⟨?_, by rw [List.length_map]; omega, by rw [List.length_map]; omega⟩, himpl.trans ?_, ?_⟩
      ·rw [List.length_map]; omega
      ·rw [decide_eq_true (show ((i : Nat) : Int) ≤ 60 from by omega), decide_eq_true (show (((s.size - i - 2 : Nat) : Int) ≤ 60) from by omega), decide_eq_true (show (((s.size - i - 2 : Nat) : Int) > 0) from by omega)]
       rfl
      ·rw [decide_eq_true q.1, decide_eq_true q.2] at hfin
       exact hfin
     ·left
      refine ⟨⟨(s.extract 0 i).data.toList.map (· == 49), (s.extract (i + 1) (s.size - 1)).data.toList.map (· == 49), himpl.trans ?_⟩, ⟨[], [false], ?_⟩⟩
      ·congr 3
       by_cases q1 : i ≤ 60
       ·rw [decide_eq_false (show ¬ (((s.size - i - 2 : Nat) : Int) ≤ 60) from by omega)]; simp
       ·rw [decide_eq_false (show ¬ ((i : Nat) : Int) ≤ 60 from by omega)]; simp
      ·by_cases q1 : i ≤ 60
       ·rw [decide_eq_false (show ¬ (s.size - i - 2 ≤ 60) from by omega)] at hfin; simpa using hfin
       ·rw [decide_eq_false q1] at hfin; simpa using hfin
  ·left
   have hcond : (decide (s.size ≤ i + 2) || s.data.toList.getD (s.size - 1) 0 != 41) = true := by
    by_cases q : i + 2 < s.size
    ·have : ¬ s.data.toList.getD (s.size - 1) 0 = 41 := fun h => c ⟨q, h⟩
     simp only [Bool.or_eq_true, bne_iff_ne, ne_eq]; exact .inr this
    ·simp only [Bool.or_eq_true, decide_eq_true_eq]; exact .inl (by omega)
   refine ⟨?_, ⟨[], [false], hspec _ (hj1 _ (hnull _ hcond))⟩⟩
   have e1 := hsg (s.extract 0 i) (by rw [ext_size _ _ _ (by omega)]; omega)
   unfold impl_setOf.f
   rw [hc]; simp only [Option.bind_some]
   rw [hsuf]; simp only [Option.bind_some]
   by_cases q : i + 1 < s.size ∧ s.data.toList.getD (s.size - 1) 0 = 41
   ·rw [if_pos q]
    have hem : (s.extract (i + 1) (s.size - 1)).size = 0 := by
     rw [ext_size _ _ _ (by omega)]
     by_cases q2 : i + 2 < s.size
     ·exact absurd ⟨q2, q.2⟩ c
     ·omega
    have e2 := hsg (s.extract (i + 1) (s.size - 1)) (by omega)
    have y2 := size_data (s.extract (i + 1) (s.size - 1))
    have hn : (s.extract (i + 1) (s.size - 1)).data.toList = [] := List.length_eq_zero_iff.1 (by omega)
    obtain ⟨p, hp⟩ : ∃ p, impl_signs.f (s.extract 0 i) = some p := ⟨_, e1⟩
    rw [hp, e2, hn]
    simp only [Option.bind_some, okL, List.all_nil, if_true, List.map_nil, List.length_nil]
    refine ⟨p.1, [], ?_⟩
    cases p.2 <;> simp
   ·rw [if_neg q, e1]
    simp only [Option.bind_some]
    rw [hsg (s.extract (i + 1) s.size) (by omega)]
    simp only [Option.bind_some]
    exact ⟨_, _, rfl⟩

end Go.Proofs.Ytedhckahjinieaa.Q

namespace Go.Proofs.Ytedhckahjinieaa.Q
open Go.RowKit Go.Proofs.YtedhckahjinieaaW.PrintWords Go.Proofs.YtedhckahjinieaaW.PrintLast Go.Proofs.YtedhckahjinieaaW.PrintMore
open Go.Proofs.Ytedhckahjinieaa.Pl
set_option linter.unusedVariables false
set_option linter.unusedSimpArgs false
theorem rdOf_nat (l : List Bool) (n : Nat) : rdOf false l (n : Int) = l.getD n false := by simp [rdOf]
theorem tmod_nat (a b : Nat) : Int.tmod (a : Int) (b : Int) = ((a % b : Nat) : Int) := by
 rw [Int.tmod_eq_emod_of_nonneg (Int.natCast_nonneg a)]; exact (Int.natCast_emod a b).symm
theorem tdiv_nat (a b : Nat) : Int.tdiv (a : Int) (b : Int) = ((a / b : Nat) : Int) := by
 rw [Int.tdiv_eq_ediv_of_nonneg (Int.natCast_nonneg a)]; exact (Int.natCast_ediv a b).symm
theorem wr1 {n : Nat} (h : n ≤ 4611686018427387904) : wrap64 ((n : Int) + 1) = ((n + 1 : Nat) : Int) := by rw [wr (by omega) (by omega)]; omega

theorem set_has {t r : List Bool} (h : Good t r) (n : Nat) (hn : n ≤ 4611686018427387904) : impl_set_has.f t r n = some (hasB t r n) := by
 have h1 := h.pos
 have h2 := h.tl
 have h3 := h.rl
 unfold impl_set_has.f
 rw [if_neg (by omega)]
 by_cases c : n < t.length
 ·rw [if_pos (by omega), if_pos (by omega), rdOf_nat, hasB_lt c]
 ·have e : wrap64 ((n : Int) - (t.length : Int)) = ((n - t.length : Nat) : Int) := by rw [wr (by omega) (by omega)]; omega
  have hm := Nat.mod_lt (n - t.length) h1
  rw [if_neg (by omega), if_neg (by omega), e, tmod_nat, if_pos (by omega), if_pos (by omega), rdOf_nat, hasB_ge (by omega)]
theorem l1_has {t r : List Bool} (h : Good t r) (n : Nat) (hn : n ≤ 4611686018427387904) : spec_l1Has.f t r n = some (hasB t r n) := by
 have h1 := h.pos
 have h2 := h.tl
 have h3 := h.rl
 unfold spec_l1Has.f
 by_cases c : n < t.length
 ·rw [if_pos (by omega), if_pos (by omega), rdOf_nat, hasB_lt c]
 ·have e : wrap64 ((n : Int) - (t.length : Int)) = ((n - t.length : Nat) : Int) := by rw [wr (by omega) (by omega)]; omega
  have hm := Nat.mod_lt (n - t.length) h1
  rw [if_neg (by omega), if_neg (by omega), e, tmod_nat, if_pos (by omega), if_pos (by omega), rdOf_nat, hasB_ge (by omega)]

end Go.Proofs.Ytedhckahjinieaa.Q
